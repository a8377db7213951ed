/- Texts of this proof, several in one file; each says ahead of it what it proves. -/
import Derived.Test.YtfgpchffkpomoaaPk22
import Derived.Test.YtfgpchffkpomoaaPk20
import Derived.Test.YtfgpchffkpomoaaPk23
import Derived.Test.YtfgpchffkpomoaaPk24
import Derived.Test.YtfgpchffkpomoaaPk26
import Derived.Test.YtfgpchffkpomoaaPk03
/- What a proof shows of a key: the walk through merkle's Verify. -/
namespace Go.Proofs.Ytfgpchffkpomoaa
set_option linter.unusedSimpArgs false
set_option linter.unusedVariables false
open Go.RowKit

def VerifyPost (w0 : World) (b t m n : Nat) (T : List ByteArray) (S : List Wd) (rt key : ByteArray) (count : Int) (ps : List Pt) (e : Ending) (w' : World) : Prop :=
  ∃ T' v has cd, e = .returned (.tuple #[.string v, .bool has, .int .i64 cd]) ∧ Hid ((v, has, cd) = verifyP (hh T') rt key count ps) ∧ Hid (cd = 0 → VerIn T' count ps) ∧ Ext T T' ∧ T'.length ≤ T.length + 100 ∧ Ch w0.heap.size (· = m) w0 w' ∧ Bk w' b t m n T' S
theorem ver_nofit {h : ByteArray → ByteArray} {rt key : ByteArray} {count : Int} {ps : List Pt} (hf : fitK key = false) : (⟨#[]⟩, false, 14) = verifyP h rt key count ps := by
  unfold verifyP; rw [hf]; rfl
theorem ver_nopf {h : ByteArray → ByteArray} {rt key : ByteArray} {count : Int} {ps : List Pt} (hf : fitK key = true) (hp : pfOk count ps = false) : (⟨#[]⟩, false, 40) = verifyP h rt key count ps := by
  unfold verifyP; rw [if_pos hf, hp]; rfl
theorem ver_noled {h : ByteArray → ByteArray} {rt key : ByteArray} {count : Int} {ps : List Pt} {x : Pt} (hf : fitK key = true) (hp : pfOk count ps = true) (hx : x ∈ ps) (hl : ledP h rt count.toNat x = false) : (⟨#[]⟩, false, 40) = verifyP h rt key count ps := by
  unfold verifyP
  rw [if_pos hf, if_pos hp, if_neg]
  intro ha
  rw [List.all_eq_true.1 ha x hx] at hl
  cases hl
theorem ver_shown {h : ByteArray → ByteArray} {rt key : ByteArray} {count : Int} {ps : List Pt} (hf : fitK key = true) (hp : pfOk count ps = true) (hl : ∀ x ∈ ps, ledP h rt count.toNat x = true) : verifyP h rt key count ps = shownE h rt key count ps := by
  unfold verifyP
  rw [if_pos hf, if_pos hp, if_pos (List.all_eq_true.2 hl)]

theorem wrap_small2 (n : Int) (h0 : -9223372036854775808 ≤ n) (h1 : n ≤ 9223372036854775807) : IntKind.i64.wrap n = n := by
  simp only [IntKind.wrap, IntKind.bits, IntKind.signed]
  simp
  omega
set_option maxHeartbeats 4000000 in
set_option maxRecDepth 100000 in
theorem mVerify_calls (b t m n : Nat) (T : List ByteArray) (S : List Wd) (rt key : ByteArray) (count : Int) (A : Option Addr) (c : Nat) (ps : List Pm) (w : World) (hb : Bk w b t m n T S) (hT : T.length ≤ 100000000) (hs : PmS w A c ps) (hcap : ∀ x ∈ ps, x.sides.length ≤ x.c) (hA : Off A ps.length m) (hP : ∀ x ∈ ps, Off x.A x.sides.length m) :
    Calls Try.prog 44 #[.pointer (some ⟨b, 0, none⟩), .string rt, .string key, .agg #[.int .i64 count, .slice A ps.length c]] w (VerifyPost w b t m n T S rt key count (ps.map Pm.pt)) := by
  have hlt0 := hb.all_lt
  have hml := hlt0.2.2.1
  have hbl := (Below.refl w.heap.size w).alloc (Nat.le_refl _) (.cells #[.int .i64 count, .slice A ps.length c] 35)
  have HX0 := Lib.hid (Box.new w #[.int .i64 count, .slice A ps.length c] 35)
  have HBL := Lib.hid hbl
  have HBK := Lib.hid (hb.alloc (.cells #[.int .i64 count, .slice A ps.length c] 35))
  have HS := Lib.hid hs
  have hfit := hs.1.fits
  have HCAP := Lib.hid hcap
  have HK := Lib.hid (known_calls b t m n T S _ HBK.out (by omega))
  have HF := Lib.hid (fun w => mfits_calls key w)
  have HA := Lib.hid hA
  have HP := Lib.hid hP
  have hdl := digT_len T ⟨#[]⟩
  have hke := (dig_known T ⟨#[]⟩).1
  obtain ⟨T1, hT1⟩ : ∃ x, x = (digS T ⟨#[]⟩).2 := ⟨_, rfl⟩
  rw [← hT1] at HK hdl hke
  have HKE := Lib.hid hke
  clear hT1 hke hb hs hcap hA hP hbl
  by_cases hf : fitK key = true
  · have HFK := Lib.hid hf
    rw [hf] at HF
    clear hf
    by_cases hp : pfOk count (ps.map Pm.pt) = true
    · have HPF := Lib.hid hp
      obtain ⟨p1, p2, p3⟩ := pfOk_iff hp
      have HPP := Lib.hid (fun w hs => wproof_calls count A c ps w hs)
      have hpe : proofE count (ps.map Pm.pt) = (bs (putPf count (ps.map Pm.pt)), 0) := by unfold proofE; rw [if_pos hp]
      rw [hpe] at HPP
      clear hpe hp
      obtain ⟨bv, hbv⟩ : ∃ bv, bv = bs (putPf count (ps.map Pm.pt)) := ⟨_, rfl⟩
      rw [← hbv] at HPP
      clear hbv
      rw [List.length_map] at p2
      have HPT := Lib.hid p3
      obtain ⟨N, rfl⟩ : ∃ N : Nat, count = (N : Int) := ⟨count.toNat, by omega⟩
      have hN : N ≤ 4096 := by omega
      clear p1 p3
      go_enter Try.func44, Try.ntmps44
      go_wp2_with fail
      refine HK.out.mono ?_
      rintro e w1 ⟨rfl, hc1, hk1⟩
      have hz1 : w.heap.size + 1 ≤ w1.heap.size := by have := hc1.size; simpa using this
      have HX1 := Lib.hid (HX0.out.ch hc1 HX0.out.lt (by omega))
      have HC1 := Lib.hid ((Ch.of_below (S := (· = m)) HBL.out).step hc1 (by simp) (fun _ _ e => e))
      have HK1 := Lib.hid hk1
      clear hc1 hk1
      go_wp2_with fail
      refine (HF.out _).mono ?_
      rintro e w2 ⟨rfl, hw⟩
      subst hw
      have HS1 := Lib.hid (HS.out.off HC1.out HA.out HP.out)
      obtain ⟨x0, x1, y0, y1⟩ := HX1.out.facts2
      go_wp2_with fail
      refine (HPP.out _ HS1.out).mono ?_
      rintro e w2 ⟨rfl, hb2⟩
      have hz2 := hb2.size
      have HX2 := Lib.hid (HX1.out.ch (Ch.of_below (S := fun _ => False) hb2) HX1.out.lt (fun e => e))
      have HC2 := Lib.hid (HC1.out.step (Ch.of_below (S := fun _ => False) hb2) HC1.out.size (fun _ _ e => e.elim))
      have HK2 := Lib.hid (HK1.out.below hb2)
      clear hb2 x0 x1 y0 y1 HK1 HX1 HS1 HC1
      obtain ⟨x0, x1, y0, y1⟩ := HX2.out.facts2
      go_wp2_with fail
      go_loopg [35] ps.length (fun g v35 wr => ∃ (k : Nat) (T2 : List ByteArray), v35 = .int .i64 k ∧ k ≤ ps.length ∧ Hid (g + k = ps.length ∧ Ext T T2 ∧ T2.length ≤ T.length + 1 + 20 * k ∧ Ch w.heap.size (· = m) w wr ∧ Bk wr b t m n T2 S ∧ Box wr w.heap.size #[.int .i64 N, .slice A ps.length c] 35 ∧ ∀ x ∈ (ps.take k).map Pm.pt, ledP (hh T2) rt N x = true ∧ LedIn T2 N x))
      case atStart => exact ⟨0, T1, rfl, by omega, by omega, HKE.out, by omega, HC2.out, HK2.out, HX2.out, fun x hx => by simp at hx⟩
      case round =>
        clear HX2 HC2 HK2 x0 x1 y0 y1
        obtain ⟨k, T2, rfl, hk, HH⟩ := hrel
        obtain ⟨hg, he, hl2, hc, hbk, hbx, hled⟩ := HH.out
        have HG := Lib.hid hg
        have HE := Lib.hid he
        have HL2 := Lib.hid hl2
        have HC := Lib.hid hc
        have HBK2 := Lib.hid hbk
        have HBX := Lib.hid hbx
        have HLED := Lib.hid hled
        have hsz := hbx.lt
        clear HH hg he hl2 hc hbk hled
        obtain ⟨x0, x1, y0, y1⟩ := hbx.facts2
        clear hbx
        have HSR := Lib.hid (HS.out.off HC.out HA.out HP.out)
        by_cases hlt : k < ps.length
        · have hd2 : decide ((k : Int) < (ps.length : Int)) = true := by simp; omega
          obtain ⟨a, rfl, e0, e1, e2, e3, hsx⟩ := HSR.out.elem k hlt
          have hmem : ps[k].pt ∈ ps.map Pm.pt := List.mem_map_of_mem (List.getElem_mem hlt)
          have hgood := HPT.out _ hmem
          have hcapk := HCAP.out _ (List.getElem_mem hlt)
          have hrowk := HP.out _ (List.getElem_mem hlt)
          have hnx : (ps.take (k + 1)).map Pm.pt = (ps.take k).map Pm.pt ++ [ps[k].pt] := by rw [List.take_succ_eq_append_getElem hlt, List.map_append]; rfl
          obtain ⟨⟨xi, xk, xv, xs, xA, xc⟩, hx⟩ : ∃ x, x = ps[k] := ⟨_, rfl⟩
          rw [← hx] at e0 e1 e2 e3 hsx hmem hgood hcapk hrowk hnx
          clear hx
          simp only [Pm.pt] at e0 e1 e2 e3 hsx hmem hgood hcapk hrowk hnx
          obtain ⟨g1, g2, g3, g4, g5⟩ := hgood
          obtain ⟨i, rfl⟩ : ∃ i : Nat, xi = (i : Int) := ⟨xi.toNat, by omega⟩
          have hxfit := hsx.fits
          have HSX := Lib.hid hsx
          have HMEM := Lib.hid hmem
          have HNX := Lib.hid hnx
          have hal := (Below.refl wr.heap.size wr).alloc (Nat.le_refl _) (.cells #[.int .i64 i, .string xk, .string xv, .slice xA xs.length xc] 179)
          have hl2 := HL2.out
          have HLD := Lib.hid (leads_calls b t m n T2 S rt N i xk xv xs xA xc _ (HBK2.out.alloc (.cells #[.int .i64 i, .string xk, .string xv, .slice xA xs.length xc] 179)) (by omega) (by omega) (by omega) (by omega) (by omega) (fun s hs => by have := g5 s hs; omega) (by omega) (hsx.below hal) hcapk hrowk)
          have HAL := Lib.hid hal
          have hxl : xs.length ≤ 13 := g4
          clear hsx hmem hnx hal g1 g2 g3 g4 g5 hcapk hrowk hl2
          obtain ⟨q0, q1, _⟩ := (HBX.out.alloc (.cells #[.int .i64 i, .string xk, .string xv, .slice xA xs.length xc] 179)).facts2
          go_wp2_with fail
          refine HLD.out.mono ?_
          rintro e w4 ⟨T3, r, rfl, hr1, hr2, e3', l3, ch3, k3⟩
          have hsz4 : wr.heap.size + 1 ≤ w4.heap.size := by have := ch3.size; simpa using this
          have HC4 := Lib.hid ((HC.out.step (Ch.of_below (S := fun _ => False) HAL.out) HC.out.size (fun _ _ e => e.elim)).step ch3 (by have := HC.out.size; simp; omega) (fun _ _ e => e))
          have HBX4 := Lib.hid ((HBX.out.alloc (.cells #[.int .i64 i, .string xk, .string xv, .slice xA xs.length xc] 179)).ch ch3 (by simp; omega) (by omega))
          clear x0 x1 y0 y1 q0 q1 e0 e1 e2 e3
          cases r with
          | false =>
            go_wp2
            refine bodyPost_ret (v := .tuple #[.string ⟨#[]⟩, .bool false, .int .i64 40]) (by simp [results, Try.results44, go_sem]) rfl ?_
            exact ⟨T3, ⟨#[]⟩, false, 40, rfl, ver_noled HFK.out HPF.out HMEM.out (by rw [Int.toNat_natCast]; exact hr1.out.symm), fun h => (by cases h), HE.out.trans e3', by have := HL2.out; omega, HC4.out, k3⟩
          | true =>
            go_wp2
            go_roundg (gk - 1)
            case measure => have := HG.out; omega
            case rel => exact ⟨k + 1, T3, by go_num, by omega, by have := HG.out; omega, HE.out.trans e3', by have := HL2.out; omega, HC4.out, k3, HBX4.out, fun x hx => by
              rw [HNX.out, List.mem_append] at hx
              rcases hx with hx | hx
              · obtain ⟨u1, u2⟩ := HLED.out x hx
                obtain ⟨v1, v2⟩ := u2.ext e3'
                exact ⟨(v2 rt).trans u1, v1⟩
              · obtain rfl := List.mem_singleton.1 hx
                exact ⟨hr1.out.symm, hr2.out (by simp)⟩⟩
        · have hd2 : decide ((k : Int) < (ps.length : Int)) = false := by simp; omega
          obtain rfl : k = ps.length := by omega
          have hled := HLED.out
          rw [List.take_length] at hled
          have HLD := Lib.hid hled
          have hl2 := HL2.out
          clear hled HLED
          clear HG HL2
          rcases ps with _ | ⟨x, _ | ⟨y, _ | ⟨z, ps⟩⟩⟩
          · have HSW := Lib.hid (show ∀ h, verifyP h rt key N [] = shownE h rt key N [] from fun h => ver_shown HFK.out HPF.out (fun x hx => by cases hx))
            by_cases hN0 : N = 0
            · subst hN0
              have hrt := mroot_calls b t m n T2 S 0 ⟨#[]⟩ wr HBK2.out (by omega) (by omega) (by simp [ByteArray.size, maxLen])
              have hrl := digT_len T2 (rootT 0 ⟨#[]⟩)
              obtain ⟨kn1, kn2, kn3⟩ := dig_known T2 (rootT 0 ⟨#[]⟩)
              rw [show ((0 : Nat) : Int) = 0 from rfl] at hrt
              obtain ⟨⟨g, T3⟩, hq⟩ : ∃ q, q = digS T2 (rootT 0 ⟨#[]⟩) := ⟨_, rfl⟩
              rw [← hq] at hrt hrl kn1 kn2 kn3
              simp only at hrl kn1 kn2 kn3
              have HRT := Lib.hid hrt
              have KN1 := Lib.hid kn1
              have KN2 := Lib.hid kn2
              have KN3 := Lib.hid kn3
              clear hrt hq kn1 kn2 kn3
              have HBQ := beq_list g rt
              by_cases hg : g = rt
              · rw [decide_eq_true hg] at HBQ
                have HGR := Lib.hid hg
                clear hg
                go_wp2_with fail
                refine HRT.out.mono ?_
                rintro e w4 ⟨rfl, ch3, k3⟩
                go_wp2
                go_ret3
                refine ⟨T3, ⟨#[]⟩, false, 0, rfl, ?_, fun _ => ⟨fun x hx => (by cases hx), fun _ => KN2.out⟩, HE.out.trans KN1.out, by omega, HC.out.step ch3 HC.out.size (fun _ _ e => e), k3⟩
                show _ = _
                rw [List.map_nil, HSW.out]
                unfold shownE
                rw [if_pos ⟨rfl, by rw [← KN3.out, HGR.out]⟩]
              · rw [decide_eq_false hg] at HBQ
                have HGR := Lib.hid hg
                clear hg
                go_wp2_with fail
                refine HRT.out.mono ?_
                rintro e w4 ⟨rfl, ch3, k3⟩
                go_wp2
                go_ret3
                refine ⟨T3, ⟨#[]⟩, false, 40, rfl, ?_, fun h => (by cases h), HE.out.trans KN1.out, by omega, HC.out.step ch3 HC.out.size (fun _ _ e => e), k3⟩
                show _ = _
                rw [List.map_nil, HSW.out]
                unfold shownE
                rw [if_neg (fun h => HGR.out (by rw [KN3.out]; exact h.2))]
            · have hn0 : ((N : Int) == 0) = false := by rw [beq_eq_false_iff_ne]; omega
              have HN0 := Lib.hid hN0
              clear hN0
              go_wp2
              go_ret3
              refine ⟨T2, ⟨#[]⟩, false, 40, rfl, ?_, fun h => (by cases h), HE.out, by omega, HC.out, HBK2.out⟩
              show _ = _
              rw [List.map_nil, HSW.out]
              unfold shownE
              rw [if_neg (fun h => HN0.out (by have := h.1; omega))]
          · have hgood := HPT.out x.pt (by simp)
            obtain ⟨aa, rfl, e0, e1, e2, e3, hsx⟩ := HSR.out.elem 0 (by simp)
            simp only [List.getElem_cons_zero] at e0 e1 e2 e3 hsx
            rw [show aa.add (0 * 4) = aa by simp [Addr.add]] at e0 e1 e2 e3
            obtain ⟨xi, xk, xv, xs, xA, xc⟩ := x
            simp only [Pm.pt] at e0 e1 e2 e3 hsx hgood
            obtain ⟨g1, _⟩ := hgood
            obtain ⟨i, rfl⟩ : ∃ i : Nat, xi = (i : Int) := ⟨xi.toNat, by omega⟩
            have hxfit := hsx.fits
            have HV := Lib.hid (show VerIn T2 N [⟨i, xk, xv, xs⟩] from ⟨fun x hx => (by rw [Int.toNat_natCast]; exact (HLD.out x hx).2), fun h => (by cases h)⟩)
            have HSW := Lib.hid (show verifyP (hh T2) rt key N [⟨i, xk, xv, xs⟩] = shownE (hh T2) rt key N [⟨i, xk, xv, xs⟩] from ver_shown HFK.out HPF.out (fun x hx => by rw [Int.toNat_natCast]; exact (HLD.out x hx).1))
            have hcf := HC.out.alloc HC.out.size (.cells #[.int .i64 i, .string xk, .string xv, .slice xA xs.length xc] 179)
            have HCF := Lib.hid hcf
            have HKF := Lib.hid (HBK2.out.alloc (.cells #[.int .i64 i, .string xk, .string xv, .slice xA xs.length xc] 179))
            obtain ⟨q0, q1, _⟩ := (HBX.out.alloc (.cells #[.int .i64 i, .string xk, .string xv, .slice xA xs.length xc] 179)).facts2
            clear hsx hcf
            have hbq := beq_list xk key
            by_cases hk : xk = key
            · rw [decide_eq_true hk] at hbq
              have HKK := Lib.hid hk
              clear hk
              go_wp2
              go_ret3
              refine ⟨T2, xv, true, 0, rfl, ?_, fun _ => HV.out, HE.out, by simp only [List.length_cons, List.length_nil] at hl2; omega, HCF.out, HKF.out⟩
              show _ = verifyP (hh T2) rt key N [⟨i, xk, xv, xs⟩]
              rw [HSW.out]
              unfold shownE
              dsimp only
              rw [if_pos HKK.out]
            · rw [decide_eq_false hk] at hbq
              have HKK := Lib.hid hk
              have hbq2 : (key.toList == xk.toList) = false := by rw [beq_list, decide_eq_false (fun e => hk e.symm)]
              have hsw : lsB xk key = !lsB key xk := by
                cases h1 : lsB key xk with
                | true =>
                  cases h2 : lsB xk key with
                  | false => rfl
                  | true => have := lsB_trans h1 h2; rw [lsB_irrefl] at this; cases this
                | false =>
                  cases h2 : lsB xk key with
                  | false => exact absurd (lsB_tri h2 h1) hk
                  | true => rfl
              have HSWP := Lib.hid hsw
              have hwr : IntKind.i64.wrap ((N : Int) - 1) = (N : Int) - 1 := wrap_small2 _ (by omega) (by omega)
              have HSE := Lib.hid (show shownE (hh T2) rt key N [⟨i, xk, xv, xs⟩] = if ((i : Int) = 0 ∧ lsB key xk = true) ∨ ((i : Int) = N - 1 ∧ lsB xk key = true) then (⟨#[]⟩, false, 0) else (⟨#[]⟩, false, 40) by unfold shownE; dsimp only; rw [if_neg hk])
              clear hk hsw
              obtain ⟨pl, hpl⟩ : ∃ pl, pl = lsB key xk := ⟨_, rfl⟩
              have hpl2 : Op.bytesLess key.toList xk.toList = pl := hpl.symm
              have HPL := Lib.hid hpl
              clear hpl
              by_cases h0 : (i : Int) = 0
              · have hb0 : ((i : Int) == 0) = true := by rw [beq_iff_eq]; exact h0
                by_cases h1 : (i : Int) = N - 1
                · have hb1 : ((i : Int) == (N : Int) - 1) = true := by rw [beq_iff_eq]; exact h1
                  have H0 := Lib.hid h0
                  have H1 := Lib.hid h1
                  clear h0 h1
                  cases pl
                  all_goals
                    go_wp2
                    go_ret3
                    first
                      | refine ⟨T2, ⟨#[]⟩, false, 0, rfl, ?_, fun _ => HV.out, HE.out, by simp only [List.length_cons, List.length_nil] at hl2; omega, HCF.out, HKF.out⟩
                        show _ = verifyP (hh T2) rt key N [⟨i, xk, xv, xs⟩]
                        rw [HSW.out, HSE.out, if_pos (by rw [HSWP.out, ← HPL.out]; first | exact .inl ⟨H0.out, rfl⟩ | exact .inr ⟨H1.out, rfl⟩)]
                      | refine ⟨T2, ⟨#[]⟩, false, 40, rfl, ?_, fun h => (by cases h), HE.out, by simp only [List.length_cons, List.length_nil] at hl2; omega, HCF.out, HKF.out⟩
                        show _ = verifyP (hh T2) rt key N [⟨i, xk, xv, xs⟩]
                        rw [HSW.out, HSE.out, if_neg (by rw [HSWP.out, ← HPL.out]; rintro (⟨u, v⟩ | ⟨u, v⟩) <;> first | exact H0.out u | exact H1.out u | cases v)]
                · have hb1 : ((i : Int) == (N : Int) - 1) = false := by rw [beq_eq_false_iff_ne]; exact h1
                  have H0 := Lib.hid h0
                  have H1 := Lib.hid h1
                  clear h0 h1
                  cases pl
                  all_goals
                    go_wp2
                    go_ret3
                    first
                      | refine ⟨T2, ⟨#[]⟩, false, 0, rfl, ?_, fun _ => HV.out, HE.out, by simp only [List.length_cons, List.length_nil] at hl2; omega, HCF.out, HKF.out⟩
                        show _ = verifyP (hh T2) rt key N [⟨i, xk, xv, xs⟩]
                        rw [HSW.out, HSE.out, if_pos (by rw [HSWP.out, ← HPL.out]; first | exact .inl ⟨H0.out, rfl⟩ | exact .inr ⟨H1.out, rfl⟩)]
                      | refine ⟨T2, ⟨#[]⟩, false, 40, rfl, ?_, fun h => (by cases h), HE.out, by simp only [List.length_cons, List.length_nil] at hl2; omega, HCF.out, HKF.out⟩
                        show _ = verifyP (hh T2) rt key N [⟨i, xk, xv, xs⟩]
                        rw [HSW.out, HSE.out, if_neg (by rw [HSWP.out, ← HPL.out]; rintro (⟨u, v⟩ | ⟨u, v⟩) <;> first | exact H0.out u | exact H1.out u | cases v)]
              · have hb0 : ((i : Int) == 0) = false := by rw [beq_eq_false_iff_ne]; exact h0
                by_cases h1 : (i : Int) = N - 1
                · have hb1 : ((i : Int) == (N : Int) - 1) = true := by rw [beq_iff_eq]; exact h1
                  have H0 := Lib.hid h0
                  have H1 := Lib.hid h1
                  clear h0 h1
                  cases pl
                  all_goals
                    go_wp2
                    go_ret3
                    first
                      | refine ⟨T2, ⟨#[]⟩, false, 0, rfl, ?_, fun _ => HV.out, HE.out, by simp only [List.length_cons, List.length_nil] at hl2; omega, HCF.out, HKF.out⟩
                        show _ = verifyP (hh T2) rt key N [⟨i, xk, xv, xs⟩]
                        rw [HSW.out, HSE.out, if_pos (by rw [HSWP.out, ← HPL.out]; first | exact .inl ⟨H0.out, rfl⟩ | exact .inr ⟨H1.out, rfl⟩)]
                      | refine ⟨T2, ⟨#[]⟩, false, 40, rfl, ?_, fun h => (by cases h), HE.out, by simp only [List.length_cons, List.length_nil] at hl2; omega, HCF.out, HKF.out⟩
                        show _ = verifyP (hh T2) rt key N [⟨i, xk, xv, xs⟩]
                        rw [HSW.out, HSE.out, if_neg (by rw [HSWP.out, ← HPL.out]; rintro (⟨u, v⟩ | ⟨u, v⟩) <;> first | exact H0.out u | exact H1.out u | cases v)]
                · have hb1 : ((i : Int) == (N : Int) - 1) = false := by rw [beq_eq_false_iff_ne]; exact h1
                  have H0 := Lib.hid h0
                  have H1 := Lib.hid h1
                  clear h0 h1
                  cases pl
                  all_goals
                    go_wp2
                    go_ret3
                    first
                      | refine ⟨T2, ⟨#[]⟩, false, 0, rfl, ?_, fun _ => HV.out, HE.out, by simp only [List.length_cons, List.length_nil] at hl2; omega, HCF.out, HKF.out⟩
                        show _ = verifyP (hh T2) rt key N [⟨i, xk, xv, xs⟩]
                        rw [HSW.out, HSE.out, if_pos (by rw [HSWP.out, ← HPL.out]; first | exact .inl ⟨H0.out, rfl⟩ | exact .inr ⟨H1.out, rfl⟩)]
                      | refine ⟨T2, ⟨#[]⟩, false, 40, rfl, ?_, fun h => (by cases h), HE.out, by simp only [List.length_cons, List.length_nil] at hl2; omega, HCF.out, HKF.out⟩
                        show _ = verifyP (hh T2) rt key N [⟨i, xk, xv, xs⟩]
                        rw [HSW.out, HSE.out, if_neg (by rw [HSWP.out, ← HPL.out]; rintro (⟨u, v⟩ | ⟨u, v⟩) <;> first | exact H0.out u | exact H1.out u | cases v)]
          · have hgood := HPT.out x.pt (by simp)
            have hgood2 := HPT.out y.pt (by simp)
            obtain ⟨aa, rfl, e0, e1, e2, e3, hsx⟩ := HSR.out.elem 0 (by simp)
            obtain ⟨ab, hab, f0, f1, f2, f3, hsy⟩ := HSR.out.elem 1 (by simp)
            obtain rfl := Option.some.inj hab
            simp only [List.getElem_cons_zero, List.getElem_cons_succ] at e0 e1 e2 e3 hsx f0 f1 f2 f3 hsy
            rw [show aa.add (0 * 4) = aa by simp [Addr.add]] at e0 e1 e2 e3
            rw [show aa.add (1 * 4) = ⟨aa.block, aa.off + 4, none⟩ by simp [Addr.add]] at f0 f1 f2 f3
            simp only at f1 f2 f3
            obtain ⟨xi, xk, xv, xs, xA, xc⟩ := x
            obtain ⟨yi, yk, yv, ys, yA, yc⟩ := y
            simp only [Pm.pt] at e0 e1 e2 e3 hsx hgood f0 f1 f2 f3 hsy hgood2
            obtain ⟨g1, _⟩ := hgood
            obtain ⟨g2, _⟩ := hgood2
            have hxfit := hsx.fits
            have hyfit := hsy.fits
            have HV := Lib.hid (show VerIn T2 N [⟨xi, xk, xv, xs⟩, ⟨yi, yk, yv, ys⟩] from ⟨fun x hx => (by rw [Int.toNat_natCast]; exact (HLD.out x hx).2), fun h => (by cases h)⟩)
            have HSW := Lib.hid (show verifyP (hh T2) rt key N [⟨xi, xk, xv, xs⟩, ⟨yi, yk, yv, ys⟩] = shownE (hh T2) rt key N [⟨xi, xk, xv, xs⟩, ⟨yi, yk, yv, ys⟩] from ver_shown HFK.out HPF.out (fun x hx => by rw [Int.toNat_natCast]; exact (HLD.out x hx).1))
            have HSE := Lib.hid (show shownE (hh T2) rt key N [⟨xi, xk, xv, xs⟩, ⟨yi, yk, yv, ys⟩] = if yi = xi + 1 ∧ lsB xk key = true ∧ lsB key yk = true then (⟨#[]⟩, false, 0) else (⟨#[]⟩, false, 40) from rfl)
            clear hsx hsy
            have hwr : IntKind.i64.wrap (xi + 1) = xi + 1 := wrap_small2 _ (by omega) (by omega)
            obtain ⟨p1, hp1⟩ : ∃ p1, p1 = lsB xk key := ⟨_, rfl⟩
            obtain ⟨p2, hp2⟩ : ∃ p2, p2 = lsB key yk := ⟨_, rfl⟩
            have hq1 : Op.bytesLess xk.toList key.toList = p1 := hp1.symm
            have hq2 : Op.bytesLess key.toList yk.toList = p2 := hp2.symm
            have HP1 := Lib.hid hp1
            have HP2 := Lib.hid hp2
            clear hp1 hp2
            have n1 := World.new_ne wr _ x1
            have m0 := World.new_ne wr _ e0
            have m1 := World.new_ne wr _ e1
            have m2 := World.new_ne wr _ e2
            have m3 := World.new_ne wr _ e3
            have o0 := World.new_ne wr _ f0
            have o1 := World.new_ne wr _ f1
            have o2 := World.new_ne wr _ f2
            have o3 := World.new_ne wr _ f3
            go_wp2_with fail
            go_cut [17, 18] (fun s17 s18 wx => ∃ i j, s17 = .pointer (some ⟨i, 0, none⟩) ∧ s18 = .pointer (some ⟨j, 0, none⟩) ∧ Hid (TwoP wr i j #[.int .i64 xi, .string xk, .string xv, .slice xA xs.length xc] #[.int .i64 yi, .string yk, .string yv, .slice yA ys.length yc] 179 wx))
            case first =>
              go_region_held3 (fun w' => w'.cell? ⟨w.heap.size, 1, none⟩ = some (.slice (some aa) 2 c) ∧ w'.cell? aa = some (.int .i64 xi) ∧ w'.cell? ⟨aa.block, aa.off + 1, none⟩ = some (.string xk) ∧ w'.cell? ⟨aa.block, aa.off + 2, none⟩ = some (.string xv) ∧ w'.cell? ⟨aa.block, aa.off + 3, none⟩ = some (.slice xA xs.length xc) ∧ w'.cell? ⟨aa.block, aa.off + 4, none⟩ = some (.int .i64 yi) ∧ w'.cell? ⟨aa.block, aa.off + 4 + 1, none⟩ = some (.string yk) ∧ w'.cell? ⟨aa.block, aa.off + 4 + 2, none⟩ = some (.string yv) ∧ w'.cell? ⟨aa.block, aa.off + 4 + 3, none⟩ = some (.slice yA ys.length yc)) (go_keep) (fail)
              all_goals
                go_wp2_with fail
                go_meet
                refine ⟨_, _, rfl, rfl, ?_⟩
                first
                  | exact TwoP.xy wr _ _ _
                  | exact TwoP.yx wr _ _ _
                  | exact (TwoP.xy wr _ _ _).drew
                  | exact (TwoP.yx wr _ _ _).drew
                  | exact (TwoP.xy wr _ _ _).drewN _
                  | exact (TwoP.yx wr _ _ _).drewN _
            case rest =>
              clear n1 m0 m1 m2 m3 o0 o1 o2 o3 e0 e1 e2 e3 f0 f1 f2 f3 x0 x1 y0 y1
              obtain ⟨i, j, rfl, rfl, HC2⟩ := hcut
              have HTW := Lib.hid HC2.out
              have HCF := Lib.hid (HC.out.step (Ch.of_below (S := fun _ => False) HTW.out.b) HC.out.size (fun _ _ e => e.elim))
              have HKF := Lib.hid (HBK2.out.below HTW.out.b)
              obtain ⟨e0, e1, e2, e3⟩ := box4 HTW.out.x
              obtain ⟨f0, f1, f2, f3⟩ := box4 HTW.out.y
              clear HC2
              by_cases h0 : yi = xi + 1
              · have hb0 : (yi == xi + 1) = true := by rw [beq_iff_eq]; exact h0
                have H0 := Lib.hid h0
                clear h0
                cases p1
                all_goals
                  cases p2
                  all_goals
                    go_wp2
                    go_ret3
                    first
                      | refine ⟨T2, ⟨#[]⟩, false, 0, rfl, ?_, fun _ => HV.out, HE.out, by simp only [List.length_cons, List.length_nil] at hl2; omega, HCF.out, HKF.out⟩
                        show _ = verifyP (hh T2) rt key N [⟨xi, xk, xv, xs⟩, ⟨yi, yk, yv, ys⟩]
                        rw [HSW.out, HSE.out, if_pos ⟨H0.out, HP1.out.symm, HP2.out.symm⟩]
                      | refine ⟨T2, ⟨#[]⟩, false, 40, rfl, ?_, fun h => (by cases h), HE.out, by simp only [List.length_cons, List.length_nil] at hl2; omega, HCF.out, HKF.out⟩
                        show _ = verifyP (hh T2) rt key N [⟨xi, xk, xv, xs⟩, ⟨yi, yk, yv, ys⟩]
                        rw [HSW.out, HSE.out, if_neg (by rw [← HP1.out, ← HP2.out]; rintro ⟨u, v, z⟩; first | exact H0.out u | exact absurd v (by decide) | exact absurd z (by decide))]
              · have hb0 : (yi == xi + 1) = false := by rw [beq_eq_false_iff_ne]; exact h0
                have H0 := Lib.hid h0
                clear h0
                cases p1
                all_goals
                  cases p2
                  all_goals
                    go_wp2
                    go_ret3
                    first
                      | refine ⟨T2, ⟨#[]⟩, false, 0, rfl, ?_, fun _ => HV.out, HE.out, by simp only [List.length_cons, List.length_nil] at hl2; omega, HCF.out, HKF.out⟩
                        show _ = verifyP (hh T2) rt key N [⟨xi, xk, xv, xs⟩, ⟨yi, yk, yv, ys⟩]
                        rw [HSW.out, HSE.out, if_pos ⟨H0.out, HP1.out.symm, HP2.out.symm⟩]
                      | refine ⟨T2, ⟨#[]⟩, false, 40, rfl, ?_, fun h => (by cases h), HE.out, by simp only [List.length_cons, List.length_nil] at hl2; omega, HCF.out, HKF.out⟩
                        show _ = verifyP (hh T2) rt key N [⟨xi, xk, xv, xs⟩, ⟨yi, yk, yv, ys⟩]
                        rw [HSW.out, HSE.out, if_neg (by rw [← HP1.out, ← HP2.out]; rintro ⟨u, v, z⟩; first | exact H0.out u | exact absurd v (by decide) | exact absurd z (by decide))]
          · simp at p2
    · have HPF := Lib.hid (show pfOk count (ps.map Pm.pt) = false by simpa using hp)
      have HPP := Lib.hid (fun w hs => wproof_calls count A c ps w hs)
      have hpe : proofE count (ps.map Pm.pt) = (⟨#[]⟩, 14) := by unfold proofE; rw [if_neg hp]
      rw [hpe] at HPP
      clear hpe hp
      go_enter Try.func44, Try.ntmps44
      go_wp2_with fail
      refine HK.out.mono ?_
      rintro e w1 ⟨rfl, hc1, hk1⟩
      have hz1 : w.heap.size + 1 ≤ w1.heap.size := by have := hc1.size; simpa using this
      have HX1 := Lib.hid (HX0.out.ch hc1 HX0.out.lt (by omega))
      have HC1 := Lib.hid ((Ch.of_below (S := (· = m)) HBL.out).step hc1 (by simp) (fun _ _ e => e))
      have HK1 := Lib.hid hk1
      clear hc1 hk1
      go_wp2_with fail
      refine (HF.out _).mono ?_
      rintro e w2 ⟨rfl, hw⟩
      subst hw
      have HS1 := Lib.hid (HS.out.off HC1.out HA.out HP.out)
      obtain ⟨x0, x1, y0, y1⟩ := HX1.out.facts2
      go_wp2_with fail
      refine (HPP.out _ HS1.out).mono ?_
      rintro e w2 ⟨rfl, hb2⟩
      go_wp2
      refine bodyPost_ret (v := .tuple #[.string ⟨#[]⟩, .bool false, .int .i64 40]) (by simp [results, Try.results44, go_sem]) rfl ?_
      exact ⟨T1, ⟨#[]⟩, false, 40, rfl, ver_nopf HFK.out HPF.out, fun h => (by cases h), HKE.out, by omega, HC1.out.step (Ch.of_below (S := fun _ => False) hb2) HC1.out.size (fun _ _ e => e.elim), HK1.out.below hb2⟩
  · have HFK := Lib.hid (show fitK key = false by simpa using hf)
    rw [HFK.out] at HF
    clear hf
    go_enter Try.func44, Try.ntmps44
    go_wp2_with fail
    refine HK.out.mono ?_
    rintro e w1 ⟨rfl, hc1, hk1⟩
    have hz1 : w.heap.size + 1 ≤ w1.heap.size := by have := hc1.size; simpa using this
    have HX1 := Lib.hid (HX0.out.ch hc1 HX0.out.lt (by omega))
    have HC1 := Lib.hid ((Ch.of_below (S := (· = m)) HBL.out).step hc1 (by simp) (fun _ _ e => e))
    have HK1 := Lib.hid hk1
    clear hc1 hk1
    go_wp2_with fail
    refine (HF.out _).mono ?_
    rintro e w2 ⟨rfl, hw⟩
    subst hw
    go_wp2
    refine bodyPost_ret (v := .tuple #[.string ⟨#[]⟩, .bool false, .int .i64 14]) (by simp [results, Try.results44, go_sem]) rfl ?_
    exact ⟨T1, ⟨#[]⟩, false, 14, rfl, ver_nofit HFK.out, fun h => (by cases h), HKE.out, by omega, HC1.out, HK1.out⟩
end Go.Proofs.Ytfgpchffkpomoaa

/- Chapter 4's example: the walk. -/
namespace Go.Proofs.Ytfgpchffkpomoaa
set_option linter.unusedSimpArgs false
set_option linter.unusedVariables false
open Go.RowKit

def exL : List Rc := [⟨⟨#[97]⟩, ⟨#[49]⟩⟩, ⟨⟨#[99]⟩, ⟨#[51]⟩⟩]
theorem ls_ab : lsB ⟨#[97]⟩ ⟨#[98]⟩ = true := by rw [lsB_eq]; decide
theorem ls_bc : lsB ⟨#[98]⟩ ⟨#[99]⟩ = true := by rw [lsB_eq]; decide
theorem ls_ac : lsB ⟨#[97]⟩ ⟨#[99]⟩ = true := by rw [lsB_eq]; decide
theorem ls_cb : lsB ⟨#[99]⟩ ⟨#[98]⟩ = false := by rw [lsB_eq]; decide
theorem exL_rise : riseE exL = 0 := by
  have h0 : codeAt exL 0 = 0 := codeAt_first (by decide) (by decide)
  have h1 : codeAt exL 1 = 0 := by
    rw [codeAt_next (j := 0) (by decide) (by decide)]
    show (if geB ⟨#[97]⟩ ⟨#[99]⟩ = true then (15 : Int) else 0) = 0
    rw [geB_ls, ls_ac]
    rfl
  unfold riseE
  rw [if_neg (show ¬ 4096 < exL.length by decide)]
  show riseN exL 2 = 0
  exact riseN_next (riseN_next rfl h0) h1
theorem exL_place : placeP exL ⟨#[98]⟩ = 1 := by
  refine plc_eq (by decide) (fun k x hk hx => ?_) (fun x hx => ?_)
  · obtain rfl : k = 0 := by omega
    obtain rfl : _ = x := by simpa [exL] using hx
    exact ls_ab
  · obtain rfl : _ = x := by simpa [exL] using hx
    exact ls_cb
theorem exL_shown : shownP exL ⟨#[98]⟩ = [0, 1] := by
  have hi : isP exL ⟨#[98]⟩ = false := by
    unfold isP
    rw [exL_place]
    rfl
  unfold shownP
  rw [hi, exL_place]
  rfl
theorem exL_proof (h : ByteArray → ByteArray) : proofP h exL ⟨#[98]⟩ = [⟨0, ⟨#[97]⟩, ⟨#[49]⟩, sidesP h (leavesH h exL) 0⟩, ⟨1, ⟨#[99]⟩, ⟨#[51]⟩, sidesP h (leavesH h exL) 1⟩] := by
  unfold proofP
  rw [exL_shown]
  rfl
theorem exL_led {T : List ByteArray} (key : ByteArray) (hk : fitK key = true) : verifyP (hh T) (rootP (hh T) exL) key 2 (proofP (hh T) exL ⟨#[98]⟩) = shownE (hh T) (rootP (hh T) exL) key 2 (proofP (hh T) exL ⟨#[98]⟩) := by
  refine ver_shown hk ?_ ?_
  · exact (verify_honest (T := T) exL_rise (key := ⟨#[98]⟩) (by decide)).1
  · intro x hx
    unfold proofP at hx
    obtain ⟨i, hi, rfl⟩ := List.mem_map.1 hx
    exact led_honest (shown_lt hi)
theorem exL_b {T : List ByteArray} : verifyP (hh T) (rootP (hh T) exL) ⟨#[98]⟩ 2 (proofP (hh T) exL ⟨#[98]⟩) = (⟨#[]⟩, false, 0) := by
  rw [exL_led _ (by decide), exL_proof]
  unfold shownE
  dsimp only
  rw [if_pos ⟨by decide, ls_ab, ls_bc⟩]
theorem exL_a {T : List ByteArray} : verifyP (hh T) (rootP (hh T) exL) ⟨#[97]⟩ 2 (proofP (hh T) exL ⟨#[98]⟩) = (⟨#[]⟩, false, 40) := by
  rw [exL_led _ (by decide), exL_proof]
  unfold shownE
  dsimp only
  rw [if_neg (by rw [lsB_irrefl]; simp)]

def AwakePost (w : World) (e : Ending) (w' : World) : Prop := e = .returned (.bool true) ∧ Below w.heap.size w w'
set_option maxHeartbeats 4000000 in
set_option maxRecDepth 100000 in
theorem awake4_calls (w : World) : Calls Try.prog 36 #[] w (AwakePost w) := by
  have HN := Lib.hid (newBook_calls w)
  go_enter Try.func36, Try.ntmps36
  go_wp2_with fail
  refine HN.out.mono ?_
  rintro e w1 ⟨b, t, m, n, rfl, hb1, hk1, hb, ht, hm, hn⟩
  have hz1 := hb1.size
  have hlt1 := hk1.all_lt
  have HB1 := Lib.hid hb1
  have hbx := Box.new w1 #[.string ⟨#[97]⟩, .string ⟨#[49]⟩, .string ⟨#[99]⟩, .string ⟨#[51]⟩] 131
  have hrs : RcS (w1.alloc (.cells #[.string ⟨#[97]⟩, .string ⟨#[49]⟩, .string ⟨#[99]⟩, .string ⟨#[51]⟩] 131)) (some ⟨w1.heap.size, 0, none⟩) 2 exL := ⟨rfl, by decide, fun j u hj => ⟨_, rfl, news_box hbx j u hj⟩⟩
  have hrow : Off (some ⟨w1.heap.size, 0, none⟩) exL.length m := fun _ k hk => by
    obtain rfl : w1.heap.size = k := by simpa [Row] using hk
    omega
  have HROW := Lib.hid hrow
  have HRS := Lib.hid hrs
  have HK1 := Lib.hid (hk1.alloc (.cells #[.string ⟨#[97]⟩, .string ⟨#[49]⟩, .string ⟨#[99]⟩, .string ⟨#[51]⟩] 131))
  have HRT := Lib.hid (mRoot_calls b t m n [] [] _ 2 exL _ HK1.out (by decide) hrs hrow)
  clear hbx hrs hrow hb1 hk1
  go_wp2_with fail
  refine HRT.out.mono ?_
  rintro e w2 ⟨T2, x2, rfl, hx2, e2, l2, ch2, k2⟩
  rw [exL_rise]
  obtain ⟨hx2a, hx2b⟩ := hx2.out.1 exL_rise
  have hx8 : x2.size = 8 := by rw [hx2a]; exact hh_size _ _
  have hne : x2.toList.isEmpty = false := by have := has_text x2; rw [decide_eq_true (by omega)] at this; simpa using this
  have HXA := Lib.hid hx2a
  have HXB := Lib.hid hx2b
  have HRS2 := Lib.hid (HRS.out.off ch2 HROW.out)
  have HC2 := Lib.hid (((Ch.of_below (S := fun _ => False) HB1.out).alloc hz1 (.cells #[.string ⟨#[97]⟩, .string ⟨#[49]⟩, .string ⟨#[99]⟩, .string ⟨#[51]⟩] 131)).step ch2 (by simp; omega) (fun i hi e => by omega))
  have hz2 := HC2.out.size
  have hm2 := k2.all_lt
  have HPV := Lib.hid (mProve_calls b t m n T2 [] _ 2 exL ⟨#[98]⟩ w2 k2 (by simp at l2; omega) HRS2.out HROW.out)
  clear hx2 hx2a hx2b ch2 k2
  go_wp2_with fail
  refine HPV.out.mono ?_
  rintro e w3 ⟨T3, A3, c3, ps, cnt, cd, rfl, hpv, e3, l3, ch3, k3, p3, r3⟩
  obtain ⟨rfl, rfl, hps, hli3, hsi3⟩ := hpv.out.1 exL_rise (by decide)
  have hpl : ps.length = 2 := by
    have := congrArg List.length hps
    rw [exL_proof] at this
    simpa using this
  have hz3 := ch3.size
  have HC3 := Lib.hid (HC2.out.step ch3 hz2 (fun i hi e => by omega))
  have hr3 : Off A3 ps.length m := fun _ k hk => by have := r3.1 k hk; omega
  have hr4 : ∀ x ∈ ps, Off x.A x.sides.length m := fun x hx _ k hk => by have := r3.2.1 x hx k hk; omega
  have hal := (Below.refl w3.heap.size w3).alloc (Nat.le_refl _) (.cells #[.int .i64 2, .slice A3 2 c3] 35)
  have HBX3 := Lib.hid (Box.new w3 #[.int .i64 2, .slice A3 2 c3] 35)
  have HP3 := Lib.hid (p3.below hal)
  have HV1 := Lib.hid (mVerify_calls b t m n T3 [] x2 ⟨#[98]⟩ 2 A3 c3 ps _ (k3.alloc (.cells #[.int .i64 2, .slice A3 2 c3] 35)) (by simp at l2; omega) HP3.out r3.2.2 hr3 hr4)
  have HPS := Lib.hid hps
  have HE3 := Lib.hid e3
  have HR3 := Lib.hid hr3
  have HR4 := Lib.hid hr4
  have HRC := Lib.hid r3.2.2
  have HRO := Lib.hid (HXB.out.ext e3).2
  have HPL := Lib.hid hpl
  rw [hpl] at HV1 ⊢
  have HPX := Lib.hid (fun T' (he : Ext T3 T') => (hps.trans (proof_ext he hli3 hsi3).symm : ps.map Pm.pt = proofP (hh T') exL ⟨#[98]⟩))
  have HRX := Lib.hid (fun T' (he : Ext T3 T') => (HXA.out.trans (HXB.out.ext (e3.trans he)).2.symm : x2 = rootP (hh T') exL))
  clear hpv hps hli3 hsi3 e3 ch3 k3 p3 r3 hr3 hr4 hal hpl
  obtain ⟨x0, x1, y0, y1⟩ := HBX3.out.facts2
  have hlen : (((exL.length : Nat) : Int)) = 2 := rfl
  go_wp2_with fail
  refine HV1.out.mono ?_
  rintro e w4 ⟨T4, v, has, cd, rfl, hv, _, e4, l4, ch4, k4⟩
  have hv1 : (v, has, cd) = (⟨#[]⟩, false, 0) := by rw [hv.out, HPX.out T4 e4, HRX.out T4 e4]; exact exL_b
  obtain ⟨rfl, h2⟩ := Prod.mk.inj hv1
  obtain ⟨rfl, rfl⟩ := Prod.mk.inj h2
  have hz4 : w3.heap.size + 1 ≤ w4.heap.size := by have := ch4.size; simpa using this
  have HBX4 := Lib.hid (HBX3.out.ch ch4 HBX3.out.lt (by omega))
  have HP4 := Lib.hid (HP3.out.off ch4 HR3.out HR4.out)
  have HC4 := Lib.hid ((HC3.out.alloc (by omega) (.cells #[.int .i64 2, .slice A3 2 c3] 35)).step ch4 (by simp; omega) (fun i hi e => by omega))
  have HV2 := Lib.hid (mVerify_calls b t m n T4 [] x2 ⟨#[97]⟩ 2 A3 c3 ps _ k4 (by simp at l2; omega) HP4.out HRC.out HR3.out HR4.out)
  rw [HPL.out] at HV2
  have HE4 := Lib.hid e4
  clear hv hv1 h2 ch4 k4 e4 x0 x1 y0 y1
  obtain ⟨x0, x1, y0, y1⟩ := HBX4.out.facts2
  go_wp2_with fail
  refine HV2.out.mono ?_
  rintro e w5 ⟨T5, v, has, cd, rfl, hv, _, e5, l5, ch5, k5⟩
  have hv1 : (v, has, cd) = (⟨#[]⟩, false, 40) := by rw [hv.out, HPX.out T5 (HE4.out.trans e5), HRX.out T5 (HE4.out.trans e5)]; exact exL_a
  obtain ⟨rfl, h2⟩ := Prod.mk.inj hv1
  obtain ⟨rfl, rfl⟩ := Prod.mk.inj h2
  have HBX5 := Lib.hid (HBX4.out.ch ch5 HBX4.out.lt (by omega))
  have HC5 := Lib.hid (HC4.out.step ch5 HC4.out.size (fun i hi e => by omega))
  clear hv hv1 h2 ch5 k5 e5 x0 x1 y0 y1
  obtain ⟨x0, x1, y0, y1⟩ := HBX5.out.facts2
  go_wp2
  go_ret
  exact ⟨rfl, HC5.out.below (fun _ _ e => e)⟩
end Go.Proofs.Ytfgpchffkpomoaa
