/- An honest proof, bent in any ways, tells nothing untrue: the walk. -/
import Derived.Test.YtfgpchffkpomoaaBentAll
import Derived.Test.YtfgpchffkpomoaaRowBent
import Derived.Test.YtfgpchffkpomoaaMSound
import Derived.Deep.RegionLaw
namespace Go.Proofs.Ytfgpchffkpomoaa
set_option linter.unusedSimpArgs false
set_option linter.unusedVariables false
open Go.RowKit

theorem OffM.off {A : Option Addr} {n m : Nat} {M : Nat → Prop} (h : OffM A n M) (hm : M m) : Off A n m := fun h0 k hk e => h h0 k hk (by rw [e]; exact hm)
theorem PfM.ch {M : Nat → Prop} {K m : Nat} {w w' : World} {A : Option Addr} {c : Nat} {ps : List Pm} (h : PfM M K w A c ps) (hm : M m) (hc : Ch w.heap.size (· = m) w w') : PfM M K w' A c ps :=
  ⟨h.pm.off hc (h.off.off hm) (fun x hx => (h.each x hx).1.off hm), h.off, h.each, h.len⟩
theorem PfM.below {M : Nat → Prop} {K : Nat} {w w' : World} {A : Option Addr} {c : Nat} {ps : List Pm} (h : PfM M K w A c ps) (hb : Below w.heap.size w w') : PfM M K w' A c ps := ⟨h.pm.below hb, h.off, h.each, h.len⟩
theorem PfM.mono {M : Nat → Prop} {K K' : Nat} {w : World} {A : Option Addr} {c : Nat} {ps : List Pm} (h : PfM M K w A c ps) (hK : K ≤ K') : PfM M K' w A c ps :=
  ⟨h.pm, h.off, fun x hx => ⟨(h.each x hx).1, (h.each x hx).2.1, Nat.le_trans (h.each x hx).2.2 hK⟩, Nat.le_trans h.len hK⟩
theorem PfM.set {M : Nat → Prop} {K R i : Nat} {w : World} {A : Option Addr} {c : Nat} {ps : List Pm} (h : PfM M K w A c ps) (hR : M R) (v : Value) : PfM M K (w.setCell ⟨R, i, none⟩ v) A c ps :=
  h.ch hR ((Ch.refl w.heap.size (· = R) w).setCell (p := ⟨R, i, none⟩) (.inr rfl) v)
/-- A proof that was made is one. -/
theorem PfM.made {m B : Nat} {w : World} {A : Option Addr} {c : Nat} {ps : List Pm} (o : Obj) (hp : PmS w A c ps) (hr : NewRows B A ps) (hB : m < B) (h1 : ps.length ≤ 100) (h2 : ∀ x ∈ ps, x.sides.length ≤ 100) : PfM (fun q => q = m ∨ q = w.heap.size) 100 (w.alloc o) A c ps := by
  refine ⟨hp.below ((Below.refl _ _).alloc (Nat.le_refl _) o), fun h0 k hk hM => ?_, fun x hx => ⟨fun h0 k hk hM => ?_, hr.2.2 x hx, h2 x hx⟩, h1⟩
  · have e1 := hr.1 k hk
    have e2 := Sl.row_lt hp.1 (by rw [hp.1.len]; omega) k hk
    omega
  · have e1 := hr.2.1 x hx k hk
    have e2 := Sl.row_lt (hp.2 x hx) (by rw [(hp.2 x hx).len]; omega) k hk
    omega
/-- What is wanted here of a proof that is made. -/
def MadePost (w0 : World) (b t m n : Nat) (T : List ByteArray) (S : List Wd) (e : Ending) (w' : World) : Prop :=
  ∃ T' A c ps cnt cd, e = .returned (.tuple #[.agg #[.int .i64 cnt, .slice A ps.length c], .int .i64 cd]) ∧ Hid (ps.length ≤ 100 ∧ ∀ x ∈ ps, x.sides.length ≤ 100) ∧
    Ext T T' ∧ T'.length ≤ T.length + 20000 ∧ Ch w0.heap.size (· = m) w0 w' ∧ Bk w' b t m n T' S ∧ PmS w' A c ps ∧ NewRows w0.heap.size A ps
theorem mProveW_calls (b t m n : Nat) (T : List ByteArray) (S : List Wd) (A : Option Addr) (c : Nat) (l : List Rc) (key : ByteArray) (w : World) (hb : Bk w b t m n T S) (hT : T.length ≤ 50000000) (hs : RcS w A c l) (hA : Off A l.length m) :
    Calls Try.prog 40 #[.pointer (some ⟨b, 0, none⟩), .slice A l.length c, .string key] w (MadePost w b t m n T S) := by
  refine (mProve_calls b t m n T S A c l key w hb hT hs hA).mono ?_
  rintro e w' ⟨T', A', c', ps, cnt, cd, rfl, hp, h1, h2, h3, h4, h5, h6⟩
  refine ⟨T', A', c', ps, cnt, cd, rfl, ?_, h1, h2, h3, h4, h5, h6⟩
  show ps.length ≤ 100 ∧ ∀ x ∈ ps, x.sides.length ≤ 100
  by_cases hr : riseE l = 0
  · by_cases hf : fitK key = true
    · obtain ⟨_, _, hps, _, _⟩ := hp.out.1 hr hf
      have hl : (ps.map Pm.pt).length ≤ 2 := by rw [hps]; unfold proofP; rw [List.length_map]; exact shown_len l key
      rw [List.length_map] at hl
      refine ⟨by omega, fun x hx => ?_⟩
      have hm : x.pt ∈ proofP (hh T') l key := by rw [← hps]; exact List.mem_map.2 ⟨x, hx, rfl⟩
      obtain ⟨i, hi, he⟩ := List.mem_map.1 hm
      have hok := ptOk_honest (T := T') hr (shown_lt hi)
      rw [he] at hok
      have : x.pt.sides.length ≤ 13 := by
        unfold ptOk at hok
        simp only [Bool.and_eq_true, decide_eq_true_eq] at hok
        exact hok.2.2.2.1
      show x.pt.sides.length ≤ 100
      omega
    · obtain ⟨_, _, rfl⟩ := hp.out.2.1 hr (by simpa using hf)
      exact ⟨by simp, fun x hx => by cases hx⟩
  · obtain ⟨_, _, rfl⟩ := hp.out.2.2 hr
    exact ⟨by simp, fun x hx => by cases hx⟩

set_option maxHeartbeats 8000000 in
set_option maxRecDepth 100000 in
theorem merkleBent_calls (A : Option Addr) (c : Nat) (l : List Rc) (A2 : Option Addr) (c2 : Nat) (l2 : List Rc) (key other : ByteArray) (B : Option Addr) (bc : Nat) (bs : List Bn) (W : World) (hs : RcS W A c l) (hs2 : RcS W A2 c2 l2) (hbn : BnS W B bc bs) (hok : ∀ m ∈ bs, m.Ok) :
    Calls Try.prog 7 #[.slice A l.length c, .slice A2 l2.length c2, .string key, .string other, .slice B bs.length bc] W fun e w' => e = .returned (.bool true) ∧ Below W.heap.size W w' := by
  have hfit := hs.fits
  have hfit2 := hs2.fits
  have hfitb := Sl.fits hbn
  have HN := Lib.hid (newBook_calls W)
  have HS := Lib.hid hs
  have HS2 := Lib.hid hs2
  have HBN := Lib.hid hbn
  have HOK := Lib.hid hok
  have HAW := Lib.hid (fun w => awake4_calls w)
  clear hs hs2 hbn hok
  by_cases h60 : 60 < l.length
  · have hd : decide ((60 : Int) < (l.length : Int)) = true := by simp; omega
    go_enter Try.func7, Try.ntmps7
    go_wp2_with fail
    refine HN.out.mono ?_
    rintro e w1 ⟨b, t, m, n, rfl, hb1, hk1, hb, ht, hm, hn⟩
    have HB1 := Lib.hid hb1
    have hz1 := hb1.size
    clear hb1 hk1
    go_wp2_with fail
    refine (HAW.out _).mono ?_
    rintro e w4 ⟨rfl, hb4⟩
    go_wp2
    go_ret
    exact ⟨rfl, HB1.out.trans (hb4.mono hz1)⟩
  by_cases h61 : 60 < l2.length
  · have hd0 : decide ((60 : Int) < (l.length : Int)) = false := by simp; omega
    have hd : decide ((60 : Int) < (l2.length : Int)) = true := by simp; omega
    go_enter Try.func7, Try.ntmps7
    go_wp2_with fail
    refine HN.out.mono ?_
    rintro e w1 ⟨b, t, m, n, rfl, hb1, hk1, hb, ht, hm, hn⟩
    have HB1 := Lib.hid hb1
    have hz1 := hb1.size
    clear hb1 hk1
    go_wp2_with fail
    refine (HAW.out _).mono ?_
    rintro e w4 ⟨rfl, hb4⟩
    go_wp2
    go_ret
    exact ⟨rfl, HB1.out.trans (hb4.mono hz1)⟩
  have hd0 : decide ((60 : Int) < (l.length : Int)) = false := by simp; omega
  have hd1 : decide ((60 : Int) < (l2.length : Int)) = false := by simp; omega
  go_enter Try.func7, Try.ntmps7
  go_wp2_with fail
  refine HN.out.mono ?_
  rintro e w1 ⟨b, t, m, n, rfl, hb1, hk1, hb, ht, hm, hn⟩
  have hz1 := hb1.size
  have HB1 := Lib.hid hb1
  have HS1 := Lib.hid (HS.out.below HB1.out)
  have HO := Lib.hid (off_new (m := m) HS.out (by omega))
  have HO2 := Lib.hid (off_new (m := m) HS2.out (by omega))
  have HRT := Lib.hid (mRoot_calls b t m n [] [] A c l w1 hk1 (by decide) HS1.out HO.out)
  have hml := hk1.all_lt.2.2.1
  clear hk1 hb1 hb ht hn
  go_wp2_with fail
  refine HRT.out.mono ?_
  rintro e w2 ⟨T2, x2, rfl, hx2, e2, l2', ch2, k2⟩
  have HC2 := Lib.hid ((Ch.of_below (S := fun _ => False) HB1.out).step ch2 (by omega) (fun i hi e => by omega))
  have hz2 := HC2.out.size
  have hz12 := ch2.size
  have hT2 : T2.length ≤ 10000 := by simpa using l2'
  have HS2' := Lib.hid (HS1.out.off ch2 HO.out)
  clear ch2 l2'
  by_cases hr : riseE l = 0
  · obtain ⟨hxa, hxb⟩ := hx2.out.1 hr
    have HXA := Lib.hid hxa
    have HXB := Lib.hid hxb
    have HR := Lib.hid hr
    have HK2 := Lib.hid k2
    rw [hr]
    clear hx2 hxa hxb hr k2
    go_wp2_with fail
    go_loopg [14] 2 (fun g v14 wr => ∃ (k : Nat) (T : List ByteArray), v14 = .int .i64 k ∧ k ≤ 2 ∧ Hid (g + k = 2 ∧ Ext T2 T ∧ T.length ≤ T2.length + 30000 * k ∧ Ch W.heap.size (fun _ => False) W wr ∧ w2.heap.size ≤ wr.heap.size ∧ Bk wr b t m n T []))
    case atStart => exact ⟨0, T2, rfl, by omega, by omega, Ext.refl _, by omega, HC2.out, Nat.le_refl _, HK2.out⟩
    case round =>
      obtain ⟨k, T, rfl, hk, HH⟩ := hrel
      obtain ⟨hg, he, hTl, hc, hz, hkk⟩ := HH.out
      have HG := Lib.hid hg
      have HE := Lib.hid he
      have HC := Lib.hid hc
      have HK := Lib.hid hkk
      have hzc := hc.size
      clear HH hg he hc hkk HK2 HC2
      by_cases hlt : k < 2
      · have hd2 : decide ((k : Int) < 2) = true := by simp; omega
        have HP0 := Lib.hid (mProveW_calls b t m n T [] A c l other wr HK.out (by omega) (HS.out.below (HC.out.below (fun _ _ e => e))) HO.out)
        have HP1 := Lib.hid (mProveW_calls b t m n T [] A2 c2 l2 other wr HK.out (by omega) (HS2.out.below (HC.out.below (fun _ _ e => e))) HO2.out)
        have hk01 : k = 0 ∨ k = 1 := by omega
        rcases hk01 with rfl | rfl
        all_goals go_wp2_with fail
        all_goals first | (with_reducible refine HP0.out.mono ?_) | (with_reducible refine HP1.out.mono ?_)
        all_goals rintro e w3 ⟨T3, P3, pc3, ps3, cnt3, cd, rfl, hsm, e3, l3, ch3, k3, p3, r3⟩
        all_goals have HC3 := Lib.hid (HC.out.step ch3 (by omega) (fun i hi e => by omega))
        all_goals have hz3 := ch3.size
        all_goals have HE3 := Lib.hid (HE.out.trans e3)
        all_goals have HK3 := Lib.hid k3
        all_goals have HPM := Lib.hid (PfM.made (m := m) (.cells #[.int .i64 cnt3, .slice P3 ps3.length pc3] 35) p3 r3 (by omega) hsm.out.1 hsm.out.2)
        all_goals have HBX := Lib.hid (Box.new w3 #[.int .i64 cnt3, .slice P3 ps3.length pc3] 35)
        all_goals clear ch3 k3 p3 r3 hsm e3 HK HE
        all_goals by_cases h0 : cd = 0
        · subst h0
          have hpb : w2.heap.size ≤ w3.heap.size := by omega
          have HC3a := Lib.hid (HC3.out.alloc (by omega) (.cells #[.int .i64 cnt3, .slice P3 ps3.length pc3] 35))
          have HK3a := Lib.hid (HK3.out.alloc (.cells #[.int .i64 cnt3, .slice P3 ps3.length pc3] 35))
          have hz3a : w3.heap.size < (w3.alloc (.cells #[.int .i64 cnt3, .slice P3 ps3.length pc3] 35)).heap.size := by simp
          have hWpb : W.heap.size ≤ w3.heap.size := by omega
          have HNE := Lib.hid (show (⟨w3.heap.size, 0, none⟩ : Addr).block ≠ b ∧ w3.heap.size ≠ t ∧ w3.heap.size ≠ m ∧ w3.heap.size ≠ n from by have := HK3.out.all_lt; simp only; omega)
          have HT3b := Lib.hid (show T3.length ≤ T2.length + (30000 * (1 - 1) + 20000) by omega)
          have HT3 := Lib.hid (show T3.length ≤ 60000 by omega)
          go_wp2_with fail
          go_loopg [18] 12 (fun g v18 wr => ∃ (j : Nat) (T : List ByteArray) (P : Option Addr) (pc : Nat) (ps : List Pm) (cnt : Int), v18 = .int .i64 j ∧ j ≤ 11 ∧ j ≤ bs.length + 1 ∧ Hid (g + j = 12 ∧ Ext T2 T ∧ T.length ≤ T3.length + 100 * j ∧ Ch W.heap.size (fun _ => False) W wr ∧ w3.heap.size < wr.heap.size ∧ Bk wr b t m n T [] ∧ Box wr w3.heap.size #[.int .i64 cnt, .slice P ps.length pc] 35 ∧ PfM (fun q => q = m ∨ q = w3.heap.size) (100 + j) wr P pc ps))
          case atStart => exact ⟨0, T3, P3, pc3, ps3, cnt3, rfl, by omega, by omega, by omega, HE3.out, by omega, HC3a.out, hz3a, HK3a.out, HBX.out, HPM.out⟩
          case round =>
            obtain ⟨j, T4, P, pc, ps, cnt, rfl, hj, hjb, HH⟩ := hrel
            obtain ⟨hg4, he4, hT4, hc4, hz4, hk4, hbx4, hpm4⟩ := HH.out
            have HG4 := Lib.hid hg4
            have HE4 := Lib.hid he4
            have HC4 := Lib.hid hc4
            have HK4 := Lib.hid hk4
            have HX4 := Lib.hid hbx4
            have HPM4 := Lib.hid hpm4
            have hzc4 := hc4.size
            clear HH hg4 he4 hc4 hk4 hbx4 hpm4 HPM HBX HC3a HK3a
            by_cases hle : j ≤ bs.length ∧ j ≤ 10
            · obtain ⟨hle1, hle2⟩ := hle
              have hd3 : decide ((j : Int) ≤ (bs.length : Int)) = true := by simp; omega
              have hd4 : decide ((j : Int) ≤ 10) = true := by simp; omega
              have HV := Lib.hid (mVerify_calls b t m n T4 [] x2 key cnt P pc ps wr HK4.out (by have := HT3.out; omega) HPM4.out.pm (fun x hx => (HPM4.out.each x hx).2.1) (HPM4.out.off.off (.inl rfl)) (fun x hx => (HPM4.out.each x hx).1.off (.inl rfl)))
              obtain ⟨p0, p1, f0, f1⟩ := HX4.out.facts2
              go_wp2_with fail
              refine HV.out.mono ?_
              rintro e w5 ⟨T5, v, has, cd5, rfl, hv, hvi, e5, l5, ch5, k5⟩
              have HC5 := Lib.hid (HC4.out.step ch5 hzc4 (fun i hi e => by omega))
              have HE5 := Lib.hid (HE4.out.trans e5)
              have HX5 := Lib.hid (HX4.out.ch ch5 HX4.out.lt (by omega))
              have HPM5 := Lib.hid (HPM4.out.ch (.inl rfl) ch5)
              have HK5 := Lib.hid k5
              have hz5 := ch5.size
              have hzc5 := HC5.out.size
              have HVX := Lib.hid (show (v, has, cd5) = verifyP (hh T5) (rootP (hh T5) l) key cnt (ps.map Pm.pt) by rw [hv.out, HXA.out, ← (HXB.out.ext HE5.out).2])
              have HTR : Hid (cd5 = 0 → truthP l key v has = true) := fun h0 => by
                have ht := verify_sound (T := T5) (by have := HT3.out; omega) (HXB.out.ext HE5.out).1 HR.out (key := key) (count := cnt) (ps := ps.map Pm.pt) (hvi.out h0) (by rw [← HVX.out]; exact h0)
                rw [← HVX.out] at ht
                exact ht
              have hT5 : T5.length ≤ T3.length + 100 * (j + 1) := by omega
              clear p0 p1 f0 f1 hv hvi e5 ch5 k5 HX4 HPM4 HK4 HC4 HE4 HV
              obtain ⟨p0, p1, f0, f1⟩ := HX5.out.facts2
              by_cases hjl : j < bs.length
              · have hd5 : decide ((j : Int) < (bs.length : Int)) = true := by simp; omega
                have HBN5 := Lib.hid (HBN.out.below (HC5.out.below (fun _ _ e => e)))
                obtain ⟨ba, rfl, b0, b1, b2, b3⟩ := HBN5.out.elem j hjl
                have hok := HOK.out bs[j] (List.getElem_mem hjl)
                obtain ⟨bn, hbe⟩ : ∃ bn, bn = bs[j] := ⟨_, rfl⟩
                rw [← hbe] at b0 b1 b2 b3 hok
                clear hbe
                obtain ⟨wh, ii, nn, tx⟩ := bn
                simp only at b0 b1 b2 b3
                have HBE := Lib.hid (fun w hw hp => bent_calls (fun q => q = m ∨ q = w3.heap.size) (100 + j) cnt P pc ps wh ii nn tx w hw (by omega) hp hok.what hok.i hok.n)
                clear hok
                have HM := Lib.hid (show ∀ q, q = m ∨ q = w3.heap.size → q < w5.drew.heap.size from fun q hq => by show q < w5.heap.size; omega)
                have HPD := Lib.hid (HPM5.out.below ((Below.refl w5.heap.size w5).drew))
                have HZ6 := Lib.hid (show ∀ w6 : World, Below w5.heap.size w5.drew w6 → w3.heap.size < w6.heap.size from fun w6 hb => by have h : w5.heap.size ≤ w6.heap.size := hb.size; omega)
                by_cases h5 : cd5 = 0
                · have HT := Lib.hid (fun w hs => truth_calls A c l key v has w hs (by omega))
                  rw [HTR.out h5] at HT
                  have HSL5 := Lib.hid (HS.out.below (HC5.out.below (fun _ _ e => e)))
                  subst h5
                  go_wp2_with fail
                  refine (HT.out _ HSL5.out).mono ?_
                  rintro e wx ⟨rfl, hw⟩
                  subst hw
                  go_wp2_with fail
                  have HBX5 := HX5.out.drew
                  refine wp_region_noPanic ?_
                  go_region_law (first | (go_simp; go_at_call 46; refine (HBE.out _ HM.out HPD.out).mono ?_; rintro e w6 ⟨cnt6, P6, pc6, ms, rfl, hb6, hp6⟩; have HB6 := Lib.hid hb6; have HP6 := Lib.hid hp6; have HX6 := Lib.hid (HX5.out.drew.ch (Ch.of_below (S := fun _ => False) hb6) HX5.out.lt (fun e => e)); clear hb6 hp6 p0 p1 f0 f1; obtain ⟨p0, p1, f0, f1⟩ := HX6.out.facts2))
                  all_goals
                    refine NoPanic.normal ?_
                    go_wp2_with fail
                    go_roundg (gk - 1)
                    case measure => have := HG4.out; omega
                    case rel =>
                      have hz6 := HZ6.out _ HB6.out
                      exact ⟨j + 1, T5, P6, pc6, ms, cnt6, by go_num, by omega, by omega, by have := HG4.out; omega, HE5.out, hT5, (((HC5.out.drew).step (Ch.of_below (S := fun _ => False) HB6.out) hzc5 (fun _ _ e => e)).setCell (.inl hWpb) _).setCell (.inl hWpb) _, by simpa [World.setCell] using hz6, ((HK5.out.drew.below HB6.out).setCell HNE.out _).setCell HNE.out _, box_fill2 HX6.out, (HP6.out.set (.inr rfl) _).set (.inr rfl) _⟩
                · have hd6 : (cd5 == 0) = false := by rw [beq_eq_false_iff_ne]; exact h5
                  clear h5
                  go_wp2_with fail
                  have HBX5 := HX5.out.drew
                  refine wp_region_noPanic ?_
                  go_region_law (first | (go_simp; go_at_call 46; refine (HBE.out _ HM.out HPD.out).mono ?_; rintro e w6 ⟨cnt6, P6, pc6, ms, rfl, hb6, hp6⟩; have HB6 := Lib.hid hb6; have HP6 := Lib.hid hp6; have HX6 := Lib.hid (HX5.out.drew.ch (Ch.of_below (S := fun _ => False) hb6) HX5.out.lt (fun e => e)); clear hb6 hp6 p0 p1 f0 f1; obtain ⟨p0, p1, f0, f1⟩ := HX6.out.facts2))
                  all_goals
                    refine NoPanic.normal ?_
                    go_wp2_with fail
                    go_roundg (gk - 1)
                    case measure => have := HG4.out; omega
                    case rel =>
                      have hz6 := HZ6.out _ HB6.out
                      exact ⟨j + 1, T5, P6, pc6, ms, cnt6, by go_num, by omega, by omega, by have := HG4.out; omega, HE5.out, hT5, (((HC5.out.drew).step (Ch.of_below (S := fun _ => False) HB6.out) hzc5 (fun _ _ e => e)).setCell (.inl hWpb) _).setCell (.inl hWpb) _, by simpa [World.setCell] using hz6, ((HK5.out.drew.below HB6.out).setCell HNE.out _).setCell HNE.out _, box_fill2 HX6.out, (HP6.out.set (.inr rfl) _).set (.inr rfl) _⟩
              · have hjeq : j = bs.length := by omega
                have hd5 : decide ((j : Int) < (bs.length : Int)) = false := by simp; omega
                by_cases h5 : cd5 = 0
                · have HT := Lib.hid (fun w hs => truth_calls A c l key v has w hs (by omega))
                  rw [HTR.out h5] at HT
                  have HSL5 := Lib.hid (HS.out.below (HC5.out.below (fun _ _ e => e)))
                  subst h5
                  go_wp2_with fail
                  refine (HT.out _ HSL5.out).mono ?_
                  rintro e wx ⟨rfl, hw⟩
                  subst hw
                  go_wp2_with fail
                  go_roundg (gk - 1)
                  case measure => have := HG4.out; omega
                  case rel => exact ⟨j + 1, T5, P, pc, ps, cnt, by go_num, by omega, by omega, by have := HG4.out; omega, HE5.out, hT5, HC5.out, by omega, HK5.out, HX5.out, HPM5.out.mono (by omega)⟩
                · have hd6 : (cd5 == 0) = false := by rw [beq_eq_false_iff_ne]; exact h5
                  clear h5
                  go_wp2_with fail
                  go_roundg (gk - 1)
                  case measure => have := HG4.out; omega
                  case rel => exact ⟨j + 1, T5, P, pc, ps, cnt, by go_num, by omega, by omega, by have := HG4.out; omega, HE5.out, hT5, HC5.out, by omega, HK5.out, HX5.out, HPM5.out.mono (by omega)⟩
            · have hend : (¬ j ≤ bs.length) ∨ (j ≤ bs.length ∧ ¬ j ≤ 10) := by omega
              rcases hend with h1 | ⟨h1, h2⟩
              · have hd3 : decide ((j : Int) ≤ (bs.length : Int)) = false := by simp; omega
                go_wp2_with fail
                go_roundg 1
                case measure => have := HG.out; omega
                case rel => exact ⟨1, T4, by go_num, by omega, by omega, HE4.out, by have := HT3b.out; omega, HC4.out, by omega, HK4.out⟩
              · have hd3 : decide ((j : Int) ≤ (bs.length : Int)) = true := by simp; omega
                have hd4 : decide ((j : Int) ≤ 10) = false := by simp; omega
                go_wp2_with fail
                go_roundg 1
                case measure => have := HG.out; omega
                case rel => exact ⟨1, T4, by go_num, by omega, by omega, HE4.out, by have := HT3b.out; omega, HC4.out, by omega, HK4.out⟩
        · have hd3 : (cd == 0) = false := (by rw [beq_eq_false_iff_ne]; exact h0)
          clear h0 HPM HBX
          go_wp2_with fail
          go_roundg (gk - 1)
          case measure => have := HG.out; omega
          case rel => exact ⟨1, T3, by go_num, by omega, by have := HG.out; omega, HE3.out, by omega, HC3.out.alloc (by omega) _, by simp; omega, HK3.out.alloc _⟩
        · subst h0
          have hpb : w2.heap.size ≤ w3.heap.size := by omega
          have HC3a := Lib.hid (HC3.out.alloc (by omega) (.cells #[.int .i64 cnt3, .slice P3 ps3.length pc3] 35))
          have HK3a := Lib.hid (HK3.out.alloc (.cells #[.int .i64 cnt3, .slice P3 ps3.length pc3] 35))
          have hz3a : w3.heap.size < (w3.alloc (.cells #[.int .i64 cnt3, .slice P3 ps3.length pc3] 35)).heap.size := by simp
          have hWpb : W.heap.size ≤ w3.heap.size := by omega
          have HNE := Lib.hid (show (⟨w3.heap.size, 0, none⟩ : Addr).block ≠ b ∧ w3.heap.size ≠ t ∧ w3.heap.size ≠ m ∧ w3.heap.size ≠ n from by have := HK3.out.all_lt; simp only; omega)
          have HT3b := Lib.hid (show T3.length ≤ T2.length + (30000 * (2 - 1) + 20000) by omega)
          have HT3 := Lib.hid (show T3.length ≤ 60000 by omega)
          go_wp2_with fail
          go_loopg [18] 12 (fun g v18 wr => ∃ (j : Nat) (T : List ByteArray) (P : Option Addr) (pc : Nat) (ps : List Pm) (cnt : Int), v18 = .int .i64 j ∧ j ≤ 11 ∧ j ≤ bs.length + 1 ∧ Hid (g + j = 12 ∧ Ext T2 T ∧ T.length ≤ T3.length + 100 * j ∧ Ch W.heap.size (fun _ => False) W wr ∧ w3.heap.size < wr.heap.size ∧ Bk wr b t m n T [] ∧ Box wr w3.heap.size #[.int .i64 cnt, .slice P ps.length pc] 35 ∧ PfM (fun q => q = m ∨ q = w3.heap.size) (100 + j) wr P pc ps))
          case atStart => exact ⟨0, T3, P3, pc3, ps3, cnt3, rfl, by omega, by omega, by omega, HE3.out, by omega, HC3a.out, hz3a, HK3a.out, HBX.out, HPM.out⟩
          case round =>
            obtain ⟨j, T4, P, pc, ps, cnt, rfl, hj, hjb, HH⟩ := hrel
            obtain ⟨hg4, he4, hT4, hc4, hz4, hk4, hbx4, hpm4⟩ := HH.out
            have HG4 := Lib.hid hg4
            have HE4 := Lib.hid he4
            have HC4 := Lib.hid hc4
            have HK4 := Lib.hid hk4
            have HX4 := Lib.hid hbx4
            have HPM4 := Lib.hid hpm4
            have hzc4 := hc4.size
            clear HH hg4 he4 hc4 hk4 hbx4 hpm4 HPM HBX HC3a HK3a
            by_cases hle : j ≤ bs.length ∧ j ≤ 10
            · obtain ⟨hle1, hle2⟩ := hle
              have hd3 : decide ((j : Int) ≤ (bs.length : Int)) = true := by simp; omega
              have hd4 : decide ((j : Int) ≤ 10) = true := by simp; omega
              have HV := Lib.hid (mVerify_calls b t m n T4 [] x2 key cnt P pc ps wr HK4.out (by have := HT3.out; omega) HPM4.out.pm (fun x hx => (HPM4.out.each x hx).2.1) (HPM4.out.off.off (.inl rfl)) (fun x hx => (HPM4.out.each x hx).1.off (.inl rfl)))
              obtain ⟨p0, p1, f0, f1⟩ := HX4.out.facts2
              go_wp2_with fail
              refine HV.out.mono ?_
              rintro e w5 ⟨T5, v, has, cd5, rfl, hv, hvi, e5, l5, ch5, k5⟩
              have HC5 := Lib.hid (HC4.out.step ch5 hzc4 (fun i hi e => by omega))
              have HE5 := Lib.hid (HE4.out.trans e5)
              have HX5 := Lib.hid (HX4.out.ch ch5 HX4.out.lt (by omega))
              have HPM5 := Lib.hid (HPM4.out.ch (.inl rfl) ch5)
              have HK5 := Lib.hid k5
              have hz5 := ch5.size
              have hzc5 := HC5.out.size
              have HVX := Lib.hid (show (v, has, cd5) = verifyP (hh T5) (rootP (hh T5) l) key cnt (ps.map Pm.pt) by rw [hv.out, HXA.out, ← (HXB.out.ext HE5.out).2])
              have HTR : Hid (cd5 = 0 → truthP l key v has = true) := fun h0 => by
                have ht := verify_sound (T := T5) (by have := HT3.out; omega) (HXB.out.ext HE5.out).1 HR.out (key := key) (count := cnt) (ps := ps.map Pm.pt) (hvi.out h0) (by rw [← HVX.out]; exact h0)
                rw [← HVX.out] at ht
                exact ht
              have hT5 : T5.length ≤ T3.length + 100 * (j + 1) := by omega
              clear p0 p1 f0 f1 hv hvi e5 ch5 k5 HX4 HPM4 HK4 HC4 HE4 HV
              obtain ⟨p0, p1, f0, f1⟩ := HX5.out.facts2
              by_cases hjl : j < bs.length
              · have hd5 : decide ((j : Int) < (bs.length : Int)) = true := by simp; omega
                have HBN5 := Lib.hid (HBN.out.below (HC5.out.below (fun _ _ e => e)))
                obtain ⟨ba, rfl, b0, b1, b2, b3⟩ := HBN5.out.elem j hjl
                have hok := HOK.out bs[j] (List.getElem_mem hjl)
                obtain ⟨bn, hbe⟩ : ∃ bn, bn = bs[j] := ⟨_, rfl⟩
                rw [← hbe] at b0 b1 b2 b3 hok
                clear hbe
                obtain ⟨wh, ii, nn, tx⟩ := bn
                simp only at b0 b1 b2 b3
                have HBE := Lib.hid (fun w hw hp => bent_calls (fun q => q = m ∨ q = w3.heap.size) (100 + j) cnt P pc ps wh ii nn tx w hw (by omega) hp hok.what hok.i hok.n)
                clear hok
                have HM := Lib.hid (show ∀ q, q = m ∨ q = w3.heap.size → q < w5.drew.heap.size from fun q hq => by show q < w5.heap.size; omega)
                have HPD := Lib.hid (HPM5.out.below ((Below.refl w5.heap.size w5).drew))
                have HZ6 := Lib.hid (show ∀ w6 : World, Below w5.heap.size w5.drew w6 → w3.heap.size < w6.heap.size from fun w6 hb => by have h : w5.heap.size ≤ w6.heap.size := hb.size; omega)
                by_cases h5 : cd5 = 0
                · have HT := Lib.hid (fun w hs => truth_calls A c l key v has w hs (by omega))
                  rw [HTR.out h5] at HT
                  have HSL5 := Lib.hid (HS.out.below (HC5.out.below (fun _ _ e => e)))
                  subst h5
                  go_wp2_with fail
                  refine (HT.out _ HSL5.out).mono ?_
                  rintro e wx ⟨rfl, hw⟩
                  subst hw
                  go_wp2_with fail
                  have HBX5 := HX5.out.drew
                  refine wp_region_noPanic ?_
                  go_region_law (first | (go_simp; go_at_call 46; refine (HBE.out _ HM.out HPD.out).mono ?_; rintro e w6 ⟨cnt6, P6, pc6, ms, rfl, hb6, hp6⟩; have HB6 := Lib.hid hb6; have HP6 := Lib.hid hp6; have HX6 := Lib.hid (HX5.out.drew.ch (Ch.of_below (S := fun _ => False) hb6) HX5.out.lt (fun e => e)); clear hb6 hp6 p0 p1 f0 f1; obtain ⟨p0, p1, f0, f1⟩ := HX6.out.facts2))
                  all_goals
                    refine NoPanic.normal ?_
                    go_wp2_with fail
                    go_roundg (gk - 1)
                    case measure => have := HG4.out; omega
                    case rel =>
                      have hz6 := HZ6.out _ HB6.out
                      exact ⟨j + 1, T5, P6, pc6, ms, cnt6, by go_num, by omega, by omega, by have := HG4.out; omega, HE5.out, hT5, (((HC5.out.drew).step (Ch.of_below (S := fun _ => False) HB6.out) hzc5 (fun _ _ e => e)).setCell (.inl hWpb) _).setCell (.inl hWpb) _, by simpa [World.setCell] using hz6, ((HK5.out.drew.below HB6.out).setCell HNE.out _).setCell HNE.out _, box_fill2 HX6.out, (HP6.out.set (.inr rfl) _).set (.inr rfl) _⟩
                · have hd6 : (cd5 == 0) = false := by rw [beq_eq_false_iff_ne]; exact h5
                  clear h5
                  go_wp2_with fail
                  have HBX5 := HX5.out.drew
                  refine wp_region_noPanic ?_
                  go_region_law (first | (go_simp; go_at_call 46; refine (HBE.out _ HM.out HPD.out).mono ?_; rintro e w6 ⟨cnt6, P6, pc6, ms, rfl, hb6, hp6⟩; have HB6 := Lib.hid hb6; have HP6 := Lib.hid hp6; have HX6 := Lib.hid (HX5.out.drew.ch (Ch.of_below (S := fun _ => False) hb6) HX5.out.lt (fun e => e)); clear hb6 hp6 p0 p1 f0 f1; obtain ⟨p0, p1, f0, f1⟩ := HX6.out.facts2))
                  all_goals
                    refine NoPanic.normal ?_
                    go_wp2_with fail
                    go_roundg (gk - 1)
                    case measure => have := HG4.out; omega
                    case rel =>
                      have hz6 := HZ6.out _ HB6.out
                      exact ⟨j + 1, T5, P6, pc6, ms, cnt6, by go_num, by omega, by omega, by have := HG4.out; omega, HE5.out, hT5, (((HC5.out.drew).step (Ch.of_below (S := fun _ => False) HB6.out) hzc5 (fun _ _ e => e)).setCell (.inl hWpb) _).setCell (.inl hWpb) _, by simpa [World.setCell] using hz6, ((HK5.out.drew.below HB6.out).setCell HNE.out _).setCell HNE.out _, box_fill2 HX6.out, (HP6.out.set (.inr rfl) _).set (.inr rfl) _⟩
              · have hjeq : j = bs.length := by omega
                have hd5 : decide ((j : Int) < (bs.length : Int)) = false := by simp; omega
                by_cases h5 : cd5 = 0
                · have HT := Lib.hid (fun w hs => truth_calls A c l key v has w hs (by omega))
                  rw [HTR.out h5] at HT
                  have HSL5 := Lib.hid (HS.out.below (HC5.out.below (fun _ _ e => e)))
                  subst h5
                  go_wp2_with fail
                  refine (HT.out _ HSL5.out).mono ?_
                  rintro e wx ⟨rfl, hw⟩
                  subst hw
                  go_wp2_with fail
                  go_roundg (gk - 1)
                  case measure => have := HG4.out; omega
                  case rel => exact ⟨j + 1, T5, P, pc, ps, cnt, by go_num, by omega, by omega, by have := HG4.out; omega, HE5.out, hT5, HC5.out, by omega, HK5.out, HX5.out, HPM5.out.mono (by omega)⟩
                · have hd6 : (cd5 == 0) = false := by rw [beq_eq_false_iff_ne]; exact h5
                  clear h5
                  go_wp2_with fail
                  go_roundg (gk - 1)
                  case measure => have := HG4.out; omega
                  case rel => exact ⟨j + 1, T5, P, pc, ps, cnt, by go_num, by omega, by omega, by have := HG4.out; omega, HE5.out, hT5, HC5.out, by omega, HK5.out, HX5.out, HPM5.out.mono (by omega)⟩
            · have hend : (¬ j ≤ bs.length) ∨ (j ≤ bs.length ∧ ¬ j ≤ 10) := by omega
              rcases hend with h1 | ⟨h1, h2⟩
              · have hd3 : decide ((j : Int) ≤ (bs.length : Int)) = false := by simp; omega
                go_wp2_with fail
                go_roundg 0
                case measure => have := HG.out; omega
                case rel => exact ⟨2, T4, by go_num, by omega, by omega, HE4.out, by have := HT3b.out; omega, HC4.out, by omega, HK4.out⟩
              · have hd3 : decide ((j : Int) ≤ (bs.length : Int)) = true := by simp; omega
                have hd4 : decide ((j : Int) ≤ 10) = false := by simp; omega
                go_wp2_with fail
                go_roundg 0
                case measure => have := HG.out; omega
                case rel => exact ⟨2, T4, by go_num, by omega, by omega, HE4.out, by have := HT3b.out; omega, HC4.out, by omega, HK4.out⟩
        · have hd3 : (cd == 0) = false := (by rw [beq_eq_false_iff_ne]; exact h0)
          clear h0 HPM HBX
          go_wp2_with fail
          go_roundg (gk - 1)
          case measure => have := HG.out; omega
          case rel => exact ⟨2, T3, by go_num, by omega, by have := HG.out; omega, HE3.out, by omega, HC3.out.alloc (by omega) _, by simp; omega, HK3.out.alloc _⟩
      · have hd2 : decide ((k : Int) < 2) = false := by simp; omega
        obtain rfl : k = 2 := by omega
        go_wp2_with fail
        refine (HAW.out _).mono ?_
        rintro e w4 ⟨rfl, hb4⟩
        go_wp2
        go_ret
        exact ⟨rfl, (HC.out.step (Ch.of_below (S := fun _ => False) hb4) hzc (fun _ _ e => e)).below (fun _ _ e => e)⟩
  · have HRI := Lib.hid (rrise_calls A c l w2 HS2'.out)
    obtain ⟨cd, hcd⟩ : ∃ cd, cd = riseE l := ⟨_, rfl⟩
    rw [← hcd] at HRI hr ⊢
    have hdr : (cd == 0) = false := by rw [beq_eq_false_iff_ne]; exact hr
    clear hcd hx2 k2 hr
    go_wp2_with fail
    refine HRI.out.mono ?_
    rintro e w3 ⟨rfl, hb3⟩
    have HC3 := Lib.hid (HC2.out.step (Ch.of_below (S := fun _ => False) hb3) hz2 (fun i hi e => e))
    have hz3 := HC3.out.size
    go_wp2_with fail
    refine (HAW.out _).mono ?_
    rintro e w4 ⟨rfl, hb4⟩
    go_wp2
    go_ret
    exact ⟨rfl, (HC3.out.step (Ch.of_below (S := fun _ => False) hb4) hz3 (fun _ _ e => e)).below (fun _ _ e => e)⟩
end Go.Proofs.Ytfgpchffkpomoaa
