/- Texts of this proof, several in one file; each says ahead of it what it proves. -/
import Derived.Test.YtfgpchffkpomoaaPk26
import Derived.Test.YtfgpchffkpomoaaPk38
import Derived.Test.YtfgpchffkpomoaaKdTProve
import Derived.Test.YtfgpchffkpomoaaPk22
import Derived.Test.YtfgpchffkpomoaaPk27
/- By a book of sums: what stands in the text MProve, once more. -/
namespace Go.Proofs.Ytfgpchffkpomoaa.Kd
set_option linter.unusedSimpArgs false
set_option linter.unusedVariables false
open Go.RowKit
/-- What is proved of a key: the proof's count and paths, or why there is none. -/
def ProvedAs (T : List ByteArray) (l : List Rc) (key : ByteArray) (ps : List Pm) (cnt cd : Int) : Prop :=
  (riseE l = 0 → fitK key = true → cd = 0 ∧ cnt = (l.length : Int) ∧ ps.map Pm.pt = proofP (hh T) l key ∧ LeavesIn T l ∧ ∀ i ∈ shownP l key, SidesIn T (leavesH (hh T) l) i) ∧
  (riseE l = 0 → fitK key = false → cd = 14 ∧ cnt = 0 ∧ ps = []) ∧ (riseE l ≠ 0 → cd = riseE l ∧ cnt = 0 ∧ ps = [])
def MProvesPost (w0 : World) (b t m n : Nat) (T : List ByteArray) (S : List Wd) (l : List Rc) (key : ByteArray) (e : Ending) (w' : World) : Prop :=
  ∃ T' A c ps cnt cd, e = .returned (.tuple #[.agg #[.int .i64 cnt, .slice A ps.length c], .int .i64 cd]) ∧ Hid (ProvedAs T' l key ps cnt cd) ∧
    Ext T T' ∧ T'.length ≤ T.length + 20000 ∧ Ch w0.heap.size (· = m) w0 w' ∧ Bk w' b t m n T' S ∧ PmS w' A c ps ∧ NewRows w0.heap.size A ps

set_option maxHeartbeats 4000000 in
set_option maxRecDepth 100000 in
theorem mProve_calls (b t m n : Nat) (T : List ByteArray) (S : List Wd) (A : Option Addr) (c : Nat) (l : List Rc) (key : ByteArray) (w : World) (hb : Bk w b t m n T S) (hT : T.length ≤ 50000000) (hs : RcS w A c l) (hA : Off A l.length m) :
    Calls Try.prog 40 #[.pointer (some ⟨b, 0, none⟩), .slice A l.length c, .string key] w (MProvesPost w b t m n T S l key) := by
  have hlt0 := hb.all_lt
  have hbl := (Below.refl w.heap.size w).alloc (Nat.le_refl _) (.cells #[.int .i64 0, .slice none 0 0] 35)
  have HX0 := Lib.hid (Box.new w #[.int .i64 0, .slice none 0 0] 35)
  have HBL := Lib.hid hbl
  have HBK := Lib.hid (hb.alloc (.cells #[.int .i64 0, .slice none 0 0] 35))
  have HS := Lib.hid (hs.below hbl)
  have hfit := hs.fits
  have HN := Lib.hid (mNew_calls b t m n T S _ HBK.out (by omega))
  have HC := Lib.hid (fun w hs => check_errs A c l w hs)
  have HA := Lib.hid hA
  have HLT := Lib.hid hlt0
  have hml := hlt0.2.2.1
  have HROW := Lib.hid (fun h => hs.row_lt h)
  clear hb hs hA hlt0
  by_cases hr : riseE l = 0
  · have hok := rise_ok hr
    rw [hr] at HC
    have HR := Lib.hid hr
    have hl4 := hok.1
    have HSH := Lib.hid (rise_short hr)
    have HRI := Lib.hid (rise_rising hr)
    clear hok hr
    go_enter Try.func40, Try.ntmps40
    go_wp2_with fail
    refine HN.out.mono ?_
    rintro e w1 ⟨T1, q, rfl, e1, l1, ch1, k1, hq, tb1⟩
    have hz1 : w.heap.size + 1 ≤ w1.heap.size := by have := ch1.size; simpa using this
    have hq1 : w.heap.size + 1 ≤ q := by simpa using hq
    have HX1 := Lib.hid (HX0.out.ch ch1 HX0.out.lt (by omega))
    have HS1 := Lib.hid (HS.out.off ch1 HA.out)
    have HC1 := Lib.hid ((Ch.of_below (S := (· = m)) HBL.out).step ch1 (by simp) (fun _ _ e => e))
    have HK1 := Lib.hid k1
    have HT1 := Lib.hid tb1
    clear ch1 k1 tb1 hq
    go_wp2_with fail
    refine (HC.out _ HS1.out).mono ?_
    rintro e w2 ⟨rfl, hb2⟩
    have hz2 := hb2.size
    have HX2 := Lib.hid (HX1.out.ch (Ch.of_below (S := fun _ => False) hb2) HX1.out.lt (fun e => e))
    have HS2 := Lib.hid (HS1.out.below hb2)
    have HC2 := Lib.hid (HC1.out.step (Ch.of_below (S := fun _ => False) hb2) HC1.out.size (fun _ _ e => e.elim))
    have HK2 := Lib.hid (HK1.out.below hb2)
    have HT2 := Lib.hid (Box.ch HT1.out (Ch.of_below (S := fun _ => False) hb2) HT1.out.lt (fun e => e))
    clear hb2
    have HLV := Lib.hid (leaves_calls b t m n T1 S A c l w2 HK2.out (by omega) HS2.out (by omega) (fun x hx => by have := HSH.out x hx; simp only [maxLen, Go.maxLen]; omega) HA.out)
    go_wp2_with fail
    refine HLV.out.mono ?_
    rintro e w3 ⟨T2, A2, c2, rfl, e2, l2, i2, ch2, k2, o2⟩
    have hz3 := ch2.size
    have HX3 := Lib.hid (HX2.out.ch ch2 HX2.out.lt (by omega))
    have HS3 := Lib.hid (HS2.out.off ch2 HA.out)
    have HC3 := Lib.hid (HC2.out.step ch2 HC2.out.size (fun _ _ e => e))
    have HK3 := Lib.hid k2
    have HT3 := Lib.hid (Box.ch HT2.out ch2 HT2.out.lt (by omega))
    have hqlt := HT2.out.lt
    obtain ⟨x0, x1, x2, y0, y1, y2⟩ := Box.facts3 HT3.out
    have hll := leavesH_len (hh T2) l
    obtain ⟨D, hD⟩ : ∃ D, D = leavesH (hh T2) l := ⟨_, rfl⟩
    have hts : TxS w3 A2 c2 D := by
      have := Sl.of_own o2
      rw [← hD] at this
      unfold TxS
      rw [hD, hll, ← hD]
      exact this
    have hro := fun k hk => own_row o2 (k := k) hk
    have hch4 : Ch w3.heap.size (· = q) w3 ((w3.setCell ⟨q, 1, none⟩ (.slice A l.length c)).setCell ⟨q, 2, none⟩ (.slice A2 l.length c2)) := ((Ch.refl w3.heap.size (· = q) w3).setCell (p := ⟨q, 1, none⟩) (.inr rfl) _).setCell (p := ⟨q, 2, none⟩) (.inr rfl) _
    have hts4 := hts.ch hch4 (fun j hj hlt => ⟨hlt, by have := hro j hj; omega⟩)
    have hrs4 := HS3.out.keep hch4 (fun h0 j hj => by have := HROW.out h0 j hj; omega)
    have hk4 := HK3.out.ch hch4 (Nat.le_refl _) (by have := HLT.out; omega)
    have htb4 : TreeBox ((w3.setCell ⟨q, 1, none⟩ (.slice A l.length c)).setCell ⟨q, 2, none⟩ (.slice A2 l.length c2)) q b A l.length c A2 D.length c2 := by
      rw [hD, hll]
      exact Box.set (Box.set HT3.out 1 (.slice A l.length c)) 2 (.slice A2 l.length c2)
    have hx4 := (HX3.out.other (a := ⟨q, 1, none⟩) (by simp only; omega) (.slice A l.length c)).other (a := ⟨q, 2, none⟩) (by simp only; omega) (.slice A2 l.length c2)
    have hc4 := HC3.out.step hch4 HC3.out.size (fun i hi e => by omega)
    have hsz4 : ((w3.setCell ⟨q, 1, none⟩ (.slice A l.length c)).setCell ⟨q, 2, none⟩ (.slice A2 l.length c2)).heap.size = w3.heap.size := by simp [World.setCell]
    obtain ⟨w4, hw4⟩ : ∃ w4, w4 = (w3.setCell ⟨q, 1, none⟩ (.slice A l.length c)).setCell ⟨q, 2, none⟩ (.slice A2 l.length c2) := ⟨_, rfl⟩
    rw [← hw4] at hch4 hts4 hrs4 hk4 htb4 hx4 hc4 hsz4
    have hcap := own_cap o2
    have htp := tProve_calls q b t m n T2 S A c A2 c2 l D key w4 hk4 (by omega) htb4 (by omega) hrs4 hl4 hts4 hD i2 HRI.out (by rw [hD, hll]; exact hcap) HA.out (fun _ k hk => by have := hro k hk; omega)
    have HTP := Lib.hid htp
    have HX4 := Lib.hid hx4
    have HC4 := Lib.hid hc4
    have HE := Lib.hid (e1.trans e2)
    have HI2 := Lib.hid i2
    have hq4 : q < w4.heap.size := htb4.lt
    have hR4 := hx4.lt
    have HW4 := Lib.hid hw4
    clear htp hx4 hc4 hch4 hts4 hrs4 hk4 htb4 hts hD o2 hro i2 e1 e2 hw4
    go_wp2_with fail
    rw [← HW4.out]
    refine HTP.out.mono ?_
    rintro e w5 ⟨T3, A3, c3, ps, cnt, cd, rfl, hH, e3, l3, ch5, k5, p5, r5⟩
    have HX5 := Lib.hid (HX4.out.ch ch5 HX4.out.lt (by omega))
    obtain ⟨z0, z1, v0, v1⟩ := HX5.out.facts2
    clear x0 x1 x2 y0 y1 y2
    go_wp2_with fail
    have hbx := box_fill2 HX5.out (x := .int .i64 cnt) (y := .slice A3 ps.length c3)
    obtain ⟨d0, d1, _⟩ := hbx.facts2
    refine bodyPost_ret (v := .tuple #[.agg #[.int .i64 cnt, .slice A3 ps.length c3], .int .i64 cd]) (by simp [results, Try.results40, go_sem, d0, d1]) rfl ?_
    have hff := HLT.out
    have hf : w.heap.size ≠ b ∧ w.heap.size ≠ t ∧ w.heap.size ≠ m ∧ w.heap.size ≠ n := by omega
    have hc5 := HC4.out.step ch5 HC4.out.size (fun _ _ e => e)
    have hfin : Ch w5.heap.size (· = w.heap.size) w5 ((w5.setCell ⟨w.heap.size, 0, none⟩ (.int .i64 cnt)).setCell ⟨w.heap.size, 1, none⟩ (.slice A3 ps.length c3)) := ((Ch.refl w5.heap.size (· = w.heap.size) w5).setCell (p := ⟨w.heap.size, 0, none⟩) (.inr rfl) _).setCell (p := ⟨w.heap.size, 1, none⟩) (.inr rfl) _
    refine ⟨T3, A3, c3, ps, cnt, cd, rfl, ⟨fun _ hk => ?_, fun _ hk => hH.out.2 hk, fun h => absurd HR.out h⟩, HE.out.trans e3, by omega, hc5.step hfin hc5.size (fun i hi e => by omega), (k5.setCell (p := ⟨w.heap.size, 0, none⟩) hf _).setCell (p := ⟨w.heap.size, 1, none⟩) hf _, p5.ch hfin (fun j hj hlt => ⟨hlt, by have := r5.1 j hj; omega⟩) (fun x hx j hj hlt => ⟨hlt, by have := r5.2.1 x hx j hj; omega⟩), r5.mono (by omega)⟩
    obtain ⟨a1, a2, a3, a4⟩ := hH.out.1 hk
    exact ⟨a1, a2, a3, (HI2.out.ext e3).1, a4⟩
  · have HR := Lib.hid hr
    obtain ⟨cd, hcd⟩ : ∃ cd, cd = riseE l := ⟨_, rfl⟩
    rw [← hcd] at HC hr
    have HCD := Lib.hid hcd
    have hd : (cd == 0) = false := by rw [beq_eq_false_iff_ne]; exact hr
    clear hcd hr
    go_enter Try.func40, Try.ntmps40
    go_wp2_with fail
    refine HN.out.mono ?_
    rintro e w1 ⟨T1, q, rfl, e1, l1, ch1, k1, hq, tb1⟩
    have HX1 := Lib.hid (HX0.out.ch ch1 HX0.out.lt (by omega))
    have HS1 := Lib.hid (HS.out.off ch1 HA.out)
    have HC1 := Lib.hid ((Ch.of_below (S := (· = m)) HBL.out).step ch1 (by simp) (fun _ _ e => e))
    have HK1 := Lib.hid k1
    clear ch1 k1 tb1 hq
    go_wp2_with fail
    refine (HC.out _ HS1.out).mono ?_
    rintro e w2 ⟨rfl, hb2⟩
    have HX2 := Lib.hid (HX1.out.ch (Ch.of_below (S := fun _ => False) hb2) HX1.out.lt (fun e => e))
    have HC2 := Lib.hid (HC1.out.step (Ch.of_below (S := fun _ => False) hb2) HC1.out.size (fun _ _ e => e.elim))
    have HK2 := Lib.hid (HK1.out.below hb2)
    clear hb2
    obtain ⟨z0, z1, v0, v1⟩ := HX2.out.facts2
    go_wp2_with fail
    have hbx := box_fill2 HX2.out (x := .int .i64 0) (y := .slice none 0 0)
    obtain ⟨d0, d1, _⟩ := hbx.facts2
    refine bodyPost_ret (v := .tuple #[.agg #[.int .i64 0, .slice none 0 0], .int .i64 cd]) (by simp [results, Try.results40, go_sem, d0, d1]) rfl ?_
    have hff := HLT.out
    have hf : w.heap.size ≠ b ∧ w.heap.size ≠ t ∧ w.heap.size ≠ m ∧ w.heap.size ≠ n := by omega
    exact ⟨T1, none, 0, [], 0, cd, rfl, ⟨fun h => absurd h HR.out, fun h => absurd h HR.out, fun _ => ⟨HCD.out, rfl, rfl⟩⟩, e1, by omega, (HC2.out.setCell (p := ⟨w.heap.size, 0, none⟩) (.inl (Nat.le_refl _)) _).setCell (p := ⟨w.heap.size, 1, none⟩) (.inl (Nat.le_refl _)) _, (HK2.out.setCell (p := ⟨w.heap.size, 0, none⟩) hf _).setCell (p := ⟨w.heap.size, 1, none⟩) hf _, PmS.nil _, fun k hk => (by simp [Row] at hk), fun x hx => (by cases hx), fun x hx => (by cases hx)⟩
end Go.Proofs.Ytfgpchffkpomoaa.Kd

/- By a book of sums: what stands in the text Leads, once more. -/
namespace Go.Proofs.Ytfgpchffkpomoaa.Kd
set_option linter.unusedSimpArgs false
set_option linter.unusedVariables false
open Go.RowKit
def LeadsPost (w0 : World) (b t m n : Nat) (T : List ByteArray) (S : List Wd) (rt : ByteArray) (N : Nat) (x : Pt) (e : Ending) (w' : World) : Prop :=
  ∃ T' r, e = .returned (.bool r) ∧ Hid (r = ledP (hh T') rt N x) ∧ Hid (r = true → LedIn T' N x) ∧ Ext T T' ∧ T'.length ≤ T.length + x.sides.length + 2 ∧ Ch w0.heap.size (· = m) w0 w' ∧ Bk w' b t m n T' S
theorem led_join {T1 T2 : List ByteArray} {key val : ByteArray} {sides : List ByteArray} {i N : Nat} {d y rt : ByteArray} (hd : d = hh T1 (leafT ⟨key, val⟩)) (hm : leafT ⟨key, val⟩ ∈ T1) (e : Ext T1 T2) (c : ClimbIn T2 d i N sides) (q : (y, true) = climbP (hh T2) d i N sides) (hi : i < N) :
    decide ((digS T2 (rootT N y)).1 = rt) = ledP (hh (digS T2 (rootT N y)).2) rt N ⟨i, key, val, sides⟩ ∧ LedIn (digS T2 (rootT N y)).2 N ⟨i, key, val, sides⟩ ∧ Ext T2 (digS T2 (rootT N y)).2 := by
  obtain ⟨kn1, kn2, kn3⟩ := dig_known T2 (rootT N y)
  rw [kn3]
  obtain ⟨T3, hT3⟩ : ∃ x1, x1 = (digS T2 (rootT N y)).2 := ⟨_, rfl⟩
  rw [← hT3] at kn1 kn2 ⊢
  have hl := hh_ext (e.trans kn1) hm
  obtain ⟨a1, a2⟩ := c.ext kn1
  rw [← q] at a2
  subst hd
  rw [← hl] at a1 a2
  have hrc : Pt.rc ⟨(i : Int), key, val, sides⟩ = ⟨key, val⟩ := rfl
  refine ⟨?_, ⟨(e.trans kn1).mem hm, ?_, ?_⟩, kn1⟩
  · unfold ledP
    simp only [Int.toNat_natCast, hrc]
    have h1 : decide ((i : Int) < (N : Int)) = true := by simp; omega
    rw [h1, a2]
    rfl
  · simp only [Int.toNat_natCast, hrc]
    exact a1
  · simp only [Int.toNat_natCast, hrc]
    rw [a2]
    exact kn2
theorem led_not {T1 T2 : List ByteArray} {key val : ByteArray} {sides : List ByteArray} {i N : Nat} {d y rt : ByteArray} (hd : d = hh T1 (leafT ⟨key, val⟩)) (hm : leafT ⟨key, val⟩ ∈ T1) (e : Ext T1 T2) (q : (y, false) = climbP (hh T2) d i N sides) : false = ledP (hh T2) rt N ⟨i, key, val, sides⟩ := by
  have hl := hh_ext e hm
  subst hd
  rw [← hl] at q
  unfold ledP
  have hrc : Pt.rc ⟨(i : Int), key, val, sides⟩ = ⟨key, val⟩ := rfl
  simp only [Int.toNat_natCast, hrc]
  rw [← q]
  simp

set_option maxHeartbeats 2000000 in
set_option maxRecDepth 100000 in
theorem leads_calls (b t m n : Nat) (T : List ByteArray) (S : List Wd) (rt : ByteArray) (N : Nat) (i : Nat) (key val : ByteArray) (sides : List ByteArray) (A : Option Addr) (c : Nat) (w : World) (hb : Bk w b t m n T S) (hT : T.length ≤ 500000000) (hN : N ≤ 100000) (hi : i ≤ 100000) (hk : key.size ≤ 4096) (hv : val.size ≤ 4096) (hss : ∀ s ∈ sides, s.size ≤ 1000) (hl : sides.length ≤ 1000) (hts : TxS w A c sides) (hc : sides.length ≤ c) (hA : Off A sides.length m) :
    Calls Try.prog 108 #[.pointer (some ⟨b, 0, none⟩), .string rt, .int .i64 N, .agg #[.int .i64 i, .string key, .string val, .slice A sides.length c]] w (LeadsPost w b t m n T S rt N ⟨i, key, val, sides⟩) := by
  have hlt0 := hb.all_lt
  have hbl := (Below.refl w.heap.size w).alloc (Nat.le_refl _) (.cells #[.int .i64 i, .string key, .string val, .slice A sides.length c] 179)
  have HX := Lib.hid (Box.new w #[.int .i64 i, .string key, .string val, .slice A sides.length c] 179)
  have HBL := Lib.hid hbl
  have HBK := Lib.hid (hb.alloc (.cells #[.int .i64 i, .string key, .string val, .slice A sides.length c] 179))
  have HTS := Lib.hid (hts.below hbl)
  have HA := Lib.hid hA
  have HSS := Lib.hid hss
  clear hb hts hA hss hbl
  obtain ⟨x0, x1, x2, x3⟩ := box4 HX.out
  by_cases hlt : i < N
  · have hd0 : decide ((N : Int) ≤ (i : Int)) = false := by simp; omega
    have HLF := Lib.hid (fun w hb => leaf_calls b t m n T S ⟨key, val⟩ w hb (by omega) (by simp only [maxLen, Go.maxLen]; omega) (by simp only [maxLen, Go.maxLen]; omega))
    obtain ⟨kn1, kn2, kn3⟩ := dig_known T (leafT ⟨key, val⟩)
    have kl := digT_len T (leafT ⟨key, val⟩)
    have k8 := hh_size T (leafT ⟨key, val⟩)
    unfold hh at k8
    obtain ⟨⟨d, T1⟩, hq⟩ : ∃ q, q = digS T (leafT ⟨key, val⟩) := ⟨_, rfl⟩
    rw [← hq] at HLF kn1 kn2 kn3 kl k8
    simp only at HLF kn1 kn2 kn3 kl k8
    clear hq
    have KN1 := Lib.hid kn1
    have KN2 := Lib.hid kn2
    have KN3 := Lib.hid kn3
    clear kn1 kn2 kn3
    have HCL := Lib.hid (fun w hb hts => climb_calls b t m n S d (by omega) N T1 A c sides i w (by omega) hN hb (by omega) hts hc hi HSS.out HA.out)
    have hml := hlt0.2.2.1
    go_enter Try.func108, Try.ntmps108
    go_wp2_with fail
    have hbk := HBK.out.drew
    have hst := HTS.out.drew
    have hbx := HX.out.drew
    have hcc := (Ch.of_below (S := (· = m)) HBL.out).drew
    go_region_held3 (fun w' => w'.cell? ⟨w.heap.size, 0, none⟩ = some (.int .i64 i) ∧ w'.cell? ⟨w.heap.size, 1, none⟩ = some (.string key) ∧ w'.cell? ⟨w.heap.size, 2, none⟩ = some (.string val) ∧ w'.cell? ⟨w.heap.size, 3, none⟩ = some (.slice A sides.length c)) (first | exact box4 hbx2 | exact box4 hbx1 | exact box4 hbx) (first | (go_at_call 139; refine (HLF.out _ hbk).mono ?_; rintro e w1 ⟨rfl, ch1, k1⟩; have hbx1 := hbx.ch ch1 hbx.lt (by omega); have hst1 := hst.off ch1 HA.out; have hz1 : w.heap.size + 1 ≤ w1.heap.size := (by have := ch1.size; simpa using this)) | (go_at_call 160; refine (HCL.out _ k1 hst1).mono ?_; rintro e w2 ⟨T2, y, ok, rfl, q2, ys, e2, l2, i2, ch2, k2⟩; have hbx2 := hbx1.ch ch2 hbx1.lt (by omega)))
    all_goals
      have hc2 := (hcc.step ch1 (by simp) (fun _ _ e => e)).step ch2 (by omega) (fun _ _ e => e)
      have hz2 := hc2.size
      cases ok with
      | false =>
        go_wp2
        go_ret
        exact ⟨T2, false, rfl, led_not KN3.out KN2.out e2 q2.out, fun h => (by cases h), KN1.out.trans e2, by simp only; omega, hc2, k2⟩
      | true =>
        have hrt := mroot_calls b t m n T2 S N y w2 k2 (by omega) (by omega) (Nat.le_trans ys (by decide))
        have hrl := digT_len T2 (rootT N y)
        obtain ⟨j1, j2, j3⟩ := led_join (rt := rt) KN3.out KN2.out e2 i2 q2.out hlt
        have J1 := Lib.hid j1
        have J2 := Lib.hid j2
        have J3 := Lib.hid ((KN1.out.trans e2).trans j3)
        clear j1 j2 j3
        obtain ⟨⟨g, T3⟩, hq⟩ : ∃ q, q = digS T2 (rootT N y) := ⟨_, rfl⟩
        rw [← hq] at hrt hrl J1 J2 J3
        have HRT := Lib.hid hrt
        clear hrt hq
        simp only at hrl
        have HBL2 := Lib.hid (beq_list g rt)
        go_wp2_with fail
        refine HRT.out.mono ?_
        rintro e w3 ⟨rfl, ch3, k3⟩
        go_wp2
        go_ret
        exact ⟨T3, decide (g = rt), ret_bool (beq_list g rt), J1.out, fun _ => J2.out, J3.out, by simp only; omega, hc2.step ch3 hz2 (fun _ _ e => e), k3⟩
  · have hd0 : decide ((N : Int) ≤ (i : Int)) = true := by simp; omega
    go_enter Try.func108, Try.ntmps108
    go_wp2
    go_ret
    refine ⟨T, false, rfl, ?_, fun h => (by cases h), Ext.refl _, by omega, Ch.of_below HBL.out, HBK.out⟩
    have h1 : decide ((i : Int) < (N : Int)) = false := by simp; omega
    show false = _
    unfold ledP
    rw [h1]
    rfl
end Go.Proofs.Ytfgpchffkpomoaa.Kd

/- By a book of sums: what stands in the text Verify, once more. -/
namespace Go.Proofs.Ytfgpchffkpomoaa.Kd
set_option linter.unusedSimpArgs false
set_option linter.unusedVariables false
open Go.RowKit
def VerifyPost (w0 : World) (b t m n : Nat) (T : List ByteArray) (S : List Wd) (rt key : ByteArray) (count : Int) (ps : List Pt) (e : Ending) (w' : World) : Prop :=
  ∃ T' v has cd, e = .returned (.tuple #[.string v, .bool has, .int .i64 cd]) ∧ Hid ((v, has, cd) = verifyP (hh T') rt key count ps) ∧ Hid (cd = 0 → VerIn T' count ps) ∧ Ext T T' ∧ T'.length ≤ T.length + 100 ∧ Ch w0.heap.size (· = m) w0 w' ∧ Bk w' b t m n T' S
set_option maxHeartbeats 4000000 in
set_option maxRecDepth 100000 in
theorem mVerify_calls (b t m n : Nat) (T : List ByteArray) (S : List Wd) (rt key : ByteArray) (count : Int) (A : Option Addr) (c : Nat) (ps : List Pm) (w : World) (hb : Bk w b t m n T S) (hT : T.length ≤ 100000000) (hs : PmS w A c ps) (hcap : ∀ x ∈ ps, x.sides.length ≤ x.c) (hA : Off A ps.length m) (hP : ∀ x ∈ ps, Off x.A x.sides.length m) :
    Calls Try.prog 44 #[.pointer (some ⟨b, 0, none⟩), .string rt, .string key, .agg #[.int .i64 count, .slice A ps.length c]] w (VerifyPost w b t m n T S rt key count (ps.map Pm.pt)) := by
  have hlt0 := hb.all_lt
  have hml := hlt0.2.2.1
  have hbl := (Below.refl w.heap.size w).alloc (Nat.le_refl _) (.cells #[.int .i64 count, .slice A ps.length c] 35)
  have HX0 := Lib.hid (Box.new w #[.int .i64 count, .slice A ps.length c] 35)
  have HBL := Lib.hid hbl
  have HBK := Lib.hid (hb.alloc (.cells #[.int .i64 count, .slice A ps.length c] 35))
  have HS := Lib.hid hs
  have hfit := hs.1.fits
  have HCAP := Lib.hid hcap
  have HK := Lib.hid (known_calls b t m n T S _ HBK.out (by omega))
  have HF := Lib.hid (fun w => mfits_calls key w)
  have HA := Lib.hid hA
  have HP := Lib.hid hP
  have hdl := digT_len T ⟨#[]⟩
  have hke := (dig_known T ⟨#[]⟩).1
  obtain ⟨T1, hT1⟩ : ∃ x, x = (digS T ⟨#[]⟩).2 := ⟨_, rfl⟩
  rw [← hT1] at HK hdl hke
  have HKE := Lib.hid hke
  clear hT1 hke hb hs hcap hA hP hbl
  by_cases hf : fitK key = true
  · have HFK := Lib.hid hf
    rw [hf] at HF
    clear hf
    by_cases hp : pfOk count (ps.map Pm.pt) = true
    · have HPF := Lib.hid hp
      obtain ⟨p1, p2, p3⟩ := pfOk_iff hp
      have HPP := Lib.hid (fun w hs => wproof_calls count A c ps w hs)
      have hpe : proofE count (ps.map Pm.pt) = (bs (putPf count (ps.map Pm.pt)), 0) := by unfold proofE; rw [if_pos hp]
      rw [hpe] at HPP
      clear hpe hp
      obtain ⟨bv, hbv⟩ : ∃ bv, bv = bs (putPf count (ps.map Pm.pt)) := ⟨_, rfl⟩
      rw [← hbv] at HPP
      clear hbv
      rw [List.length_map] at p2
      have HPT := Lib.hid p3
      obtain ⟨N, rfl⟩ : ∃ N : Nat, count = (N : Int) := ⟨count.toNat, by omega⟩
      have hN : N ≤ 4096 := by omega
      clear p1 p3
      go_enter Try.func44, Try.ntmps44
      go_wp2_with fail
      refine HK.out.mono ?_
      rintro e w1 ⟨rfl, hc1, hk1⟩
      have hz1 : w.heap.size + 1 ≤ w1.heap.size := by have := hc1.size; simpa using this
      have HX1 := Lib.hid (HX0.out.ch hc1 HX0.out.lt (by omega))
      have HC1 := Lib.hid ((Ch.of_below (S := (· = m)) HBL.out).step hc1 (by simp) (fun _ _ e => e))
      have HK1 := Lib.hid hk1
      clear hc1 hk1
      go_wp2_with fail
      refine (HF.out _).mono ?_
      rintro e w2 ⟨rfl, hw⟩
      subst hw
      have HS1 := Lib.hid (HS.out.off HC1.out HA.out HP.out)
      obtain ⟨x0, x1, y0, y1⟩ := HX1.out.facts2
      go_wp2_with fail
      refine (HPP.out _ HS1.out).mono ?_
      rintro e w2 ⟨rfl, hb2⟩
      have hz2 := hb2.size
      have HX2 := Lib.hid (HX1.out.ch (Ch.of_below (S := fun _ => False) hb2) HX1.out.lt (fun e => e))
      have HC2 := Lib.hid (HC1.out.step (Ch.of_below (S := fun _ => False) hb2) HC1.out.size (fun _ _ e => e.elim))
      have HK2 := Lib.hid (HK1.out.below hb2)
      clear hb2 x0 x1 y0 y1 HK1 HX1 HS1 HC1
      obtain ⟨x0, x1, y0, y1⟩ := HX2.out.facts2
      go_wp2_with fail
      go_loopg [35] ps.length (fun g v35 wr => ∃ (k : Nat) (T2 : List ByteArray), v35 = .int .i64 k ∧ k ≤ ps.length ∧ Hid (g + k = ps.length ∧ Ext T T2 ∧ T2.length ≤ T.length + 1 + 20 * k ∧ Ch w.heap.size (· = m) w wr ∧ Bk wr b t m n T2 S ∧ Box wr w.heap.size #[.int .i64 N, .slice A ps.length c] 35 ∧ ∀ x ∈ (ps.take k).map Pm.pt, ledP (hh T2) rt N x = true ∧ LedIn T2 N x))
      case atStart => exact ⟨0, T1, rfl, by omega, by omega, HKE.out, by omega, HC2.out, HK2.out, HX2.out, fun x hx => by simp at hx⟩
      case round =>
        clear HX2 HC2 HK2 x0 x1 y0 y1
        obtain ⟨k, T2, rfl, hk, HH⟩ := hrel
        obtain ⟨hg, he, hl2, hc, hbk, hbx, hled⟩ := HH.out
        have HG := Lib.hid hg
        have HE := Lib.hid he
        have HL2 := Lib.hid hl2
        have HC := Lib.hid hc
        have HBK2 := Lib.hid hbk
        have HBX := Lib.hid hbx
        have HLED := Lib.hid hled
        have hsz := hbx.lt
        clear HH hg he hl2 hc hbk hled
        obtain ⟨x0, x1, y0, y1⟩ := hbx.facts2
        clear hbx
        have HSR := Lib.hid (HS.out.off HC.out HA.out HP.out)
        by_cases hlt : k < ps.length
        · have hd2 : decide ((k : Int) < (ps.length : Int)) = true := by simp; omega
          obtain ⟨a, rfl, e0, e1, e2, e3, hsx⟩ := HSR.out.elem k hlt
          have hmem : ps[k].pt ∈ ps.map Pm.pt := List.mem_map_of_mem (List.getElem_mem hlt)
          have hgood := HPT.out _ hmem
          have hcapk := HCAP.out _ (List.getElem_mem hlt)
          have hrowk := HP.out _ (List.getElem_mem hlt)
          have hnx : (ps.take (k + 1)).map Pm.pt = (ps.take k).map Pm.pt ++ [ps[k].pt] := by rw [List.take_succ_eq_append_getElem hlt, List.map_append]; rfl
          obtain ⟨⟨xi, xk, xv, xs, xA, xc⟩, hx⟩ : ∃ x, x = ps[k] := ⟨_, rfl⟩
          rw [← hx] at e0 e1 e2 e3 hsx hmem hgood hcapk hrowk hnx
          clear hx
          simp only [Pm.pt] at e0 e1 e2 e3 hsx hmem hgood hcapk hrowk hnx
          obtain ⟨g1, g2, g3, g4, g5⟩ := hgood
          obtain ⟨i, rfl⟩ : ∃ i : Nat, xi = (i : Int) := ⟨xi.toNat, by omega⟩
          have hxfit := hsx.fits
          have HSX := Lib.hid hsx
          have HMEM := Lib.hid hmem
          have HNX := Lib.hid hnx
          have hal := (Below.refl wr.heap.size wr).alloc (Nat.le_refl _) (.cells #[.int .i64 i, .string xk, .string xv, .slice xA xs.length xc] 179)
          have hl2 := HL2.out
          have HLD := Lib.hid (leads_calls b t m n T2 S rt N i xk xv xs xA xc _ (HBK2.out.alloc (.cells #[.int .i64 i, .string xk, .string xv, .slice xA xs.length xc] 179)) (by omega) (by omega) (by omega) (by omega) (by omega) (fun s hs => by have := g5 s hs; omega) (by omega) (hsx.below hal) hcapk hrowk)
          have HAL := Lib.hid hal
          have hxl : xs.length ≤ 13 := g4
          clear hsx hmem hnx hal g1 g2 g3 g4 g5 hcapk hrowk hl2
          obtain ⟨q0, q1, _⟩ := (HBX.out.alloc (.cells #[.int .i64 i, .string xk, .string xv, .slice xA xs.length xc] 179)).facts2
          go_wp2_with fail
          refine HLD.out.mono ?_
          rintro e w4 ⟨T3, r, rfl, hr1, hr2, e3', l3, ch3, k3⟩
          have hsz4 : wr.heap.size + 1 ≤ w4.heap.size := by have := ch3.size; simpa using this
          have HC4 := Lib.hid ((HC.out.step (Ch.of_below (S := fun _ => False) HAL.out) HC.out.size (fun _ _ e => e.elim)).step ch3 (by have := HC.out.size; simp; omega) (fun _ _ e => e))
          have HBX4 := Lib.hid ((HBX.out.alloc (.cells #[.int .i64 i, .string xk, .string xv, .slice xA xs.length xc] 179)).ch ch3 (by simp; omega) (by omega))
          clear x0 x1 y0 y1 q0 q1 e0 e1 e2 e3
          cases r with
          | false =>
            go_wp2
            refine bodyPost_ret (v := .tuple #[.string ⟨#[]⟩, .bool false, .int .i64 40]) (by simp [results, Try.results44, go_sem]) rfl ?_
            exact ⟨T3, ⟨#[]⟩, false, 40, rfl, ver_noled HFK.out HPF.out HMEM.out (by rw [Int.toNat_natCast]; exact hr1.out.symm), fun h => (by cases h), HE.out.trans e3', by have := HL2.out; omega, HC4.out, k3⟩
          | true =>
            go_wp2
            go_roundg (gk - 1)
            case measure => have := HG.out; omega
            case rel => exact ⟨k + 1, T3, by go_num, by omega, by have := HG.out; omega, HE.out.trans e3', by have := HL2.out; omega, HC4.out, k3, HBX4.out, fun x hx => by
              rw [HNX.out, List.mem_append] at hx
              rcases hx with hx | hx
              · obtain ⟨u1, u2⟩ := HLED.out x hx
                obtain ⟨v1, v2⟩ := u2.ext e3'
                exact ⟨(v2 rt).trans u1, v1⟩
              · obtain rfl := List.mem_singleton.1 hx
                exact ⟨hr1.out.symm, hr2.out (by simp)⟩⟩
        · have hd2 : decide ((k : Int) < (ps.length : Int)) = false := by simp; omega
          obtain rfl : k = ps.length := by omega
          have hled := HLED.out
          rw [List.take_length] at hled
          have HLD := Lib.hid hled
          have hl2 := HL2.out
          clear hled HLED
          clear HG HL2
          rcases ps with _ | ⟨x, _ | ⟨y, _ | ⟨z, ps⟩⟩⟩
          · have HSW := Lib.hid (show ∀ h, verifyP h rt key N [] = shownE h rt key N [] from fun h => ver_shown HFK.out HPF.out (fun x hx => by cases hx))
            by_cases hN0 : N = 0
            · subst hN0
              have hrt := mroot_calls b t m n T2 S 0 ⟨#[]⟩ wr HBK2.out (by omega) (by omega) (by simp [ByteArray.size, maxLen])
              have hrl := digT_len T2 (rootT 0 ⟨#[]⟩)
              obtain ⟨kn1, kn2, kn3⟩ := dig_known T2 (rootT 0 ⟨#[]⟩)
              rw [show ((0 : Nat) : Int) = 0 from rfl] at hrt
              obtain ⟨⟨g, T3⟩, hq⟩ : ∃ q, q = digS T2 (rootT 0 ⟨#[]⟩) := ⟨_, rfl⟩
              rw [← hq] at hrt hrl kn1 kn2 kn3
              simp only at hrl kn1 kn2 kn3
              have HRT := Lib.hid hrt
              have KN1 := Lib.hid kn1
              have KN2 := Lib.hid kn2
              have KN3 := Lib.hid kn3
              clear hrt hq kn1 kn2 kn3
              have HBQ := beq_list g rt
              by_cases hg : g = rt
              · rw [decide_eq_true hg] at HBQ
                have HGR := Lib.hid hg
                clear hg
                go_wp2_with fail
                refine HRT.out.mono ?_
                rintro e w4 ⟨rfl, ch3, k3⟩
                go_wp2
                go_ret3
                refine ⟨T3, ⟨#[]⟩, false, 0, rfl, ?_, fun _ => ⟨fun x hx => (by cases hx), fun _ => KN2.out⟩, HE.out.trans KN1.out, by omega, HC.out.step ch3 HC.out.size (fun _ _ e => e), k3⟩
                show _ = _
                rw [List.map_nil, HSW.out]
                unfold shownE
                rw [if_pos ⟨rfl, by rw [← KN3.out, HGR.out]⟩]
              · rw [decide_eq_false hg] at HBQ
                have HGR := Lib.hid hg
                clear hg
                go_wp2_with fail
                refine HRT.out.mono ?_
                rintro e w4 ⟨rfl, ch3, k3⟩
                go_wp2
                go_ret3
                refine ⟨T3, ⟨#[]⟩, false, 40, rfl, ?_, fun h => (by cases h), HE.out.trans KN1.out, by omega, HC.out.step ch3 HC.out.size (fun _ _ e => e), k3⟩
                show _ = _
                rw [List.map_nil, HSW.out]
                unfold shownE
                rw [if_neg (fun h => HGR.out (by rw [KN3.out]; exact h.2))]
            · have hn0 : ((N : Int) == 0) = false := by rw [beq_eq_false_iff_ne]; omega
              have HN0 := Lib.hid hN0
              clear hN0
              go_wp2
              go_ret3
              refine ⟨T2, ⟨#[]⟩, false, 40, rfl, ?_, fun h => (by cases h), HE.out, by omega, HC.out, HBK2.out⟩
              show _ = _
              rw [List.map_nil, HSW.out]
              unfold shownE
              rw [if_neg (fun h => HN0.out (by have := h.1; omega))]
          · have hgood := HPT.out x.pt (by simp)
            obtain ⟨aa, rfl, e0, e1, e2, e3, hsx⟩ := HSR.out.elem 0 (by simp)
            simp only [List.getElem_cons_zero] at e0 e1 e2 e3 hsx
            rw [show aa.add (0 * 4) = aa by simp [Addr.add]] at e0 e1 e2 e3
            obtain ⟨xi, xk, xv, xs, xA, xc⟩ := x
            simp only [Pm.pt] at e0 e1 e2 e3 hsx hgood
            obtain ⟨g1, _⟩ := hgood
            obtain ⟨i, rfl⟩ : ∃ i : Nat, xi = (i : Int) := ⟨xi.toNat, by omega⟩
            have hxfit := hsx.fits
            have HV := Lib.hid (show VerIn T2 N [⟨i, xk, xv, xs⟩] from ⟨fun x hx => (by rw [Int.toNat_natCast]; exact (HLD.out x hx).2), fun h => (by cases h)⟩)
            have HSW := Lib.hid (show verifyP (hh T2) rt key N [⟨i, xk, xv, xs⟩] = shownE (hh T2) rt key N [⟨i, xk, xv, xs⟩] from ver_shown HFK.out HPF.out (fun x hx => by rw [Int.toNat_natCast]; exact (HLD.out x hx).1))
            have hcf := HC.out.alloc HC.out.size (.cells #[.int .i64 i, .string xk, .string xv, .slice xA xs.length xc] 179)
            have HCF := Lib.hid hcf
            have HKF := Lib.hid (HBK2.out.alloc (.cells #[.int .i64 i, .string xk, .string xv, .slice xA xs.length xc] 179))
            obtain ⟨q0, q1, _⟩ := (HBX.out.alloc (.cells #[.int .i64 i, .string xk, .string xv, .slice xA xs.length xc] 179)).facts2
            clear hsx hcf
            have hbq := beq_list xk key
            by_cases hk : xk = key
            · rw [decide_eq_true hk] at hbq
              have HKK := Lib.hid hk
              clear hk
              go_wp2
              go_ret3
              refine ⟨T2, xv, true, 0, rfl, ?_, fun _ => HV.out, HE.out, by simp only [List.length_cons, List.length_nil] at hl2; omega, HCF.out, HKF.out⟩
              show _ = verifyP (hh T2) rt key N [⟨i, xk, xv, xs⟩]
              rw [HSW.out]
              unfold shownE
              dsimp only
              rw [if_pos HKK.out]
            · rw [decide_eq_false hk] at hbq
              have HKK := Lib.hid hk
              have hbq2 : (key.toList == xk.toList) = false := by rw [beq_list, decide_eq_false (fun e => hk e.symm)]
              have hsw : lsB xk key = !lsB key xk := by
                cases h1 : lsB key xk with
                | true =>
                  cases h2 : lsB xk key with
                  | false => rfl
                  | true => have := lsB_trans h1 h2; rw [lsB_irrefl] at this; cases this
                | false =>
                  cases h2 : lsB xk key with
                  | false => exact absurd (lsB_tri h2 h1) hk
                  | true => rfl
              have HSWP := Lib.hid hsw
              have hwr : IntKind.i64.wrap ((N : Int) - 1) = (N : Int) - 1 := wrap_small2 _ (by omega) (by omega)
              have HSE := Lib.hid (show shownE (hh T2) rt key N [⟨i, xk, xv, xs⟩] = if ((i : Int) = 0 ∧ lsB key xk = true) ∨ ((i : Int) = N - 1 ∧ lsB xk key = true) then (⟨#[]⟩, false, 0) else (⟨#[]⟩, false, 40) by unfold shownE; dsimp only; rw [if_neg hk])
              clear hk hsw
              obtain ⟨pl, hpl⟩ : ∃ pl, pl = lsB key xk := ⟨_, rfl⟩
              have hpl2 : Op.bytesLess key.toList xk.toList = pl := hpl.symm
              have HPL := Lib.hid hpl
              clear hpl
              by_cases h0 : (i : Int) = 0
              · have hb0 : ((i : Int) == 0) = true := by rw [beq_iff_eq]; exact h0
                by_cases h1 : (i : Int) = N - 1
                · have hb1 : ((i : Int) == (N : Int) - 1) = true := by rw [beq_iff_eq]; exact h1
                  have H0 := Lib.hid h0
                  have H1 := Lib.hid h1
                  clear h0 h1
                  cases pl
                  all_goals
                    go_wp2
                    go_ret3
                    first
                      | refine ⟨T2, ⟨#[]⟩, false, 0, rfl, ?_, fun _ => HV.out, HE.out, by simp only [List.length_cons, List.length_nil] at hl2; omega, HCF.out, HKF.out⟩
                        show _ = verifyP (hh T2) rt key N [⟨i, xk, xv, xs⟩]
                        rw [HSW.out, HSE.out, if_pos (by rw [HSWP.out, ← HPL.out]; first | exact .inl ⟨H0.out, rfl⟩ | exact .inr ⟨H1.out, rfl⟩)]
                      | refine ⟨T2, ⟨#[]⟩, false, 40, rfl, ?_, fun h => (by cases h), HE.out, by simp only [List.length_cons, List.length_nil] at hl2; omega, HCF.out, HKF.out⟩
                        show _ = verifyP (hh T2) rt key N [⟨i, xk, xv, xs⟩]
                        rw [HSW.out, HSE.out, if_neg (by rw [HSWP.out, ← HPL.out]; rintro (⟨u, v⟩ | ⟨u, v⟩) <;> first | exact H0.out u | exact H1.out u | cases v)]
                · have hb1 : ((i : Int) == (N : Int) - 1) = false := by rw [beq_eq_false_iff_ne]; exact h1
                  have H0 := Lib.hid h0
                  have H1 := Lib.hid h1
                  clear h0 h1
                  cases pl
                  all_goals
                    go_wp2
                    go_ret3
                    first
                      | refine ⟨T2, ⟨#[]⟩, false, 0, rfl, ?_, fun _ => HV.out, HE.out, by simp only [List.length_cons, List.length_nil] at hl2; omega, HCF.out, HKF.out⟩
                        show _ = verifyP (hh T2) rt key N [⟨i, xk, xv, xs⟩]
                        rw [HSW.out, HSE.out, if_pos (by rw [HSWP.out, ← HPL.out]; first | exact .inl ⟨H0.out, rfl⟩ | exact .inr ⟨H1.out, rfl⟩)]
                      | refine ⟨T2, ⟨#[]⟩, false, 40, rfl, ?_, fun h => (by cases h), HE.out, by simp only [List.length_cons, List.length_nil] at hl2; omega, HCF.out, HKF.out⟩
                        show _ = verifyP (hh T2) rt key N [⟨i, xk, xv, xs⟩]
                        rw [HSW.out, HSE.out, if_neg (by rw [HSWP.out, ← HPL.out]; rintro (⟨u, v⟩ | ⟨u, v⟩) <;> first | exact H0.out u | exact H1.out u | cases v)]
              · have hb0 : ((i : Int) == 0) = false := by rw [beq_eq_false_iff_ne]; exact h0
                by_cases h1 : (i : Int) = N - 1
                · have hb1 : ((i : Int) == (N : Int) - 1) = true := by rw [beq_iff_eq]; exact h1
                  have H0 := Lib.hid h0
                  have H1 := Lib.hid h1
                  clear h0 h1
                  cases pl
                  all_goals
                    go_wp2
                    go_ret3
                    first
                      | refine ⟨T2, ⟨#[]⟩, false, 0, rfl, ?_, fun _ => HV.out, HE.out, by simp only [List.length_cons, List.length_nil] at hl2; omega, HCF.out, HKF.out⟩
                        show _ = verifyP (hh T2) rt key N [⟨i, xk, xv, xs⟩]
                        rw [HSW.out, HSE.out, if_pos (by rw [HSWP.out, ← HPL.out]; first | exact .inl ⟨H0.out, rfl⟩ | exact .inr ⟨H1.out, rfl⟩)]
                      | refine ⟨T2, ⟨#[]⟩, false, 40, rfl, ?_, fun h => (by cases h), HE.out, by simp only [List.length_cons, List.length_nil] at hl2; omega, HCF.out, HKF.out⟩
                        show _ = verifyP (hh T2) rt key N [⟨i, xk, xv, xs⟩]
                        rw [HSW.out, HSE.out, if_neg (by rw [HSWP.out, ← HPL.out]; rintro (⟨u, v⟩ | ⟨u, v⟩) <;> first | exact H0.out u | exact H1.out u | cases v)]
                · have hb1 : ((i : Int) == (N : Int) - 1) = false := by rw [beq_eq_false_iff_ne]; exact h1
                  have H0 := Lib.hid h0
                  have H1 := Lib.hid h1
                  clear h0 h1
                  cases pl
                  all_goals
                    go_wp2
                    go_ret3
                    first
                      | refine ⟨T2, ⟨#[]⟩, false, 0, rfl, ?_, fun _ => HV.out, HE.out, by simp only [List.length_cons, List.length_nil] at hl2; omega, HCF.out, HKF.out⟩
                        show _ = verifyP (hh T2) rt key N [⟨i, xk, xv, xs⟩]
                        rw [HSW.out, HSE.out, if_pos (by rw [HSWP.out, ← HPL.out]; first | exact .inl ⟨H0.out, rfl⟩ | exact .inr ⟨H1.out, rfl⟩)]
                      | refine ⟨T2, ⟨#[]⟩, false, 40, rfl, ?_, fun h => (by cases h), HE.out, by simp only [List.length_cons, List.length_nil] at hl2; omega, HCF.out, HKF.out⟩
                        show _ = verifyP (hh T2) rt key N [⟨i, xk, xv, xs⟩]
                        rw [HSW.out, HSE.out, if_neg (by rw [HSWP.out, ← HPL.out]; rintro (⟨u, v⟩ | ⟨u, v⟩) <;> first | exact H0.out u | exact H1.out u | cases v)]
          · have hgood := HPT.out x.pt (by simp)
            have hgood2 := HPT.out y.pt (by simp)
            obtain ⟨aa, rfl, e0, e1, e2, e3, hsx⟩ := HSR.out.elem 0 (by simp)
            obtain ⟨ab, hab, f0, f1, f2, f3, hsy⟩ := HSR.out.elem 1 (by simp)
            obtain rfl := Option.some.inj hab
            simp only [List.getElem_cons_zero, List.getElem_cons_succ] at e0 e1 e2 e3 hsx f0 f1 f2 f3 hsy
            rw [show aa.add (0 * 4) = aa by simp [Addr.add]] at e0 e1 e2 e3
            rw [show aa.add (1 * 4) = ⟨aa.block, aa.off + 4, none⟩ by simp [Addr.add]] at f0 f1 f2 f3
            simp only at f1 f2 f3
            obtain ⟨xi, xk, xv, xs, xA, xc⟩ := x
            obtain ⟨yi, yk, yv, ys, yA, yc⟩ := y
            simp only [Pm.pt] at e0 e1 e2 e3 hsx hgood f0 f1 f2 f3 hsy hgood2
            obtain ⟨g1, _⟩ := hgood
            obtain ⟨g2, _⟩ := hgood2
            have hxfit := hsx.fits
            have hyfit := hsy.fits
            have HV := Lib.hid (show VerIn T2 N [⟨xi, xk, xv, xs⟩, ⟨yi, yk, yv, ys⟩] from ⟨fun x hx => (by rw [Int.toNat_natCast]; exact (HLD.out x hx).2), fun h => (by cases h)⟩)
            have HSW := Lib.hid (show verifyP (hh T2) rt key N [⟨xi, xk, xv, xs⟩, ⟨yi, yk, yv, ys⟩] = shownE (hh T2) rt key N [⟨xi, xk, xv, xs⟩, ⟨yi, yk, yv, ys⟩] from ver_shown HFK.out HPF.out (fun x hx => by rw [Int.toNat_natCast]; exact (HLD.out x hx).1))
            have HSE := Lib.hid (show shownE (hh T2) rt key N [⟨xi, xk, xv, xs⟩, ⟨yi, yk, yv, ys⟩] = if yi = xi + 1 ∧ lsB xk key = true ∧ lsB key yk = true then (⟨#[]⟩, false, 0) else (⟨#[]⟩, false, 40) from rfl)
            clear hsx hsy
            have hwr : IntKind.i64.wrap (xi + 1) = xi + 1 := wrap_small2 _ (by omega) (by omega)
            obtain ⟨p1, hp1⟩ : ∃ p1, p1 = lsB xk key := ⟨_, rfl⟩
            obtain ⟨p2, hp2⟩ : ∃ p2, p2 = lsB key yk := ⟨_, rfl⟩
            have hq1 : Op.bytesLess xk.toList key.toList = p1 := hp1.symm
            have hq2 : Op.bytesLess key.toList yk.toList = p2 := hp2.symm
            have HP1 := Lib.hid hp1
            have HP2 := Lib.hid hp2
            clear hp1 hp2
            have n1 := World.new_ne wr _ x1
            have m0 := World.new_ne wr _ e0
            have m1 := World.new_ne wr _ e1
            have m2 := World.new_ne wr _ e2
            have m3 := World.new_ne wr _ e3
            have o0 := World.new_ne wr _ f0
            have o1 := World.new_ne wr _ f1
            have o2 := World.new_ne wr _ f2
            have o3 := World.new_ne wr _ f3
            go_wp2_with fail
            go_cut [17, 18] (fun s17 s18 wx => ∃ i j, s17 = .pointer (some ⟨i, 0, none⟩) ∧ s18 = .pointer (some ⟨j, 0, none⟩) ∧ Hid (TwoP wr i j #[.int .i64 xi, .string xk, .string xv, .slice xA xs.length xc] #[.int .i64 yi, .string yk, .string yv, .slice yA ys.length yc] 179 wx))
            case first =>
              go_region_held3 (fun w' => w'.cell? ⟨w.heap.size, 1, none⟩ = some (.slice (some aa) 2 c) ∧ w'.cell? aa = some (.int .i64 xi) ∧ w'.cell? ⟨aa.block, aa.off + 1, none⟩ = some (.string xk) ∧ w'.cell? ⟨aa.block, aa.off + 2, none⟩ = some (.string xv) ∧ w'.cell? ⟨aa.block, aa.off + 3, none⟩ = some (.slice xA xs.length xc) ∧ w'.cell? ⟨aa.block, aa.off + 4, none⟩ = some (.int .i64 yi) ∧ w'.cell? ⟨aa.block, aa.off + 4 + 1, none⟩ = some (.string yk) ∧ w'.cell? ⟨aa.block, aa.off + 4 + 2, none⟩ = some (.string yv) ∧ w'.cell? ⟨aa.block, aa.off + 4 + 3, none⟩ = some (.slice yA ys.length yc)) (go_keep) (fail)
              all_goals
                go_wp2_with fail
                go_meet
                refine ⟨_, _, rfl, rfl, ?_⟩
                first
                  | exact TwoP.xy wr _ _ _
                  | exact TwoP.yx wr _ _ _
                  | exact (TwoP.xy wr _ _ _).drew
                  | exact (TwoP.yx wr _ _ _).drew
                  | exact (TwoP.xy wr _ _ _).drewN _
                  | exact (TwoP.yx wr _ _ _).drewN _
            case rest =>
              clear n1 m0 m1 m2 m3 o0 o1 o2 o3 e0 e1 e2 e3 f0 f1 f2 f3 x0 x1 y0 y1
              obtain ⟨i, j, rfl, rfl, HC2⟩ := hcut
              have HTW := Lib.hid HC2.out
              have HCF := Lib.hid (HC.out.step (Ch.of_below (S := fun _ => False) HTW.out.b) HC.out.size (fun _ _ e => e.elim))
              have HKF := Lib.hid (HBK2.out.below HTW.out.b)
              obtain ⟨e0, e1, e2, e3⟩ := box4 HTW.out.x
              obtain ⟨f0, f1, f2, f3⟩ := box4 HTW.out.y
              clear HC2
              by_cases h0 : yi = xi + 1
              · have hb0 : (yi == xi + 1) = true := by rw [beq_iff_eq]; exact h0
                have H0 := Lib.hid h0
                clear h0
                cases p1
                all_goals
                  cases p2
                  all_goals
                    go_wp2
                    go_ret3
                    first
                      | refine ⟨T2, ⟨#[]⟩, false, 0, rfl, ?_, fun _ => HV.out, HE.out, by simp only [List.length_cons, List.length_nil] at hl2; omega, HCF.out, HKF.out⟩
                        show _ = verifyP (hh T2) rt key N [⟨xi, xk, xv, xs⟩, ⟨yi, yk, yv, ys⟩]
                        rw [HSW.out, HSE.out, if_pos ⟨H0.out, HP1.out.symm, HP2.out.symm⟩]
                      | refine ⟨T2, ⟨#[]⟩, false, 40, rfl, ?_, fun h => (by cases h), HE.out, by simp only [List.length_cons, List.length_nil] at hl2; omega, HCF.out, HKF.out⟩
                        show _ = verifyP (hh T2) rt key N [⟨xi, xk, xv, xs⟩, ⟨yi, yk, yv, ys⟩]
                        rw [HSW.out, HSE.out, if_neg (by rw [← HP1.out, ← HP2.out]; rintro ⟨u, v, z⟩; first | exact H0.out u | exact absurd v (by decide) | exact absurd z (by decide))]
              · have hb0 : (yi == xi + 1) = false := by rw [beq_eq_false_iff_ne]; exact h0
                have H0 := Lib.hid h0
                clear h0
                cases p1
                all_goals
                  cases p2
                  all_goals
                    go_wp2
                    go_ret3
                    first
                      | refine ⟨T2, ⟨#[]⟩, false, 0, rfl, ?_, fun _ => HV.out, HE.out, by simp only [List.length_cons, List.length_nil] at hl2; omega, HCF.out, HKF.out⟩
                        show _ = verifyP (hh T2) rt key N [⟨xi, xk, xv, xs⟩, ⟨yi, yk, yv, ys⟩]
                        rw [HSW.out, HSE.out, if_pos ⟨H0.out, HP1.out.symm, HP2.out.symm⟩]
                      | refine ⟨T2, ⟨#[]⟩, false, 40, rfl, ?_, fun h => (by cases h), HE.out, by simp only [List.length_cons, List.length_nil] at hl2; omega, HCF.out, HKF.out⟩
                        show _ = verifyP (hh T2) rt key N [⟨xi, xk, xv, xs⟩, ⟨yi, yk, yv, ys⟩]
                        rw [HSW.out, HSE.out, if_neg (by rw [← HP1.out, ← HP2.out]; rintro ⟨u, v, z⟩; first | exact H0.out u | exact absurd v (by decide) | exact absurd z (by decide))]
          · simp at p2
    · have HPF := Lib.hid (show pfOk count (ps.map Pm.pt) = false by simpa using hp)
      have HPP := Lib.hid (fun w hs => wproof_calls count A c ps w hs)
      have hpe : proofE count (ps.map Pm.pt) = (⟨#[]⟩, 14) := by unfold proofE; rw [if_neg hp]
      rw [hpe] at HPP
      clear hpe hp
      go_enter Try.func44, Try.ntmps44
      go_wp2_with fail
      refine HK.out.mono ?_
      rintro e w1 ⟨rfl, hc1, hk1⟩
      have hz1 : w.heap.size + 1 ≤ w1.heap.size := by have := hc1.size; simpa using this
      have HX1 := Lib.hid (HX0.out.ch hc1 HX0.out.lt (by omega))
      have HC1 := Lib.hid ((Ch.of_below (S := (· = m)) HBL.out).step hc1 (by simp) (fun _ _ e => e))
      have HK1 := Lib.hid hk1
      clear hc1 hk1
      go_wp2_with fail
      refine (HF.out _).mono ?_
      rintro e w2 ⟨rfl, hw⟩
      subst hw
      have HS1 := Lib.hid (HS.out.off HC1.out HA.out HP.out)
      obtain ⟨x0, x1, y0, y1⟩ := HX1.out.facts2
      go_wp2_with fail
      refine (HPP.out _ HS1.out).mono ?_
      rintro e w2 ⟨rfl, hb2⟩
      go_wp2
      refine bodyPost_ret (v := .tuple #[.string ⟨#[]⟩, .bool false, .int .i64 40]) (by simp [results, Try.results44, go_sem]) rfl ?_
      exact ⟨T1, ⟨#[]⟩, false, 40, rfl, ver_nopf HFK.out HPF.out, fun h => (by cases h), HKE.out, by omega, HC1.out.step (Ch.of_below (S := fun _ => False) hb2) HC1.out.size (fun _ _ e => e.elim), HK1.out.below hb2⟩
  · have HFK := Lib.hid (show fitK key = false by simpa using hf)
    rw [HFK.out] at HF
    clear hf
    go_enter Try.func44, Try.ntmps44
    go_wp2_with fail
    refine HK.out.mono ?_
    rintro e w1 ⟨rfl, hc1, hk1⟩
    have hz1 : w.heap.size + 1 ≤ w1.heap.size := by have := hc1.size; simpa using this
    have HX1 := Lib.hid (HX0.out.ch hc1 HX0.out.lt (by omega))
    have HC1 := Lib.hid ((Ch.of_below (S := (· = m)) HBL.out).step hc1 (by simp) (fun _ _ e => e))
    have HK1 := Lib.hid hk1
    clear hc1 hk1
    go_wp2_with fail
    refine (HF.out _).mono ?_
    rintro e w2 ⟨rfl, hw⟩
    subst hw
    go_wp2
    refine bodyPost_ret (v := .tuple #[.string ⟨#[]⟩, .bool false, .int .i64 14]) (by simp [results, Try.results44, go_sem]) rfl ?_
    exact ⟨T1, ⟨#[]⟩, false, 14, rfl, ver_nofit HFK.out, fun h => (by cases h), HKE.out, by omega, HC1.out, HK1.out⟩
end Go.Proofs.Ytfgpchffkpomoaa.Kd
