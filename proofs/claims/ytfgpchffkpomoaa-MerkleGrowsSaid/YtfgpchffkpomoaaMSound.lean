/- Whatever proof is shown, if it is accepted it tells what there is: the walk. -/
import Derived.Test.YtfgpchffkpomoaaPk27
import Derived.Test.YtfgpchffkpomoaaPk28
namespace Go.Proofs.Ytfgpchffkpomoaa
set_option linter.unusedSimpArgs false
set_option linter.unusedVariables false
open Go.RowKit

theorem off_new {W : World} {A : Option Addr} {c m : Nat} {l : List Rc} (h : RcS W A c l) (hm : W.heap.size ≤ m) : Off A l.length m := fun h0 k hk => by have := h.row_lt h0 k hk; omega
theorem off_newt {W : World} {A : Option Addr} {c m : Nat} {l : List ByteArray} (h : TxS W A c l) (hm : W.heap.size ≤ m) : Off A l.length m := fun h0 k hk => by have := Sl.row_lt h (by rw [h.len]; omega) k hk; omega
theorem off_newp {W : World} {A : Option Addr} {c m : Nat} {l : List Pm} (h : PmS W A c l) (hm : W.heap.size ≤ m) : Off A l.length m := fun h0 k hk => by have := Sl.row_lt h.1 (by rw [h.1.len]; omega) k hk; omega
theorem emptyB (v : ByteArray) : v.toList.isEmpty = decide (v = ⟨#[]⟩) := by
  have h := has_text v
  by_cases e : v = ⟨#[]⟩
  · rw [decide_eq_true e]
    rw [decide_eq_false (by rw [e]; simp [ByteArray.size])] at h
    simpa using h
  · rw [decide_eq_false e]
    rw [decide_eq_true (by
      rcases Nat.eq_zero_or_pos v.size with h | h
      · exact absurd (ByteArray.size_eq_zero_iff.1 h) e
      · exact h)] at h
    simpa using h

set_option maxHeartbeats 4000000 in
set_option maxRecDepth 100000 in
theorem merkleSound_calls (A : Option Addr) (c : Nat) (l : List Rc) (key : ByteArray) (cnt : Int) (P : Option Addr) (pc : Nat) (ps : List Pm) (W : World) (hs : RcS W A c l) (hc : l.length ≤ c) (hp : PmS W P pc ps) (hcap : ∀ x ∈ ps, x.sides.length ≤ x.c) :
    Calls Try.prog 6 #[.slice A l.length c, .string key, .agg #[.int .i64 cnt, .slice P ps.length pc]] W fun e w' => e = .returned (.bool true) ∧ Below W.heap.size W w' := by
  have hfit := hs.fits
  have hal := (Below.refl W.heap.size W).alloc (Nat.le_refl _) (.cells #[.int .i64 cnt, .slice P ps.length pc] 35)
  have HBX := Lib.hid (Box.new W #[.int .i64 cnt, .slice P ps.length pc] 35)
  have HN := Lib.hid (newBook_calls (W.alloc (.cells #[.int .i64 cnt, .slice P ps.length pc] 35)))
  have HAL := Lib.hid hal
  have HF := Lib.hid (fun w hs => few_calls A c l w hs hc)
  have HS := Lib.hid hs
  have HP := Lib.hid hp
  have HFL := Lib.hid (show (fewP l).length ≤ 200 by unfold fewP; simp; omega)
  have hl2 : (fewP l).length ≤ 200 := HFL.out
  obtain ⟨L, hL⟩ : ∃ L, L = fewP l := ⟨_, rfl⟩
  have HSL := Lib.hid (show RcS W A c L by rw [hL]; exact hs.take 200)
  rw [← hL] at HF hl2
  clear hL hs hal hc
  have HCAP := Lib.hid hcap
  clear hcap hp
  go_enter Try.func6, Try.ntmps6
  go_wp2_with fail
  refine HN.out.mono ?_
  rintro e w1 ⟨b, t, m, n, rfl, hb1, hk1, hb, ht, hm, hn⟩
  have hm' : W.heap.size + 1 ≤ m := by simpa using hm
  have hz1 : W.heap.size + 1 ≤ w1.heap.size := by have := hb1.size; simpa using this
  have HB1 := Lib.hid (HAL.out.trans (hb1.mono (by simp)))
  have HBX1 := Lib.hid (HBX.out.ch (Ch.of_below (S := fun _ => False) hb1) HBX.out.lt (fun e => e))
  have HS1 := Lib.hid (HS.out.below HB1.out)
  have HSL1 := Lib.hid (HSL.out.below HB1.out)
  have HP1 := Lib.hid (HP.out.below HB1.out)
  have HO := Lib.hid (off_new (m := m) HSL.out (by omega))
  have HOP := Lib.hid (off_newp (m := m) HP.out (by omega))
  have HOX := Lib.hid (show ∀ x ∈ ps, Off x.A x.sides.length m from fun x hx => off_newt (HP.out.2 x hx) (by omega))
  have HK1 := Lib.hid hk1
  have HRT := Lib.hid (mRoot_calls b t m n [] [] A c L w1 hk1 (by decide) HSL1.out HO.out)
  have hml := hk1.all_lt.2.2.1
  clear hk1 hb1 hb ht hn hm
  go_wp2_with fail
  refine (HF.out _ HS1.out).mono ?_
  rintro e wx ⟨rfl, hw⟩
  subst hw
  go_wp2_with fail
  refine HRT.out.mono ?_
  rintro e w2 ⟨T2, x2, rfl, hx2, e2, l2, ch2, k2⟩
  have HBX2 := Lib.hid (HBX1.out.ch ch2 HBX1.out.lt (by omega))
  have HSL2 := Lib.hid (HSL1.out.off ch2 HO.out)
  have HP2 := Lib.hid (HP1.out.off ch2 HOP.out HOX.out)
  have HC2 := Lib.hid ((Ch.of_below (S := fun _ => False) HB1.out).step ch2 (by omega) (fun i hi e => by omega))
  have hz2 := HC2.out.size
  clear ch2
  by_cases hr : riseE L = 0
  · obtain ⟨hxa, hxb⟩ := hx2.out.1 hr
    have HXA := Lib.hid hxa
    have HXB := Lib.hid hxb
    have HV := Lib.hid (mVerify_calls b t m n T2 [] x2 key cnt P pc ps w2 k2 (by simp at l2; omega) HP2.out HCAP.out HOP.out HOX.out)
    have HR := Lib.hid hr
    rw [hr]
    clear hx2 hxa hxb hr k2
    obtain ⟨x0, x1, y0, y1⟩ := HBX2.out.facts2
    go_wp2_with fail
    refine HV.out.mono ?_
    rintro e w3 ⟨T3, v, has, cd, rfl, hv, hvi, e3, l3, ch3, k3⟩
    have HC3 := Lib.hid (HC2.out.step ch3 hz2 (fun i hi e => by omega))
    have HSL3 := Lib.hid (HSL2.out.off ch3 HO.out)
    have HAW := Lib.hid (fun w => awake4_calls w)
    have hroot := HXB.out.ext e3
    have HVX := Lib.hid (show (v, has, cd) = verifyP (hh T3) (rootP (hh T3) L) key cnt (ps.map Pm.pt) by rw [hv.out, HXA.out, ← hroot.2])
    have hz3 := HC3.out.size
    by_cases h0 : cd = 0
    · have ht := verify_sound (T := T3) (by simp at l2; omega) hroot.1 HR.out (key := key) (count := cnt) (ps := ps.map Pm.pt) (hvi.out h0) (by rw [← HVX.out]; exact h0)
      rw [← HVX.out] at ht
      have HTR := Lib.hid (truth_calls A c L key v has w3 HSL3.out (by omega))
      rw [ht] at HTR
      subst h0
      clear ht hroot k3 ch3 hv hvi
      go_wp2_with fail
      refine HTR.out.mono ?_
      rintro e wx ⟨rfl, hw⟩
      subst hw
      go_wp2_with fail
      refine (HAW.out _).mono ?_
      rintro e w4 ⟨rfl, hb4⟩
      go_wp2
      go_ret
      exact ⟨rfl, (HC3.out.step (Ch.of_below (S := fun _ => False) hb4) hz3 (fun _ _ e => e)).below (fun _ _ e => e)⟩
    · have hno := verify_no (hh T3) (rootP (hh T3) L) key cnt (ps.map Pm.pt) (by rw [← HVX.out]; exact h0)
      rw [← HVX.out] at hno
      simp only at hno
      obtain ⟨rfl, rfl, hcd⟩ := hno
      have hd0 : (cd == 0) = false := by rw [beq_eq_false_iff_ne]; exact h0
      have HFT := Lib.hid (fun w => rfits4_calls key w)
      clear h0 hroot k3 ch3 hv hvi
      rcases hcd with rfl | ⟨rfl, hfk⟩
      · go_wp2_with fail
        refine (HAW.out _).mono ?_
        rintro e w4 ⟨rfl, hb4⟩
        go_wp2
        go_ret
        exact ⟨rfl, (HC3.out.step (Ch.of_below (S := fun _ => False) hb4) hz3 (fun _ _ e => e)).below (fun _ _ e => e)⟩
      · rw [hfk] at HFT
        clear hfk
        go_wp2_with fail
        refine (HFT.out _).mono ?_
        rintro e wx ⟨rfl, hw⟩
        subst hw
        go_wp2_with fail
        refine (HAW.out _).mono ?_
        rintro e w4 ⟨rfl, hb4⟩
        go_wp2
        go_ret
        exact ⟨rfl, (HC3.out.step (Ch.of_below (S := fun _ => False) hb4) hz3 (fun _ _ e => e)).below (fun _ _ e => e)⟩
  · have HRI := Lib.hid (rrise_calls A c L w2 HSL2.out)
    have HAW := Lib.hid (fun w => awake4_calls w)
    obtain ⟨cd, hcd⟩ : ∃ cd, cd = riseE L := ⟨_, rfl⟩
    rw [← hcd] at HRI hr ⊢
    have hd0 : (cd == 0) = false := by rw [beq_eq_false_iff_ne]; exact hr
    clear hcd hx2 k2 hr
    go_wp2_with fail
    refine HRI.out.mono ?_
    rintro e w3 ⟨rfl, hb3⟩
    have HC3 := Lib.hid (HC2.out.step (Ch.of_below (S := fun _ => False) hb3) hz2 (fun i hi e => e))
    have hz3 := HC3.out.size
    go_wp2_with fail
    refine (HAW.out _).mono ?_
    rintro e w4 ⟨rfl, hb4⟩
    go_wp2
    go_ret
    exact ⟨rfl, (HC3.out.step (Ch.of_below (S := fun _ => False) hb4) hz3 (fun _ _ e => e)).below (fun _ _ e => e)⟩
end Go.Proofs.Ytfgpchffkpomoaa
