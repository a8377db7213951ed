/- The document's own reading of bytes as a batch. -/
import Derived.Test.YtehbpjkeflcanaaOfBatch
namespace Go.Proofs.Ytehbpjkeflcanaa
set_option linter.unusedSimpArgs false
set_option linter.unusedVariables false
open Go.RowKit

set_option maxRecDepth 100000 in
theorem rofBatch_calls (s : ByteArray) (w : World) (hs : s.size ≤ maxLen) : Calls Try.prog 42 #[.string s] w (OfBatchPost (ofBatchE s) w) := by
  have HB := Lib.hid (Below.refl w.heap.size w)
  by_cases h : 1048576 < s.size
  · unfold maxLen at hs
    have HE := Lib.hid (show ofBatchE s = ([], 4) by unfold ofBatchE; rw [if_pos h])
    have hd : decide ((1048576 : Int) < (s.size : Int)) = true := by simp; omega
    go_enter Try.func42, Try.ntmps42
    go_wp2
    go_ret2
    unfold OfBatchPost
    rw [HE.out]
    exact ⟨none, 0, rfl, HB.out, World.ownsRow_nil _ _ _ _⟩
  · have hd : decide ((1048576 : Int) < (s.size : Int)) = false := by simp; omega
    have HG := Lib.hid (ofBatch_near_eq h)
    have HM := Lib.hid (fun w => rMany_calls s 0 4 w hs (Nat.zero_le _) (by decide))
    unfold ManyPost at HM
    clear hs
    cases hm : manyAt s 4 0 with
    | error c =>
      rw [hm] at HG HM
      simp only at HG HM
      have hd3 : ((c : Int) == 0) = false := by rcases manyAt_err hm with rfl | rfl | rfl | rfl <;> rfl
      clear hm
      go_enter Try.func42, Try.ntmps42
      go_wp2_with fail
      refine (HM.out _).mono ?_
      rintro e w1 ⟨hb, rfl⟩
      go_wp2
      go_ret2
      unfold OfBatchPost
      rw [HG.out]
      exact ⟨none, 0, rfl, hb, World.ownsRow_nil _ _ _ _⟩
    | ok r =>
      obtain ⟨l, p⟩ := r
      have hb := manyAt_bd hm
      rw [hm] at HG HM
      simp only at HG HM
      clear hm
      by_cases hend : p < s.size
      · have hd4 : decide ((p : Int) < (s.size : Int)) = true := by simp; omega
        rw [if_pos hend] at HG
        go_enter Try.func42, Try.ntmps42
        go_wp2_with fail
        refine (HM.out _).mono ?_
        rintro e w1 ⟨hb, A, c, rfl, ho⟩
        have HB1 := Lib.hid hb
        clear hb ho
        go_wp2
        go_ret2
        unfold OfBatchPost
        rw [HG.out]
        exact ⟨none, 0, rfl, HB1.out, World.ownsRow_nil _ _ _ _⟩
      · have hd4 : decide ((p : Int) < (s.size : Int)) = false := by simp; omega
        rw [if_neg hend] at HG
        obtain ⟨fa, hfa⟩ : ∃ fa, fa = fitAllB l := ⟨_, rfl⟩
        have HFA := Lib.hid (fun A c w hs => rfitAll_calls A c l w hs)
        rw [← hfa] at HG HFA
        clear hfa
        go_enter Try.func42, Try.ntmps42
        go_wp2_with fail
        refine (HM.out _).mono ?_
        rintro e w1 ⟨hb, A, c, rfl, ho⟩
        have HB1 := Lib.hid hb
        have HO := Lib.hid ho
        clear hb ho
        go_wp2_with fail
        refine (HFA.out A c w1 (Sl.of_own HO.out)).mono ?_
        rintro e w2 ⟨rfl, hb2⟩
        have HB2 := Lib.hid (HB1.out.trans (hb2.mono HB1.out.size))
        have HO2 := Lib.hid (own_ch HO.out (Ch.of_below (S := fun _ => False) hb2) (fun k hk => ⟨(own_row HO.out hk).2, fun h => h⟩))
        clear hb2
        cases fa with
        | true =>
          rw [if_pos rfl] at HG
          go_wp2
          go_ret2
          unfold OfBatchPost
          rw [HG.out]
          exact ⟨A, c, rfl, HB2.out, HO2.out⟩
        | false =>
          rw [if_neg (by decide)] at HG
          go_wp2
          go_ret2
          unfold OfBatchPost
          rw [HG.out]
          exact ⟨none, 0, rfl, HB2.out, World.ownsRow_nil _ _ _ _⟩
end Go.Proofs.Ytehbpjkeflcanaa
