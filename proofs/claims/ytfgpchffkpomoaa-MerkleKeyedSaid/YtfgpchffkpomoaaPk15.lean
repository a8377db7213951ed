/- Texts of this proof, several in one file; each says ahead of it what it proves. -/
import Derived.Test.YtfgpchffkpomoaaPk14
import Derived.Test.YtfgpchffkpomoaaPk02
import Derived.Test.YtfgpchffkpomoaaPk12
/- The two sides agree on which bodies may be. -/
namespace Go.Proofs.Ytfgpchffkpomoaa
set_option linter.unusedSimpArgs false
set_option linter.unusedVariables false
open Go.RowKit

theorem toList_loop (t : ByteArray) : ∀ n i (r : List UInt8), t.size - i = n → (ByteArray.toList.loop t i r).length = r.length + n := by
  intro n
  induction n with
  | zero => intro i r h; rw [ByteArray.toList.loop, if_neg (by omega)]; simp
  | succ n ih => intro i r h; rw [ByteArray.toList.loop, if_pos (by omega), ih _ _ (by omega)]; simp; omega
theorem toList_length (t : ByteArray) : t.toList.length = t.size := by
  unfold ByteArray.toList; rw [toList_loop t t.size 0 [] (by omega)]; simp
theorem has_text (t : ByteArray) : (!t.toList.isEmpty) = decide (0 < t.size) := by
  rw [← toList_length]; cases t.toList <;> simp
theorem Bd.flags_eq (b : Bd) : b.flags = [b.view != 0, b.seq != 0, b.client != 0, b.stamp != 0, !b.digest.toList.isEmpty, decide (0 < b.text.size), decide (0 < b.list.length)] := by
  unfold Bd.flags; rw [has_text b.text]

/-- A flag that must be off is off. -/
theorem off5 {f0 f1 f2 f3 f4 f5 f6 : Bool} {may : Nat} (hm : may < 128) (hb : may / 32 % 2 = 0) (h : bits .andNot .i64 (maskOf 0 [f0, f1, f2, f3, f4, f5, f6]) may = 0) : f5 = false := by
  cases f5
  · rfl
  · exfalso
    have : ∀ may : Fin 128, may.val / 32 % 2 = 0 → ∀ f0 f1 f2 f3 f4 f6 : Bool, bits .andNot .i64 (maskOf 0 [f0, f1, f2, f3, f4, true, f6]) may.val ≠ 0 := by decide +kernel
    exact this ⟨may, hm⟩ hb _ _ _ _ _ _ h
theorem off6 {f0 f1 f2 f3 f4 f5 f6 : Bool} {may : Nat} (hm : may < 128) (hb : may / 64 % 2 = 0) (h : bits .andNot .i64 (maskOf 0 [f0, f1, f2, f3, f4, f5, f6]) may = 0) : f6 = false := by
  cases f6
  · rfl
  · exfalso
    have : ∀ may : Fin 128, may.val / 64 % 2 = 0 → ∀ f0 f1 f2 f3 f4 f5 : Bool, bits .andNot .i64 (maskOf 0 [f0, f1, f2, f3, f4, f5, true]) may.val ≠ 0 := by decide +kernel
    exact this ⟨may, hm⟩ hb _ _ _ _ _ _ h


theorem allow_1 : ∀ f0 f1 f2 f3 f4 f5 f6 : Bool, allowedB [f0, f1, f2, f3, f4, f5, f6] ⟨#[67, 84, 88]⟩ ⟨#[84]⟩ = (decide (bits .andNot .i64 (maskOf 0 [f0, f1, f2, f3, f4, f5, f6]) 44 = 0) && decide (bits .and .i64 (maskOf 0 [f0, f1, f2, f3, f4, f5, f6]) 8 = 8)) := by
  intro f0 f1 f2 f3 f4 f5 f6
  cases f0 <;> cases f1 <;> cases f2 <;> cases f3 <;> cases f4 <;> cases f5 <;> cases f6 <;> rfl

theorem allow_2 : ∀ f0 f1 f2 f3 f4 f5 f6 : Bool, allowedB [f0, f1, f2, f3, f4, f5, f6] ⟨#[86, 83, 76]⟩ ⟨#[83]⟩ = (decide (bits .andNot .i64 (maskOf 0 [f0, f1, f2, f3, f4, f5, f6]) 67 = 0) && decide (bits .and .i64 (maskOf 0 [f0, f1, f2, f3, f4, f5, f6]) 2 = 2)) := by
  intro f0 f1 f2 f3 f4 f5 f6
  cases f0 <;> cases f1 <;> cases f2 <;> cases f3 <;> cases f4 <;> cases f5 <;> cases f6 <;> rfl

theorem allow_3 : ∀ f0 f1 f2 f3 f4 f5 f6 : Bool, allowedB [f0, f1, f2, f3, f4, f5, f6] ⟨#[86, 83, 68]⟩ ⟨#[83, 68]⟩ = (decide (bits .andNot .i64 (maskOf 0 [f0, f1, f2, f3, f4, f5, f6]) 19 = 0) && decide (bits .and .i64 (maskOf 0 [f0, f1, f2, f3, f4, f5, f6]) 18 = 18)) := by
  intro f0 f1 f2 f3 f4 f5 f6
  cases f0 <;> cases f1 <;> cases f2 <;> cases f3 <;> cases f4 <;> cases f5 <;> cases f6 <;> rfl

theorem allow_4 : ∀ f0 f1 f2 f3 f4 f5 f6 : Bool, allowedB [f0, f1, f2, f3, f4, f5, f6] ⟨#[86, 83, 68]⟩ ⟨#[83, 68]⟩ = (decide (bits .andNot .i64 (maskOf 0 [f0, f1, f2, f3, f4, f5, f6]) 19 = 0) && decide (bits .and .i64 (maskOf 0 [f0, f1, f2, f3, f4, f5, f6]) 18 = 18)) := by
  intro f0 f1 f2 f3 f4 f5 f6
  cases f0 <;> cases f1 <;> cases f2 <;> cases f3 <;> cases f4 <;> cases f5 <;> cases f6 <;> rfl

theorem allow_5 : ∀ f0 f1 f2 f3 f4 f5 f6 : Bool, allowedB [f0, f1, f2, f3, f4, f5, f6] ⟨#[83, 68]⟩ ⟨#[83, 68]⟩ = (decide (bits .andNot .i64 (maskOf 0 [f0, f1, f2, f3, f4, f5, f6]) 18 = 0) && decide (bits .and .i64 (maskOf 0 [f0, f1, f2, f3, f4, f5, f6]) 18 = 18)) := by
  intro f0 f1 f2 f3 f4 f5 f6
  cases f0 <;> cases f1 <;> cases f2 <;> cases f3 <;> cases f4 <;> cases f5 <;> cases f6 <;> rfl

theorem allow_6 : ∀ f0 f1 f2 f3 f4 f5 f6 : Bool, allowedB [f0, f1, f2, f3, f4, f5, f6] ⟨#[86, 83, 76]⟩ ⟨#[86]⟩ = (decide (bits .andNot .i64 (maskOf 0 [f0, f1, f2, f3, f4, f5, f6]) 67 = 0) && decide (bits .and .i64 (maskOf 0 [f0, f1, f2, f3, f4, f5, f6]) 1 = 1)) := by
  intro f0 f1 f2 f3 f4 f5 f6
  cases f0 <;> cases f1 <;> cases f2 <;> cases f3 <;> cases f4 <;> cases f5 <;> cases f6 <;> rfl

theorem allow_7 : ∀ f0 f1 f2 f3 f4 f5 f6 : Bool, allowedB [f0, f1, f2, f3, f4, f5, f6] ⟨#[86, 76]⟩ ⟨#[86, 76]⟩ = (decide (bits .andNot .i64 (maskOf 0 [f0, f1, f2, f3, f4, f5, f6]) 65 = 0) && decide (bits .and .i64 (maskOf 0 [f0, f1, f2, f3, f4, f5, f6]) 65 = 65)) := by
  intro f0 f1 f2 f3 f4 f5 f6
  cases f0 <;> cases f1 <;> cases f2 <;> cases f3 <;> cases f4 <;> cases f5 <;> cases f6 <;> rfl

theorem allow_8 : ∀ f0 f1 f2 f3 f4 f5 f6 : Bool, allowedB [f0, f1, f2, f3, f4, f5, f6] ⟨#[86, 83, 67, 84]⟩ ⟨#[]⟩ = (decide (bits .andNot .i64 (maskOf 0 [f0, f1, f2, f3, f4, f5, f6]) 15 = 0) && decide (bits .and .i64 (maskOf 0 [f0, f1, f2, f3, f4, f5, f6]) 0 = 0)) := by
  intro f0 f1 f2 f3 f4 f5 f6
  cases f0 <;> cases f1 <;> cases f2 <;> cases f3 <;> cases f4 <;> cases f5 <;> cases f6 <;> rfl

theorem allow_9 : ∀ f0 f1 f2 f3 f4 f5 f6 : Bool, allowedB [f0, f1, f2, f3, f4, f5, f6] ⟨#[83, 68, 88, 76]⟩ ⟨#[83, 68, 76]⟩ = (decide (bits .andNot .i64 (maskOf 0 [f0, f1, f2, f3, f4, f5, f6]) 114 = 0) && decide (bits .and .i64 (maskOf 0 [f0, f1, f2, f3, f4, f5, f6]) 82 = 82)) := by
  intro f0 f1 f2 f3 f4 f5 f6
  cases f0 <;> cases f1 <;> cases f2 <;> cases f3 <;> cases f4 <;> cases f5 <;> cases f6 <;> rfl

theorem allow_10 : ∀ f0 f1 f2 f3 f4 f5 f6 : Bool, allowedB [f0, f1, f2, f3, f4, f5, f6] ⟨#[86, 67, 84, 88]⟩ ⟨#[84]⟩ = (decide (bits .andNot .i64 (maskOf 0 [f0, f1, f2, f3, f4, f5, f6]) 45 = 0) && decide (bits .and .i64 (maskOf 0 [f0, f1, f2, f3, f4, f5, f6]) 8 = 8)) := by
  intro f0 f1 f2 f3 f4 f5 f6
  cases f0 <;> cases f1 <;> cases f2 <;> cases f3 <;> cases f4 <;> cases f5 <;> cases f6 <;> rfl

theorem allow_11 : ∀ f0 f1 f2 f3 f4 f5 f6 : Bool, allowedB [f0, f1, f2, f3, f4, f5, f6] ⟨#[86, 83, 68, 88, 76]⟩ ⟨#[83, 68, 76]⟩ = (decide (bits .andNot .i64 (maskOf 0 [f0, f1, f2, f3, f4, f5, f6]) 115 = 0) && decide (bits .and .i64 (maskOf 0 [f0, f1, f2, f3, f4, f5, f6]) 82 = 82)) := by
  intro f0 f1 f2 f3 f4 f5 f6
  cases f0 <;> cases f1 <;> cases f2 <;> cases f3 <;> cases f4 <;> cases f5 <;> cases f6 <;> rfl

theorem allow_12 : ∀ f0 f1 f2 f3 f4 f5 f6 : Bool, allowedB [f0, f1, f2, f3, f4, f5, f6] ⟨#[67, 88]⟩ ⟨#[]⟩ = (decide (bits .andNot .i64 (maskOf 0 [f0, f1, f2, f3, f4, f5, f6]) 36 = 0) && decide (bits .and .i64 (maskOf 0 [f0, f1, f2, f3, f4, f5, f6]) 0 = 0)) := by
  intro f0 f1 f2 f3 f4 f5 f6
  cases f0 <;> cases f1 <;> cases f2 <;> cases f3 <;> cases f4 <;> cases f5 <;> cases f6 <;> rfl

theorem allow_13 : ∀ f0 f1 f2 f3 f4 f5 f6 : Bool, allowedB [f0, f1, f2, f3, f4, f5, f6] ⟨#[83, 68, 88, 76]⟩ ⟨#[83, 68, 76]⟩ = (decide (bits .andNot .i64 (maskOf 0 [f0, f1, f2, f3, f4, f5, f6]) 114 = 0) && decide (bits .and .i64 (maskOf 0 [f0, f1, f2, f3, f4, f5, f6]) 82 = 82)) := by
  intro f0 f1 f2 f3 f4 f5 f6
  cases f0 <;> cases f1 <;> cases f2 <;> cases f3 <;> cases f4 <;> cases f5 <;> cases f6 <;> rfl

theorem rule_1 : rules 1 = ⟨44, 8, 0, 256⟩ := by unfold rules; simp
theorem partC_1 {b : Bd} (h : b.kind = 1) : partC b = true := by unfold partC; simp [h]
theorem right_eq_1 {b : Bd} (h : b.kind = 1) (hf : fitAllB b.list = true) (hd : b.digest.size ≤ 32) : (decide (b.text.size ≤ 1048576 ∧ b.list.length ≤ 64) && rkind b) = (partB b && partC b) := by
  have hm : Bd.mask b = maskOf 0 b.flags := rfl
  rw [rkind_1 h, partC_1 h]
  unfold partB partBr
  rw [h, rule_1, hm, hf, decide_eq_true hd, b.flags_eq, allow_1]
  cases hA : decide (bits .andNot .i64 (maskOf 0 [b.view != 0, b.seq != 0, b.client != 0, b.stamp != 0, !b.digest.toList.isEmpty, decide (0 < b.text.size), decide (0 < b.list.length)]) 44 = 0) with
  | false => simp
  | true =>
    have h0 := of_decide_eq_true hA
    have h6 := of_decide_eq_false (off6 (by decide) (by decide) h0)
    simp only [Bool.true_and, Bool.and_true]
    cases decide (bits .and .i64 (maskOf 0 [b.view != 0, b.seq != 0, b.client != 0, b.stamp != 0, !b.digest.toList.isEmpty, decide (0 < b.text.size), decide (0 < b.list.length)]) 8 = 8)
    · simp
    · rw [Bool.eq_iff_iff]
      simp only [Bool.and_eq_true, decide_eq_true_eq, and_true, true_and, Bool.and_true, Bool.true_and] <;> omega

theorem rule_2 : rules 2 = ⟨67, 2, 4, 0⟩ := by unfold rules; simp
theorem partC_2 {b : Bd} (h : b.kind = 2) : partC b = true := by unfold partC; simp [h]
theorem right_eq_2 {b : Bd} (h : b.kind = 2) (hf : fitAllB b.list = true) (hd : b.digest.size ≤ 32) : (decide (b.text.size ≤ 1048576 ∧ b.list.length ≤ 64) && rkind b) = (partB b && partC b) := by
  have hm : Bd.mask b = maskOf 0 b.flags := rfl
  rw [rkind_2 h, partC_2 h]
  unfold partB partBr
  rw [h, rule_2, hm, hf, decide_eq_true hd, b.flags_eq, allow_2]
  cases hA : decide (bits .andNot .i64 (maskOf 0 [b.view != 0, b.seq != 0, b.client != 0, b.stamp != 0, !b.digest.toList.isEmpty, decide (0 < b.text.size), decide (0 < b.list.length)]) 67 = 0) with
  | false => simp
  | true =>
    have h0 := of_decide_eq_true hA
    have h5 := of_decide_eq_false (off5 (by decide) (by decide) h0)
    simp only [Bool.true_and, Bool.and_true]
    cases decide (bits .and .i64 (maskOf 0 [b.view != 0, b.seq != 0, b.client != 0, b.stamp != 0, !b.digest.toList.isEmpty, decide (0 < b.text.size), decide (0 < b.list.length)]) 2 = 2)
    · simp
    · rw [Bool.eq_iff_iff]
      simp only [Bool.and_eq_true, decide_eq_true_eq, and_true, true_and, Bool.and_true, Bool.true_and] <;> omega

theorem rule_3 : rules 3 = ⟨19, 18, 0, 0⟩ := by unfold rules; simp
theorem partC_3 {b : Bd} (h : b.kind = 3) : partC b = true := by unfold partC; simp [h]
theorem right_eq_3 {b : Bd} (h : b.kind = 3) (hf : fitAllB b.list = true) (hd : b.digest.size ≤ 32) : (decide (b.text.size ≤ 1048576 ∧ b.list.length ≤ 64) && rkind b) = (partB b && partC b) := by
  have hm : Bd.mask b = maskOf 0 b.flags := rfl
  rw [rkind_3 h, partC_3 h]
  unfold partB partBr
  rw [h, rule_3, hm, hf, decide_eq_true hd, b.flags_eq, allow_3]
  cases hA : decide (bits .andNot .i64 (maskOf 0 [b.view != 0, b.seq != 0, b.client != 0, b.stamp != 0, !b.digest.toList.isEmpty, decide (0 < b.text.size), decide (0 < b.list.length)]) 19 = 0) with
  | false => simp
  | true =>
    have h0 := of_decide_eq_true hA
    have h5 := of_decide_eq_false (off5 (by decide) (by decide) h0)
    have h6 := of_decide_eq_false (off6 (by decide) (by decide) h0)
    simp only [Bool.true_and, Bool.and_true]
    cases decide (bits .and .i64 (maskOf 0 [b.view != 0, b.seq != 0, b.client != 0, b.stamp != 0, !b.digest.toList.isEmpty, decide (0 < b.text.size), decide (0 < b.list.length)]) 18 = 18)
    · simp
    · rw [Bool.eq_iff_iff]
      simp only [Bool.and_eq_true, decide_eq_true_eq, and_true, true_and, Bool.and_true, Bool.true_and] <;> omega

theorem rule_4 : rules 4 = ⟨19, 18, 0, 0⟩ := by unfold rules; simp
theorem partC_4 {b : Bd} (h : b.kind = 4) : partC b = true := by unfold partC; simp [h]
theorem right_eq_4 {b : Bd} (h : b.kind = 4) (hf : fitAllB b.list = true) (hd : b.digest.size ≤ 32) : (decide (b.text.size ≤ 1048576 ∧ b.list.length ≤ 64) && rkind b) = (partB b && partC b) := by
  have hm : Bd.mask b = maskOf 0 b.flags := rfl
  rw [rkind_4 h, partC_4 h]
  unfold partB partBr
  rw [h, rule_4, hm, hf, decide_eq_true hd, b.flags_eq, allow_4]
  cases hA : decide (bits .andNot .i64 (maskOf 0 [b.view != 0, b.seq != 0, b.client != 0, b.stamp != 0, !b.digest.toList.isEmpty, decide (0 < b.text.size), decide (0 < b.list.length)]) 19 = 0) with
  | false => simp
  | true =>
    have h0 := of_decide_eq_true hA
    have h5 := of_decide_eq_false (off5 (by decide) (by decide) h0)
    have h6 := of_decide_eq_false (off6 (by decide) (by decide) h0)
    simp only [Bool.true_and, Bool.and_true]
    cases decide (bits .and .i64 (maskOf 0 [b.view != 0, b.seq != 0, b.client != 0, b.stamp != 0, !b.digest.toList.isEmpty, decide (0 < b.text.size), decide (0 < b.list.length)]) 18 = 18)
    · simp
    · rw [Bool.eq_iff_iff]
      simp only [Bool.and_eq_true, decide_eq_true_eq, and_true, true_and, Bool.and_true, Bool.true_and] <;> omega

theorem rule_5 : rules 5 = ⟨18, 18, 0, 0⟩ := by unfold rules; simp
theorem partC_5 {b : Bd} (h : b.kind = 5) : partC b = decide (Int.tmod b.seq 4 = 0) := by unfold partC; simp [h]
theorem right_eq_5 {b : Bd} (h : b.kind = 5) (hf : fitAllB b.list = true) (hd : b.digest.size ≤ 32) : (decide (b.text.size ≤ 1048576 ∧ b.list.length ≤ 64) && rkind b) = (partB b && partC b) := by
  have hm : Bd.mask b = maskOf 0 b.flags := rfl
  rw [rkind_5 h, partC_5 h]
  unfold partB partBr
  rw [h, rule_5, hm, hf, decide_eq_true hd, b.flags_eq, allow_5]
  cases hA : decide (bits .andNot .i64 (maskOf 0 [b.view != 0, b.seq != 0, b.client != 0, b.stamp != 0, !b.digest.toList.isEmpty, decide (0 < b.text.size), decide (0 < b.list.length)]) 18 = 0) with
  | false => simp
  | true =>
    have h0 := of_decide_eq_true hA
    have h5 := of_decide_eq_false (off5 (by decide) (by decide) h0)
    have h6 := of_decide_eq_false (off6 (by decide) (by decide) h0)
    simp only [Bool.true_and, Bool.and_true]
    cases decide (bits .and .i64 (maskOf 0 [b.view != 0, b.seq != 0, b.client != 0, b.stamp != 0, !b.digest.toList.isEmpty, decide (0 < b.text.size), decide (0 < b.list.length)]) 18 = 18)
    · simp
    · rw [Bool.eq_iff_iff]
      simp only [Bool.and_eq_true, decide_eq_true_eq, and_true, true_and, Bool.and_true, Bool.true_and] <;> omega

theorem rule_6 : rules 6 = ⟨67, 1, 64, 0⟩ := by unfold rules; simp
theorem partC_6 {b : Bd} (h : b.kind = 6) : partC b = decide (Int.tmod b.seq 4 = 0) := by unfold partC; simp [h]
theorem right_eq_6 {b : Bd} (h : b.kind = 6) (hf : fitAllB b.list = true) (hd : b.digest.size ≤ 32) : (decide (b.text.size ≤ 1048576 ∧ b.list.length ≤ 64) && rkind b) = (partB b && partC b) := by
  have hm : Bd.mask b = maskOf 0 b.flags := rfl
  rw [rkind_6 h, partC_6 h]
  unfold partB partBr
  rw [h, rule_6, hm, hf, decide_eq_true hd, b.flags_eq, allow_6]
  cases hA : decide (bits .andNot .i64 (maskOf 0 [b.view != 0, b.seq != 0, b.client != 0, b.stamp != 0, !b.digest.toList.isEmpty, decide (0 < b.text.size), decide (0 < b.list.length)]) 67 = 0) with
  | false => simp
  | true =>
    have h0 := of_decide_eq_true hA
    have h5 := of_decide_eq_false (off5 (by decide) (by decide) h0)
    simp only [Bool.true_and, Bool.and_true]
    cases decide (bits .and .i64 (maskOf 0 [b.view != 0, b.seq != 0, b.client != 0, b.stamp != 0, !b.digest.toList.isEmpty, decide (0 < b.text.size), decide (0 < b.list.length)]) 1 = 1)
    · simp
    · rw [Bool.eq_iff_iff]
      simp only [Bool.and_eq_true, decide_eq_true_eq, and_true, true_and, Bool.and_true, Bool.true_and] <;> omega

theorem rule_7 : rules 7 = ⟨65, 65, 64, 0⟩ := by unfold rules; simp
theorem partC_7 {b : Bd} (h : b.kind = 7) : partC b = true := by unfold partC; simp [h]
theorem right_eq_7 {b : Bd} (h : b.kind = 7) (hf : fitAllB b.list = true) (hd : b.digest.size ≤ 32) : (decide (b.text.size ≤ 1048576 ∧ b.list.length ≤ 64) && rkind b) = (partB b && partC b) := by
  have hm : Bd.mask b = maskOf 0 b.flags := rfl
  rw [rkind_7 h, partC_7 h]
  unfold partB partBr
  rw [h, rule_7, hm, hf, decide_eq_true hd, b.flags_eq, allow_7]
  cases hA : decide (bits .andNot .i64 (maskOf 0 [b.view != 0, b.seq != 0, b.client != 0, b.stamp != 0, !b.digest.toList.isEmpty, decide (0 < b.text.size), decide (0 < b.list.length)]) 65 = 0) with
  | false => simp
  | true =>
    have h0 := of_decide_eq_true hA
    have h5 := of_decide_eq_false (off5 (by decide) (by decide) h0)
    simp only [Bool.true_and, Bool.and_true]
    cases decide (bits .and .i64 (maskOf 0 [b.view != 0, b.seq != 0, b.client != 0, b.stamp != 0, !b.digest.toList.isEmpty, decide (0 < b.text.size), decide (0 < b.list.length)]) 65 = 65)
    · simp
    · rw [Bool.eq_iff_iff]
      simp only [Bool.and_eq_true, decide_eq_true_eq, and_true, true_and, Bool.and_true, Bool.true_and] <;> omega

theorem rule_8 : rules 8 = ⟨15, 0, 0, 0⟩ := by unfold rules; simp
theorem partC_8 {b : Bd} (h : b.kind = 8) : partC b = decide (b.client ≤ 1) := by unfold partC; simp [h]
theorem right_eq_8 {b : Bd} (h : b.kind = 8) (hf : fitAllB b.list = true) (hd : b.digest.size ≤ 32) : (decide (b.text.size ≤ 1048576 ∧ b.list.length ≤ 64) && rkind b) = (partB b && partC b) := by
  have hm : Bd.mask b = maskOf 0 b.flags := rfl
  rw [rkind_8 h, partC_8 h]
  unfold partB partBr
  rw [h, rule_8, hm, hf, decide_eq_true hd, b.flags_eq, allow_8]
  cases hA : decide (bits .andNot .i64 (maskOf 0 [b.view != 0, b.seq != 0, b.client != 0, b.stamp != 0, !b.digest.toList.isEmpty, decide (0 < b.text.size), decide (0 < b.list.length)]) 15 = 0) with
  | false => simp
  | true =>
    have h0 := of_decide_eq_true hA
    have h5 := of_decide_eq_false (off5 (by decide) (by decide) h0)
    have h6 := of_decide_eq_false (off6 (by decide) (by decide) h0)
    simp only [Bool.true_and, Bool.and_true]
    cases decide (bits .and .i64 (maskOf 0 [b.view != 0, b.seq != 0, b.client != 0, b.stamp != 0, !b.digest.toList.isEmpty, decide (0 < b.text.size), decide (0 < b.list.length)]) 0 = 0)
    · simp
    · rw [Bool.eq_iff_iff]
      simp only [Bool.and_eq_true, decide_eq_true_eq, and_true, true_and, Bool.and_true, Bool.true_and] <;> omega

theorem rule_9 : rules 9 = ⟨114, 82, 64, 1048576⟩ := by unfold rules; simp
theorem partC_9 {b : Bd} (h : b.kind = 9) : partC b = decide (Int.tmod b.seq 4 = 0) := by unfold partC; simp [h]
theorem right_eq_9 {b : Bd} (h : b.kind = 9) (hf : fitAllB b.list = true) (hd : b.digest.size ≤ 32) : (decide (b.text.size ≤ 1048576 ∧ b.list.length ≤ 64) && rkind b) = (partB b && partC b) := by
  have hm : Bd.mask b = maskOf 0 b.flags := rfl
  rw [rkind_9 h, partC_9 h]
  unfold partB partBr
  rw [h, rule_9, hm, hf, decide_eq_true hd, b.flags_eq, allow_9]
  cases hA : decide (bits .andNot .i64 (maskOf 0 [b.view != 0, b.seq != 0, b.client != 0, b.stamp != 0, !b.digest.toList.isEmpty, decide (0 < b.text.size), decide (0 < b.list.length)]) 114 = 0) with
  | false => simp
  | true =>
    have h0 := of_decide_eq_true hA
    skip
    simp only [Bool.true_and, Bool.and_true]
    cases decide (bits .and .i64 (maskOf 0 [b.view != 0, b.seq != 0, b.client != 0, b.stamp != 0, !b.digest.toList.isEmpty, decide (0 < b.text.size), decide (0 < b.list.length)]) 82 = 82)
    · simp
    · rw [Bool.eq_iff_iff]
      simp only [Bool.and_eq_true, decide_eq_true_eq, and_true, true_and, Bool.and_true, Bool.true_and] <;> omega

theorem rule_10 : rules 10 = ⟨45, 8, 0, 256⟩ := by unfold rules; simp
theorem partC_10 {b : Bd} (h : b.kind = 10) : partC b = true := by unfold partC; simp [h]
theorem right_eq_10 {b : Bd} (h : b.kind = 10) (hf : fitAllB b.list = true) (hd : b.digest.size ≤ 32) : (decide (b.text.size ≤ 1048576 ∧ b.list.length ≤ 64) && rkind b) = (partB b && partC b) := by
  have hm : Bd.mask b = maskOf 0 b.flags := rfl
  rw [rkind_10 h, partC_10 h]
  unfold partB partBr
  rw [h, rule_10, hm, hf, decide_eq_true hd, b.flags_eq, allow_10]
  cases hA : decide (bits .andNot .i64 (maskOf 0 [b.view != 0, b.seq != 0, b.client != 0, b.stamp != 0, !b.digest.toList.isEmpty, decide (0 < b.text.size), decide (0 < b.list.length)]) 45 = 0) with
  | false => simp
  | true =>
    have h0 := of_decide_eq_true hA
    have h6 := of_decide_eq_false (off6 (by decide) (by decide) h0)
    simp only [Bool.true_and, Bool.and_true]
    cases decide (bits .and .i64 (maskOf 0 [b.view != 0, b.seq != 0, b.client != 0, b.stamp != 0, !b.digest.toList.isEmpty, decide (0 < b.text.size), decide (0 < b.list.length)]) 8 = 8)
    · simp
    · rw [Bool.eq_iff_iff]
      simp only [Bool.and_eq_true, decide_eq_true_eq, and_true, true_and, Bool.and_true, Bool.true_and] <;> omega

theorem rule_11 : rules 11 = ⟨115, 82, 64, 1048576⟩ := by unfold rules; simp
theorem partC_11 {b : Bd} (h : b.kind = 11) : partC b = true := by unfold partC; simp [h]
theorem right_eq_11 {b : Bd} (h : b.kind = 11) (hf : fitAllB b.list = true) (hd : b.digest.size ≤ 32) : (decide (b.text.size ≤ 1048576 ∧ b.list.length ≤ 64) && rkind b) = (partB b && partC b) := by
  have hm : Bd.mask b = maskOf 0 b.flags := rfl
  rw [rkind_11 h, partC_11 h]
  unfold partB partBr
  rw [h, rule_11, hm, hf, decide_eq_true hd, b.flags_eq, allow_11]
  cases hA : decide (bits .andNot .i64 (maskOf 0 [b.view != 0, b.seq != 0, b.client != 0, b.stamp != 0, !b.digest.toList.isEmpty, decide (0 < b.text.size), decide (0 < b.list.length)]) 115 = 0) with
  | false => simp
  | true =>
    have h0 := of_decide_eq_true hA
    skip
    simp only [Bool.true_and, Bool.and_true]
    cases decide (bits .and .i64 (maskOf 0 [b.view != 0, b.seq != 0, b.client != 0, b.stamp != 0, !b.digest.toList.isEmpty, decide (0 < b.text.size), decide (0 < b.list.length)]) 82 = 82)
    · simp
    · rw [Bool.eq_iff_iff]
      simp only [Bool.and_eq_true, decide_eq_true_eq, and_true, true_and, Bool.and_true, Bool.true_and] <;> omega

theorem rule_12 : rules 12 = ⟨36, 0, 0, 64⟩ := by unfold rules; simp
theorem partC_12 {b : Bd} (h : b.kind = 12) : partC b = true := by unfold partC; simp [h]
theorem right_eq_12 {b : Bd} (h : b.kind = 12) (hf : fitAllB b.list = true) (hd : b.digest.size ≤ 32) : (decide (b.text.size ≤ 1048576 ∧ b.list.length ≤ 64) && rkind b) = (partB b && partC b) := by
  have hm : Bd.mask b = maskOf 0 b.flags := rfl
  rw [rkind_12 h, partC_12 h]
  unfold partB partBr
  rw [h, rule_12, hm, hf, decide_eq_true hd, b.flags_eq, allow_12]
  cases hA : decide (bits .andNot .i64 (maskOf 0 [b.view != 0, b.seq != 0, b.client != 0, b.stamp != 0, !b.digest.toList.isEmpty, decide (0 < b.text.size), decide (0 < b.list.length)]) 36 = 0) with
  | false => simp
  | true =>
    have h0 := of_decide_eq_true hA
    have h6 := of_decide_eq_false (off6 (by decide) (by decide) h0)
    simp only [Bool.true_and, Bool.and_true]
    cases decide (bits .and .i64 (maskOf 0 [b.view != 0, b.seq != 0, b.client != 0, b.stamp != 0, !b.digest.toList.isEmpty, decide (0 < b.text.size), decide (0 < b.list.length)]) 0 = 0)
    · simp
    · rw [Bool.eq_iff_iff]
      simp only [Bool.and_eq_true, decide_eq_true_eq, and_true, true_and, Bool.and_true, Bool.true_and] <;> omega

theorem rule_13 : rules 13 = ⟨114, 82, 64, 1048576⟩ := by unfold rules; simp
theorem partC_13 {b : Bd} (h : b.kind = 13) : partC b = decide (Int.tmod b.seq 4 = 0) := by unfold partC; simp [h]
theorem right_eq_13 {b : Bd} (h : b.kind = 13) (hf : fitAllB b.list = true) (hd : b.digest.size ≤ 32) : (decide (b.text.size ≤ 1048576 ∧ b.list.length ≤ 64) && rkind b) = (partB b && partC b) := by
  have hm : Bd.mask b = maskOf 0 b.flags := rfl
  rw [rkind_13 h, partC_13 h]
  unfold partB partBr
  rw [h, rule_13, hm, hf, decide_eq_true hd, b.flags_eq, allow_13]
  cases hA : decide (bits .andNot .i64 (maskOf 0 [b.view != 0, b.seq != 0, b.client != 0, b.stamp != 0, !b.digest.toList.isEmpty, decide (0 < b.text.size), decide (0 < b.list.length)]) 114 = 0) with
  | false => simp
  | true =>
    have h0 := of_decide_eq_true hA
    skip
    simp only [Bool.true_and, Bool.and_true]
    cases decide (bits .and .i64 (maskOf 0 [b.view != 0, b.seq != 0, b.client != 0, b.stamp != 0, !b.digest.toList.isEmpty, decide (0 < b.text.size), decide (0 < b.list.length)]) 82 = 82)
    · simp
    · rw [Bool.eq_iff_iff]
      simp only [Bool.and_eq_true, decide_eq_true_eq, and_true, true_and, Bool.and_true, Bool.true_and] <;> omega

theorem right_eq (b : Bd) : rRight b = rightE b := by
  unfold rRight rightE
  by_cases hk : b.kind < 1 ∨ 13 < b.kind
  · rw [if_pos hk, if_pos hk]
  rw [if_neg hk, if_neg hk]
  by_cases ha : partA b = true
  · by_cases hf : fitAllB b.list = true
    · by_cases hd : b.digest.size ≤ 32
      · have hp : rpre b = decide (b.text.size ≤ 1048576 ∧ b.list.length ≤ 64) := by
          unfold partA at ha
          simp only [Bool.and_eq_true, decide_eq_true_eq] at ha
          unfold rpre
          rw [hf, Bool.and_true, Bool.eq_iff_iff]
          simp only [decide_eq_true_eq]
          omega
        have he : (rpre b && rkind b) = (partB b && partC b) := by
          rw [hp]
          have hk' : b.kind = 1 ∨ b.kind = 2 ∨ b.kind = 3 ∨ b.kind = 4 ∨ b.kind = 5 ∨ b.kind = 6 ∨ b.kind = 7 ∨ b.kind = 8 ∨ b.kind = 9 ∨ b.kind = 10 ∨ b.kind = 11 ∨ b.kind = 12 ∨ b.kind = 13 := by omega
          obtain h | h | h | h | h | h | h | h | h | h | h | h | h := hk'
          · exact right_eq_1 h hf hd
          · exact right_eq_2 h hf hd
          · exact right_eq_3 h hf hd
          · exact right_eq_4 h hf hd
          · exact right_eq_5 h hf hd
          · exact right_eq_6 h hf hd
          · exact right_eq_7 h hf hd
          · exact right_eq_8 h hf hd
          · exact right_eq_9 h hf hd
          · exact right_eq_10 h hf hd
          · exact right_eq_11 h hf hd
          · exact right_eq_12 h hf hd
          · exact right_eq_13 h hf hd
        rw [ha, Bool.true_and, ← he]
        cases rpre b <;> cases rkind b <;> rfl
      · have h1 : rpre b = false := by unfold rpre; rw [decide_eq_false (by omega)]; rfl
        have h2 : partB b = false := by unfold partB partBr; rw [decide_eq_false hd]; rfl
        rw [h1, h2]; cases partA b <;> rfl
    · have hf' : fitAllB b.list = false := by simpa using hf
      have h1 : rpre b = false := by unfold rpre; rw [hf', Bool.and_false]
      have h2 : partB b = false := by unfold partB partBr; rw [hf']; simp only [Bool.and_false]
      rw [h1, h2]; cases partA b <;> rfl
  · have ha' : partA b = false := by simpa using ha
    have h1 : rpre b = false := by
      rw [← Bool.not_eq_true]
      intro hc
      unfold rpre at hc
      simp only [Bool.and_eq_true, decide_eq_true_eq] at hc
      apply ha
      unfold partA
      simp only [Bool.and_eq_true, decide_eq_true_eq]
      omega
    rw [h1, ha']; rfl

end Go.Proofs.Ytfgpchffkpomoaa

/- Records: what stands in memory, and whether they may be, in plain words. -/
namespace Go.Proofs.Ytfgpchffkpomoaa
set_option linter.unusedSimpArgs false
set_option linter.unusedVariables false
open Go.RowKit

structure Rc where
  key : ByteArray
  val : ByteArray
def Rc.cells (m : Rc) : List Value := [.string m.key, .string m.val]
theorem Rc.cells_len (m : Rc) : m.cells.length = 2 := rfl
def RcS (w : World) (A : Option Addr) (c : Nat) (l : List Rc) : Prop := Sl w 2 A l.length c (l.flatMap Rc.cells)
theorem RcS.below {w w' : World} {A : Option Addr} {c : Nat} {l : List Rc} (h : RcS w A c l) (hb : Below w.heap.size w w') : RcS w' A c l := Sl.below h hb
theorem RcS.elem {w : World} {A : Option Addr} {c : Nat} {l : List Rc} (h : RcS w A c l) (k : Nat) (hk : k < l.length) : ∃ a, A = some a ∧ w.cell? (a.add (k * 2)) = some (.string l[k].key) ∧
    w.cell? ⟨(a.add (k * 2)).block, (a.add (k * 2)).off + 1, none⟩ = some (.string l[k].val) := by
  obtain ⟨a, rfl, h0, h1⟩ := Sl.elem h Rc.cells_len k hk (by decide)
  exact ⟨a, rfl, h0 _ rfl, h1 1 _ (by decide) rfl⟩

def geB (a b : ByteArray) : Bool := !(Op.bytesLess a.toList b.toList)
def rcBad (m : Rc) : Bool := decide (m.key.size = 0) || (decide (64 < m.key.size) || decide (4096 < m.val.size))
def codeAt (l : List Rc) (k : Nat) : Int := if h : k < l.length then (if rcBad l[k] = true then 14 else if h0 : 0 < k then (if geB (l[k - 1]'(by omega)).key l[k].key = true then 15 else 0) else 0) else 0
/-- What is wrong with the first k records. -/
def riseN (l : List Rc) : Nat → Int
  | 0 => 0
  | k + 1 => if riseN l k = 0 then codeAt l k else riseN l k
def riseE (l : List Rc) : Int := if 4096 < l.length then 2 else riseN l l.length
theorem riseN_stop {l : List Rc} {k : Nat} {c : Int} (h0 : riseN l k = 0) (hc : codeAt l k = c) (hne : c ≠ 0) : ∀ n, k < n → riseN l n = c
  | 0, h => by omega
  | n + 1, h => by
    unfold riseN
    by_cases e : k = n
    · subst e; rw [if_pos h0, hc]
    · rw [riseN_stop h0 hc hne n (by omega), if_neg hne]
theorem riseN_next {l : List Rc} {k : Nat} (h0 : riseN l k = 0) (hc : codeAt l k = 0) : riseN l (k + 1) = 0 := by
  unfold riseN; rw [if_pos h0, hc]
theorem codeAt_bad {l : List Rc} {k : Nat} (h : k < l.length) (hb : rcBad l[k] = true) : codeAt l k = 14 := by
  unfold codeAt; rw [dif_pos h, if_pos hb]
theorem codeAt_first {l : List Rc} (h : 0 < l.length) (hb : rcBad l[0] = false) : codeAt l 0 = 0 := by
  unfold codeAt; rw [dif_pos h, if_neg (by rw [hb]; decide), dif_neg (by omega)]
theorem codeAt_next {l : List Rc} {j : Nat} (h : j + 1 < l.length) (hb : rcBad l[j + 1] = false) : codeAt l (j + 1) = if geB l[j].key l[j + 1].key = true then 15 else 0 := by
  unfold codeAt; rw [dif_pos h, if_neg (by rw [hb]; decide), dif_pos (by omega)]; rfl
end Go.Proofs.Ytfgpchffkpomoaa

/- A tree of digests, in plain words: by a digest h of texts. -/
namespace Go.Proofs.Ytfgpchffkpomoaa
set_option linter.unusedSimpArgs false
set_option linter.unusedVariables false
open Go.RowKit

/-- The greatest power of two below n (1 at least): found from k upwards. -/
def halfFrom (n : Nat) : Nat → Nat → Nat
  | 0, k => k
  | g + 1, k => if 2 * k < n then halfFrom n g (2 * k) else k
def half (n : Nat) : Nat := halfFrom n n 1
theorem halfFrom_lt {n : Nat} : ∀ (g k : Nat), k < n → 0 < k → k ≤ halfFrom n g k ∧ halfFrom n g k < n
  | 0, k, h, _ => ⟨Nat.le_refl _, h⟩
  | g + 1, k, h, h0 => by
    unfold halfFrom
    by_cases h2 : 2 * k < n
    · rw [if_pos h2]
      have := halfFrom_lt g (2 * k) h2 (by omega)
      omega
    · rw [if_neg h2]
      omega
theorem half_lt {n : Nat} (h : 1 < n) : 0 < half n ∧ half n < n := by
  have := halfFrom_lt (n := n) n 1 h (by omega)
  unfold half
  omega
/-- A digest's answer by what was digested. -/
def hh (T : List ByteArray) (s : ByteArray) : ByteArray := (digS T s).1
def Ext (T T' : List ByteArray) : Prop := ∃ X, T' = T ++ X
theorem Ext.refl (T : List ByteArray) : Ext T T := ⟨[], by simp⟩
theorem Ext.trans {T T' T'' : List ByteArray} (h : Ext T T') (k : Ext T' T'') : Ext T T'' := by
  obtain ⟨X, rfl⟩ := h
  obtain ⟨Y, rfl⟩ := k
  exact ⟨X ++ Y, by simp⟩
theorem Ext.mem {T T' : List ByteArray} (h : Ext T T') {s : ByteArray} (hs : s ∈ T) : s ∈ T' := by
  obtain ⟨X, rfl⟩ := h
  exact List.mem_append_left _ hs
theorem hh_ext {T T' : List ByteArray} {s : ByteArray} (h : Ext T T') (hs : s ∈ T) : hh T' s = hh T s := by
  obtain ⟨X, rfl⟩ := h
  obtain ⟨i, hi⟩ := place_some hs
  unfold hh digS
  rw [hi, place_app X hi]
theorem dig_known (T : List ByteArray) (s : ByteArray) : Ext T (digS T s).2 ∧ s ∈ (digS T s).2 ∧ (digS T s).1 = hh (digS T s).2 s := by
  cases h : place s T with
  | some i =>
    have hd : digS T s = (eight (i + 1), T) := by unfold digS; rw [h]
    rw [hd]
    refine ⟨Ext.refl _, List.mem_of_getElem? (place_get h), ?_⟩
    unfold hh
    rw [hd]
  | none =>
    have hd : digS T s = (eight (T.length + 1), T ++ [s]) := by unfold digS; rw [h]
    rw [hd]
    refine ⟨⟨[s], rfl⟩, by simp, ?_⟩
    unfold hh digS
    rw [place_snoc (place_none h)]
theorem hh_size (T : List ByteArray) (s : ByteArray) : (hh T s).size = 8 := by
  unfold hh digS
  split <;> exact eight_size _
theorem hh_inj {T : List ByteArray} (hT : T.length ≤ 1000000000) {s t : ByteArray} (hs : s ∈ T) (ht : t ∈ T) (h : hh T s = hh T t) : s = t := by
  obtain ⟨i, hi⟩ := place_some hs
  obtain ⟨j, hj⟩ := place_some ht
  unfold hh digS at h
  rw [hi, hj] at h
  have h1 := place_lt hi
  have h2 := place_lt hj
  have h3 := eight_inj (by omega) (by omega) h
  obtain rfl : i = j := by omega
  exact place_same hi hj
theorem digT_len (T : List ByteArray) (s : ByteArray) : (digS T s).2.length ≤ T.length + 1 := by
  unfold digS
  split <;> simp
end Go.Proofs.Ytfgpchffkpomoaa

/- How many leaves stand on the left: the walk through the code's half. -/
namespace Go.Proofs.Ytfgpchffkpomoaa
set_option linter.unusedSimpArgs false
set_option linter.unusedVariables false
open Go.RowKit

set_option maxRecDepth 100000 in
theorem half_calls (n : Nat) (w : World) (hn : n ≤ 1000000) : Calls Try.prog 153 #[.int .i64 n] w fun e w' => e = .returned (.int .i64 (half n)) ∧ w' = w := by
  have HE := Lib.hid (show half n = halfFrom n n 1 from rfl)
  go_enter Try.func153, Try.ntmps153
  go_wp2_with fail
  go_loopg [3] n (fun g v3 wr => ∃ k : Nat, v3 = .int .i64 k ∧ 0 < k ∧ k ≤ 1000000 + 1 ∧ Hid (n + 1 ≤ g + k ∧ wr = w ∧ halfFrom n n 1 = halfFrom n g k))
  case atStart => exact ⟨1, rfl, by omega, by omega, by omega, rfl, rfl⟩
  case round =>
    obtain ⟨k, rfl, hk0, hk, HH⟩ := hrel
    obtain ⟨hg, hw, hx⟩ := HH.out
    subst hw
    by_cases hlt : 2 * k < n
    · have hd : decide ((2 : Int) * (k : Int) < (n : Int)) = true := by simp; omega
      obtain ⟨g, rfl⟩ : ∃ g, gk = g + 1 := ⟨gk - 1, by omega⟩
      rw [halfFrom, if_pos hlt] at hx
      have HX := Lib.hid hx
      have HG := Lib.hid hg
      clear hx hg HH
      go_wp2
      go_roundg g
      case measure => omega
      case rel => exact ⟨2 * k, by go_num, by omega, by omega, by have := HG.out; omega, rfl, HX.out⟩
    · have hd : decide ((2 : Int) * (k : Int) < (n : Int)) = false := by simp; omega
      have hx2 : half n = k := by
        rw [HE.out, hx]
        cases gk with
        | zero => rfl
        | succ g => rw [halfFrom, if_neg hlt]
      have HX := Lib.hid hx2
      clear hx hx2 hg HH
      go_wp2
      go_ret
      exact ⟨by rw [HX.out]; rfl, rfl⟩

set_option maxRecDepth 100000 in
theorem rhalf_calls (n : Nat) (w : World) (hn : n ≤ 1000000) : Calls Try.prog 156 #[.int .i64 n] w fun e w' => e = .returned (.int .i64 (half n)) ∧ w' = w := by
  have HE := Lib.hid (show half n = halfFrom n n 1 from rfl)
  go_enter Try.func156, Try.ntmps156
  go_wp2_with fail
  go_loopg [3, 4] (n + 1) (fun g v3 v4 wr => ∃ b k : Nat, v3 = .int .i64 b ∧ v4 = .int .i64 k ∧ 0 < k ∧ k ≤ 2000000 + 2 ∧ Hid (wr = w ∧ ((k = 1 ∧ b = 1 ∧ g = n + 1) ∨ (k = 2 * b ∧ n + 1 ≤ g + b ∧ halfFrom n n 1 = halfFrom n g b))))
  case atStart => exact ⟨1, 1, rfl, rfl, by omega, by omega, rfl, .inl ⟨rfl, rfl, rfl⟩⟩
  case round =>
    obtain ⟨b, k, rfl, rfl, hk0, hk, HH⟩ := hrel
    obtain ⟨hw, hx⟩ := HH.out
    subst hw
    by_cases hlt : k < n
    · have hd : decide ((k : Int) < (n : Int)) = true := by simp; omega
      rcases hx with ⟨h1, h2, h3⟩ | ⟨h1, h2, h3⟩
      · have H1 := Lib.hid h1
        have H3 := Lib.hid h3
        clear h1 h2 h3 HH
        go_wp2
        go_roundg n
        case measure => have := H3.out; omega
        case rel => exact ⟨k, 2 * k, by go_num, by go_num, by omega, by omega, rfl, .inr ⟨rfl, by have := H1.out; omega, by rw [H1.out]⟩⟩
      · obtain ⟨g, rfl⟩ : ∃ g, gk = g + 1 := ⟨gk - 1, by omega⟩
        rw [halfFrom, if_pos (by omega), ← h1] at h3
        have H1 := Lib.hid h1
        have H2 := Lib.hid h2
        have H3 := Lib.hid h3
        clear h1 h2 h3 HH
        go_wp2
        go_roundg g
        case measure => omega
        case rel => exact ⟨k, 2 * k, by go_num, by go_num, by omega, by omega, rfl, .inr ⟨rfl, by have := H1.out; have := H2.out; omega, H3.out⟩⟩
    · have hd : decide ((k : Int) < (n : Int)) = false := by simp; omega
      have hx2 : half n = b := by
        rw [HE.out]
        rcases hx with ⟨h1, h2, h3⟩ | ⟨h1, h2, h3⟩
        · subst h2
          cases n with
          | zero => rfl
          | succ n => rw [halfFrom, if_neg (by omega)]
        · rw [h3]
          cases gk with
          | zero => rfl
          | succ g => rw [halfFrom, if_neg (by omega)]
      have HX := Lib.hid hx2
      clear hx hx2 HH
      go_wp2
      go_ret
      exact ⟨by rw [HX.out]; rfl, rfl⟩
end Go.Proofs.Ytfgpchffkpomoaa
