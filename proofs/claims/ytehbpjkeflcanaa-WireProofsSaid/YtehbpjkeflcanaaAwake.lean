/- The examples of the first chapter, run. -/
import Derived.Test.YtehbpjkeflcanaaOf
import Derived.Test.YtehbpjkeflcanaaBytes
namespace Go.Proofs.Ytehbpjkeflcanaa
set_option linter.unusedSimpArgs false
set_option linter.unusedVariables false
open Go.RowKit

def exBd : Bd := ⟨3, 0, 300, 0, 0, ⟨#[100]⟩, ⟨#[]⟩, []⟩
def exS : ByteArray := ⟨#[3, 0, 172, 2, 0, 0, 1, 100, 0, 0]⟩
theorem ex1 : bytesE exBd = (exS, 0) := by kernel_rfl
theorem ex2 : ofBody exS = (exBd, 0) := by kernel_rfl
theorem ex3 : ofBody (exS ++ ⟨#[120]⟩) = (zeroBd, 12) := by kernel_rfl

def TwoPost (a b c d e : Int) (s t : ByteArray) (n : Nat) (x : Int) (w : World) (r : Ending) (w' : World) : Prop := ∃ A q, r = .returned (.tuple #[.agg #[.int .i64 a, .int .i64 b, .int .i64 c, .int .i64 d, .int .i64 e, .string s, .string t, .slice A n q], .int .i64 x]) ∧ Below w.heap.size w w'
theorem of_two {s : ByteArray} {b : Bd} {x : Int} (h : ofBody s = (b, x)) (w : World) : Calls Try.prog 23 #[.string s] w (TwoPost b.kind b.view b.seq b.client b.stamp b.digest b.text b.list.length x w) := by
  refine (of_calls s w).mono ?_
  rintro e w' ⟨A, c, rfl, hb, _⟩
  rw [h]
  exact ⟨A, c, rfl, hb⟩

set_option maxRecDepth 100000 in
theorem awake_calls (w : World) : Calls Try.prog 18 #[] w (BoolPost true w) := by
  have H1 := Lib.hid (fun w => body_calls exBd none 0 w ⟨rfl, by simp [exBd], fun j u hj => by simp [exBd] at hj⟩)
  have H2 := Lib.hid (of_two ex2)
  have H3 := Lib.hid (of_two ex3)
  unfold StrErr at H1
  simp only [ex1] at H1
  have hsz : ¬ 9223372036854775807 < exS.size + ByteArray.size ⟨#[120]⟩ := by decide
  have heq : exS.toList = [3, 0, 172, 2, 0, 0, 1, 100, 0, 0] := by kernel_rfl
  go_enter Try.func18, Try.ntmps18
  go_wp2_with (first | (go_at_call 20; refine (H1.out _).mono ?_; rintro e w1 ⟨rfl, hb1⟩; have HB1 := Lib.hid hb1; clear hb1))
  refine (H2.out _).mono ?_
  rintro e w2 ⟨A2, q2, rfl, hb2⟩
  have HB2 := Lib.hid (HB1.out.trans (hb2.mono HB1.out.size))
  clear hb2
  simp only [exBd]
  go_wp2_with (fail)
  refine (H3.out _).mono ?_
  rintro e w3 ⟨A3, q3, rfl, hb3⟩
  have hbx := (Box.new w2 _ _).call hb3
  have HB3 := Lib.hid (HB2.out.trans (((Below.refl w2.heap.size w2).alloc (Nat.le_refl _) _ |>.trans (hb3.mono (by simp))).mono HB2.out.size))
  have hbx := hbx.alloc (.cells #[.int .i64 0, .int .i64 0, .int .i64 0, .int .i64 0, .int .i64 0, .string ⟨#[]⟩, .string ⟨#[]⟩, .slice A3 0 q3] 24)
  obtain ⟨_, _, c2, _, _, c5, _, _⟩ := boxS hbx
  clear hb3 hbx
  simp only [zeroBd, List.length_nil]
  go_wp2_with (fail)
  go_ret
  exact ⟨rfl, HB3.out.alloc (by have := HB3.out.size; omega) _⟩
end Go.Proofs.Ytehbpjkeflcanaa
