/- A number below another one: the walk through chapter 4's around. -/
import Derived.Test.YtfgpchffkpomoaaPk27
namespace Go.Proofs.Ytfgpchffkpomoaa
set_option linter.unusedSimpArgs false
set_option linter.unusedVariables false
open Go.RowKit

set_option maxRecDepth 100000 in
theorem round4_det (k : Int) (b : Nat) (hb : 0 < b) (hb2 : b ≤ 1000000) (h0 : -9223372036854775808 ≤ k) (h1 : k ≤ 9223372036854775807) : ∃ r : Nat, r < b ∧ Hid (∀ w, Calls Try.prog 109 #[.int .i64 k, .int .i64 b] w fun e w' => e = .returned (.int .i64 r) ∧ w' = w) := by
  have hlo := Int.lt_tmod_of_pos k (show (0 : Int) < b by omega)
  have hhi := Int.tmod_lt_of_pos k (show (0 : Int) < b by omega)
  have hz : ((b : Int) == 0) = false := by rw [beq_eq_false_iff_ne]; omega
  have hnz : (b : Int) ≠ 0 := by omega
  have hnb : ¬ b = 0 := by omega
  have hm1 : ¬ (b : Int) = -1 := by omega
  obtain ⟨r, hr⟩ : ∃ r, r = Int.tmod k b := ⟨_, rfl⟩
  rw [← hr] at hlo hhi
  have HR := Lib.hid hr
  have hw : IntKind.i64.wrap (Int.tmod k b) = Int.tmod k b := by rw [← hr]; exact wrap_small2 _ (by omega) (by omega)
  refine ⟨r.natAbs, by omega, fun w => ?_⟩
  by_cases hn : r < 0
  · have hd : decide (Int.tmod k b < 0) = true := by rw [← hr]; exact decide_eq_true hn
    have hw3 : IntKind.i64.wrap (-(Int.tmod k b)) = -(Int.tmod k b) := by rw [← hr]; exact wrap_small2 _ (by omega) (by omega)
    have hw2 : IntKind.i64.wrap (0 - Int.tmod k b) = -(Int.tmod k b) := by rw [← hr]; rw [show (0 : Int) - r = -r by omega]; exact wrap_small2 _ (by omega) (by omega)
    clear hr
    go_enter Try.func109, Try.ntmps109
    go_wp2_with fail
    go_ret
    exact ⟨by congr 2; rw [← HR.out]; simp; omega, rfl⟩
  · have hd : decide (Int.tmod k b < 0) = false := by rw [← hr]; exact decide_eq_false hn
    clear hr
    go_enter Try.func109, Try.ntmps109
    go_wp2_with fail
    go_ret
    exact ⟨by congr 2; rw [← HR.out]; simp; omega, rfl⟩
end Go.Proofs.Ytfgpchffkpomoaa
