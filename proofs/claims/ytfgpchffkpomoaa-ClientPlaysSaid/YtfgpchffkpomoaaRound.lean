/- A number below another one: the walks through round and around, of each package that has one. -/
import Derived.Test.YtfgpchffkpomoaaPk01
import Derived.Handy
namespace Go.Proofs.Ytfgpchffkpomoaa
set_option linter.unusedSimpArgs false
set_option linter.unusedVariables false
open Go.RowKit

def rnd (n : Int) (m : Nat) : Nat := (n.tmod m).natAbs
theorem rnd_lt (n : Int) {m : Nat} (hm : 0 < m) : rnd n m < m := by
  unfold rnd
  have h1 := Int.tmod_lt_of_pos n (show (0 : Int) < m by omega)
  have h2 : -(m : Int) < n.tmod m := Int.lt_tmod_of_pos n (by omega)
  omega
theorem ret_int {k : IntKind} {a b : Int} (h : a = b) : Ending.returned (.int k a) = .returned (.int k b) := by rw [h]
def RndPost (k : Nat) (w : World) (e : Ending) (w' : World) : Prop := e = .returned (.int .i64 k) ∧ w = w'

set_option maxRecDepth 100000 in
theorem round3_calls (n : Int) (m : Nat) (w : World) (hm : 0 < m) (hm2 : m ≤ 1000000) : Calls Try.prog 55 #[.int .i64 n, .int .i64 m] w (RndPost (rnd n m) w) := by
  have h1 := Int.tmod_lt_of_pos n (show (0 : Int) < m by omega)
  have h2 : -(m : Int) < n.tmod m := Int.lt_tmod_of_pos n (by omega)
  have HE := Lib.hid (show (rnd n m : Int) = ((n.tmod m).natAbs : Int) from rfl)
  have hm0 : ((m : Int) == 0) = false := by simp; omega
  obtain ⟨k, hk⟩ : ∃ k, k = n.tmod m := ⟨_, rfl⟩
  rw [← hk] at h1 h2 HE
  have HK := Lib.hid hk.symm
  have hk2 : n.tmod (m : Int) = k := hk.symm
  clear hk
  by_cases h0 : k < 0
  · have hd : decide (k < 0) = true := by simpa using h0
    go_enter Try.func55, Try.ntmps55
    go_wp2
    go_ret
    exact ⟨ret_int (by rw [HE.out]; omega), rfl⟩
  · have hd : decide (k < 0) = false := by simpa using h0
    go_enter Try.func55, Try.ntmps55
    go_wp2
    go_ret
    exact ⟨ret_int (by rw [HE.out]; omega), rfl⟩

set_option maxRecDepth 100000 in
theorem around4_calls (n : Int) (m : Nat) (w : World) (hm : 0 < m) (hm2 : m ≤ 1000000) : Calls Try.prog 109 #[.int .i64 n, .int .i64 m] w (RndPost (rnd n m) w) := by
  have h1 := Int.tmod_lt_of_pos n (show (0 : Int) < m by omega)
  have h2 : -(m : Int) < n.tmod m := Int.lt_tmod_of_pos n (by omega)
  have HE := Lib.hid (show (rnd n m : Int) = ((n.tmod m).natAbs : Int) from rfl)
  have hm0 : ((m : Int) == 0) = false := by simp; omega
  obtain ⟨k, hk⟩ : ∃ k, k = n.tmod m := ⟨_, rfl⟩
  rw [← hk] at h1 h2 HE
  have HK := Lib.hid hk.symm
  have hk2 : n.tmod (m : Int) = k := hk.symm
  clear hk
  by_cases h0 : k < 0
  · have hd : decide (k < 0) = true := by simpa using h0
    go_enter Try.func109, Try.ntmps109
    go_wp2
    go_ret
    exact ⟨ret_int (by rw [HE.out]; omega), rfl⟩
  · have hd : decide (k < 0) = false := by simpa using h0
    go_enter Try.func109, Try.ntmps109
    go_wp2
    go_ret
    exact ⟨ret_int (by rw [HE.out]; omega), rfl⟩

set_option maxRecDepth 100000 in
theorem around12_calls (n : Int) (m : Nat) (w : World) (hm : 0 < m) (hm2 : m ≤ 1000000) : Calls Try.prog 71 #[.int .i64 n, .int .i64 m] w (RndPost (rnd n m) w) := by
  have h1 := Int.tmod_lt_of_pos n (show (0 : Int) < m by omega)
  have h2 : -(m : Int) < n.tmod m := Int.lt_tmod_of_pos n (by omega)
  have HE := Lib.hid (show (rnd n m : Int) = ((n.tmod m).natAbs : Int) from rfl)
  have hm0 : ((m : Int) == 0) = false := by simp; omega
  obtain ⟨k, hk⟩ : ∃ k, k = n.tmod m := ⟨_, rfl⟩
  rw [← hk] at h1 h2 HE
  have HK := Lib.hid hk.symm
  have hk2 : n.tmod (m : Int) = k := hk.symm
  clear hk
  by_cases h0 : k < 0
  · have hd : decide (k < 0) = true := by simpa using h0
    go_enter Try.func71, Try.ntmps71
    go_wp2
    go_ret
    exact ⟨ret_int (by rw [HE.out]; omega), rfl⟩
  · have hd : decide (k < 0) = false := by simpa using h0
    go_enter Try.func71, Try.ntmps71
    go_wp2
    go_ret
    exact ⟨ret_int (by rw [HE.out]; omega), rfl⟩

set_option maxRecDepth 100000 in
theorem aroundT_calls (n : Int) (m : Nat) (w : World) (hm : 0 < m) (hm2 : m ≤ 1000000) : Calls Try.prog 95 #[.int .i64 n, .int .i64 m] w (RndPost (rnd n m) w) := by
  have h1 := Int.tmod_lt_of_pos n (show (0 : Int) < m by omega)
  have h2 : -(m : Int) < n.tmod m := Int.lt_tmod_of_pos n (by omega)
  have HE := Lib.hid (show (rnd n m : Int) = ((n.tmod m).natAbs : Int) from rfl)
  have hm0 : ((m : Int) == 0) = false := by simp; omega
  obtain ⟨k, hk⟩ : ∃ k, k = n.tmod m := ⟨_, rfl⟩
  rw [← hk] at h1 h2 HE
  have HK := Lib.hid hk.symm
  have hk2 : n.tmod (m : Int) = k := hk.symm
  clear hk
  by_cases h0 : k < 0
  · have hd : decide (k < 0) = true := by simpa using h0
    go_enter Try.func95, Try.ntmps95
    go_wp2
    go_ret
    exact ⟨ret_int (by rw [HE.out]; omega), rfl⟩
  · have hd : decide (k < 0) = false := by simpa using h0
    go_enter Try.func95, Try.ntmps95
    go_wp2
    go_ret
    exact ⟨ret_int (by rw [HE.out]; omega), rfl⟩

end Go.Proofs.Ytfgpchffkpomoaa
