/- The walk through eight: a number's eight bytes, the highest first. -/
import Derived.Test.YtfgpchffkpomoaaBe
import Derived.Handy
namespace Go.Proofs.Ytfgpchffkpomoaa
set_option linter.unusedSimpArgs false
set_option linter.unusedVariables false
open Go.RowKit

theorem be8 (n : Nat) : be 8 n = [UInt8.ofNat (n / 72057594037927936 % 256), UInt8.ofNat (n / 281474976710656 % 256), UInt8.ofNat (n / 1099511627776 % 256), UInt8.ofNat (n / 4294967296 % 256), UInt8.ofNat (n / 16777216 % 256), UInt8.ofNat (n / 65536 % 256), UInt8.ofNat (n / 256 % 256), UInt8.ofNat (n % 256)] := by
  simp [be, Nat.div_div_eq_div_mul]

set_option maxHeartbeats 1000000 in
set_option maxRecDepth 100000 in
theorem eight_calls (n : Nat) (w : World) (hn : n ≤ 1152921504606846976) : Calls Try.prog 215 #[.int .i64 n] w fun e w' => e = .returned (.string (eight n)) ∧ Below w.heap.size w w' := by
  have hmk : ∀ w : World, (Instr.makeSlice 205 (.int .i64 8) (.int .i64 8)).run Try.prog w = .ok (.slice (some ⟨w.heap.size, 0, none⟩) 8 8) (w.alloc (.cells #[.int .u8 0, .int .u8 0, .int .u8 0, .int .u8 0, .int .u8 0, .int .u8 0, .int .u8 0, .int .u8 0] 5)) := fun _ => by kernel_rfl
  obtain ⟨W, hW⟩ : ∃ W, W = w.alloc (.cells #[.int .u8 ((n : Int) / 72057594037927936), .int .u8 ((n : Int) / 281474976710656 % 256), .int .u8 ((n : Int) / 1099511627776 % 256), .int .u8 ((n : Int) / 4294967296 % 256), .int .u8 ((n : Int) / 16777216 % 256), .int .u8 ((n : Int) / 65536 % 256), .int .u8 ((n : Int) / 256 % 256), .int .u8 ((n : Int) % 256)] 5) := ⟨_, rfl⟩
  have hst : (convert 205 9 (.slice (some ⟨w.heap.size, 0, none⟩) 8 8)).run Try.prog W = .ok (.string (eight n)) W := by
    have hl : (be 8 n).length = 8 := be_length 8 n
    have h := run_convert_bytes_back W 205 9 5 ⟨w.heap.size, 0, none⟩ 8 (be 8 n) Try.underlying205 Try.underlying5 Try.underlying9 (by
      intro j hj
      rw [hl] at hj
      have hc : ∀ i, W.cell? ⟨w.heap.size, i, none⟩ = (#[Value.int .u8 ((n : Int) / 72057594037927936), .int .u8 ((n : Int) / 281474976710656 % 256), .int .u8 ((n : Int) / 1099511627776 % 256), .int .u8 ((n : Int) / 4294967296 % 256), .int .u8 ((n : Int) / 16777216 % 256), .int .u8 ((n : Int) / 65536 % 256), .int .u8 ((n : Int) / 256 % 256), .int .u8 ((n : Int) % 256)])[i]? := by
        rw [hW]; exact (Box.new w _ _).cell
      have e : (⟨w.heap.size, 0, none⟩ : Addr).add j = ⟨w.heap.size, j, none⟩ := by unfold Addr.add; split <;> simp_all
      rw [e, hc]
      have hb := be8 n
      have h8 : j = 0 ∨ j = 1 ∨ j = 2 ∨ j = 3 ∨ j = 4 ∨ j = 5 ∨ j = 6 ∨ j = 7 := by omega
      rcases h8 with rfl | rfl | rfl | rfl | rfl | rfl | rfl | rfl <;> (simp only [hb]; exact congrArg some (byteVal_of (by omega) (by omega))))
    rw [hl] at h
    exact h
  have HB := (show Below w.heap.size w W by rw [hW]; exact (Below.refl _ _).alloc (Nat.le_refl _) _)
  subst hW
  have HB := Lib.hid HB
  go_enter Try.func215, Try.ntmps215
  go_wp2
  go_rounds 9
  go_ret
  exact ⟨rfl, HB.out⟩
end Go.Proofs.Ytfgpchffkpomoaa
