/- Whether a body may be: both sides say the same: the walk. -/
import Derived.Test.YtehbpjkeflcanaaAwake
import Derived.Test.YtehbpjkeflcanaaRightEq
namespace Go.Proofs.Ytehbpjkeflcanaa
open Go.RowKit

set_option maxRecDepth 100000 in
theorem wireRights_calls (b : Bd) (A : Option Addr) (c : Nat) (w : World) (hs : SgS w A c b.list) : Calls Try.prog 3 #[b.val A c] w (BoolPost true w) := by
  obtain ⟨n, hn⟩ : ∃ n, n = rightE b := ⟨_, rfl⟩
  have H1 := Lib.hid (right_calls b A c)
  have H2 := Lib.hid (rright_calls b A c)
  rw [right_eq] at H2
  rw [← hn] at H1 H2
  have HS := Lib.hid hs
  clear hs hn
  have HBX := Lib.hid (Box.new w (b.cells A c) 24)
  have HA := Lib.hid ((Below.refl w.heap.size w).alloc (Nat.le_refl _) (.cells (b.cells A c) 24))
  obtain ⟨W, hW⟩ : ∃ W, W = w.alloc (.cells (b.cells A c) 24) := ⟨_, rfl⟩
  rw [← hW] at HBX HA
  have HWW := Lib.hid hW
  clear hW
  obtain ⟨kind, view, seq, client, stamp, digest, tx, list⟩ := b
  unfold Bd.val Bd.cells at *
  simp only at *
  go_enter Try.func3, Try.ntmps3
  go_wp2_with fail
  rw [← HWW.out]
  have hst := (St.mk HA.out HBX.out).drew
  go_region_held3 (fun w' => w'.cell? ⟨w.heap.size, 0, none⟩ = some (.int .i64 kind) ∧ w'.cell? ⟨w.heap.size, 1, none⟩ = some (.int .i64 view) ∧ w'.cell? ⟨w.heap.size, 2, none⟩ = some (.int .i64 seq) ∧ w'.cell? ⟨w.heap.size, 3, none⟩ = some (.int .i64 client) ∧ w'.cell? ⟨w.heap.size, 4, none⟩ = some (.int .i64 stamp) ∧ w'.cell? ⟨w.heap.size, 5, none⟩ = some (.string digest) ∧ w'.cell? ⟨w.heap.size, 6, none⟩ = some (.string tx) ∧ w'.cell? ⟨w.heap.size, 7, none⟩ = some (.slice A list.length c)) (exact boxS hst.x) (first | (go_at_call 16; refine (H1.out _ (HS.out.below hst.b)).mono ?_; rintro e w1 ⟨rfl, hc1⟩; have hst1 := hst.call (Nat.le_refl _) hc1; clear hc1 hst; have hst := hst1; clear hst1) | (go_at_call 17; refine (H2.out _ (HS.out.below hst.b)).mono ?_; rintro e w2 ⟨rfl, hc1⟩; have hst1 := hst.call (Nat.le_refl _) hc1; clear hc1 hst; have hst := hst1; clear hst1) | (go_at_call 18; refine (awake_calls _).mono ?_; rintro e w3 ⟨rfl, hc1⟩; have hst1 := hst.call (Nat.le_refl _) hc1; clear hc1 hst; have hst := hst1; clear hst1))
  go_wp2
  go_ret
  exact ⟨rfl, hst.b⟩
end Go.Proofs.Ytehbpjkeflcanaa
