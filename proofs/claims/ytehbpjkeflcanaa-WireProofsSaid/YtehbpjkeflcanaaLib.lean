/- Words on worlds, shared by all walks of this seat: which blocks a call may have changed. -/
import Derived.Test.YtehbpjkeflcanaaRows
import Derived.WalkKit
import Derived.WalkLawsBesides
import Derived.WalkSpells
import Derived.BigQuiet
import Derived.Deep.QuietTactic
import Derived.Deep.LoopGhost
import Derived.Below
import Derived.Lib.Hide
namespace Go.Proofs.Ytehbpjkeflcanaa
set_option linter.unusedSimpArgs false
set_option linter.unusedVariables false
open Go.RowKit

/-- Below block number B, and beside the blocks of S, the world w' is as w was. -/
structure Ch (B : Nat) (S : Nat → Prop) (w w' : World) : Prop where
  os : w'.os = w.os
  tape : w'.tape = w.tape
  output : w'.output = w.output
  size : w.heap.size ≤ w'.heap.size
  block : ∀ k, k < B → ¬ S k → w'.heap[k]? = w.heap[k]?

namespace Ch
variable {B B' : Nat} {S S' : Nat → Prop} {a b c w w' : World}
theorem refl (B : Nat) (S : Nat → Prop) (w : World) : Ch B S w w := ⟨rfl, rfl, rfl, Nat.le_refl _, fun _ _ _ => rfl⟩
theorem trans (h : Ch B S a b) (k : Ch B S b c) : Ch B S a c :=
  ⟨k.os.trans h.os, k.tape.trans h.tape, k.output.trans h.output, Nat.le_trans h.size k.size, fun i hi hs => (k.block i hi hs).trans (h.block i hi hs)⟩
theorem mono (h : Ch B S w w') (hB : B' ≤ B) (hS : ∀ k, k < B' → S k → S' k) : Ch B' S' w w' :=
  ⟨h.os, h.tape, h.output, h.size, fun k hk hs => h.block k (by omega) fun hs' => hs (hS k hk hs')⟩
theorem drew (h : Ch B S a w) : Ch B S a w.drew := ⟨h.os, h.tape, h.output, h.size, h.block⟩
theorem drewN (h : Ch B S a w) (n : Nat) : Ch B S a (w.drewN n) := ⟨h.os, h.tape, h.output, h.size, h.block⟩
theorem alloc (h : Ch B S a w) (hB : B ≤ w.heap.size) (o : Obj) : Ch B S a (w.alloc o) :=
  h.trans ⟨rfl, rfl, rfl, by simp, fun k hk _ => Below.heap_alloc _ _ _ (by omega)⟩
theorem setCell (h : Ch B S a w) {p : Addr} (hp : B ≤ p.block ∨ S p.block) (u : Value) : Ch B S a (w.setCell p u) :=
  h.trans ⟨rfl, rfl, rfl, by simp [World.setCell], fun k hk hs => Below.heap_setCell _ _ _ _ (by
    rintro rfl
    rcases hp with hp | hp
    · omega
    · exact hs hp)⟩
theorem below (h : Ch B S a b) (hS : ∀ k, k < B → ¬ S k) : Below B a b := ⟨h.os, h.tape, h.output, h.size, fun k hk => h.block k hk (hS k hk)⟩
theorem of_below (h : Below B a b) : Ch B S a b := ⟨h.os, h.tape, h.output, h.size, fun k hk _ => h.block k hk⟩
theorem cell (h : Ch B S w w') {p : Addr} (hp : p.block < B) (hs : ¬ S p.block) : w'.cell? p = w.cell? p := World.cell?_of_block (w := w) (h.block p.block hp hs)
theorem frozen (h : Ch B S w w') {p : Addr} (hp : p.block < B) (hs : ¬ S p.block) : w'.frozen? p = w.frozen? p := World.frozen?_of_block (w := w) (h.block p.block hp hs)
/-- A further step that changes only what is new, or in S. -/
theorem step (h : Ch B S a b) (k : Ch B' S' b c) (hB : B ≤ B') (hS : ∀ i, i < B → S' i → S i) : Ch B S a c := h.trans (k.mono hB hS)
end Ch

/-- A whole block of cells, none of them frozen. -/
def Box (w : World) (k : Nat) (cs : Array Value) (T : TypeId) : Prop := w.heap[k]? = some (.cells cs T (0, 0))
namespace Box
variable {w w' : World} {k : Nat} {cs : Array Value} {T : TypeId}
theorem cell (h : Box w k cs T) (i : Nat) : w.cell? ⟨k, i, none⟩ = cs[i]? := by
  unfold Box at h; simp [World.cell?, h]
theorem free (h : Box w k cs T) (i : Nat) : w.frozen? ⟨k, i, none⟩ = false := by
  unfold Box at h; simp [World.frozen?, h]
theorem lt (h : Box w k cs T) : k < w.heap.size := by
  unfold Box at h
  rcases Nat.lt_or_ge k w.heap.size with h' | h'
  · exact h'
  · rw [Array.getElem?_eq_none h'] at h; cases h
theorem set (h : Box w k cs T) (i : Nat) (v : Value) : Box (w.setCell ⟨k, i, none⟩ v) k (cs.setIfInBounds i v) T := by
  unfold Box at *; simp [World.setCell, Array.getElem?_modify, h]
theorem other (h : Box w k cs T) {a : Addr} (ha : a.block ≠ k) (v : Value) : Box (w.setCell a v) k cs T := by
  unfold Box at *; rw [Below.heap_setCell _ _ _ _ (fun e => ha e.symm)]; exact h
theorem alloc (h : Box w k cs T) (o : Obj) : Box (w.alloc o) k cs T := by
  have := h.lt
  unfold Box at *; rw [Below.heap_alloc _ _ _ this]; exact h
theorem new (w : World) (cs : Array Value) (T : TypeId) : Box (w.alloc (.cells cs T)) w.heap.size cs T := by
  show (w.heap.push _)[w.heap.size]? = _
  simp
theorem drewN (h : Box w k cs T) (n : Nat) : Box (w.drewN n) k cs T := h
theorem drew (h : Box w k cs T) : Box w.drew k cs T := h
theorem ch {B : Nat} {S : Nat → Prop} (h : Box w k cs T) (hc : Ch B S w w') (hk : k < B) (hs : ¬ S k) : Box w' k cs T := by
  unfold Box at *; rw [hc.block k hk hs]; exact h
theorem facts1 {a : Value} (h : Box w k #[a] T) : w.cell? ⟨k, 0, none⟩ = some a ∧ w.frozen? ⟨k, 0, none⟩ = false := ⟨h.cell 0, h.free 0⟩
theorem facts2 {a b : Value} (h : Box w k #[a, b] T) : w.cell? ⟨k, 0, none⟩ = some a ∧ w.cell? ⟨k, 1, none⟩ = some b ∧ w.frozen? ⟨k, 0, none⟩ = false ∧ w.frozen? ⟨k, 1, none⟩ = false :=
  ⟨h.cell 0, h.cell 1, h.free 0, h.free 1⟩
theorem facts3 {a b c : Value} (h : Box w k #[a, b, c] T) : w.cell? ⟨k, 0, none⟩ = some a ∧ w.cell? ⟨k, 1, none⟩ = some b ∧ w.cell? ⟨k, 2, none⟩ = some c ∧
    w.frozen? ⟨k, 0, none⟩ = false ∧ w.frozen? ⟨k, 1, none⟩ = false ∧ w.frozen? ⟨k, 2, none⟩ = false :=
  ⟨h.cell 0, h.cell 1, h.cell 2, h.free 0, h.free 1, h.free 2⟩
theorem facts4 {a b c d : Value} (h : Box w k #[a, b, c, d] T) : w.cell? ⟨k, 0, none⟩ = some a ∧ w.cell? ⟨k, 1, none⟩ = some b ∧ w.cell? ⟨k, 2, none⟩ = some c ∧ w.cell? ⟨k, 3, none⟩ = some d ∧
    w.frozen? ⟨k, 0, none⟩ = false ∧ w.frozen? ⟨k, 1, none⟩ = false ∧ w.frozen? ⟨k, 2, none⟩ = false ∧ w.frozen? ⟨k, 3, none⟩ = false :=
  ⟨h.cell 0, h.cell 1, h.cell 2, h.cell 3, h.free 0, h.free 1, h.free 2, h.free 3⟩
theorem facts5 {v0 v1 v2 v3 v4 : Value} (h : Box w k #[v0, v1, v2, v3, v4] T) : w.cell? ⟨k, 0, none⟩ = some v0 ∧ w.cell? ⟨k, 1, none⟩ = some v1 ∧ w.cell? ⟨k, 2, none⟩ = some v2 ∧ w.cell? ⟨k, 3, none⟩ = some v3 ∧ w.cell? ⟨k, 4, none⟩ = some v4 ∧ w.frozen? ⟨k, 0, none⟩ = false ∧ w.frozen? ⟨k, 1, none⟩ = false ∧ w.frozen? ⟨k, 2, none⟩ = false ∧ w.frozen? ⟨k, 3, none⟩ = false ∧ w.frozen? ⟨k, 4, none⟩ = false :=
  ⟨h.cell 0, h.cell 1, h.cell 2, h.cell 3, h.cell 4, h.free 0, h.free 1, h.free 2, h.free 3, h.free 4⟩
theorem facts6 {v0 v1 v2 v3 v4 v5 : Value} (h : Box w k #[v0, v1, v2, v3, v4, v5] T) : w.cell? ⟨k, 0, none⟩ = some v0 ∧ w.cell? ⟨k, 1, none⟩ = some v1 ∧ w.cell? ⟨k, 2, none⟩ = some v2 ∧ w.cell? ⟨k, 3, none⟩ = some v3 ∧ w.cell? ⟨k, 4, none⟩ = some v4 ∧ w.cell? ⟨k, 5, none⟩ = some v5 ∧ w.frozen? ⟨k, 0, none⟩ = false ∧ w.frozen? ⟨k, 1, none⟩ = false ∧ w.frozen? ⟨k, 2, none⟩ = false ∧ w.frozen? ⟨k, 3, none⟩ = false ∧ w.frozen? ⟨k, 4, none⟩ = false ∧ w.frozen? ⟨k, 5, none⟩ = false :=
  ⟨h.cell 0, h.cell 1, h.cell 2, h.cell 3, h.cell 4, h.cell 5, h.free 0, h.free 1, h.free 2, h.free 3, h.free 4, h.free 5⟩
theorem facts8 {v0 v1 v2 v3 v4 v5 v6 v7 : Value} (h : Box w k #[v0, v1, v2, v3, v4, v5, v6, v7] T) : w.cell? ⟨k, 0, none⟩ = some v0 ∧ w.cell? ⟨k, 1, none⟩ = some v1 ∧ w.cell? ⟨k, 2, none⟩ = some v2 ∧ w.cell? ⟨k, 3, none⟩ = some v3 ∧ w.cell? ⟨k, 4, none⟩ = some v4 ∧ w.cell? ⟨k, 5, none⟩ = some v5 ∧ w.cell? ⟨k, 6, none⟩ = some v6 ∧ w.cell? ⟨k, 7, none⟩ = some v7 ∧ w.frozen? ⟨k, 0, none⟩ = false ∧ w.frozen? ⟨k, 1, none⟩ = false ∧ w.frozen? ⟨k, 2, none⟩ = false ∧ w.frozen? ⟨k, 3, none⟩ = false ∧ w.frozen? ⟨k, 4, none⟩ = false ∧ w.frozen? ⟨k, 5, none⟩ = false ∧ w.frozen? ⟨k, 6, none⟩ = false ∧ w.frozen? ⟨k, 7, none⟩ = false :=
  ⟨h.cell 0, h.cell 1, h.cell 2, h.cell 3, h.cell 4, h.cell 5, h.cell 6, h.cell 7, h.free 0, h.free 1, h.free 2, h.free 3, h.free 4, h.free 5, h.free 6, h.free 7⟩
end Box

/-- The byte at a place, as a number; 0 beyond. -/
def byteAt (s : ByteArray) (q : Nat) : Nat := if h : q < s.size then s[q].toNat else 0
theorem byteAt_eq (s : ByteArray) (q : Nat) (h : q < s.size) : s[q].toNat = byteAt s q := by unfold byteAt; rw [dif_pos h]
theorem byteAt_lt (s : ByteArray) (q : Nat) : byteAt s q < 256 := by
  unfold byteAt
  split
  · exact UInt8.toNat_lt _
  · omega
end Go.Proofs.Ytehbpjkeflcanaa
