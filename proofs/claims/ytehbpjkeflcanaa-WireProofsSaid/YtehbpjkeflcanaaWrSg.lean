/- The writer's message. -/
import Derived.Test.YtehbpjkeflcanaaWr
import Derived.Deep.RegionHeld3
namespace Go.Proofs.Ytehbpjkeflcanaa
set_option linter.unusedSimpArgs false
set_option linter.unusedVariables false
open Go.RowKit

def Sg.val (m : Sg) : Value := .agg #[.int .i64 m.who, .string m.body, .string m.sig]
def putSg (m : Sg) : List UInt8 := putNum m.who.toNat ++ (putText m.body ++ putText m.sig)

theorem Wr.other {w : World} {b : Nat} {A : Option Addr} {cap : Nat} {l : List UInt8} (h : Wr w b A cap l) {w' : World} {B : Nat} {S : Nat → Prop} (hc : Ch B S w w') (hb : b < B ∧ ¬ S b) (hA : ∀ k, Row A k → k < B ∧ ¬ S k) : Wr w' b A cap l :=
  ⟨(hc.cell (p := ⟨b, 0, none⟩) hb.1 hb.2).trans h.cell, (hc.frozen (p := ⟨b, 0, none⟩) hb.1 hb.2).trans h.fr, own_ch h.own hc hA⟩
theorem Wr.alloc {w : World} {b : Nat} {A : Option Addr} {cap : Nat} {l : List UInt8} (h : Wr w b A cap l) (o : Obj) : Wr (w.alloc o) b A cap l :=
  h.other (B := w.heap.size) (S := fun _ => False) ((Ch.refl _ _ _).alloc (Nat.le_refl _) o) ⟨World.block_lt_of_cell? _ _ h.cell, fun h => h⟩ (fun _ hk => ⟨(own_row h.own hk).2, fun h => h⟩)
theorem Wr.drewN {w : World} {b : Nat} {A : Option Addr} {cap : Nat} {l : List UInt8} (h : Wr w b A cap l) (n : Nat) : Wr (w.drewN n) b A cap l := ⟨h.1, h.2, h.3⟩
theorem Wr.drew {w : World} {b : Nat} {A : Option Addr} {cap : Nat} {l : List UInt8} (h : Wr w b A cap l) : Wr w.drew b A cap l := ⟨h.1, h.2, h.3⟩
theorem Wr.lt {w : World} {b : Nat} {A : Option Addr} {cap : Nat} {l : List UInt8} (h : Wr w b A cap l) : b < w.heap.size := World.block_lt_of_cell? _ _ h.cell

/-- A box that is none of the writer's blocks is none of them later. -/
theorem wr_ne {b k : Nat} {A A' : Option Addr} {w w' : World} (h : WrCh b A A' w w') (hk : k < w.heap.size) (hb : k ≠ b) (hA : ¬ Row A k) : ¬ (k = b ∨ Row A' k) := by
  rintro (e | e)
  · exact hb e
  · rcases h.row k e with h1 | h1
    · exact hA h1
    · omega
theorem cells3 {w : World} {k : Nat} {a b c : Value} {T : TypeId} (h : Box w k #[a, b, c] T) : w.cell? ⟨k, 0, none⟩ = some a ∧ w.cell? ⟨k, 1, none⟩ = some b ∧ w.cell? ⟨k, 2, none⟩ = some c := ⟨h.cell 0, h.cell 1, h.cell 2⟩

set_option maxRecDepth 100000 in
theorem wsigned_calls (b : Nat) (A : Option Addr) (cap : Nat) (l : List UInt8) (m : Sg) (w : World) (h0 : 0 ≤ m.who) (h1 : m.who ≤ 9007199254740992) (hb : m.body.size ≤ 9007199254740992) (hg : m.sig.size ≤ 9007199254740992)
    (hl : l.length + (putSg m).length ≤ 140737488355328) (hw : Wr w b A cap l) :
    Calls Try.prog 66 #[.pointer (some ⟨b, 0, none⟩), m.val] w (WrPost b A (l ++ putSg m) w) := by
  obtain ⟨who, body, sig⟩ := m
  unfold Sg.val
  simp only at *
  have HL := Lib.hid hl
  have HW := Lib.hid (hw.alloc (.cells #[.int .i64 who, .string body, .string sig] 36))
  have hbl := hw.lt
  have hRA : ¬ Row A w.heap.size := fun h => by have := (own_row hw.own h).2; omega
  have HB := Lib.hid (Box.new w #[.int .i64 who, .string body, .string sig] 36)
  clear hl hw
  have HL0 := Lib.hid (show l.length + (putNum who.toNat).length ≤ 140737488355328 by have := HL.out; simp only [putSg, List.length_append] at this; omega)
  have HL1 := Lib.hid (show (l ++ putNum who.toNat).length + (putText body).length ≤ 140737488355328 by have := HL.out; simp only [putSg, List.length_append] at this ⊢; omega)
  have HL2 := Lib.hid (show (l ++ putNum who.toNat ++ putText body).length + (putText sig).length ≤ 140737488355328 by have := HL.out; simp only [putSg, List.length_append] at this ⊢; omega)
  obtain ⟨W, hW⟩ : ∃ W, W = w.alloc (.cells #[.int .i64 who, .string body, .string sig] 36) := ⟨_, rfl⟩
  have hsz : w.heap.size < W.heap.size := by rw [hW]; simp
  have HA := Lib.hid (WrCh.alloc b A w (.cells #[.int .i64 who, .string body, .string sig] 36))
  rw [← hW] at HB HW HA
  have HWW := Lib.hid hW
  clear hW
  go_enter Try.func66, Try.ntmps66
  go_wp2_with fail
  rw [← HWW.out]
  go_region_held3 (fun w' => w'.cell? ⟨w.heap.size, 0, none⟩ = some (.int .i64 who) ∧ w'.cell? ⟨w.heap.size, 1, none⟩ = some (.string body) ∧ w'.cell? ⟨w.heap.size, 2, none⟩ = some (.string sig)) (first | exact cells3 (by assumption) | exact cells3 HB.out) (first | (go_at_call 64; refine (wnumber_calls b A cap l who _ h0 h1 HL0.out HW.out.drew).mono ?_; rintro e w1 ⟨rfl, A1, cap1, hc1, hw1⟩; have HC1 := Lib.hid ((WrCh.drewN b A W 1).trans hc1); have hb1 := HB.out.drew.ch hc1.ch (by exact hsz) (by exact wr_ne (WrCh.refl b A W) hsz (by omega) hRA); clear hc1; have t1 : True := trivial) | (go_at_call 65; have _t := t1; clear t1; refine (wtext_calls b A1 cap1 _ body _ hb HL1.out hw1).mono ?_; rintro e w2 ⟨rfl, A2, cap2, hc2, hw2⟩; have hb2 := hb1.ch hc2.ch (by exact hb1.lt) (by exact wr_ne HC1.out hsz (by omega) hRA); have HC2 := Lib.hid (HC1.out.trans hc2); clear hc2 hb1 hw1; have t2 : True := trivial) | (go_at_call 65; have _t := t2; clear t2; refine (wtext_calls b A2 cap2 _ sig _ hg HL2.out hw2).mono ?_; rintro e w3 ⟨rfl, A3, cap3, hc3, hw3⟩; have hb3 := hb2.ch hc3.ch (by exact hb2.lt) (by exact wr_ne HC2.out hsz (by omega) hRA); have HC3 := Lib.hid (HC2.out.trans hc3); clear hc3))
  have HW3 := Lib.hid hw3
  clear hw3 hb2 hb3 hw2
  go_wp2
  go_ret
  refine ⟨rfl, A3, cap3, HA.out.trans HC3.out, ?_⟩
  have e : l ++ putSg ⟨who, body, sig⟩ = l ++ putNum who.toNat ++ putText body ++ putText sig := by simp [putSg]
  rw [e]
  exact HW3.out
end Go.Proofs.Ytehbpjkeflcanaa
