/- Proofs: what stands in memory; and whether one may be, by the code and by the document. -/
import Derived.Test.YtehbpjkeflcanaaTx
import Derived.Test.YtehbpjkeflcanaaRc
namespace Go.Proofs.Ytehbpjkeflcanaa
set_option linter.unusedSimpArgs false
set_option linter.unusedVariables false
open Go.RowKit

/-- A path; and one in memory: where its sides lie. -/
structure Pt where
  index : Int
  key : ByteArray
  val : ByteArray
  sides : List ByteArray
deriving DecidableEq
structure Pm where
  index : Int
  key : ByteArray
  val : ByteArray
  sides : List ByteArray
  A : Option Addr
  c : Nat
def Pm.pt (m : Pm) : Pt := ⟨m.index, m.key, m.val, m.sides⟩
def Pm.cells (m : Pm) : List Value := [.int .i64 m.index, .string m.key, .string m.val, .slice m.A m.sides.length m.c]
theorem Pm.cells_len (m : Pm) : m.cells.length = 4 := rfl
def PmS (w : World) (A : Option Addr) (c : Nat) (l : List Pm) : Prop := Sl w 4 A l.length c (l.flatMap Pm.cells) ∧ ∀ m ∈ l, TxS w m.A m.c m.sides
theorem PmS.below {w w' : World} {A : Option Addr} {c : Nat} {l : List Pm} (h : PmS w A c l) (hb : Below w.heap.size w w') : PmS w' A c l := ⟨Sl.below h.1 hb, fun m hm => (h.2 m hm).below hb⟩
theorem PmS.elem {w : World} {A : Option Addr} {c : Nat} {l : List Pm} (h : PmS w A c l) (k : Nat) (hk : k < l.length) : ∃ a, A = some a ∧ w.cell? (a.add (k * 4)) = some (.int .i64 l[k].index) ∧
    w.cell? ⟨(a.add (k * 4)).block, (a.add (k * 4)).off + 1, none⟩ = some (.string l[k].key) ∧ w.cell? ⟨(a.add (k * 4)).block, (a.add (k * 4)).off + 2, none⟩ = some (.string l[k].val) ∧
    w.cell? ⟨(a.add (k * 4)).block, (a.add (k * 4)).off + 3, none⟩ = some (.slice l[k].A l[k].sides.length l[k].c) ∧ TxS w l[k].A l[k].c l[k].sides := by
  obtain ⟨a, rfl, h0, h1⟩ := Sl.elem h.1 Pm.cells_len k hk (by decide)
  exact ⟨a, rfl, h0 _ rfl, h1 1 _ (by decide) rfl, h1 2 _ (by decide) rfl, h1 3 _ (by decide) rfl, h.2 _ (List.getElem_mem hk)⟩

/-- May a path be, may a proof be? -/
def ptOk (x : Pt) : Bool := decide (0 ≤ x.index ∧ x.index ≤ 4095) && (decide (x.key.size ≤ 64) && (decide (x.val.size ≤ 4096) && (decide (x.sides.length ≤ 13) && x.sides.all (fun s => decide (s.size ≤ 32)))))
def pfOk (count : Int) (l : List Pt) : Bool := decide (0 ≤ count ∧ count ≤ 4096) && (decide (l.length ≤ 2) && l.all ptOk)
theorem all_take_succ {α : Type} {f : α → Bool} {l : List α} {k : Nat} (hk : k < l.length) : (l.take (k + 1)).all f = ((l.take k).all f && f l[k]) := by
  rw [List.take_succ_eq_append_getElem hk, List.all_append]; simp
theorem all_bad {α : Type} {f : α → Bool} {l : List α} {k : Nat} (hk : k < l.length) (h : f l[k] = false) : l.all f = false := by
  rw [List.all_eq_false]
  exact ⟨l[k], List.getElem_mem hk, by simp [h]⟩
theorem pfOk_count {count : Int} {l : List Pt} (h : ¬ (0 ≤ count ∧ count ≤ 4096)) : pfOk count l = false := by unfold pfOk; rw [decide_eq_false h]; rfl
theorem pfOk_len {count : Int} {l : List Pt} (h : 2 < l.length) : pfOk count l = false := by unfold pfOk; rw [decide_eq_false (show ¬ l.length ≤ 2 by omega)]; simp
theorem pfOk_bad {count : Int} {l : List Pm} {k : Nat} (hk : k < l.length) (h : ptOk l[k].pt = false) : pfOk count (l.map Pm.pt) = false := by
  unfold pfOk
  rw [all_bad (l := l.map Pm.pt) (k := k) (by simpa using hk) (by simpa using h)]
  simp
theorem pfOk_good {count : Int} {l : List Pm} (h1 : 0 ≤ count ∧ count ≤ 4096) (h2 : l.length ≤ 2) (h3 : (l.map Pm.pt).all ptOk = true) : pfOk count (l.map Pm.pt) = true := by
  unfold pfOk
  rw [decide_eq_true h1, h3]
  simpa using h2
theorem ptOk_side {x : Pt} {j : Nat} (hj : j < x.sides.length) (h : 32 < x.sides[j].size) : ptOk x = false := by
  unfold ptOk
  rw [all_bad hj (by simpa using h)]
  simp
theorem ptOk_good {x : Pt} (h1 : 0 ≤ x.index ∧ x.index ≤ 4095) (h2 : x.key.size ≤ 64) (h3 : x.val.size ≤ 4096) (h4 : x.sides.length ≤ 13) (h5 : x.sides.all (fun s => decide (s.size ≤ 32)) = true) : ptOk x = true := by
  unfold ptOk
  rw [decide_eq_true h1, h5]
  simp [h2, h3, h4]
theorem ptOk_no {x : Pt} (h : ¬ ((0 ≤ x.index ∧ x.index ≤ 4095) ∧ x.key.size ≤ 64 ∧ x.val.size ≤ 4096 ∧ x.sides.length ≤ 13)) : ptOk x = false := by
  cases hx : ptOk x with
  | false => rfl
  | true =>
    unfold ptOk at hx
    simp only [Bool.and_eq_true, decide_eq_true_eq] at hx
    exact absurd ⟨hx.1, hx.2.1, hx.2.2.1, hx.2.2.2.1⟩ h
theorem pfOk_iff {count : Int} {l : List Pt} (h : pfOk count l = true) : (0 ≤ count ∧ count ≤ 4096) ∧ l.length ≤ 2 ∧ ∀ x ∈ l, (0 ≤ x.index ∧ x.index ≤ 4095) ∧ x.key.size ≤ 64 ∧ x.val.size ≤ 4096 ∧ x.sides.length ≤ 13 ∧ ∀ s ∈ x.sides, s.size ≤ 32 := by
  unfold pfOk at h
  simp only [Bool.and_eq_true, decide_eq_true_eq, List.all_eq_true] at h
  refine ⟨h.1, h.2.1, fun x hx => ?_⟩
  have hp := h.2.2 x hx
  unfold ptOk at hp
  simp only [Bool.and_eq_true, decide_eq_true_eq, List.all_eq_true] at hp
  exact ⟨hp.1, hp.2.1, hp.2.2.1, hp.2.2.2.1, hp.2.2.2.2⟩
end Go.Proofs.Ytehbpjkeflcanaa
