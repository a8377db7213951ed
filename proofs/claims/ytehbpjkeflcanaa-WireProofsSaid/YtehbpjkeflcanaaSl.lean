/- Slices that are read: their elements, a fixed number of cells each. -/
import Derived.Test.YtehbpjkeflcanaaApp
import Derived.DataElems
namespace Go.Proofs.Ytehbpjkeflcanaa
set_option linter.unusedSimpArgs false
set_option linter.unusedVariables false
open Go.RowKit

/-- A slice of n elements of sz cells each, that holds the cells xs. -/
structure Sl (w : World) (sz : Nat) (A : Option Addr) (n c : Nat) (xs : List Value) : Prop where
  len : xs.length = n * sz
  fits : n ≤ 9223372036854775807
  at_ : ∀ j u, xs[j]? = some u → ∃ a, A = some a ∧ w.cell? (a.add j) = some u

theorem add_field (a : Addr) (m j : Nat) (hj : 0 < j) : a.add (m + j) = ⟨(a.add m).block, (a.add m).off + j, none⟩ := by
  rw [← Addr.add_add]
  generalize a.add m = b
  unfold Addr.add
  rw [if_neg (by omega)]

theorem flat_get {α : Type} (f : α → List Value) (sz : Nat) (hf : ∀ x, (f x).length = sz) : ∀ (l : List α) (k j : Nat) (hk : k < l.length), j < sz → (l.flatMap f)[k * sz + j]? = (f l[k])[j]?
  | [], _, _, hk, _ => by simp at hk
  | x :: l, 0, j, _, hj => by
    simp only [List.flatMap_cons, Nat.zero_mul, Nat.zero_add, List.getElem_cons_zero]
    rw [List.getElem?_append_left (by rw [hf]; exact hj)]
  | x :: l, k + 1, j, hk, hj => by
    simp only [List.flatMap_cons, List.getElem_cons_succ]
    rw [List.getElem?_append_right (by rw [hf, Nat.succ_mul]; omega)]
    rw [show (k + 1) * sz + j - (f x).length = k * sz + j by rw [hf, Nat.succ_mul]; omega]
    exact flat_get f sz hf l k j (by simpa using hk) hj
theorem flat_len {α : Type} (f : α → List Value) (sz : Nat) (hf : ∀ x, (f x).length = sz) (l : List α) : (l.flatMap f).length = l.length * sz := by
  induction l with
  | nil => simp
  | cons x l ih => simp only [List.flatMap_cons, List.length_append, hf, ih, List.length_cons, Nat.succ_mul]; omega

namespace Sl
variable {w w' : World} {sz n c : Nat} {A : Option Addr} {xs : List Value}
theorem row_lt (h : Sl w sz A n c xs) (hn : 0 < xs.length) : ∀ k, Row A k → k < w.heap.size := by
  intro k hk
  obtain ⟨a, rfl, hc⟩ := h.at_ 0 xs[0] (by simp [hn])
  have := World.block_lt_of_cell? _ _ hc
  have e : (a.add 0) = a := by simp [Addr.add]
  rw [e] at this
  simp only [Row, Option.map_some, Option.some.injEq] at hk
  omega
theorem add_block (a : Addr) (j : Nat) : (a.add j).block = a.block := by unfold Addr.add; split <;> rfl
theorem ch {B : Nat} {S : Nat → Prop} (h : Sl w sz A n c xs) (hc : Ch B S w w') (hB : ∀ k, Row A k → k < w.heap.size → k < B ∧ ¬ S k) : Sl w' sz A n c xs := by
  refine ⟨h.len, h.fits, fun j u hj => ?_⟩
  obtain ⟨a, rfl, hca⟩ := h.at_ j u hj
  have hlt := World.block_lt_of_cell? _ _ hca
  have hr : Row (some a) (a.add j).block := by rw [add_block]; rfl
  have := hB _ hr hlt
  exact ⟨a, rfl, (hc.cell this.1 this.2).trans hca⟩
theorem below (h : Sl w sz A n c xs) (hb : Below w.heap.size w w') : Sl w' sz A n c xs :=
  h.ch (B := w.heap.size) (S := fun _ => False) (.of_below hb) (fun _ _ h => ⟨h, fun h => h⟩)
theorem of_own {base e : Nat} (h : w.ownsRow base e sz (.slice A n c) n xs) : Sl w sz A n c xs := by
  refine ⟨h.1, ?_, fun j u hj => ?_⟩
  · rcases h.2 with ⟨hv, rfl⟩ | ⟨g, cap, cur, hv, _, _, hnc, hcm, _⟩
    · omega
    · simp only [maxLen] at hcm; omega
  · rcases h.2 with ⟨hv, rfl⟩ | ⟨g, cap, cur, hv, _⟩
    · obtain rfl : xs = [] := List.eq_nil_of_length_eq_zero (by have := h.1; simpa using this)
      simp at hj
    · obtain ⟨rfl, rfl⟩ : A = some ⟨g, 0, none⟩ ∧ c = cap := by simpa using hv
      exact ⟨_, rfl, h.cells (g := g) rfl j u hj⟩
/-- The k-th element, its cells at the addresses as a walk spells them. -/
theorem elem {α : Type} {f : α → List Value} {l : List α} (h : Sl w sz A l.length c (l.flatMap f)) (hf : ∀ x, (f x).length = sz) (k : Nat) (hk : k < l.length) (hsz : 0 < sz) :
    ∃ a, A = some a ∧ (∀ u, (f l[k])[0]? = some u → w.cell? (a.add (k * sz)) = some u) ∧ (∀ j u, 0 < j → (f l[k])[j]? = some u → w.cell? ⟨(a.add (k * sz)).block, (a.add (k * sz)).off + j, none⟩ = some u) := by
  have hget : ∀ j u, (f l[k])[j]? = some u → (l.flatMap f)[k * sz + j]? = some u := fun j u hu => by
    have hj : j < sz := by rw [← hf l[k]]; exact (List.getElem?_eq_some_iff.1 hu).1
    rw [flat_get f sz hf l k j hk hj]; exact hu
  obtain ⟨a, rfl, _⟩ := h.at_ (k * sz + 0) _ (hget 0 _ (List.getElem?_eq_getElem (by rw [hf]; exact hsz)))
  refine ⟨a, rfl, fun u hu => ?_, fun j u hj hu => ?_⟩
  · obtain ⟨a', e, hc⟩ := h.at_ _ u (hget 0 u hu)
    obtain rfl := Option.some.inj e
    exact hc
  · obtain ⟨a', e, hc⟩ := h.at_ _ u (hget j u hu)
    obtain rfl := Option.some.inj e
    rw [← add_field _ _ _ hj]; exact hc
end Sl
end Go.Proofs.Ytehbpjkeflcanaa
