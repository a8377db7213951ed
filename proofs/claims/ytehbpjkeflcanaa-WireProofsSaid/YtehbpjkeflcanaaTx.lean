/- Lists of texts, as slices (in a seat without a book; else they stand elsewhere). -/
import Derived.Test.YtehbpjkeflcanaaRow
namespace Go.Proofs.Ytehbpjkeflcanaa
set_option linter.unusedSimpArgs false
set_option linter.unusedVariables false
open Go.ChangeShapes Go.WideShapes Go.RowKit
/-- A list of texts, as a slice. -/
def textCells (s : ByteArray) : List Value := [.string s]
theorem textCells_len (s : ByteArray) : (textCells s).length = 1 := rfl
def TxS (w : World) (A : Option Addr) (c : Nat) (l : List ByteArray) : Prop := Sl w 1 A l.length c (l.flatMap textCells)
theorem TxS.below {w w' : World} {A : Option Addr} {c : Nat} {l : List ByteArray} (h : TxS w A c l) (hb : Below w.heap.size w w') : TxS w' A c l := Sl.below h hb
theorem TxS.elem {w : World} {A : Option Addr} {c : Nat} {l : List ByteArray} (h : TxS w A c l) (k : Nat) (hk : k < l.length) : ∃ a, A = some a ∧ w.cell? (a.add k) = some (.string l[k]) := by
  obtain ⟨a, rfl, h0, _⟩ := Sl.elem h textCells_len k hk (by decide)
  have := h0 _ rfl
  rw [Nat.mul_one] at this
  exact ⟨a, rfl, this⟩
theorem texts_get : ∀ {D : List ByteArray} {i : Nat} {g : ByteArray}, D[i]? = some g → (D.flatMap textCells)[i]? = some (.string g)
  | [], i, g, h => by simp at h
  | s :: D, 0, g, h => by simp at h; subst h; rfl
  | s :: D, i + 1, g, h => by rw [List.flatMap_cons]; exact texts_get (D := D) (by simpa using h)
theorem info_str : (Try.prog.info? 9).map (fun i => (i.zero, i.size, i.bytes)) = some (some (.string ⟨#[]⟩), 1, 16) := by kernel_rfl
theorem text_one (s : ByteArray) : ∀ u ∈ textCells s, u.oneCell' = true := by
  intro u hu
  obtain rfl : u = .string s := by simpa [textCells] using hu
  rfl
end Go.Proofs.Ytehbpjkeflcanaa
