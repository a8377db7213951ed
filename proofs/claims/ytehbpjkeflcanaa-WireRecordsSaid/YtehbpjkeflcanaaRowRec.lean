/- Arguments, opened: a list of records. -/
import Derived.Test.YtehbpjkeflcanaaRow
import Derived.Test.YtehbpjkeflcanaaRc
namespace Go.Proofs.Ytehbpjkeflcanaa
set_option linter.unusedSimpArgs false
set_option linter.unusedVariables false
open Go.ChangeShapes Go.WideShapes Go.RowKit

section
variable {H : Type} {enc : TypeId × Value → H} {w : World} {base : Nat} {spare : Nat → Bool} {held : Bool}
structure Rc.Ok (m : Rc) : Prop where
  key : m.key.size ≤ 140737488351232
  val : m.val.size ≤ 140737488351232
theorem open_rc {fuel : Nat} {cs : List Value} {x : DataW H × List MemPlace} (h : DataW.trod enc Try.prog w base spare held fuel 114 cs = some x) (hw : Wt Try.prog 114 x.1) (hl : cs.length = 2) : ∃ m : Rc, cs = m.cells ∧ m.Ok := by
  obtain ⟨n, hf⟩ := fields_of Try.underlying114 (by kernel_rfl) h hw
  match cs, hl with
  | [b, c], _ =>
    obtain ⟨y1, h1, w1⟩ := hf 0 _ rfl b rfl
    obtain ⟨y2, h2, w2⟩ := hf 1 _ rfl c rfl
    obtain ⟨s, rfl, b1⟩ := one_text Try.underlying9 h1 w1
    obtain ⟨t, rfl, c1⟩ := one_text Try.underlying9 h2 w2
    exact ⟨⟨s, t⟩, rfl, ⟨b1, c1⟩⟩
theorem open_rcs {fuel : Nat} {v : Value} {x : DataW H × List MemPlace} (h : DataW.trod enc Try.prog w base spare held fuel 68 [v] = some x) (hw : Wt Try.prog 68 x.1) :
    ∃ A c l, v = .slice A l.length c ∧ RcS w A c l ∧ (∀ m ∈ l, m.Ok) ∧ l.length * 32 ≤ 140737488351232 :=
  open_row Rc.cells 2 32 Rc.Ok (by decide) (by decide) Rc.cells_len Try.underlying68 (by kernel_rfl) (by kernel_rfl) (fun _ _ _ h1 h2 h3 => open_rc h1 h2 h3) h hw
set_option maxRecDepth 100000 in
theorem open_rcs1 {r : Reach} {b0 : Nat} {v : Value} {d : DataW H} {p : List MemPlace} (hv : Value.okWide Try.prog w r b0 68 v) (h : DataW.Trod enc Try.prog w base spare held 68 v d p) (hw : Wt Try.prog 68 d) :
    ∃ A c l, v = .slice A l.length c ∧ RcS w A c l ∧ (∀ m ∈ l, m.Ok) ∧ l.length * 32 ≤ 140737488351232 := by
  obtain ⟨a, len, cap, rfl⟩ := okWide_slice Try.underlying68 hv
  obtain ⟨fuel, hf⟩ := h
  exact open_rcs hf hw
end
end Go.Proofs.Ytehbpjkeflcanaa
