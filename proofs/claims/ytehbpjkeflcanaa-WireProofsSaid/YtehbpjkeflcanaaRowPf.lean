/- Arguments, opened: a proof, its paths, and their sides. -/
import Derived.Test.YtehbpjkeflcanaaRow
import Derived.Test.YtehbpjkeflcanaaPf
namespace Go.Proofs.Ytehbpjkeflcanaa
set_option linter.unusedSimpArgs false
set_option linter.unusedVariables false
open Go.ChangeShapes Go.WideShapes Go.RowKit

section
variable {H : Type} {enc : TypeId × Value → H} {w : World} {base : Nat} {spare : Nat → Bool} {held : Bool}
theorem open_side {fuel : Nat} {cs : List Value} {x : DataW H × List MemPlace} (h : DataW.trod enc Try.prog w base spare held fuel 9 cs = some x) (hw : Wt Try.prog 9 x.1) (hl : cs.length = 1) : ∃ m : ByteArray, cs = textCells m ∧ m.size ≤ 140737488351232 := by
  match cs, hl with
  | [a], _ =>
    obtain ⟨s, rfl, hs⟩ := one_text Try.underlying9 h hw
    exact ⟨s, rfl, hs⟩
theorem open_sides {fuel : Nat} {v : Value} {x : DataW H × List MemPlace} (h : DataW.trod enc Try.prog w base spare held fuel 116 [v] = some x) (hw : Wt Try.prog 116 x.1) :
    ∃ A c l, v = .slice A l.length c ∧ TxS w A c l ∧ (∀ s ∈ l, s.size ≤ 140737488351232) ∧ l.length * 16 ≤ 140737488351232 :=
  open_row textCells 1 16 (fun s => s.size ≤ 140737488351232) (by decide) (by decide) textCells_len Try.underlying116 (by kernel_rfl) (by kernel_rfl) (fun _ _ _ h1 h2 h3 => open_side h1 h2 h3) h hw
structure Pm.Ok (w : World) (m : Pm) : Prop where
  sd : TxS w m.A m.c m.sides
  key : m.key.size ≤ 140737488351232
  val : m.val.size ≤ 140737488351232
theorem open_path {fuel : Nat} {cs : List Value} {x : DataW H × List MemPlace} (h : DataW.trod enc Try.prog w base spare held fuel 118 cs = some x) (hw : Wt Try.prog 118 x.1) (hl : cs.length = 4) : ∃ m : Pm, cs = m.cells ∧ m.Ok w := by
  obtain ⟨n, hf⟩ := fields_of Try.underlying118 (by kernel_rfl) h hw
  match cs, hl with
  | [a, b, c, d], _ =>
    obtain ⟨y0, h0, w0⟩ := hf 0 _ rfl a rfl
    obtain ⟨y1, h1, w1⟩ := hf 1 _ rfl b rfl
    obtain ⟨y2, h2, w2⟩ := hf 2 _ rfl c rfl
    obtain ⟨y3, h3, w3⟩ := hf 3 _ rfl d rfl
    obtain ⟨n, rfl, a1, a2⟩ := one_int Try.underlying3 h0
    obtain ⟨s, rfl, b1⟩ := one_text Try.underlying9 h1 w1
    obtain ⟨t, rfl, c1⟩ := one_text Try.underlying9 h2 w2
    obtain ⟨A, cc, l, rfl, hs, _, _⟩ := open_sides h3 w3
    exact ⟨⟨n, s, t, l, A, cc⟩, rfl, ⟨hs, b1, c1⟩⟩
theorem open_paths {fuel : Nat} {v : Value} {x : DataW H × List MemPlace} (h : DataW.trod enc Try.prog w base spare held fuel 74 [v] = some x) (hw : Wt Try.prog 74 x.1) :
    ∃ A c l, v = .slice A l.length c ∧ PmS w A c l := by
  obtain ⟨A, c, l, hv, hs, hq, _⟩ := open_row Pm.cells 4 64 (Pm.Ok w) (by decide) (by decide) Pm.cells_len Try.underlying74 (by kernel_rfl) (by kernel_rfl) (fun _ _ _ h1 h2 h3 => open_path h1 h2 h3) h hw
  exact ⟨A, c, l, hv, hs, fun m hm => (hq m hm).sd⟩
set_option maxRecDepth 100000 in
theorem open_proof {r : Reach} {b0 : Nat} {v : Value} {d : DataW H} {p : List MemPlace} (hv : Value.okWide Try.prog w r b0 76 v) (h : DataW.Trod enc Try.prog w base spare held 76 v d p) (hw : Wt Try.prog 76 d) :
    ∃ n A c l, v = .agg #[.int .i64 n, .slice A l.length c] ∧ PmS w A c l := by
  obtain ⟨cs, rfl, hsz⟩ := okWide_struct Try.underlying76 hv
  rw [show Try.prog.cellsOf 76 = 2 by kernel_rfl] at hsz
  obtain ⟨fuel, hf⟩ := h
  obtain ⟨l⟩ := cs
  match l, hsz with
  | [c0, c1], _ =>
    obtain ⟨n, hg⟩ := fields_of Try.underlying76 (by kernel_rfl) hf hw
    obtain ⟨y0, h0, w0⟩ := hg 0 _ rfl c0 rfl
    obtain ⟨y1, h1, w1⟩ := hg 1 _ rfl c1 rfl
    obtain ⟨n0, rfl, a0⟩ := one_int Try.underlying3 h0
    obtain ⟨A, c, l, rfl, hs⟩ := open_paths h1 w1
    exact ⟨n0, A, c, l, rfl, hs⟩
end
end Go.Proofs.Ytehbpjkeflcanaa
