/- Arguments, opened: lists of changes of a proof. -/
import Derived.Test.YtfgpchffkpomoaaPk11
namespace Go.Proofs.Ytfgpchffkpomoaa
set_option linter.unusedSimpArgs false
set_option linter.unusedVariables false
open Go.ChangeShapes Go.WideShapes Go.RowKit

/-- A change of a proof. -/
structure Bn where
  what : Int
  i : Int
  n : Int
  text : ByteArray
def Bn.cells (m : Bn) : List Value := [.int .i64 m.what, .int .i64 m.i, .int .i64 m.n, .string m.text]
theorem Bn.cells_len (m : Bn) : m.cells.length = 4 := rfl
def BnS (w : World) (A : Option Addr) (c : Nat) (l : List Bn) : Prop := Sl w 4 A l.length c (l.flatMap Bn.cells)
theorem BnS.below {w w' : World} {A : Option Addr} {c : Nat} {l : List Bn} (h : BnS w A c l) (hb : Below w.heap.size w w') : BnS w' A c l := Sl.below h hb
theorem BnS.elem {w : World} {A : Option Addr} {c : Nat} {l : List Bn} (h : BnS w A c l) (k : Nat) (hk : k < l.length) : ∃ a, A = some a ∧ w.cell? (a.add (k * 4)) = some (.int .i64 l[k].what) ∧
    w.cell? ⟨(a.add (k * 4)).block, (a.add (k * 4)).off + 1, none⟩ = some (.int .i64 l[k].i) ∧ w.cell? ⟨(a.add (k * 4)).block, (a.add (k * 4)).off + 2, none⟩ = some (.int .i64 l[k].n) ∧ w.cell? ⟨(a.add (k * 4)).block, (a.add (k * 4)).off + 3, none⟩ = some (.string l[k].text) := by
  obtain ⟨a, rfl, h0, h1⟩ := Sl.elem h Bn.cells_len k hk (by decide)
  exact ⟨a, rfl, h0 _ rfl, h1 1 _ (by decide) rfl, h1 2 _ (by decide) rfl, h1 3 _ (by decide) rfl⟩
structure Bn.Ok (m : Bn) : Prop where
  what : -9223372036854775808 ≤ m.what ∧ m.what ≤ 9223372036854775807
  i : -9223372036854775808 ≤ m.i ∧ m.i ≤ 9223372036854775807
  n : -9223372036854775808 ≤ m.n ∧ m.n ≤ 9223372036854775807
section
variable {H : Type} {enc : TypeId × Value → H} {w : World} {base : Nat} {spare : Nat → Bool} {held : Bool}
theorem open_bn {fuel : Nat} {cs : List Value} {x : DataW H × List MemPlace} (h : DataW.trod enc Try.prog w base spare held fuel 49 cs = some x) (hw : Wt Try.prog 49 x.1) (hl : cs.length = 4) : ∃ m : Bn, cs = m.cells ∧ m.Ok := by
  obtain ⟨n, hf⟩ := fields_of Try.underlying49 (by kernel_rfl) h hw
  match cs, hl with
  | [a, b, c, d], _ =>
    obtain ⟨y0, h0, w0⟩ := hf 0 _ rfl a rfl
    obtain ⟨y1, h1, w1⟩ := hf 1 _ rfl b rfl
    obtain ⟨y2, h2, w2⟩ := hf 2 _ rfl c rfl
    obtain ⟨y3, h3, w3⟩ := hf 3 _ rfl d rfl
    obtain ⟨n0, rfl, a0⟩ := one_int Try.underlying3 h0
    obtain ⟨n1, rfl, a1⟩ := one_int Try.underlying3 h1
    obtain ⟨n2, rfl, a2⟩ := one_int Try.underlying3 h2
    obtain ⟨t, rfl, c1⟩ := one_text Try.underlying9 h3 w3
    exact ⟨⟨n0, n1, n2, t⟩, rfl, ⟨a0, a1, a2⟩⟩
set_option maxRecDepth 100000 in
theorem open_bends {r : Reach} {b0 : Nat} {v : Value} {d : DataW H} {p : List MemPlace} (hv : Value.okWide Try.prog w r b0 46 v) (h : DataW.Trod enc Try.prog w base spare held 46 v d p) (hw : Wt Try.prog 46 d) :
    ∃ A c l, v = .slice A l.length c ∧ BnS w A c l ∧ (∀ m ∈ l, m.Ok) ∧ l.length * 40 ≤ 140737488351232 ∧ l.length ≤ c := by
  obtain ⟨a, len, cap, rfl⟩ := okWide_slice Try.underlying46 hv
  obtain ⟨fuel, hf⟩ := h
  exact open_rowc Bn.cells 4 40 Bn.Ok (by decide) (by decide) Bn.cells_len Try.underlying46 (by kernel_rfl) (by kernel_rfl) (fun _ _ _ h1 h2 h3 => open_bn h1 h2 h3) hf hw
end
end Go.Proofs.Ytfgpchffkpomoaa
