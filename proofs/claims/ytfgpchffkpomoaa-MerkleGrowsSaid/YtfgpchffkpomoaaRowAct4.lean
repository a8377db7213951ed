/- Arguments, opened: scripts of a tree. -/
import Derived.Test.YtfgpchffkpomoaaPk11
namespace Go.Proofs.Ytfgpchffkpomoaa
set_option linter.unusedSimpArgs false
set_option linter.unusedVariables false
open Go.ChangeShapes Go.WideShapes Go.RowKit

/-- A call of a tree. -/
structure Act4 where
  kind : Int
  key : ByteArray
  val : ByteArray
def Act4.cells (m : Act4) : List Value := [.int .i64 m.kind, .string m.key, .string m.val]
theorem Act4.cells_len (m : Act4) : m.cells.length = 3 := rfl
def Act4S (w : World) (A : Option Addr) (c : Nat) (l : List Act4) : Prop := Sl w 3 A l.length c (l.flatMap Act4.cells)
theorem Act4S.below {w w' : World} {A : Option Addr} {c : Nat} {l : List Act4} (h : Act4S w A c l) (hb : Below w.heap.size w w') : Act4S w' A c l := Sl.below h hb
theorem Act4S.elem {w : World} {A : Option Addr} {c : Nat} {l : List Act4} (h : Act4S w A c l) (k : Nat) (hk : k < l.length) : ∃ a, A = some a ∧ w.cell? (a.add (k * 3)) = some (.int .i64 l[k].kind) ∧
    w.cell? ⟨(a.add (k * 3)).block, (a.add (k * 3)).off + 1, none⟩ = some (.string l[k].key) ∧ w.cell? ⟨(a.add (k * 3)).block, (a.add (k * 3)).off + 2, none⟩ = some (.string l[k].val) := by
  obtain ⟨a, rfl, h0, h1⟩ := Sl.elem h Act4.cells_len k hk (by decide)
  exact ⟨a, rfl, h0 _ rfl, h1 1 _ (by decide) rfl, h1 2 _ (by decide) rfl⟩
structure Act4.Ok (m : Act4) : Prop where
  kind : -9223372036854775808 ≤ m.kind ∧ m.kind ≤ 9223372036854775807
  key : m.key.size ≤ 140737488351232
  val : m.val.size ≤ 140737488351232
section
variable {H : Type} {enc : TypeId × Value → H} {w : World} {base : Nat} {spare : Nat → Bool} {held : Bool}
theorem open_act4 {fuel : Nat} {cs : List Value} {x : DataW H × List MemPlace} (h : DataW.trod enc Try.prog w base spare held fuel 139 cs = some x) (hw : Wt Try.prog 139 x.1) (hl : cs.length = 3) : ∃ m : Act4, cs = m.cells ∧ m.Ok := by
  obtain ⟨n, hf⟩ := fields_of Try.underlying139 (by kernel_rfl) h hw
  match cs, hl with
  | [a, b, c], _ =>
    obtain ⟨y0, h0, w0⟩ := hf 0 _ rfl a rfl
    obtain ⟨y1, h1, w1⟩ := hf 1 _ rfl b rfl
    obtain ⟨y2, h2, w2⟩ := hf 2 _ rfl c rfl
    obtain ⟨n0, rfl, a0⟩ := one_int Try.underlying3 h0
    obtain ⟨s, rfl, b1⟩ := one_text Try.underlying9 h1 w1
    obtain ⟨t, rfl, c1⟩ := one_text Try.underlying9 h2 w2
    exact ⟨⟨n0, s, t⟩, rfl, ⟨a0, b1, c1⟩⟩
set_option maxRecDepth 100000 in
theorem open_acts4 {r : Reach} {b0 : Nat} {v : Value} {d : DataW H} {p : List MemPlace} (hv : Value.okWide Try.prog w r b0 135 v) (h : DataW.Trod enc Try.prog w base spare held 135 v d p) (hw : Wt Try.prog 135 d) :
    ∃ A c l, v = .slice A l.length c ∧ Act4S w A c l ∧ (∀ m ∈ l, m.Ok) ∧ l.length * 40 ≤ 140737488351232 ∧ l.length ≤ c := by
  obtain ⟨a, len, cap, rfl⟩ := okWide_slice Try.underlying135 hv
  obtain ⟨fuel, hf⟩ := h
  exact open_rowc Act4.cells 3 40 Act4.Ok (by decide) (by decide) Act4.cells_len Try.underlying135 (by kernel_rfl) (by kernel_rfl) (fun _ _ _ h1 h2 h3 => open_act4 h1 h2 h3) hf hw
end
end Go.Proofs.Ytfgpchffkpomoaa
