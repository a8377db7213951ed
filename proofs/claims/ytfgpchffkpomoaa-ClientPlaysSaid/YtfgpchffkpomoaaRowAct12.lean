/- Arguments, opened: lists of steps of a client. -/
import Derived.Test.YtfgpchffkpomoaaPk11
namespace Go.Proofs.Ytfgpchffkpomoaa
set_option linter.unusedSimpArgs false
set_option linter.unusedVariables false
open Go.ChangeShapes Go.WideShapes Go.RowKit

/-- A step of a client. -/
structure Ac12 where
  kind : Int
  who : Int
  stp : Int
  text : ByteArray
def Ac12.cells (m : Ac12) : List Value := [.int .i64 m.kind, .int .i64 m.who, .int .i64 m.stp, .string m.text]
theorem Ac12.cells_len (m : Ac12) : m.cells.length = 4 := rfl
def Ac12S (w : World) (A : Option Addr) (c : Nat) (l : List Ac12) : Prop := Sl w 4 A l.length c (l.flatMap Ac12.cells)
theorem Ac12S.below {w w' : World} {A : Option Addr} {c : Nat} {l : List Ac12} (h : Ac12S w A c l) (hb : Below w.heap.size w w') : Ac12S w' A c l := Sl.below h hb
theorem Ac12S.elem {w : World} {A : Option Addr} {c : Nat} {l : List Ac12} (h : Ac12S w A c l) (k : Nat) (hk : k < l.length) : ∃ a, A = some a ∧ w.cell? (a.add (k * 4)) = some (.int .i64 l[k].kind) ∧
    w.cell? ⟨(a.add (k * 4)).block, (a.add (k * 4)).off + 1, none⟩ = some (.int .i64 l[k].who) ∧ w.cell? ⟨(a.add (k * 4)).block, (a.add (k * 4)).off + 2, none⟩ = some (.int .i64 l[k].stp) ∧ w.cell? ⟨(a.add (k * 4)).block, (a.add (k * 4)).off + 3, none⟩ = some (.string l[k].text) := by
  obtain ⟨a, rfl, h0, h1⟩ := Sl.elem h Ac12.cells_len k hk (by decide)
  exact ⟨a, rfl, h0 _ rfl, h1 1 _ (by decide) rfl, h1 2 _ (by decide) rfl, h1 3 _ (by decide) rfl⟩
structure Ac12.Ok (m : Ac12) : Prop where
  kind : -9223372036854775808 ≤ m.kind ∧ m.kind ≤ 9223372036854775807
  who : -9223372036854775808 ≤ m.who ∧ m.who ≤ 9223372036854775807
  stp : -9223372036854775808 ≤ m.stp ∧ m.stp ≤ 9223372036854775807
  text : m.text.size ≤ 140737488351232
section
variable {H : Type} {enc : TypeId × Value → H} {w : World} {base : Nat} {spare : Nat → Bool} {held : Bool}
theorem open_ac12 {fuel : Nat} {cs : List Value} {x : DataW H × List MemPlace} (h : DataW.trod enc Try.prog w base spare held fuel 113 cs = some x) (hw : Wt Try.prog 113 x.1) (hl : cs.length = 4) : ∃ m : Ac12, cs = m.cells ∧ m.Ok := by
  obtain ⟨n, hf⟩ := fields_of Try.underlying113 (by kernel_rfl) h hw
  match cs, hl with
  | [a, b, c, d], _ =>
    obtain ⟨y0, h0, w0⟩ := hf 0 _ rfl a rfl
    obtain ⟨y1, h1, w1⟩ := hf 1 _ rfl b rfl
    obtain ⟨y2, h2, w2⟩ := hf 2 _ rfl c rfl
    obtain ⟨y3, h3, w3⟩ := hf 3 _ rfl d rfl
    obtain ⟨n0, rfl, a0⟩ := one_int Try.underlying3 h0
    obtain ⟨n1, rfl, a1⟩ := one_int Try.underlying3 h1
    obtain ⟨n2, rfl, a2⟩ := one_int Try.underlying3 h2
    obtain ⟨t, rfl, c1⟩ := one_text Try.underlying9 h3 w3
    exact ⟨⟨n0, n1, n2, t⟩, rfl, ⟨a0, a1, a2, c1⟩⟩
set_option maxRecDepth 100000 in
theorem open_acts12 {r : Reach} {b0 : Nat} {v : Value} {d : DataW H} {p : List MemPlace} (hv : Value.okWide Try.prog w r b0 102 v) (h : DataW.Trod enc Try.prog w base spare held 102 v d p) (hw : Wt Try.prog 102 d) :
    ∃ A c l, v = .slice A l.length c ∧ Ac12S w A c l ∧ (∀ m ∈ l, m.Ok) ∧ l.length * 40 ≤ 140737488351232 ∧ l.length ≤ c := by
  obtain ⟨a, len, cap, rfl⟩ := okWide_slice Try.underlying102 hv
  obtain ⟨fuel, hf⟩ := h
  exact open_rowc Ac12.cells 4 40 Ac12.Ok (by decide) (by decide) Ac12.cells_len Try.underlying102 (by kernel_rfl) (by kernel_rfl) (fun _ _ _ h1 h2 h3 => open_ac12 h1 h2 h3) hf hw
end
end Go.Proofs.Ytfgpchffkpomoaa
