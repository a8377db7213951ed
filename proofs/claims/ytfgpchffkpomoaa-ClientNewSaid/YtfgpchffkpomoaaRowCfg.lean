/- Arguments, opened: a consortium. -/
import Derived.Test.YtfgpchffkpomoaaPk10
namespace Go.Proofs.Ytfgpchffkpomoaa
set_option linter.unusedSimpArgs false
set_option linter.unusedVariables false
open Go.ChangeShapes Go.WideShapes Go.RowKit

structure Cg where
  F : Int
  C : Int
  G : Int
  P : Int
def Cg.val (m : Cg) : Value := .agg #[.int .i64 m.F, .int .i64 m.C, .int .i64 m.G, .int .i64 m.P]
structure Cg.Ok (m : Cg) : Prop where
  F : -9223372036854775808 ≤ m.F ∧ m.F ≤ 9223372036854775807
  C : -9223372036854775808 ≤ m.C ∧ m.C ≤ 9223372036854775807
  G : -9223372036854775808 ≤ m.G ∧ m.G ≤ 9223372036854775807
  P : -9223372036854775808 ≤ m.P ∧ m.P ≤ 9223372036854775807
section
variable {H : Type} {enc : TypeId × Value → H} {w : World} {base : Nat} {spare : Nat → Bool} {held : Bool}
theorem open_cg {fuel : Nat} {cs : List Value} {x : DataW H × List MemPlace} (h : DataW.trod enc Try.prog w base spare held fuel 104 cs = some x) (hw : Wt Try.prog 104 x.1) (hl : cs.length = 4) : ∃ m : Cg, cs = [.int .i64 m.F, .int .i64 m.C, .int .i64 m.G, .int .i64 m.P] ∧ m.Ok := by
  obtain ⟨n, hf⟩ := fields_of Try.underlying104 (by kernel_rfl) h hw
  match cs, hl with
  | [a, b, c, d], _ =>
    obtain ⟨y0, h0, w0⟩ := hf 0 _ rfl a rfl
    obtain ⟨y1, h1, w1⟩ := hf 1 _ rfl b rfl
    obtain ⟨y2, h2, w2⟩ := hf 2 _ rfl c rfl
    obtain ⟨y3, h3, w3⟩ := hf 3 _ rfl d rfl
    obtain ⟨n0, rfl, a0⟩ := one_int Try.underlying3 h0
    obtain ⟨n1, rfl, a1⟩ := one_int Try.underlying3 h1
    obtain ⟨n2, rfl, a2⟩ := one_int Try.underlying3 h2
    obtain ⟨n3, rfl, a3⟩ := one_int Try.underlying3 h3
    exact ⟨⟨n0, n1, n2, n3⟩, rfl, ⟨a0, a1, a2, a3⟩⟩
set_option maxRecDepth 100000 in
theorem open_cfg {r : Reach} {b0 : Nat} {v : Value} {d : DataW H} {p : List MemPlace} (hv : Value.okWide Try.prog w r b0 104 v) (h : DataW.Trod enc Try.prog w base spare held 104 v d p) (hw : Wt Try.prog 104 d) : ∃ m : Cg, v = m.val ∧ m.Ok := by
  obtain ⟨cs, rfl, hsz⟩ := okWide_struct Try.underlying104 hv
  rw [show Try.prog.cellsOf 104 = 4 by kernel_rfl] at hsz
  obtain ⟨fuel, hf⟩ := h
  obtain ⟨m, hm, ho⟩ := open_cg hf hw (by simpa [Value.cells] using hsz)
  obtain rfl : cs = #[.int .i64 m.F, .int .i64 m.C, .int .i64 m.G, .int .i64 m.P] := by
    simp only [Value.cells] at hm
    have := congrArg List.toArray hm
    simpa using this
  exact ⟨m, rfl, ho⟩
end
end Go.Proofs.Ytfgpchffkpomoaa
