/- Arguments, opened: the state that a light client is shown. -/
import Derived.Test.YtfgpchffkpomoaaPk28
namespace Go.Proofs.Ytfgpchffkpomoaa
set_option linter.unusedSimpArgs false
set_option linter.unusedVariables false
open Go.ChangeShapes Go.WideShapes Go.RowKit

section
variable {H : Type} {enc : TypeId × Value → H} {w : World} {base : Nat} {spare : Nat → Bool} {held : Bool}
set_option maxRecDepth 100000 in
theorem open_state {r : Reach} {b0 : Nat} {v : Value} {d : DataW H} {p : List MemPlace} (hv : Value.okWide Try.prog w r b0 157 v) (h : DataW.Trod enc Try.prog w base spare held 157 v d p) (hw : Wt Try.prog 157 d) :
    ∃ A c l seq certs spoil, v = .agg #[.slice A l.length c, .int .i64 seq, .int .i64 certs, .int .i64 spoil] ∧ RcS w A c l ∧ (-9223372036854775808 ≤ seq ∧ seq ≤ 9223372036854775807) ∧ (-9223372036854775808 ≤ certs ∧ certs ≤ 9223372036854775807) ∧ (-9223372036854775808 ≤ spoil ∧ spoil ≤ 9223372036854775807) ∧ l.length ≤ c := by
  obtain ⟨cs, rfl, hsz⟩ := okWide_struct Try.underlying157 hv
  rw [show Try.prog.cellsOf 157 = 4 by kernel_rfl] at hsz
  obtain ⟨fuel, hf⟩ := h
  obtain ⟨l⟩ := cs
  match l, hsz with
  | [c0, c1, c2, c3], _ =>
    obtain ⟨n, hg⟩ := fields_of Try.underlying157 (by kernel_rfl) hf hw
    obtain ⟨y0, h0, w0⟩ := hg 0 _ rfl c0 rfl
    obtain ⟨y1, h1, w1⟩ := hg 1 _ rfl c1 rfl
    obtain ⟨y2, h2, w2⟩ := hg 2 _ rfl c2 rfl
    obtain ⟨y3, h3, w3⟩ := hg 3 _ rfl c3 rfl
    obtain ⟨A, c, l, rfl, hs, _, _, hc⟩ := open_rowc Rc.cells 2 32 Rc.Ok (by decide) (by decide) Rc.cells_len Try.underlying22 (by kernel_rfl) (by kernel_rfl) (fun _ _ _ h1 h2 h3 => open_rc h1 h2 h3) h0 w0
    obtain ⟨n1, rfl, a1⟩ := one_int Try.underlying3 h1
    obtain ⟨n2, rfl, a2⟩ := one_int Try.underlying3 h2
    obtain ⟨n3, rfl, a3⟩ := one_int Try.underlying3 h3
    exact ⟨A, c, l, n1, n2, n3, rfl, hs, a1, a2, a3, hc⟩
end
end Go.Proofs.Ytfgpchffkpomoaa
