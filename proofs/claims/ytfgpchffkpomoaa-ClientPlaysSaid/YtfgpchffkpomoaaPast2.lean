/- Two operations may come up in a region that draws its order. -/
import Derived.Test.YtfgpchffkpomoaaPast
namespace Go.Proofs.Ytfgpchffkpomoaa
set_option linter.unusedSimpArgs false
set_option linter.unusedVariables false
open Go

section
variable {P : Program} {ops : Array Oper} {Q : Exit → Act → World → Prop} {md : Region.Mode} {S : World → Prop} {L : List Nat}
theorem AnyP.two {i j : Nat} {oi oj : Oper} {fuel : Nat} {listed : Array Bool} {a : Act} {w : World} {listed1 listed2 : Array Bool} (hr : Region.ready md ops listed = [i, j]) (hi : ops[i]? = some oi) (hj : ops[j]? = some oj) (hl1 : listed.setIfInBounds i true = listed1) (hl2 : listed.setIfInBounds j true = listed2)
    (h1 : ∀ K' : Act → World → Prop, Shut (∀ a' w', (i ∉ L → S w') → ((i ∉ L → S w') → AnyP P md ops Q S L fuel listed1 a' w') → K' a' w') → if Region.wanted oi (yielded ops a.tmps) = true then Oper.wp P oi a w K' Q else K' (a.put oi.dst undef) w)
    (h2 : ∀ K' : Act → World → Prop, Shut (∀ a' w', (j ∉ L → S w') → ((j ∉ L → S w') → AnyP P md ops Q S L fuel listed2 a' w') → K' a' w') → if Region.wanted oj (yielded ops a.tmps) = true then Oper.wp P oj a w K' Q else K' (a.put oj.dst undef) w) :
    AnyP P md ops Q S L (fuel + 1) listed a w := by
  subst hl1
  subst hl2
  refine ⟨fun h0 => (by rw [h0] at hr; cases hr), fun k hk => ?_⟩
  rw [hr] at hk
  rcases List.mem_cons.1 hk with e | e
  · subst e
    exact wpOp_step hi (fun K' hK => h1 K' (fun a' w' hS hW => hK a' w' ⟨fun h _ => hS h, hW hS⟩))
  · obtain rfl : k = j := by simpa using e
    exact wpOp_step hj (fun K' hK => h2 K' (fun a' w' hS hW => hK a' w' ⟨fun h _ => hS h, hW hS⟩))
end
end Go.Proofs.Ytfgpchffkpomoaa
