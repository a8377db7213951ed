/- Stamps rise one by one, answer by answer, and of what was answered once nothing is taken any more: the law, over every input. -/
import Derived.Test.YtfgpchffkpomoaaRows
import Derived.Test.YtfgpchffkpomoaaCStamps
import Derived.Test.YtfgpchffkpomoaaPk11
import Derived.Test.YtfgpchffkpomoaaPk12
import Derived.Test.YtfgpchffkpomoaaClosed
import Derived.Test.YtfgpchffkpomoaaPk10
import Derived.SizedLaws
import Derived.WalkKit
import Derived.ProofKit
import Derived.OpenShut
namespace Go.Proofs.Ytfgpchffkpomoaa.clientStamps
set_option linter.unusedSimpArgs false
set_option linter.unusedVariables false
open Go.ChangeShapes Go.WideShapes Go.ChangeAt Go.RowKit Go.ChangeMaps

set_option maxRecDepth 100000 in
theorem lifted (os : Os) (started : os.Started) (H : Type) (enc : TypeId × Value → H) :
    ReturnsInHanded {} Try.checked os 22 .any (Rows.clientStampsSpec.pre6 enc Try.prog Try.f22 Rows.clientStampsRow.domain false) (Rows.clientStampsSpec.post enc Try.prog Try.f22 false true false false) := by
  refine returnsInHanded_of_change_sized (C := Try.checked) ownGodebug started (by kernel_rfl) Try.func22
    (ChangeSpec.witness6 (enc := enc) (C := Try.checked) false ⟨#[], #[.slice none 0 0], []⟩ 8 (by kernel_rfl) (by kernel_rfl) (by kernel_rfl) (by kernel_rfl)) ?_
  intro W base args ds gs before hval0 hW hcnd hwt _
  have hval : ∀ (j : Nat) t v, Try.f22.params[j]? = some t → args[j]? = some v → Value.okWide Try.prog W .any base t v := hval0
  have hW' := hW
  obtain ⟨p, q, hA0, hV, rfl, hfz, hnd⟩ := hW
  have hA : DataW.TrodAll enc Try.prog W 0 (fun _ => true) true Try.f22.params.toList args.toList ds p := hA0
  rw [Try.params22] at hA hval hwt
  have hwt' := fun n hn => of_decide_eq_true (List.all_eq_true.1 hwt n hn)
  obtain ⟨v0, vs0, d0, ds0, p0, q0, hargs, rfl, rfl, h0, r0⟩ := trodAll_cons hA
  obtain ⟨rfl, rfl, rfl⟩ := trodAll_nil r0
  obtain rfl : args = #[v0] := by cases args; simp_all
  obtain ⟨rfl, rfl⟩ := trodVars_none hV
  clear hA0 hval0
  simp only [List.append_nil] at hW'
  have hlt := fun x hx => (by simpa using hW'.lt x hx : MemPlace.block x < W.heap.size)
  have k0 : ∀ W', Below W.heap.size W W' → DataW.Trod enc Try.prog W' 0 (fun b => decide (b < W.heap.size)) true 54 v0 d0 p0 := fun W' hb => Below.trod laidOut (by kernel_rfl) (of_decide_eq_true (by kernel_rfl)) h0 hb (fun x hx => hlt x (by simp [hx]))
  obtain ⟨A0, c0, l0, rfl, s0, o0⟩ := open_texts1 (hval 0 _ v0 rfl rfl) h0 (Wt.each (j := 0) hwt' rfl rfl)
  refine (clientStamps_calls A0 c0 l0 W s0).mono fun e W' ⟨he, hb⟩ => ?_
  subst he
  exact ⟨_, rfl, ⟨_, _, _, [], _, [], hW', trodAll_mk1 (shut_bool Try.underlying4 true), (trodAll_cons_mk (k0 W' hb) trodAll_mk0), rfl, hb.frame _, fun h => by cases h⟩⟩

theorem closed : joinedFacts Try.prog 22 Try.f22 Rows.clientStampsSpec Rows.clientStampsRow = true := by
  unfold joinedFacts
  rw [make_is, lifts_is, enter_is]
  kernel_rfl

theorem over : Rows.clientStampsRow.holds Try.pinned (OpenSpec.ofChange Rows.clientStampsSpec) :=
  OpenClaim.holds_of_wide 22 Try.f22 rfl rfl rfl rfl rfl rfl rfl ⟨rfl, rfl, rfl, rfl, rfl⟩ rfl rfl rfl rfl rfl (by kernel_rfl) Try.func22 closed
    (of_decide_eq_true (by kernel_rfl)) (by unfold Func.isWrapper; first | (rw [if_pos (by decide +kernel)]; kernel_rfl) | (rw [if_neg (by decide +kernel)]; exact ⟨rfl, rfl⟩))
    (fun os started H enc _ => lifted os started H enc)

/-- The statement. -/
theorem proved : Rows.ClientStampsSaid := over
#print axioms proved
end Go.Proofs.Ytfgpchffkpomoaa.clientStamps
