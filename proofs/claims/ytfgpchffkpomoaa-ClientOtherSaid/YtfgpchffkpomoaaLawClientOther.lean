/- A proof of one key, or of another state whose root nobody signed, tells nothing untrue of a key: the law, over every input. -/
import Derived.Test.YtfgpchffkpomoaaRows
import Derived.Test.YtfgpchffkpomoaaCOther
import Derived.Test.YtfgpchffkpomoaaRowState
import Derived.Test.YtfgpchffkpomoaaClosed
import Derived.Test.YtfgpchffkpomoaaPk10
import Derived.SizedLaws
import Derived.WalkKit
import Derived.ProofKit
import Derived.OpenShut
namespace Go.Proofs.Ytfgpchffkpomoaa.clientOther
set_option linter.unusedSimpArgs false
set_option linter.unusedVariables false
open Go.ChangeShapes Go.WideShapes Go.ChangeAt Go.RowKit Go.ChangeMaps

set_option maxRecDepth 100000 in
theorem lifted (os : Os) (started : os.Started) (H : Type) (enc : TypeId × Value → H) :
    ReturnsInHanded {} Try.checked os 32 .any (Rows.clientOtherSpec.pre6 enc Try.prog Try.f32 Rows.clientOtherRow.domain false) (Rows.clientOtherSpec.post enc Try.prog Try.f32 false true false false) := by
  refine returnsInHanded_of_change_sized (C := Try.checked) ownGodebug started (by kernel_rfl) Try.func32
    (ChangeSpec.witness6 (enc := enc) (C := Try.checked) false ⟨#[], #[.int .i64 0, .agg #[.slice none 0 0, .int .i64 0, .int .i64 0, .int .i64 0], .slice none 0 0, .string ⟨#[]⟩, .string ⟨#[]⟩], []⟩ 8 (by kernel_rfl) (by kernel_rfl) (by kernel_rfl) (by kernel_rfl)) ?_
  intro W base args ds gs before hval0 hW hcnd hwt _
  have hval : ∀ (j : Nat) t v, Try.f32.params[j]? = some t → args[j]? = some v → Value.okWide Try.prog W .any base t v := hval0
  have hW' := hW
  obtain ⟨p, q, hA0, hV, rfl, hfz, hnd⟩ := hW
  have hA : DataW.TrodAll enc Try.prog W 0 (fun _ => true) true Try.f32.params.toList args.toList ds p := hA0
  rw [Try.params32] at hA hval hwt
  have hwt' := fun n hn => of_decide_eq_true (List.all_eq_true.1 hwt n hn)
  obtain ⟨v0, vs0, d0, ds0, p0, q0, hargs, rfl, rfl, h0, r0⟩ := trodAll_cons hA
  obtain ⟨v1, vs1, d1, ds1, p1, q1, rfl, rfl, rfl, h1, r1⟩ := trodAll_cons r0
  obtain ⟨v2, vs2, d2, ds2, p2, q2, rfl, rfl, rfl, h2, r2⟩ := trodAll_cons r1
  obtain ⟨v3, vs3, d3, ds3, p3, q3, rfl, rfl, rfl, h3, r3⟩ := trodAll_cons r2
  obtain ⟨v4, vs4, d4, ds4, p4, q4, rfl, rfl, rfl, h4, r4⟩ := trodAll_cons r3
  obtain ⟨rfl, rfl, rfl⟩ := trodAll_nil r4
  obtain rfl : args = #[v0, v1, v2, v3, v4] := by cases args; simp_all
  obtain ⟨rfl, rfl⟩ := trodVars_none hV
  clear hA0 hval0
  simp only [List.append_nil] at hW'
  have hlt := fun x hx => (by simpa using hW'.lt x hx : MemPlace.block x < W.heap.size)
  have k0 : ∀ W', Below W.heap.size W W' → DataW.Trod enc Try.prog W' 0 (fun b => decide (b < W.heap.size)) true 3 v0 d0 p0 := fun W' hb => Below.trod laidOut (by kernel_rfl) (of_decide_eq_true (by kernel_rfl)) h0 hb (fun x hx => hlt x (by simp [hx]))
  have k1 : ∀ W', Below W.heap.size W W' → DataW.Trod enc Try.prog W' 0 (fun b => decide (b < W.heap.size)) true 157 v1 d1 p1 := fun W' hb => Below.trod laidOut (by kernel_rfl) (of_decide_eq_true (by kernel_rfl)) h1 hb (fun x hx => hlt x (by simp [hx]))
  have k2 : ∀ W', Below W.heap.size W W' → DataW.Trod enc Try.prog W' 0 (fun b => decide (b < W.heap.size)) true 22 v2 d2 p2 := fun W' hb => Below.trod laidOut (by kernel_rfl) (of_decide_eq_true (by kernel_rfl)) h2 hb (fun x hx => hlt x (by simp [hx]))
  have k3 : ∀ W', Below W.heap.size W W' → DataW.Trod enc Try.prog W' 0 (fun b => decide (b < W.heap.size)) true 9 v3 d3 p3 := fun W' hb => Below.trod laidOut (by kernel_rfl) (of_decide_eq_true (by kernel_rfl)) h3 hb (fun x hx => hlt x (by simp [hx]))
  have k4 : ∀ W', Below W.heap.size W W' → DataW.Trod enc Try.prog W' 0 (fun b => decide (b < W.heap.size)) true 9 v4 d4 p4 := fun W' hb => Below.trod laidOut (by kernel_rfl) (of_decide_eq_true (by kernel_rfl)) h4 hb (fun x hx => hlt x (by simp [hx]))
  obtain ⟨n0, rfl, o0⟩ := open_int1 (hval 0 _ v0 rfl rfl) h0 (Wt.each (j := 0) hwt' rfl rfl)
  obtain ⟨A1, c1, l1, q1, k1', u1, rfl, s1, o1⟩ := open_state (hval 1 _ v1 rfl rfl) h1 (Wt.each (j := 1) hwt' rfl rfl)
  obtain ⟨A2, c2, l2, rfl, s2, o2⟩ := open_rcsc (hval 2 _ v2 rfl rfl) h2 (Wt.each (j := 2) hwt' rfl rfl)
  obtain ⟨t3, rfl, o3⟩ := open_text (hval 3 _ v3 rfl rfl) h3 (Wt.each (j := 3) hwt' rfl rfl)
  obtain ⟨t4, rfl, o4⟩ := open_text (hval 4 _ v4 rfl rfl) h4 (Wt.each (j := 4) hwt' rfl rfl)
  refine (clientOther_calls n0 A1 c1 l1 A2 c2 l2 q1 k1' u1 t3 t4 W s1 s2 o1.1 o1.2.1).mono fun e W' ⟨he, hb⟩ => ?_
  subst he
  exact ⟨_, rfl, ⟨_, _, _, [], _, [], hW', trodAll_mk1 (shut_bool Try.underlying4 true), (trodAll_cons_mk (k0 W' hb) (trodAll_cons_mk (k1 W' hb) (trodAll_cons_mk (k2 W' hb) (trodAll_cons_mk (k3 W' hb) (trodAll_cons_mk (k4 W' hb) trodAll_mk0))))), rfl, hb.frame _, fun h => by cases h⟩⟩

theorem closed : joinedFacts Try.prog 32 Try.f32 Rows.clientOtherSpec Rows.clientOtherRow = true := by
  unfold joinedFacts
  rw [make_is, lifts_is, enter_is]
  kernel_rfl

theorem over : Rows.clientOtherRow.holds Try.pinned (OpenSpec.ofChange Rows.clientOtherSpec) :=
  OpenClaim.holds_of_wide 32 Try.f32 rfl rfl rfl rfl rfl rfl rfl ⟨rfl, rfl, rfl, rfl, rfl⟩ rfl rfl rfl rfl rfl (by kernel_rfl) Try.func32 closed
    (of_decide_eq_true (by kernel_rfl)) (by unfold Func.isWrapper; first | (rw [if_pos (by decide +kernel)]; kernel_rfl) | (rw [if_neg (by decide +kernel)]; exact ⟨rfl, rfl⟩))
    (fun os started H enc _ => lifted os started H enc)

/-- The statement. -/
theorem proved : Rows.ClientOtherSaid := over
#print axioms proved
end Go.Proofs.Ytfgpchffkpomoaa.clientOther
