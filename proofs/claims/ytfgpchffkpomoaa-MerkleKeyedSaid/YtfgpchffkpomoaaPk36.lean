/- Texts of this proof, several in one file; each says ahead of it what it proves. -/
import Derived.Test.YtfgpchffkpomoaaPk01
import Derived.Deep.RegionHeld
/- A load is taken first in a region whose last operations (the numbers in 'L') write what it read: S is asked behind the other operations only. -/
namespace Go.Proofs.Ytfgpchffkpomoaa
set_option linter.unusedSimpArgs false
set_option linter.unusedVariables false
open Go

section
variable {P : Program} {ops : Array Oper} {Q : Exit → Act → World → Prop} {md : Region.Mode} {S : World → Prop} {L : List Nat}

/-- Whatever order is picked; every operation that is not in L leaves S as it is. -/
def AnyP (P : Program) (md : Region.Mode) (ops : Array Oper) (Q : Exit → Act → World → Prop) (S : World → Prop) (L : List Nat) : Nat → Array Bool → Act → World → Prop
  | 0, listed, a, w => Region.ready md ops listed = [] ∧ Q .normal a w
  | fuel + 1, listed, a, w =>
    (Region.ready md ops listed = [] → Q .normal a w) ∧
    ∀ i ∈ Region.ready md ops listed, wpOp P ops Q i (fun a' w' => (i ∉ L → S w → S w') ∧ AnyP P md ops Q S L fuel (listed.setIfInBounds i true) a' w') a w

theorem AnyP.any : ∀ (fuel : Nat) (listed : Array Bool) (a : Act) (w : World), AnyP P md ops Q S L fuel listed a w → wpAny P md ops Q fuel listed a w
  | 0, _, _, _, h => h
  | fuel + 1, _, _, _, h => ⟨h.1, fun i hi => wpOp_mono (fun a' w' h' => AnyP.any fuel _ a' w' h'.2) (h.2 i hi)⟩

/-- What waits for operation i: each number in C has one before it that is i or in C. -/
def Waits (md : Region.Mode) (ops : Array Oper) (i : Nat) (C : List Nat) : Prop :=
  ∀ j ∈ C, ∀ oj, ops[j]? = some oj → ∃ e ∈ oj.after, Region.binds md e = true ∧ (e.on = i ∨ e.on ∈ C)

theorem AnyP.first {S2 : World → Prop} {i : Nat} {oi : Oper} {v : Value} (C : List Nat) (hi : ops[i]? = some oi) (hsel : ∀ (j : Nat) (o : Oper) cs b, ops[j]? = some o → o.op ≠ .select cs b)
    (hQ : ∀ c a w, Q (.panic c) (a.put oi.dst v) w → Q (.panic c) a w) (hS2 : ∀ w, S w → S2 w)
    (hC : ((∀ w, S2 w) ∧ C = []) ∨ (Waits md ops i C ∧ ∀ j ∈ L, j ∈ C)) :
    ∀ (fuel : Nat) (listed : Array Bool) (a : Act) (w : World),
      (∀ j oj, ops[j]? = some oj → j ≠ i → listed.getD j true = false → (∀ e ∈ oj.after, Region.binds md e = true → e.on ≠ i) → oi.apart ops oj = true) →
      (∀ j ∈ C, listed.getD j true = false) →
      i ∈ Region.ready md ops listed → YieldsIf P ops S2 oi v a → ((∀ w, S2 w) ∨ S w) →
      AnyP P md ops Q S L fuel (listed.setIfInBounds i true) (a.put oi.dst v) w → AnyP P md ops Q S L (fuel + 1) listed a w := by
  intro fuel
  have two : ∀ w, ((∀ w, S2 w) ∨ S w) → S2 w := fun w h => h.elim (fun h => h w) (hS2 w)
  induction fuel with
  | zero =>
    intro listed a w _ _ hr hy hS H
    refine ⟨fun h => (by rw [h] at hr; cases hr), fun j hj => ?_⟩
    by_cases hji : j = i
    · subst hji; exact hy.wpOp hi (two w hS) ⟨fun _ h => h, H⟩
    · have := ready_mono hj hji
      rw [H.1] at this
      cases this
  | succ fuel ih =>
    intro listed a w hfree hun hr hy hS H
    refine ⟨fun h => (by rw [h] at hr; cases hr), fun j hj => ?_⟩
    by_cases hji : j = i
    · subst hji; exact hy.wpOp hi (two w hS) ⟨fun _ h => h, H⟩
    · have h1 := H.2 j (ready_mono hj hji)
      obtain ⟨hjun, oj, hoj, hall⟩ := mem_ready.1 hj
      have h0 := (mem_ready.1 hr).1
      have hne : ∀ k, listed.getD k true = false → ∀ e ∈ oj.after, Region.binds md e = true → e.on ≠ k := fun k h0 e he hb heq => by
        have h1 := hall e he hb
        rw [heq] at h1
        rcases Nat.lt_or_ge k listed.size with h' | h'
        · simp [h'] at h0 h1; rw [h0] at h1; cases h1
        · simp [Array.getElem?_eq_none h'] at h1
      have hnot := hne i h0
      have hjC : j ∉ C := by
        rcases hC with ⟨_, h⟩ | ⟨h, _⟩
        · rw [h]; simp
        · intro hj
          obtain ⟨e, he, hb, h3 | h3⟩ := h j hj oj hoj
          · exact hnot e he hb h3
          · exact hne e.on (hun _ h3) e he hb rfl
      have h2 := wpOp_putIf hoj (hfree j oj hoj hji hjun hnot) (fun cs b => hsel i oi cs b hi) (fun cs b => hsel j oj cs b hoj) hQ hy h1
      have hfree' : ∀ k ok, ops[k]? = some ok → k ≠ i → (listed.setIfInBounds j true).getD k true = false →
          (∀ e ∈ ok.after, Region.binds md e = true → e.on ≠ i) → oi.apart ops ok = true := fun k ok hk hki hun hno => by
        refine hfree k ok hk hki ?_ hno
        by_cases hjk : j = k
        · subst hjk; exact hjun
        · rw [getD_set_ne true hjk] at hun; exact hun
      have hun' : ∀ k ∈ C, (listed.setIfInBounds j true).getD k true = false := fun k hk => by
        rw [getD_set_ne true (fun (h : j = k) => hjC (by rw [h]; exact hk))]; exact hun k hk
      have hS' : ∀ w', (j ∉ L → S w → S w') → ((∀ w, S2 w) ∨ S w') := fun w' h => by
        rcases hC with ⟨h2, _⟩ | ⟨_, hLC⟩
        · exact .inl h2
        · exact hS.imp_right (h (fun hj => hjC (hLC j hj)))
      refine wpOp_mono (fun a' w' h3 => ⟨h3.2.1, ih (listed.setIfInBounds j true) a' w' hfree' hun' (ready_mono hr (Ne.symm hji)) h3.1 (hS' w' h3.2.1) ?_⟩) h2
      rw [Array.setIfInBounds_comm _ _ hji]
      exact h3.2.2

/-! The moves of a walk. -/

def waits (md : Region.Mode) (ops : Array Oper) (i : Nat) (C : List Nat) : Bool :=
  C.all fun j => match ops[j]? with
    | none => true
    | some o => o.after.any fun e => Region.binds md e && (e.on == i || C.contains e.on)

theorem waits_spec {i : Nat} {C : List Nat} (h : waits md ops i C = true) : Waits md ops i C := by
  intro j hj oj ho
  have h1 := List.all_eq_true.1 h j hj
  rw [ho] at h1
  obtain ⟨k, hk, h2⟩ := (by simpa using h1 : ∃ k, ∃ h : k < oj.after.size, Region.binds md oj.after[k] = true ∧ (oj.after[k].on = i ∨ oj.after[k].on ∈ C))
  exact ⟨oj.after[k], Array.getElem_mem hk, h2⟩

/-- Number i, that yields its value in whatever world, is taken first. -/
theorem AnyP.take {i : Nat} {oi : Oper} {v : Value} {fuel : Nat} {listed : Array Bool} {a : Act} {w : World} (hi : ops[i]? = some oi)
    (hs : Region.noSelect ops = true) (hf : Region.free md ops listed i = true) (hr : (Region.ready md ops listed).contains i = true)
    (hQ : ∀ c a w, Q (.panic c) (a.put oi.dst v) w → Q (.panic c) a w) (hy : Yields P ops oi v a) {d : Option Nat} {listed' : Array Bool} (hd : oi.dst = d) (hl : listed.setIfInBounds i true = listed')
    (h : AnyP P md ops Q S L fuel listed' (a.put d v) w) : AnyP P md ops Q S L (fuel + 1) listed a w := by
  subst hd
  subst hl
  exact AnyP.first (S2 := fun _ => True) [] hi (Region.noSelect_spec hs) hQ (fun _ _ => trivial) (.inl ⟨fun _ => trivial, rfl⟩) fuel listed a w (Region.free_spec hi hf) (fun _ h => by cases h) (by simpa using hr) hy.yieldsIf (.inl fun _ => trivial) h

/-- Number i, a load, is taken first: all that is in L waits for it (C: what waits for it). -/
theorem AnyP.load {i : Nat} {oi : Oper} {v : Value} {fuel : Nat} {listed : Array Bool} {a : Act} {w : World} (C : List Nat) (hi : ops[i]? = some oi)
    (hs : Region.noSelect ops = true) (hf : Region.free md ops listed i = true) (hr : (Region.ready md ops listed).contains i = true)
    (hw : waits md ops i C = true) (hL : (L.all fun j => C.contains j) = true) (hun : (C.all fun j => !listed.getD j true) = true)
    (hQ : ∀ c a w, Q (.panic c) (a.put oi.dst v) w → Q (.panic c) a w) (hy : YieldsIf P ops S oi v a) (hS : S w) {d : Option Nat} {listed' : Array Bool} (hd : oi.dst = d) (hl : listed.setIfInBounds i true = listed')
    (h : AnyP P md ops Q S L fuel listed' (a.put d v) w) : AnyP P md ops Q S L (fuel + 1) listed a w := by
  subst hd
  subst hl
  exact AnyP.first (S2 := S) C hi (Region.noSelect_spec hs) hQ (fun _ h => h) (.inr ⟨waits_spec hw, fun j hj => by simpa using List.all_eq_true.1 hL j hj⟩) fuel listed a w (Region.free_spec hi hf) (fun j hj => by simpa using List.all_eq_true.1 hun j hj) (by simpa using hr) hy (.inr hS) h

/-- One operation alone may come up. -/
theorem AnyP.one {i : Nat} {o : Oper} {fuel : Nat} {listed : Array Bool} {a : Act} {w : World} {listed' : Array Bool} (hr : Region.ready md ops listed = [i]) (ho : ops[i]? = some o) (hl : listed.setIfInBounds i true = listed')
    (h : ∀ K' : Act → World → Prop, Shut (∀ a' w', (i ∉ L → S w') → ((i ∉ L → S w') → AnyP P md ops Q S L fuel listed' a' w') → K' a' w') → if Region.wanted o (yielded ops a.tmps) = true then Oper.wp P o a w K' Q else K' (a.put o.dst undef) w) :
    AnyP P md ops Q S L (fuel + 1) listed a w := by
  subst hl
  refine ⟨fun h0 => (by rw [h0] at hr; cases hr), fun j hj => ?_⟩
  rw [hr] at hj
  obtain rfl : j = i := by simpa using hj
  exact wpOp_step ho (fun K' hK => h K' (fun a' w' hS hW => hK a' w' ⟨fun h _ => hS h, hW hS⟩))

theorem AnyP.done {listed : Array Bool} {a : Act} {w : World} (hr : Region.ready md ops listed = []) (h : Q .normal a w) : ∀ fuel, AnyP P md ops Q S L fuel listed a w
  | 0 => ⟨hr, h⟩
  | _ + 1 => ⟨fun _ => h, by rw [hr]; simp⟩

theorem AnyP.start {id : Nat} {a : Act} {w : World} (L : List Nat) (S : World → Prop) (hm : P.follows .mixedOrders = true) (hS : S w.drew) {n : Nat} {listed : Array Bool} (hn : ops.size = n) (hl : Array.replicate n false = listed)
    (h : S w.drew → AnyP P .any ops Q S L n listed a w.drew) : (Code.region id ops true).wp P Q a w := by
  subst hl
  subst hn
  exact wp_region_any hm (AnyP.any _ _ _ _ (h hS))

end
end Go.Proofs.Ytfgpchffkpomoaa

/- Two operations may come up in a region that draws its order. -/
namespace Go.Proofs.Ytfgpchffkpomoaa
set_option linter.unusedSimpArgs false
set_option linter.unusedVariables false
open Go

section
variable {P : Program} {ops : Array Oper} {Q : Exit → Act → World → Prop} {md : Region.Mode} {S : World → Prop} {L : List Nat}
theorem AnyP.two {i j : Nat} {oi oj : Oper} {fuel : Nat} {listed : Array Bool} {a : Act} {w : World} {listed1 listed2 : Array Bool} (hr : Region.ready md ops listed = [i, j]) (hi : ops[i]? = some oi) (hj : ops[j]? = some oj) (hl1 : listed.setIfInBounds i true = listed1) (hl2 : listed.setIfInBounds j true = listed2)
    (h1 : ∀ K' : Act → World → Prop, Shut (∀ a' w', (i ∉ L → S w') → ((i ∉ L → S w') → AnyP P md ops Q S L fuel listed1 a' w') → K' a' w') → if Region.wanted oi (yielded ops a.tmps) = true then Oper.wp P oi a w K' Q else K' (a.put oi.dst undef) w)
    (h2 : ∀ K' : Act → World → Prop, Shut (∀ a' w', (j ∉ L → S w') → ((j ∉ L → S w') → AnyP P md ops Q S L fuel listed2 a' w') → K' a' w') → if Region.wanted oj (yielded ops a.tmps) = true then Oper.wp P oj a w K' Q else K' (a.put oj.dst undef) w) :
    AnyP P md ops Q S L (fuel + 1) listed a w := by
  subst hl1
  subst hl2
  refine ⟨fun h0 => (by rw [h0] at hr; cases hr), fun k hk => ?_⟩
  rw [hr] at hk
  rcases List.mem_cons.1 hk with e | e
  · subst e
    exact wpOp_step hi (fun K' hK => h1 K' (fun a' w' hS hW => hK a' w' ⟨fun h _ => hS h, hW hS⟩))
  · obtain rfl : k = j := by simpa using e
    exact wpOp_step hj (fun K' hK => h2 K' (fun a' w' hS hW => hK a' w' ⟨fun h _ => hS h, hW hS⟩))
end
end Go.Proofs.Ytfgpchffkpomoaa

/- Three operations may come up in a region that draws its order. -/
namespace Go.Proofs.Ytfgpchffkpomoaa
set_option linter.unusedSimpArgs false
set_option linter.unusedVariables false
open Go

section
variable {P : Program} {ops : Array Oper} {Q : Exit → Act → World → Prop} {md : Region.Mode} {S : World → Prop} {L : List Nat}
theorem AnyP.three {i j m : Nat} {oi oj om : Oper} {fuel : Nat} {listed : Array Bool} {a : Act} {w : World} {listed1 listed2 listed3 : Array Bool} (hr : Region.ready md ops listed = [i, j, m]) (hi : ops[i]? = some oi) (hj : ops[j]? = some oj) (hm : ops[m]? = some om) (hl1 : listed.setIfInBounds i true = listed1) (hl2 : listed.setIfInBounds j true = listed2) (hl3 : listed.setIfInBounds m true = listed3)
    (h1 : ∀ K' : Act → World → Prop, Shut (∀ a' w', (i ∉ L → S w') → ((i ∉ L → S w') → AnyP P md ops Q S L fuel listed1 a' w') → K' a' w') → if Region.wanted oi (yielded ops a.tmps) = true then Oper.wp P oi a w K' Q else K' (a.put oi.dst undef) w)
    (h2 : ∀ K' : Act → World → Prop, Shut (∀ a' w', (j ∉ L → S w') → ((j ∉ L → S w') → AnyP P md ops Q S L fuel listed2 a' w') → K' a' w') → if Region.wanted oj (yielded ops a.tmps) = true then Oper.wp P oj a w K' Q else K' (a.put oj.dst undef) w)
    (h3 : ∀ K' : Act → World → Prop, Shut (∀ a' w', (m ∉ L → S w') → ((m ∉ L → S w') → AnyP P md ops Q S L fuel listed3 a' w') → K' a' w') → if Region.wanted om (yielded ops a.tmps) = true then Oper.wp P om a w K' Q else K' (a.put om.dst undef) w) :
    AnyP P md ops Q S L (fuel + 1) listed a w := by
  subst hl1
  subst hl2
  subst hl3
  refine ⟨fun h0 => (by rw [h0] at hr; cases hr), fun k hk => ?_⟩
  rw [hr] at hk
  rcases List.mem_cons.1 hk with e | e
  · subst e
    exact wpOp_step hi (fun K' hK => h1 K' (fun a' w' hS hW => hK a' w' ⟨fun h _ => hS h, hW hS⟩))
  · rcases List.mem_cons.1 e with e | e
    · subst e
      exact wpOp_step hj (fun K' hK => h2 K' (fun a' w' hS hW => hK a' w' ⟨fun h _ => hS h, hW hS⟩))
    · obtain rfl : k = m := by simpa using e
      exact wpOp_step hm (fun K' hK => h3 K' (fun a' w' hS hW => hK a' w' ⟨fun h _ => hS h, hW hS⟩))
end
end Go.Proofs.Ytfgpchffkpomoaa
