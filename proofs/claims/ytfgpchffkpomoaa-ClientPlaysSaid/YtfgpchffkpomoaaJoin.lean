/- A client beside the document's: what the one changes, the other keeps. -/
import Derived.Test.YtfgpchffkpomoaaModH
import Derived.Test.YtfgpchffkpomoaaTick
import Derived.Test.YtfgpchffkpomoaaAsk
namespace Go.Proofs.Ytfgpchffkpomoaa
set_option linter.unusedSimpArgs false
set_option linter.unusedVariables false
open Go.RowKit

structure JS (w : World) (x g K b t m n : Nat) (T : List ByteArray) (S : List Wd) (y1 : Cl) (AA : Option Addr) (ac : Nat) (q J : Nat) (y2 : Cl) (HA : Option Addr) (hc : Nat) (MA : Option Addr) (mc : Nat) : Prop where
  cs : CS w x g K b t m n T S y1 AA ac
  ms : MS w q J y2 HA hc MA mc
  ap : ∀ k, Row AA k → k ≠ q ∧ ¬ Row HA k ∧ ¬ Row MA k
  le : K ≤ q
section
variable {w w' : World} {x g K b t m n : Nat} {T T' : List ByteArray} {S S' : List Wd} {y1 y1' y2 y2' : Cl} {AA AA' : Option Addr} {ac ac' : Nat} {q J : Nat} {HA HA' MA MA' : Option Addr} {hc hc' mc mc' : Nat}
theorem JS.cl (h : JS w x g K b t m n T S y1 AA ac q J y2 HA hc MA mc) {X : Nat → Prop} (hcs : CS w' x g K b t m n T' S' y1' AA' ac') (hh : Ch w.heap.size X w w') (hX : ∀ k, X k → k = x ∨ k = g ∨ k = n ∨ Row AA k) (hA : ∀ k, Row AA' k → Row AA k ∨ w.heap.size ≤ k) : JS w' x g K b t m n T' S' y1' AA' ac' q J y2 HA hc MA mc := by
  have hl := h.cs.lt
  have hle := h.le
  have hj := h.ms.lt
  have hq := h.ms.ql
  have hnq : ¬ X q := fun e => by
    rcases hX q e with e | e | e | e
    · omega
    · omega
    · omega
    · exact (h.ap q e).1 rfl
  have hrH : ∀ k, Row HA k → ¬ X k := fun k hk e => by
    have h1 := (own_row h.ms.heard hk).1
    rcases hX k e with e | e | e | e
    · omega
    · omega
    · omega
    · exact (h.ap k e).2.1 hk
  have hrM : ∀ k, Row MA k → ¬ X k := fun k hk e => by
    have h1 := (own_row h.ms.ans hk).1
    rcases hX k e with e | e | e | e
    · omega
    · omega
    · omega
    · exact (h.ap k e).2.2 hk
  refine ⟨hcs, h.ms.ch hh (Nat.le_refl _) hnq hrH hrM, fun k hk => ?_, hle⟩
  rcases hA k hk with e | e
  · exact h.ap k e
  · refine ⟨by omega, fun e2 => ?_, fun e2 => ?_⟩
    · have := (own_row h.ms.heard e2).2; omega
    · have := (own_row h.ms.ans e2).2; omega
theorem JS.md (h : JS w x g K b t m n T S y1 AA ac q J y2 HA hc MA mc) (hms : MS w' q J y2' HA' hc' MA' mc') (hh : Ch w.heap.size (fun k => k = q ∨ Row HA k ∨ Row MA k) w w') (hH : ∀ k, Row HA' k → Row HA k ∨ w.heap.size ≤ k) (hM : ∀ k, Row MA' k → Row MA k ∨ w.heap.size ≤ k) : JS w' x g K b t m n T S y1 AA ac q J y2' HA' hc' MA' mc' := by
  have hl := h.cs.lt
  have hle := h.le
  have hj := h.ms.lt
  have hlow : ∀ k, k < K → ¬ (k = q ∨ Row HA k ∨ Row MA k) := fun k hk e => by
    rcases e with e | e | e
    · omega
    · have := (own_row h.ms.heard e).1; omega
    · have := (own_row h.ms.ans e).1; omega
  refine ⟨h.cs.ch hh (Nat.le_refl _) ⟨hlow x hl.1, hlow g hl.2.1, hlow b hl.2.2.1, hlow t hl.2.2.2.1, hlow m hl.2.2.2.2.1, hlow n hl.2.2.2.2.2.1⟩ (fun k hk e => ?_) hh.size, hms, fun k hk => ?_, hle⟩
  · have h1 := h.ap k hk
    rcases e with e | e | e
    · exact h1.1 e
    · exact h1.2.1 e
    · exact h1.2.2 e
  · have h1 := h.ap k hk
    have h2 := (h.cs.row hk).2
    refine ⟨h1.1, fun e => ?_, fun e => ?_⟩
    · rcases hH k e with e | e
      · exact h1.2.1 e
      · omega
    · rcases hM k e with e | e
      · exact h1.2.2 e
      · omega
theorem JS.below (h : JS w x g K b t m n T S y1 AA ac q J y2 HA hc MA mc) (hb : Below w.heap.size w w') : JS w' x g K b t m n T S y1 AA ac q J y2 HA hc MA mc :=
  ⟨h.cs.below hb, h.ms.below hb, h.ap, h.le⟩
theorem JS.drew (h : JS w x g K b t m n T S y1 AA ac q J y2 HA hc MA mc) : JS w.drew x g K b t m n T S y1 AA ac q J y2 HA hc MA mc := h.below ((Below.refl _ _).drew)
theorem JS.off (h : JS w x g K b t m n T S y1 AA ac q J y2 HA hc MA mc) {R : Nat} (hh : Ch w.heap.size (· = R) w w') (hR : K ≤ R) (hq : q ≠ R) (hA : ∀ k, Row AA k → k ≠ R) (hH : ∀ k, Row HA k → k ≠ R) (hM : ∀ k, Row MA k → k ≠ R) : JS w' x g K b t m n T S y1 AA ac q J y2 HA hc MA mc := by
  have hl := h.cs.lt
  exact ⟨h.cs.ch hh (Nat.le_refl _) (by omega) hA hh.size, h.ms.ch hh (Nat.le_refl _) hq hH hM, h.ap, h.le⟩
theorem JS.setX (h : JS w x g K b t m n T S y1 AA ac q J y2 HA hc MA mc) (i : Nat) (v : Value) (y' : Cl) (ht : y'.told = y2.told) (ha : y'.ans = y2.ans) (hy : (mdCells y2 HA hc MA mc).setIfInBounds i v = mdCells y' HA hc MA mc) : JS (w.setCell ⟨q, i, none⟩ v) x g K b t m n T S y1 AA ac q J y' HA hc MA mc :=
  h.md (h.ms.setX i v y' ht ha hy) ((Ch.refl w.heap.size (fun k => k = q ∨ Row HA k ∨ Row MA k) w).setCell (p := ⟨q, i, none⟩) (.inr (.inl rfl)) v) (fun _ e => .inl e) (fun _ e => .inl e)
theorem MS.forget (h : MS w q J y2 HA hc MA mc) : MS (w.setCell ⟨q, 6, none⟩ (.slice none 0 0)) q J { y2 with told := [] } none 0 MA mc := by
  have hl := h.lt
  exact ⟨h.box.set 6 (.slice none 0 0), ⟨rfl, .inl ⟨rfl, rfl⟩⟩, ownsRow_setCell_below h.ans (a := ⟨q, 6, none⟩) hl.1 _, by simp only [World.setCell, Array.size_modify]; omega, fun k hk => by cases hk⟩
theorem JS.forget (h : JS w x g K b t m n T S y1 AA ac q J y2 HA hc MA mc) : JS (w.setCell ⟨q, 6, none⟩ (.slice none 0 0)) x g K b t m n T S y1 AA ac q J { y2 with told := [] } none 0 MA mc :=
  h.md h.ms.forget ((Ch.refl w.heap.size (fun k => k = q ∨ Row HA k ∨ Row MA k) w).setCell (p := ⟨q, 6, none⟩) (.inr (.inl rfl)) _) (fun k e => by cases e) (fun _ e => .inl e)
end
/-- Behind a step: both are alike again; only they have changed. -/
def StepPost (w0 : World) (x g K b t m n : Nat) (T : List ByteArray) (S : List Wd) (q J : Nat) (AA HA MA : Option Addr) (y : Cl) (e : Ending) (w' : World) : Prop :=
  ∃ v S' y' AA' ac' HA' hc' MA' mc', e = .returned (.bool v) ∧ Hid (v = true) ∧ S'.length ≤ S.length + 1 ∧ JS w' x g K b t m n T S' y' AA' ac' q J y' HA' hc' MA' mc' ∧
    Hid (y'.F = y.F ∧ y'.id = y.id ∧ y.stamp ≤ y'.stamp ∧ y'.stamp ≤ y.stamp + 1 ∧ 0 ≤ y'.ticks ∧ (y'.ticks ≤ y.ticks + 1 ∨ y'.ticks ≤ 0) ∧ y'.told.length ≤ y.told.length + 1 ∧ y'.ans.length ≤ y.ans.length + 1) ∧
    Ch w0.heap.size (fun k => k = x ∨ k = g ∨ k = n ∨ k = q ∨ Row AA k ∨ Row HA k ∨ Row MA k) w0 w'
end Go.Proofs.Ytfgpchffkpomoaa
