/- The document's client in memory: what it hears: the walk. -/
import Derived.Test.YtfgpchffkpomoaaAwake12
namespace Go.Proofs.Ytfgpchffkpomoaa
set_option linter.unusedSimpArgs false
set_option linter.unusedVariables false
open Go.RowKit

def tdCells (x : Td) : List Value := [.int .i64 x.1, .string x.2]
theorem tdCells_len (x : Td) : (tdCells x).length = 2 := rfl
theorem td_one (x : Td) : ∀ u ∈ tdCells x, u.oneCell' = true := fun u hu => by
  simp only [tdCells, List.mem_cons, List.not_mem_nil, or_false] at hu
  rcases hu with rfl | rfl <;> rfl
theorem info_td : (Try.prog.info? 247).map (fun i => (i.zero, i.size, i.bytes)) = some (some (.agg #[.int .i64 0, .string ⟨#[]⟩]), 2, 24) := by kernel_rfl
def mdCells (y : Cl) (HA : Option Addr) (hc : Nat) (MA : Option Addr) (mc : Nat) : Array Value := #[.int .i64 y.F, .int .i64 y.id, .int .i64 y.stamp, .int .i64 y.ticks, .bool y.waits, .string y.asked, .slice HA y.told.length hc, .slice MA y.ans.length mc]
/-- The document's client in block q; who said what, and the answers, in rows of their own from block J on. -/
structure MS (w : World) (q J : Nat) (y : Cl) (HA : Option Addr) (hc : Nat) (MA : Option Addr) (mc : Nat) : Prop where
  box : Box w q (mdCells y HA hc MA mc) 123
  heard : w.ownsRow J 247 2 (.slice HA y.told.length hc) y.told.length (y.told.flatMap tdCells)
  ans : w.ownsRow J 118 2 (.slice MA y.ans.length mc) y.ans.length (y.ans.flatMap An.cells)
  lt : q < J ∧ J ≤ w.heap.size
  ap : ∀ k, Row HA k → ¬ Row MA k
section
variable {w w' : World} {q J : Nat} {y : Cl} {HA MA : Option Addr} {hc mc : Nat}
theorem MS.ql (h : MS w q J y HA hc MA mc) : q < w.heap.size := h.box.lt
theorem MS.ch {B : Nat} {X : Nat → Prop} (h : MS w q J y HA hc MA mc) (hh : Ch B X w w') (hB : w.heap.size ≤ B) (hq : ¬ X q) (hH : ∀ k, Row HA k → ¬ X k) (hM : ∀ k, Row MA k → ¬ X k) : MS w' q J y HA hc MA mc :=
  ⟨h.box.ch hh (by have := h.ql; omega) hq, own_ch h.heard hh (fun k hk => ⟨by have := (own_row h.heard hk).2; omega, hH k hk⟩), own_ch h.ans hh (fun k hk => ⟨by have := (own_row h.ans hk).2; omega, hM k hk⟩), by have := h.lt; have := hh.size; omega, h.ap⟩
theorem MS.below (h : MS w q J y HA hc MA mc) (hb : Below w.heap.size w w') : MS w' q J y HA hc MA mc :=
  h.ch (Ch.of_below (S := fun _ => False) hb) (Nat.le_refl _) (fun e => e) (fun _ _ e => e) (fun _ _ e => e)
theorem MS.drew (h : MS w q J y HA hc MA mc) : MS w.drew q J y HA hc MA mc := h.below ((Below.refl _ _).drew)
theorem MS.setX (h : MS w q J y HA hc MA mc) (i : Nat) (v : Value) (y' : Cl) (ht : y'.told = y.told) (ha : y'.ans = y.ans) (hy : (mdCells y HA hc MA mc).setIfInBounds i v = mdCells y' HA hc MA mc) : MS (w.setCell ⟨q, i, none⟩ v) q J y' HA hc MA mc := by
  have hl := h.lt
  refine ⟨by rw [← hy]; exact h.box.set i v, ?_, ?_, by simp only [World.setCell, Array.size_modify]; omega, h.ap⟩
  · rw [ht]; exact ownsRow_setCell_below h.heard (a := ⟨q, i, none⟩) hl.1 _
  · rw [ha]; exact ownsRow_setCell_below h.ans (a := ⟨q, i, none⟩) hl.1 _
/-- One more said something. -/
theorem MS.hear (h : MS w q J y HA hc MA mc) {o : Obj} {A' : Option Addr} {c' : Nat} {a : Td} (ho : w'.ownsRow J 247 2 (.slice A' (y.told.length + 1) c') (y.told.length + 1) (y.told.flatMap tdCells ++ tdCells a)) (hh : Ch (w.alloc o).heap.size (Row HA) (w.alloc o) w') (hA : A' = HA ∨ A' = some ⟨(w.alloc o).heap.size, 0, none⟩) :
    MS (w'.setCell ⟨q, 6, none⟩ (.slice A' (y.told.length + 1) c')) q J { y with told := y.told ++ [a] } A' c' MA mc := by
  have hl := h.lt
  have hrow : ¬ Row HA q := fun e => by have := (own_row h.heard e).1; omega
  have hbx : Box w' q (mdCells y HA hc MA mc) 123 := Box.ch (h.box.alloc o) hh (by have := h.ql; simp; omega) hrow
  have hlen : (y.told ++ [a]).length = y.told.length + 1 := by simp
  have e : (mdCells y HA hc MA mc).setIfInBounds 6 (.slice A' (y.told.length + 1) c') = mdCells { y with told := y.told ++ [a] } A' c' MA mc := by
    unfold mdCells
    simp only [hlen]
    rfl
  refine ⟨by rw [← e]; exact hbx.set 6 _, ?_, ?_, ?_, ?_⟩
  · simp only [hlen, List.flatMap_append, List.flatMap_cons, List.flatMap_nil, List.append_nil]
    exact ownsRow_setCell_below ho (a := ⟨q, 6, none⟩) hl.1 _
  · refine ownsRow_setCell_below (own_ch (own_ch h.ans ((Ch.refl w.heap.size (fun _ => False) w).alloc (Nat.le_refl _) o) (fun k hk => ⟨(own_row h.ans hk).2, fun e => e⟩)) hh (fun k hk => ⟨by have := (own_row h.ans hk).2; simp; omega, fun e => h.ap k e hk⟩)) (a := ⟨q, 6, none⟩) hl.1 _
  · have := hh.size; simp only [World.setCell, Array.size_modify]; simp at this; omega
  · intro k hk hm
    rcases hA with e | e
    · rw [e] at hk; exact h.ap k hk hm
    · rw [e] at hk
      have h1 : (w.alloc o).heap.size = k := by simpa [Row] using hk
      have := (own_row h.ans hm).2
      simp at h1
      omega
/-- One answer more. -/
theorem MS.answer (h : MS w q J y HA hc MA mc) {o : Obj} {A' : Option Addr} {c' : Nat} {a : An} (ho : w'.ownsRow J 118 2 (.slice A' (y.ans.length + 1) c') (y.ans.length + 1) (y.ans.flatMap An.cells ++ a.cells)) (hh : Ch (w.alloc o).heap.size (Row MA) (w.alloc o) w') (hA : A' = MA ∨ A' = some ⟨(w.alloc o).heap.size, 0, none⟩) :
    MS (w'.setCell ⟨q, 7, none⟩ (.slice A' (y.ans.length + 1) c')) q J { y with ans := y.ans ++ [a] } HA hc A' c' := by
  have hl := h.lt
  have hrow : ¬ Row MA q := fun e => by have := (own_row h.ans e).1; omega
  have hbx : Box w' q (mdCells y HA hc MA mc) 123 := Box.ch (h.box.alloc o) hh (by have := h.ql; simp; omega) hrow
  have hlen : (y.ans ++ [a]).length = y.ans.length + 1 := by simp
  have e : (mdCells y HA hc MA mc).setIfInBounds 7 (.slice A' (y.ans.length + 1) c') = mdCells { y with ans := y.ans ++ [a] } HA hc A' c' := by
    unfold mdCells
    simp only [hlen]
    rfl
  refine ⟨by rw [← e]; exact hbx.set 7 _, ?_, ?_, ?_, ?_⟩
  · refine ownsRow_setCell_below (own_ch (own_ch h.heard ((Ch.refl w.heap.size (fun _ => False) w).alloc (Nat.le_refl _) o) (fun k hk => ⟨(own_row h.heard hk).2, fun e => e⟩)) hh (fun k hk => ⟨by have := (own_row h.heard hk).2; simp; omega, fun e => h.ap k hk e⟩)) (a := ⟨q, 7, none⟩) hl.1 _
  · simp only [hlen, List.flatMap_append, List.flatMap_cons, List.flatMap_nil, List.append_nil]
    exact ownsRow_setCell_below ho (a := ⟨q, 7, none⟩) hl.1 _
  · have := hh.size; simp only [World.setCell, Array.size_modify]; simp at this; omega
  · intro k hk hm
    rcases hA with e | e
    · rw [e] at hm; exact h.ap k hk hm
    · rw [e] at hm
      have h1 : (w.alloc o).heap.size = k := by simpa [Row] using hm
      have := (own_row h.heard hk).2
      simp at h1
      omega
end

set_option maxRecDepth 100000 in
theorem enough_calls (n f : Nat) (w : World) (hn : n ≤ 1000000) (hf : f ≤ 4) : Calls Try.prog 174 #[.int .i64 (n : Int), .int .i64 (f : Int)] w (fun e w' => e = .returned (.bool (decide (f < n))) ∧ w' = w) := by
  have hw : IntKind.i64.wrap ((f : Int) + 1) = (f : Int) + 1 := wrap_near _ (by omega) (by omega)
  by_cases h : f < n
  · have hd : decide ((f : Int) + 1 ≤ (n : Int)) = true := by simp; omega
    go_enter Try.func174, Try.ntmps174
    go_wp2
    go_ret
    exact ⟨by rw [decide_eq_true h]; rfl, rfl⟩
  · have hd : decide ((f : Int) + 1 ≤ (n : Int)) = false := by simp; omega
    go_enter Try.func174, Try.ntmps174
    go_wp2
    go_ret
    exact ⟨by rw [decide_eq_false h]; rfl, rfl⟩
end Go.Proofs.Ytfgpchffkpomoaa
