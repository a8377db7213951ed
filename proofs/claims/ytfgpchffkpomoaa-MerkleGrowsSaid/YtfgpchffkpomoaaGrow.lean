/- Records that come and go, in plain words: what Put and Drop make of rising records. -/
import Derived.Test.YtfgpchffkpomoaaPk20
import Derived.Test.YtfgpchffkpomoaaPk19
import Derived.Test.YtfgpchffkpomoaaPk21
namespace Go.Proofs.Ytfgpchffkpomoaa
set_option linter.unusedSimpArgs false
set_option linter.unusedVariables false
open Go.RowKit

theorem rising_pair {l : List Rc} : Rising l ↔ l.Pairwise (fun x y => lsB x.key y.key = true) := by
  rw [List.pairwise_iff_getElem]
  constructor
  · intro h i j hi hj hij
    exact h i j _ _ hij (List.getElem?_eq_getElem hi) (List.getElem?_eq_getElem hj)
  · intro h i j x y hij hx hy
    obtain ⟨hi, rfl⟩ := List.getElem?_eq_some_iff.1 hx
    obtain ⟨hj, rfl⟩ := List.getElem?_eq_some_iff.1 hy
    exact h i j hi hj hij
theorem Rising.sub {l m : List Rc} (h : Rising l) (hs : m.Sublist l) : Rising m := rising_pair.2 (List.Pairwise.sublist hs (rising_pair.1 h))
def notK (key : ByteArray) (x : Rc) : Bool := decide (x.key ≠ key)
/-- The document's Drop. -/
def dropD (l : List Rc) (key : ByteArray) : List Rc := l.filter (notK key)
/-- The document's Put. -/
def putD (l : List Rc) (key val : ByteArray) : List Rc := l.take (placeP l key) ++ ⟨key, val⟩ :: (l.drop (placeP l key)).filter (notK key)
/-- The tree's. -/
def putT (l : List Rc) (key val : ByteArray) : List Rc := if isP l key = true then l.set (placeP l key) ⟨key, val⟩ else l.take (placeP l key) ++ ⟨key, val⟩ :: l.drop (placeP l key)
def dropT (l : List Rc) (key : ByteArray) : List Rc := if isP l key = true then l.take (placeP l key) ++ l.drop (placeP l key + 1) else l
theorem mem_below {l : List Rc} {key : ByteArray} {x : Rc} (h : x ∈ l.take (placeP l key)) : lsB x.key key = true := by
  obtain ⟨i, hi⟩ := List.getElem?_of_mem h
  rw [List.getElem?_take] at hi
  split at hi
  · rename_i hlt
    exact plc_below hlt hi
  · cases hi
theorem mem_above {l : List Rc} (hr : Rising l) {key : ByteArray} {x : Rc} (h : x ∈ l.drop (placeP l key)) : lsB x.key key = false := by
  obtain ⟨i, hi⟩ := List.getElem?_of_mem h
  rw [List.getElem?_drop] at hi
  exact plc_above hr (Nat.le_add_right _ i) hi
theorem below_ne {x : Rc} {key : ByteArray} (h : lsB x.key key = true) : x.key ≠ key := by
  rintro rfl
  rw [lsB_irrefl] at h
  cases h
theorem notK_iff {x : Rc} {key : ByteArray} : notK key x = true ↔ x.key ≠ key := by simp [notK]
theorem filter_below (l : List Rc) (key : ByteArray) : (l.take (placeP l key)).filter (notK key) = l.take (placeP l key) :=
  List.filter_eq_self.2 (fun _ h => notK_iff.2 (below_ne (mem_below h)))
theorem putD_rising {l : List Rc} (hr : Rising l) (key val : ByteArray) : Rising (putD l key val) := by
  have hp := rising_pair.1 hr
  refine rising_pair.2 ?_
  unfold putD
  have habove : ∀ y ∈ (l.drop (placeP l key)).filter (notK key), lsB key y.key = true := fun y hy => by
    obtain ⟨h1, h2⟩ := List.mem_filter.1 hy
    cases h3 : lsB key y.key with
    | true => rfl
    | false => exact absurd (lsB_tri (mem_above hr h1) h3) (notK_iff.1 h2)
  rw [List.pairwise_append]
  refine ⟨List.Pairwise.sublist (List.take_sublist _ _) hp, ?_, ?_⟩
  · rw [List.pairwise_cons]
    exact ⟨habove, List.Pairwise.sublist (List.filter_sublist.trans (List.drop_sublist _ _)) hp⟩
  · intro a ha b hb
    rcases List.mem_cons.1 hb with rfl | hb
    · exact mem_below ha
    · exact lsB_trans (mem_below ha) (habove b hb)
theorem dropD_rising {l : List Rc} (hr : Rising l) (key : ByteArray) : Rising (dropD l key) := hr.sub List.filter_sublist
theorem is_split {l : List Rc} {key : ByteArray} (h : isP l key = true) : ∃ x, x.key = key ∧ l.drop (placeP l key) = x :: l.drop (placeP l key + 1) ∧ placeP l key < l.length := by
  obtain ⟨x, hx, hk⟩ := isP_some h
  obtain ⟨hi, he⟩ := List.getElem?_eq_some_iff.1 hx
  exact ⟨x, hk, by rw [List.drop_eq_getElem_cons hi, he], hi⟩
theorem filter_behind {l : List Rc} (hr : Rising l) {key : ByteArray} (h : isP l key = true) : (l.drop (placeP l key + 1)).filter (notK key) = l.drop (placeP l key + 1) := by
  refine List.filter_eq_self.2 (fun y hy => notK_iff.2 ?_)
  obtain ⟨x, hx, hk⟩ := isP_some h
  obtain ⟨i, hi⟩ := List.getElem?_of_mem hy
  rw [List.getElem?_drop] at hi
  intro e
  have := hr.same hx hi (by rw [hk, e])
  omega
theorem filter_none {l : List Rc} (hr : Rising l) {key : ByteArray} (h : isP l key = false) : l.filter (notK key) = l := by
  refine List.filter_eq_self.2 (fun y hy => notK_iff.2 ?_)
  obtain ⟨i, hi⟩ := List.getElem?_of_mem hy
  exact isP_none hr h i y hi
theorem putT_eq {l : List Rc} (hr : Rising l) (key val : ByteArray) : putT l key val = putD l key val := by
  unfold putT putD
  by_cases h : isP l key = true
  · rw [if_pos h]
    obtain ⟨x, hk, hd, hlt⟩ := is_split h
    rw [hd, List.filter_cons_of_neg (by rw [notK_iff]; simpa using hk), filter_behind hr h, List.set_eq_take_append_cons_drop, if_pos hlt]
  · rw [if_neg h]
    have h' : isP l key = false := by simpa using h
    rw [List.filter_eq_self.2 (fun y hy => (List.filter_eq_self.1 (filter_none hr h')) y (List.mem_of_mem_drop hy))]
theorem dropT_eq {l : List Rc} (hr : Rising l) (key : ByteArray) : dropT l key = dropD l key := by
  unfold dropT dropD
  by_cases h : isP l key = true
  · rw [if_pos h]
    obtain ⟨x, hk, hd, hlt⟩ := is_split h
    conv => rhs; rw [← List.take_append_drop (placeP l key) l, List.filter_append, filter_below, hd, List.filter_cons_of_neg (by rw [notK_iff]; simpa using hk), filter_behind hr h]
  · rw [if_neg h, filter_none hr (by simpa using h)]
theorem isP_of {l : List Rc} (hr : Rising l) {key : ByteArray} {x : Rc} (hx : x ∈ l) (hk : x.key = key) : isP l key = true := by
  cases h : isP l key with
  | true => rfl
  | false =>
    obtain ⟨i, hi⟩ := List.getElem?_of_mem hx
    exact absurd hk (isP_none hr h i x hi)
theorem isP_not {l : List Rc} {key : ByteArray} (h : ∀ x ∈ l, x.key ≠ key) : isP l key = false := by
  cases h' : isP l key with
  | false => rfl
  | true =>
    obtain ⟨x, hx, hk⟩ := isP_some h'
    exact absurd hk (h x (List.mem_of_getElem? hx))
theorem isP_put {l : List Rc} (hr : Rising l) (key val : ByteArray) : isP (putD l key val) key = true := isP_of (putD_rising hr key val) (x := ⟨key, val⟩) (by unfold putD; simp) rfl
theorem isP_drop (l : List Rc) (key : ByteArray) : isP (dropD l key) key = false := isP_not (fun x hx => notK_iff.1 (List.mem_filter.1 hx).2)
theorem drop_put {l : List Rc} (hr : Rising l) {key : ByteArray} (val : ByteArray) (h : isP l key = false) : dropD (putD l key val) key = l := by
  unfold dropD putD
  rw [List.filter_append, filter_below, List.filter_cons_of_neg (by rw [notK_iff]; simp), List.filter_filter]
  simp only [Bool.and_self]
  rw [List.filter_eq_self.2 (fun y hy => (List.filter_eq_self.1 (filter_none hr h)) y (List.mem_of_mem_drop hy)), List.take_append_drop]
theorem putD_len {l : List Rc} (hr : Rising l) {key : ByteArray} (val : ByteArray) (h : isP l key = false) : (putD l key val).length = l.length + 1 := by
  rw [← putT_eq hr]
  unfold putT
  rw [if_neg (by rw [h]; decide)]
  have := plc_le l key
  simp
  omega
theorem putD_le (l : List Rc) (key val : ByteArray) : (putD l key val).length ≤ l.length + 1 := by
  have h1 := plc_le l key
  have h2 := List.length_filter_le (notK key) (l.drop (placeP l key))
  unfold putD
  simp at h2 ⊢
  omega
theorem dropD_le (l : List Rc) (key : ByteArray) : (dropD l key).length ≤ l.length := List.length_filter_le _ _
/-- Records that a tree may hold. -/
def Held (l : List Rc) : Prop := ∀ x ∈ l, fitK x.key = true ∧ x.val.size ≤ 4096
theorem Held.put {l : List Rc} (h : Held l) {key val : ByteArray} (hk : fitK key = true) (hv : val.size ≤ 4096) : Held (putD l key val) := by
  intro x hx
  unfold putD at hx
  rcases List.mem_append.1 hx with hx | hx
  · exact h x (List.mem_of_mem_take hx)
  · rcases List.mem_cons.1 hx with rfl | hx
    · exact ⟨hk, hv⟩
    · exact h x (List.mem_of_mem_drop (List.mem_filter.1 hx).1)
theorem Held.drop {l : List Rc} (h : Held l) (key : ByteArray) : Held (dropD l key) := fun x hx => h x (List.mem_filter.1 hx).1
theorem Held.nil : Held [] := fun x hx => by cases hx
theorem Held.short {l : List Rc} (h : Held l) : Short l := fun x hx => by
  have h1 := of_decide_eq_true (show decide (0 < x.key.size ∧ x.key.size ≤ 64) = true from (h x hx).1)
  exact ⟨by omega, (h x hx).2⟩
theorem held_rise {l : List Rc} (h : Held l) (hr : Rising l) (hl : l.length ≤ 4096) : riseE l = 0 := by
  have hg : ∀ k, k < l.length → codeAt l k = 0 := by
    intro k hk
    have h1 := h l[k] (List.getElem_mem hk)
    have h2 := of_decide_eq_true (show decide (0 < l[k].key.size ∧ l[k].key.size ≤ 64) = true from h1.1)
    have hb : rcBad l[k] = false := rcBad_no h2 (by omega)
    cases k with
    | zero => exact codeAt_first hk hb
    | succ k =>
      rw [codeAt_next hk hb, geB_ls, hr k (k + 1) _ _ (by omega) (List.getElem?_eq_getElem (by omega)) (List.getElem?_eq_getElem hk)]
      rfl
  have hn : ∀ n, n ≤ l.length → riseN l n = 0 := by
    intro n
    induction n with
    | zero => intro _; rfl
    | succ n ih => intro hn; exact riseN_next (ih (by omega)) (hg n (by omega))
  unfold riseE
  rw [if_neg (by omega)]
  exact hn _ (Nat.le_refl _)
/-- The leaves of what a Put makes. -/
theorem leaves_ins (h : ByteArray → ByteArray) (l : List Rc) (k : Nat) (x : Rc) : leavesH h (l.take k ++ x :: l.drop k) = (leavesH h l).take k ++ h (leafT x) :: (leavesH h l).drop k := by
  unfold leavesH
  rw [List.map_append, List.map_cons, List.map_take, List.map_drop]
theorem leaves_set (h : ByteArray → ByteArray) (l : List Rc) (k : Nat) (x : Rc) : leavesH h (l.set k x) = (leavesH h l).set k (h (leafT x)) := by
  unfold leavesH
  rw [List.map_set]
theorem leaves_del (h : ByteArray → ByteArray) (l : List Rc) (k : Nat) : leavesH h (l.take k ++ l.drop (k + 1)) = (leavesH h l).take k ++ (leavesH h l).drop (k + 1) := by
  unfold leavesH
  rw [List.map_append, List.map_take, List.map_drop]
/-- A record ahead of greater ones. -/
theorem put_front {l : List Rc} {x : Rc} (hr : Rising (x :: l)) : putD l x.key x.val = x :: l := by
  have hall : ∀ y ∈ l, lsB x.key y.key = true := (List.pairwise_cons.1 (rising_pair.1 hr)).1
  have h0 : placeP l x.key = 0 := plc_eq (by omega) (fun k y hk => by omega) (fun y hy => by
    have := hall y (List.mem_of_getElem? hy)
    cases h : lsB y.key x.key with
    | false => rfl
    | true =>
      have := lsB_trans this h
      rw [lsB_irrefl] at this
      cases this)
  unfold putD
  rw [h0, List.take_zero, List.nil_append, List.drop_zero, List.filter_eq_self.2 (fun y hy => notK_iff.2 (fun e => by
    have := hall y hy
    rw [e, lsB_irrefl] at this
    cases this))]
theorem truth_is {l : List Rc} (hr : Rising l) {key : ByteArray} {x : Rc} (hx : l[placeP l key]? = some x) (hk : x.key = key) : truthP l key x.val true = true := by
  subst hk
  exact truth_some hr hx
theorem at_is {l : List Rc} (hr : Rising l) (key : ByteArray) : (atP l key).isSome = isP l key := by
  cases h : isP l key with
  | true =>
    obtain ⟨x, hx, hk⟩ := isP_some h
    subst hk
    rw [atP_some hr hx]
    rfl
  | false =>
    rw [atP_none (fun i x hx => isP_none hr h i x hx)]
    rfl
end Go.Proofs.Ytfgpchffkpomoaa
