/- Texts of this proof, several in one file; each says ahead of it what it proves. -/
import Derived.Test.YtfgpchffkpomoaaPk19
/- Records under a root: what a proof shows of a key, and the proofs that are made: in plain words. -/
namespace Go.Proofs.Ytfgpchffkpomoaa
set_option linter.unusedSimpArgs false
set_option linter.unusedVariables false
open Go.RowKit

/-! The order of keys. -/
def lsB (a b : ByteArray) : Bool := Op.bytesLess a.toList b.toList
theorem less_eq : ∀ (x y : List UInt8), Op.bytesLess x y = decide (x < y)
  | [], y => by cases y <;> simp [Op.bytesLess]
  | _ :: _, [] => by simp [Op.bytesLess]
  | a :: x, b :: y => by
    have ih := less_eq x y
    rw [Op.bytesLess, ih]
    by_cases e : a = b
    · subst e
      by_cases h : x < y <;> simp [h, List.cons_lt_cons_iff]
    · by_cases h1 : a < b <;> simp [e, h1, List.cons_lt_cons_iff]
theorem lsB_eq (a b : ByteArray) : lsB a b = decide (a.data.toList < b.data.toList) := by
  unfold lsB
  rw [less_eq, ByteArray.toList_eq, ByteArray.toList_eq]
theorem lsB_irrefl (a : ByteArray) : lsB a a = false := by
  rw [lsB_eq]
  exact decide_eq_false (List.lt_irrefl _)
theorem lsB_trans {a b c : ByteArray} (h : lsB a b = true) (k : lsB b c = true) : lsB a c = true := by
  rw [lsB_eq] at *
  exact decide_eq_true (List.lt_trans (of_decide_eq_true h) (of_decide_eq_true k))
theorem data_inj {a b : ByteArray} (h : a.data.toList = b.data.toList) : a = b := by
  obtain ⟨⟨a⟩⟩ := a
  obtain ⟨⟨b⟩⟩ := b
  simp only at h
  rw [h]
theorem lsB_tri {a b : ByteArray} (h : lsB a b = false) (k : lsB b a = false) : a = b := by
  rw [lsB_eq] at h k
  have h1 := of_decide_eq_false h
  have h2 := of_decide_eq_false k
  exact data_inj (List.le_antisymm (List.not_lt.1 h2) (List.not_lt.1 h1))
theorem geB_ls (a b : ByteArray) : geB a b = !lsB a b := rfl

/-- Keys that rise. -/
def Rising (l : List Rc) : Prop := ∀ (i j : Nat) (x y : Rc), i < j → l[i]? = some x → l[j]? = some y → lsB x.key y.key = true
theorem Rising.nil : Rising [] := fun i j x y _ h => by simp at h
theorem rising_of {l : List Rc} (h : ∀ (i : Nat) (x y : Rc), l[i]? = some x → l[i + 1]? = some y → lsB x.key y.key = true) : Rising l := by
  intro i j x y hij hx hy
  obtain ⟨d, rfl⟩ : ∃ d, j = i + 1 + d := ⟨j - (i + 1), by omega⟩
  clear hij
  induction d generalizing y with
  | zero => exact h i x y hx hy
  | succ d ih =>
    have hlt := (List.getElem?_eq_some_iff.1 hy).1
    obtain ⟨z, hz⟩ : ∃ z, l[i + 1 + d]? = some z := ⟨l[i + 1 + d]'(by omega), List.getElem?_eq_getElem (by omega)⟩
    exact lsB_trans (ih z hz) (h _ z y hz (by rw [show i + 1 + d + 1 = i + 1 + (d + 1) by omega]; exact hy))
theorem rise_rising {l : List Rc} (h : riseE l = 0) : Rising l := by
  refine rising_of fun i x y hx hy => ?_
  obtain ⟨h1, rfl⟩ := List.getElem?_eq_some_iff.1 hx
  obtain ⟨h2, rfl⟩ := List.getElem?_eq_some_iff.1 hy
  unfold riseE at h
  by_cases h4 : 4096 < l.length
  · rw [if_pos h4] at h; omega
  · rw [if_neg h4] at h
    have hc := riseN_all h (i + 1) h2
    by_cases hb : rcBad l[i + 1] = true
    · rw [codeAt_bad h2 hb] at hc; omega
    · rw [codeAt_next h2 (by simpa using hb), geB_ls] at hc
      cases hq : lsB l[i].key l[i + 1].key with
      | true => rfl
      | false => rw [hq] at hc; simp at hc
theorem Rising.same {l : List Rc} (h : Rising l) {i j : Nat} {x y : Rc} (hx : l[i]? = some x) (hy : l[j]? = some y) (e : x.key = y.key) : i = j := by
  rcases Nat.lt_trichotomy i j with h1 | h1 | h1
  · have := h i j x y h1 hx hy
    rw [e, lsB_irrefl] at this; cases this
  · exact h1
  · have := h j i y x h1 hy hx
    rw [e, lsB_irrefl] at this; cases this
/-- The document's At, and whether what was told is what there is. -/
def atP (l : List Rc) (key : ByteArray) : Option Rc := l.find? (fun x => decide (x.key = key))
def truthP (l : List Rc) (key v : ByteArray) (has : Bool) : Bool := match atP l key with
  | none => !has && decide (v = ⟨#[]⟩)
  | some x => has && decide (v = x.val)
theorem atP_some {l : List Rc} (hr : Rising l) {i : Nat} {x : Rc} (hx : l[i]? = some x) : atP l x.key = some x := by
  unfold atP
  cases h : l.find? (fun y => decide (y.key = x.key)) with
  | none =>
    have := List.find?_eq_none.1 h x (List.mem_of_getElem? hx)
    simp at this
  | some y =>
    have h1 := List.find?_some h
    have h2 := List.mem_of_find?_eq_some h
    obtain ⟨j, hj⟩ := List.getElem?_of_mem h2
    have := hr.same hj hx (by simpa using h1)
    subst this
    rw [hx] at hj
    exact hj.symm
theorem atP_none {l : List Rc} {key : ByteArray} (h : ∀ (i : Nat) (x : Rc), l[i]? = some x → x.key ≠ key) : atP l key = none := by
  unfold atP
  rw [List.find?_eq_none]
  intro x hx
  obtain ⟨j, hj⟩ := List.getElem?_of_mem hx
  simpa using h j x hj
theorem truth_none {l : List Rc} {key : ByteArray} (h : ∀ (i : Nat) (x : Rc), l[i]? = some x → x.key ≠ key) : truthP l key ⟨#[]⟩ false = true := by
  unfold truthP
  rw [atP_none h]
  simp
theorem truth_some {l : List Rc} (hr : Rising l) {i : Nat} {x : Rc} (hx : l[i]? = some x) : truthP l x.key x.val true = true := by
  unfold truthP
  rw [atP_some hr hx]
  simp

/-! The root of records. -/
def leavesH (h : ByteArray → ByteArray) (l : List Rc) : List ByteArray := l.map (fun x => h (leafT x))
def rootP (h : ByteArray → ByteArray) (l : List Rc) : ByteArray := h (rootT l.length (topP h (leavesH h l)))
theorem leavesH_len (h : ByteArray → ByteArray) (l : List Rc) : (leavesH h l).length = l.length := by simp [leavesH]
def LeavesIn (T : List ByteArray) (l : List Rc) : Prop := ∀ x ∈ l, leafT x ∈ T
theorem LeavesIn.ext {T T' : List ByteArray} (he : Ext T T') {l : List Rc} (h : LeavesIn T l) : LeavesIn T' l ∧ leavesH (hh T') l = leavesH (hh T) l :=
  ⟨fun x hx => he.mem (h x hx), List.map_congr_left fun x hx => hh_ext he (h x hx)⟩
theorem leaves_size (T : List ByteArray) (l : List Rc) : ∀ y ∈ leavesH (hh T) l, y.size = 8 := by
  intro y hy
  obtain ⟨x, _, rfl⟩ := List.mem_map.1 hy
  exact hh_size _ _
structure RootIn (T : List ByteArray) (l : List Rc) : Prop where
  leaves : LeavesIn T l
  top : TopIn T (leavesH (hh T) l)
  root : rootT l.length (topP (hh T) (leavesH (hh T) l)) ∈ T
theorem RootIn.ext {T T' : List ByteArray} (he : Ext T T') {l : List Rc} (h : RootIn T l) : RootIn T' l ∧ rootP (hh T') l = rootP (hh T) l := by
  obtain ⟨a, ea⟩ := h.leaves.ext he
  obtain ⟨b, eb⟩ := h.top.ext he
  refine ⟨⟨a, by rw [ea]; exact b, by rw [ea, eb]; exact he.mem h.root⟩, ?_⟩
  unfold rootP
  rw [ea, eb, hh_ext he h.root]
def Short (l : List Rc) : Prop := ∀ x ∈ l, x.key.size ≤ 4096 ∧ x.val.size ≤ 4096
theorem rise_short {l : List Rc} (h : riseE l = 0) : Short l := by
  intro x hx
  obtain ⟨j, hj⟩ := List.getElem?_of_mem hx
  obtain ⟨hlt, rfl⟩ := List.getElem?_eq_some_iff.1 hj
  have := (rise_ok h).2 j hlt
  omega
theorem leaves_inj {T : List ByteArray} (hT : T.length ≤ 1000000000) : ∀ {l m : List Rc}, Short l → Short m → LeavesIn T l → LeavesIn T m → leavesH (hh T) l = leavesH (hh T) m → l = m
  | [], [], _, _, _, _, _ => rfl
  | [], _ :: _, _, _, _, _, h => by simp [leavesH] at h
  | _ :: _, [], _, _, _, _, h => by simp [leavesH] at h
  | x :: l, y :: m, sl, sm, il, im, h => by
    simp only [leavesH, List.map_cons, List.cons.injEq] at h
    have h1 := sl x (by simp)
    have h2 := sm y (by simp)
    have e1 := leafT_inj (by omega) (by omega) (by omega) (by omega) (hh_inj hT (il x (by simp)) (im y (by simp)) h.1)
    have e2 := leaves_inj hT (fun x hx => sl x (by simp [hx])) (fun x hx => sm x (by simp [hx])) (fun x hx => il x (by simp [hx])) (fun x hx => im x (by simp [hx])) h.2
    rw [e1, e2]
theorem root_inj {T : List ByteArray} (hT : T.length ≤ 1000000000) {l m : List Rc} (hl : RootIn T l) (hm : RootIn T m) (sl : Short l) (sm : Short m) (nl : l.length ≤ 1000000) (nm : m.length ≤ 1000000) (h : rootP (hh T) l = rootP (hh T) m) : l = m := by
  have s1 : ∀ l : List Rc, ∀ x ∈ leavesH (hh T) l, x.size ≤ 1000 := fun l x hx => by rw [leaves_size T l x hx]; omega
  have t1 := topP_size (T := T) (s1 l)
  have t2 := topP_size (T := T) (s1 m)
  obtain ⟨e1, e2⟩ := rootT_inj nl nm (by omega) (by omega) (hh_inj hT hl.root hm.root h)
  exact leaves_inj hT sl sm hl.leaves hm.leaves (top_inj hT _ _ (by rw [leavesH_len, leavesH_len, e1]) hl.top hm.top (s1 l) (s1 m) e2)

/-! A path that leads to a root. -/
def Pt.rc (x : Pt) : Rc := ⟨x.key, x.val⟩
def ledP (h : ByteArray → ByteArray) (rt : ByteArray) (n : Nat) (x : Pt) : Bool :=
  decide (x.index < (n : Int)) && ((climbP h (h (leafT x.rc)) x.index.toNat n x.sides).2 && decide (h (rootT n (climbP h (h (leafT x.rc)) x.index.toNat n x.sides).1) = rt))
structure LedIn (T : List ByteArray) (n : Nat) (x : Pt) : Prop where
  leaf : leafT x.rc ∈ T
  climb : ClimbIn T (hh T (leafT x.rc)) x.index.toNat n x.sides
  root : rootT n (climbP (hh T) (hh T (leafT x.rc)) x.index.toNat n x.sides).1 ∈ T
theorem LedIn.ext {T T' : List ByteArray} (he : Ext T T') {n : Nat} {x : Pt} (h : LedIn T n x) : LedIn T' n x ∧ ∀ rt, ledP (hh T') rt n x = ledP (hh T) rt n x := by
  have e1 := hh_ext he h.leaf
  obtain ⟨b, eb⟩ := h.climb.ext he
  have e3 := hh_ext he h.root
  refine ⟨⟨he.mem h.leaf, by rw [e1]; exact b, by rw [e1, eb]; exact he.mem h.root⟩, fun rt => ?_⟩
  unfold ledP
  rw [e1, eb, e3]
def PtGood (x : Pt) : Prop := 0 ≤ x.index ∧ x.key.size ≤ 4096 ∧ x.val.size ≤ 4096 ∧ ∀ s ∈ x.sides, s.size ≤ 1000
theorem led_sound {T : List ByteArray} (hT : T.length ≤ 1000000000) {l : List Rc} (hl : RootIn T l) (sl : Short l) (nl : l.length ≤ 1000000) {n : Nat} (hn : n ≤ 1000000) {x : Pt} (hx : PtGood x) (hi : LedIn T n x) (h : ledP (hh T) (rootP (hh T) l) n x = true) :
    n = l.length ∧ l[x.index.toNat]? = some x.rc := by
  unfold ledP at h
  simp only [Bool.and_eq_true, decide_eq_true_eq] at h
  obtain ⟨h1, h2, h3⟩ := h
  obtain ⟨x0, xk, xv, xs⟩ := hx
  have s1 : ∀ y ∈ leavesH (hh T) l, y.size ≤ 1000 := fun y hy => by rw [leaves_size T l y hy]; omega
  have t1 := topP_size (T := T) s1
  have hs8 := hh_size T (leafT x.rc)
  have t2 := climbP_size (T := T) (d := hh T (leafT x.rc)) (i := x.index.toNat) (n := n) (s := x.sides) (by omega)
  obtain ⟨e1, e2⟩ := rootT_inj hn nl (by omega) (by omega) (hh_inj hT hi.root hl.root h3)
  refine ⟨e1, ?_⟩
  have h4 := climb_sound hT n (leavesH (hh T) l) (hh T (leafT x.rc)) x.index.toNat x.sides (by rw [leavesH_len, e1]) (by omega) hl.top hi.climb s1 (by omega) xs h2 e2
  unfold leavesH at h4
  rw [List.getElem?_map] at h4
  obtain ⟨y, hy, e⟩ := Option.map_eq_some_iff.1 h4
  have hm := List.mem_of_getElem? hy
  have hsy := sl y hm
  rw [hy, leafT_inj (x := y) (y := x.rc) (by omega) (by omega) (by unfold Pt.rc; simp only; omega) (by unfold Pt.rc; simp only; omega) (hh_inj hT (hl.leaves y hm) hi.leaf e)]

/-! What a proof shows. -/
def fitK (key : ByteArray) : Bool := decide (0 < key.size ∧ key.size ≤ 64)
def shownE (h : ByteArray → ByteArray) (rt key : ByteArray) (count : Int) (l : List Pt) : ByteArray × Bool × Int := match l with
  | [] => if count = 0 ∧ h (rootT 0 ⟨#[]⟩) = rt then (⟨#[]⟩, false, 0) else (⟨#[]⟩, false, 40)
  | [x] => if x.key = key then (x.val, true, 0) else if (x.index = 0 ∧ lsB key x.key = true) ∨ (x.index = count - 1 ∧ lsB x.key key = true) then (⟨#[]⟩, false, 0) else (⟨#[]⟩, false, 40)
  | [x, y] => if y.index = x.index + 1 ∧ lsB x.key key = true ∧ lsB key y.key = true then (⟨#[]⟩, false, 0) else (⟨#[]⟩, false, 40)
  | _ => (⟨#[]⟩, false, 40)
def verifyP (h : ByteArray → ByteArray) (rt key : ByteArray) (count : Int) (l : List Pt) : ByteArray × Bool × Int :=
  if fitK key = true then (if pfOk count l = true then (if l.all (ledP h rt count.toNat) = true then shownE h rt key count l else (⟨#[]⟩, false, 40)) else (⟨#[]⟩, false, 40)) else (⟨#[]⟩, false, 14)
theorem shownE_no (h : ByteArray → ByteArray) (rt key : ByteArray) (count : Int) (l : List Pt) : (shownE h rt key count l).2.2 = 0 ∨ shownE h rt key count l = (⟨#[]⟩, false, 40) := by
  unfold shownE
  split
  · split <;> simp
  · split
    · simp
    · split <;> simp
  · split <;> simp
  · simp
theorem verify_no (h : ByteArray → ByteArray) (rt key : ByteArray) (count : Int) (l : List Pt) (hne : (verifyP h rt key count l).2.2 ≠ 0) : (verifyP h rt key count l).1 = ⟨#[]⟩ ∧ (verifyP h rt key count l).2.1 = false ∧ ((verifyP h rt key count l).2.2 = 40 ∨ ((verifyP h rt key count l).2.2 = 14 ∧ fitK key = false)) := by
  unfold verifyP at hne ⊢
  by_cases h1 : fitK key = true
  · rw [if_pos h1] at hne ⊢
    by_cases h2 : pfOk count l = true
    · rw [if_pos h2] at hne ⊢
      by_cases h3 : l.all (ledP h rt count.toNat) = true
      · rw [if_pos h3] at hne ⊢
        rcases shownE_no h rt key count l with h4 | h4
        · exact absurd h4 hne
        · rw [h4]; simp
      · rw [if_neg h3]; simp
    · rw [if_neg h2]; simp
  · rw [if_neg h1]
    simp only [Bool.not_eq_true] at h1
    simp [h1]
/-- All that a proof's check digests, was digested. -/
structure VerIn (T : List ByteArray) (count : Int) (l : List Pt) : Prop where
  led : ∀ x ∈ l, LedIn T count.toNat x
  none : l = [] → rootT 0 ⟨#[]⟩ ∈ T
theorem verify_sound {T : List ByteArray} (hT : T.length ≤ 1000000000) {l : List Rc} (hl : RootIn T l) (hr : riseE l = 0) {key : ByteArray} {count : Int} {ps : List Pt} (hv : VerIn T count ps) (h : (verifyP (hh T) (rootP (hh T) l) key count ps).2.2 = 0) :
    truthP l key (verifyP (hh T) (rootP (hh T) l) key count ps).1 (verifyP (hh T) (rootP (hh T) l) key count ps).2.1 = true := by
  have hri := rise_rising hr
  have hsh := rise_short hr
  have hn := (rise_ok hr).1
  by_cases h1 : fitK key = true
  · by_cases h2 : pfOk count ps = true
    · by_cases h3 : ps.all (ledP (hh T) (rootP (hh T) l) count.toNat) = true
      · have hE : verifyP (hh T) (rootP (hh T) l) key count ps = shownE (hh T) (rootP (hh T) l) key count ps := by unfold verifyP; rw [if_pos h1, if_pos h2, if_pos h3]
        rw [hE] at h ⊢
        obtain ⟨p1, p2, p3⟩ := pfOk_iff h2
        have hled : ∀ x ∈ ps, count.toNat = l.length ∧ l[x.index.toNat]? = some x.rc ∧ 0 ≤ x.index := fun x hx => by
          obtain ⟨q1, q2, q3, q4, q5⟩ := p3 x hx
          have := led_sound hT hl hsh (by omega) (n := count.toNat) (by omega) (x := x) ⟨q1.1, by omega, by omega, fun s hs => by have := q5 s hs; omega⟩ (hv.led x hx) (List.all_eq_true.1 h3 x hx)
          exact ⟨this.1, this.2, q1.1⟩
        unfold shownE at h ⊢
        split
        · rename_i hh0
          split
          · rename_i hc
            have hx := hv.none rfl
            have e := (rootT_inj (n := 0) (by omega) (by omega) (by simp [ByteArray.size]) (by
              have := topP_size (T := T) (l := leavesH (hh T) l) (fun y hy => by rw [leaves_size T l y hy]; omega)
              omega) (hh_inj hT hx hl.root hc.2)).1
            obtain rfl : l = [] := List.eq_nil_of_length_eq_zero e.symm
            exact truth_none (fun i x hx => by simp at hx)
          · rename_i hc
            dsimp only at h
            rw [if_neg hc] at h
            simp at h
        · rename_i x
          obtain ⟨c1, c2, c3⟩ := hled x (by simp)
          split
          · rename_i hk
            rw [← hk]
            exact truth_some hri c2
          · rename_i hk
            split
            · rename_i ho
              refine truth_none fun j y hy e => ?_
              rcases ho with ⟨o1, o2⟩ | ⟨o1, o2⟩
              · rw [o1] at c2
                cases j with
                | zero =>
                  have e2 : some y = some x.rc := hy.symm.trans c2
                  obtain rfl := Option.some.inj e2
                  exact hk e
                | succ j =>
                  have := lsB_trans o2 (hri 0 (j + 1) x.rc y (by omega) c2 hy)
                  rw [e, lsB_irrefl] at this
                  cases this
              · have hj := (List.getElem?_eq_some_iff.1 hy).1
                by_cases hjl : j = x.index.toNat
                · subst hjl
                  obtain rfl := Option.some.inj (hy.symm.trans c2)
                  exact hk e
                · have := lsB_trans (hri j x.index.toNat y x.rc (by omega) hy c2) o2
                  rw [e, lsB_irrefl] at this
                  cases this
            · rename_i ho
              dsimp only at h
              rw [if_neg hk, if_neg ho] at h
              simp at h
        · rename_i x y
          obtain ⟨c1, c2, c3⟩ := hled x (by simp)
          obtain ⟨d1, d2, d3⟩ := hled y (by simp)
          split
          · rename_i ho
            obtain ⟨o1, o2, o3⟩ := ho
            refine truth_none fun j z hz e => ?_
            rcases Nat.lt_trichotomy j x.index.toNat with hj | hj | hj
            · have := lsB_trans (hri j _ z x.rc hj hz c2) o2
              rw [e, lsB_irrefl] at this
              cases this
            · subst hj
              obtain rfl := Option.some.inj (hz.symm.trans c2)
              rw [show key = x.key from e.symm, lsB_irrefl] at o2
              cases o2
            · rcases Nat.lt_trichotomy j y.index.toNat with hj2 | hj2 | hj2
              · omega
              · subst hj2
                obtain rfl := Option.some.inj (hz.symm.trans d2)
                rw [show key = y.key from e.symm, lsB_irrefl] at o3
                cases o3
              · have := lsB_trans o3 (hri _ j y.rc z hj2 d2 hz)
                rw [e, lsB_irrefl] at this
                cases this
          · rename_i ho
            dsimp only at h
            rw [if_neg ho] at h
            simp at h
        · rename_i q1 q2 q3
          exfalso
          match ps, p2, q1, q2, q3 with
          | [], _, q1, _, _ => exact q1 rfl
          | [x], _, _, q2, _ => exact q2 x rfl
          | [x, y], _, _, _, q3 => exact q3 x y rfl
          | _ :: _ :: _ :: _, p2, _, _, _ => simp at p2
      · unfold verifyP at h
        rw [if_pos h1, if_pos h2, if_neg h3] at h
        simp at h
    · unfold verifyP at h
      rw [if_pos h1, if_neg h2] at h
      simp at h
  · unfold verifyP at h
    rw [if_neg h1] at h
    simp at h
end Go.Proofs.Ytfgpchffkpomoaa

/- The proofs that are made, and that they are accepted: in plain words. -/
namespace Go.Proofs.Ytfgpchffkpomoaa
set_option linter.unusedSimpArgs false
set_option linter.unusedVariables false
open Go.RowKit

/-- How many keys stand below a key, at the front. -/
def placeP (l : List Rc) (key : ByteArray) : Nat := (l.takeWhile (fun x => lsB x.key key)).length
theorem plc_le (l : List Rc) (key : ByteArray) : placeP l key ≤ l.length := by
  unfold placeP
  exact (List.takeWhile_prefix _).length_le
theorem plc_below : ∀ {l : List Rc} {key : ByteArray} {i : Nat} {x : Rc}, i < placeP l key → l[i]? = some x → lsB x.key key = true
  | [], _, _, _, h, _ => by simp [placeP] at h
  | y :: l, key, i, x, h, hx => by
    unfold placeP at h
    rw [List.takeWhile_cons] at h
    split at h
    · rename_i hy
      cases i with
      | zero =>
        obtain rfl : y = x := by simpa using hx
        exact hy
      | succ i => exact plc_below (l := l) (by simpa [placeP] using h) (by simpa using hx)
    · simp at h
theorem plc_at : ∀ {l : List Rc} {key : ByteArray} {x : Rc}, l[placeP l key]? = some x → lsB x.key key = false
  | [], _, _, h => by simp at h
  | y :: l, key, x, h => by
    unfold placeP at h
    rw [List.takeWhile_cons] at h
    split at h
    · exact plc_at (l := l) (by simpa [placeP] using h)
    · rename_i hy
      obtain rfl : y = x := by simpa using h
      simpa using hy
theorem plc_above {l : List Rc} (hr : Rising l) {key : ByteArray} {j : Nat} {x : Rc} (hj : placeP l key ≤ j) (hx : l[j]? = some x) : lsB x.key key = false := by
  have hlt := (List.getElem?_eq_some_iff.1 hx).1
  obtain ⟨y, hy⟩ : ∃ y, l[placeP l key]? = some y := ⟨l[placeP l key]'(by omega), List.getElem?_eq_getElem (by omega)⟩
  have h1 := plc_at hy
  by_cases e : placeP l key = j
  · subst e
    obtain rfl := Option.some.inj (hx.symm.trans hy)
    exact h1
  · have h2 := hr _ j y x (by omega) hy hx
    cases h3 : lsB x.key key with
    | false => rfl
    | true => rw [lsB_trans h2 h3] at h1; cases h1
theorem plc_eq {l : List Rc} {key : ByteArray} {i : Nat} (hi : i ≤ l.length) (h1 : ∀ k x, k < i → l[k]? = some x → lsB x.key key = true) (h2 : ∀ x, l[i]? = some x → lsB x.key key = false) : placeP l key = i := by
  rcases Nat.lt_trichotomy (placeP l key) i with h | h | h
  · have hx := List.getElem?_eq_getElem (l := l) (i := placeP l key) (by omega)
    have h3 := plc_at hx
    rw [h1 _ _ h hx] at h3
    cases h3
  · exact h
  · have hle := plc_le l key
    have hx := List.getElem?_eq_getElem (l := l) (i := i) (by omega)
    have h3 := h2 _ hx
    rw [plc_below h hx] at h3
    cases h3
def isP (l : List Rc) (key : ByteArray) : Bool := match l[placeP l key]? with
  | some x => decide (x.key = key)
  | none => false
theorem isP_some {l : List Rc} {key : ByteArray} (h : isP l key = true) : ∃ x, l[placeP l key]? = some x ∧ x.key = key := by
  unfold isP at h
  split at h
  · rename_i x hx
    exact ⟨x, hx, of_decide_eq_true h⟩
  · cases h
theorem isP_none {l : List Rc} (hr : Rising l) {key : ByteArray} (h : isP l key = false) (i : Nat) (x : Rc) (hx : l[i]? = some x) : x.key ≠ key := by
  rintro rfl
  have hi : placeP l x.key = i := plc_eq (by have := (List.getElem?_eq_some_iff.1 hx).1; omega) (fun k y hk hy => hr k i y x hk hy hx) (fun y hy => by
    obtain rfl := Option.some.inj (hx.symm.trans hy)
    exact lsB_irrefl _)
  unfold isP at h
  rw [hi, hx] at h
  simp at h
/-- The records that show what there is at a key. -/
def shownP (l : List Rc) (key : ByteArray) : List Nat :=
  if isP l key = true then [placeP l key] else if l.length = 0 then [] else if placeP l key = 0 then [0] else if placeP l key = l.length then [placeP l key - 1] else [placeP l key - 1, placeP l key]
def pathP (h : ByteArray → ByteArray) (l : List Rc) (i : Nat) : Pt := match l[i]? with
  | some x => ⟨i, x.key, x.val, sidesP h (leavesH h l) i⟩
  | none => ⟨i, ⟨#[]⟩, ⟨#[]⟩, []⟩
theorem pathP_eq {h : ByteArray → ByteArray} {l : List Rc} {i : Nat} {x : Rc} (hx : l[i]? = some x) : pathP h l i = ⟨i, x.key, x.val, sidesP h (leavesH h l) i⟩ := by
  unfold pathP
  rw [hx]
def proofP (h : ByteArray → ByteArray) (l : List Rc) (key : ByteArray) : List Pt := (shownP l key).map (pathP h l)
theorem shown_lt {l : List Rc} {key : ByteArray} {i : Nat} (h : i ∈ shownP l key) : i < l.length := by
  have hle := plc_le l key
  unfold shownP at h
  split at h
  · rename_i hi
    obtain ⟨x, hx, _⟩ := isP_some hi
    have := (List.getElem?_eq_some_iff.1 hx).1
    obtain rfl : i = _ := by simpa using h
    exact this
  · split at h
    · cases h
    · split at h
      · obtain rfl : i = 0 := by simpa using h
        omega
      · split at h
        · obtain rfl : i = _ := by simpa using h
          omega
        · rcases (by simpa using h : i = placeP l key - 1 ∨ i = placeP l key) with rfl | rfl <;> omega
theorem shown_len (l : List Rc) (key : ByteArray) : (shownP l key).length ≤ 2 := by
  unfold shownP
  split
  · simp
  · split
    · simp
    · split
      · simp
      · split <;> simp
theorem led_honest {h : ByteArray → ByteArray} {l : List Rc} {i : Nat} (hi : i < l.length) : ledP h (rootP h l) l.length (pathP h l i) = true := by
  obtain ⟨x, hx⟩ : ∃ x, l[i]? = some x := ⟨l[i], List.getElem?_eq_getElem hi⟩
  rw [pathP_eq hx]
  have hd : (leavesH h l)[i]? = some (h (leafT x)) := by
    unfold leavesH
    rw [List.getElem?_map, hx]
    rfl
  have hc := climb_sides h (leavesH h l) i _ hd
  rw [leavesH_len] at hc
  have h1 : climbP h (h (leafT (Pt.rc ⟨i, x.key, x.val, sidesP h (leavesH h l) i⟩))) (i : Int).toNat l.length (sidesP h (leavesH h l) i) = (topP h (leavesH h l), true) := hc
  unfold ledP
  rw [Bool.and_eq_true, Bool.and_eq_true, decide_eq_true_eq, decide_eq_true_eq]
  exact ⟨by simp only; omega, congrArg Prod.snd h1, congrArg (fun q => h (rootT l.length q.1)) h1⟩
theorem ptOk_honest {T : List ByteArray} {l : List Rc} (hr : riseE l = 0) {i : Nat} (hi : i < l.length) : ptOk (pathP (hh T) l i) = true := by
  obtain ⟨x, hx⟩ : ∃ x, l[i]? = some x := ⟨l[i], List.getElem?_eq_getElem hi⟩
  obtain ⟨h4, hk⟩ := rise_ok hr
  obtain ⟨_, hxe⟩ := List.getElem?_eq_some_iff.1 hx
  have hk2 := hk i hi
  rw [hxe] at hk2
  rw [pathP_eq hx]
  have hl := sidesP_len (hh T) 12 (leavesH (hh T) l) i (by rw [leavesH_len]; omega)
  refine ptOk_good (x := ⟨(i : Int), x.key, x.val, sidesP (hh T) (leavesH (hh T) l) i⟩) ⟨by simp only; omega, by simp only; omega⟩ hk2.1 hk2.2.1 (by simp only; omega) ?_
  rw [List.all_eq_true]
  intro s hs
  exact decide_eq_true (sidesP_size (leavesH (hh T) l) i (fun y hy => by rw [leaves_size T l y hy]; omega) s hs)
theorem shown_honest {h : ByteArray → ByteArray} {l : List Rc} (hr : Rising l) (key : ByteArray) : (shownE h (rootP h l) key l.length (proofP h l key)).2.2 = 0 := by
  have hle := plc_le l key
  unfold proofP shownP
  by_cases h1 : isP l key = true
  · obtain ⟨x, hx, hk⟩ := isP_some h1
    rw [if_pos h1, List.map_cons, List.map_nil, pathP_eq hx]
    unfold shownE
    dsimp only
    rw [if_pos hk]
  · rw [if_neg h1]
    have hno := isP_none hr (by simpa using h1)
    by_cases h0 : l.length = 0
    · obtain rfl := List.eq_nil_of_length_eq_zero h0
      unfold shownE
      have e : rootP h [] = h (rootT 0 ⟨#[]⟩) := by
        unfold rootP leavesH
        rw [List.map_nil, topP_few (by simp)]
        rfl
      rw [e]
      simp
    · rw [if_neg h0]
      by_cases h2 : placeP l key = 0
      · rw [if_pos h2, List.map_cons, List.map_nil]
        obtain ⟨x, hx⟩ : ∃ x, l[0]? = some x := ⟨l[0], List.getElem?_eq_getElem (by omega)⟩
        have ha := plc_above hr (key := key) (j := 0) (by omega) hx
        have hlt : lsB key x.key = true := by
          cases e : lsB key x.key with
          | true => rfl
          | false => exact absurd (lsB_tri ha e) (hno 0 x hx)
        rw [pathP_eq hx]
        unfold shownE
        dsimp only
        rw [if_neg (hno 0 x hx), if_pos (.inl ⟨rfl, hlt⟩)]
      · rw [if_neg h2]
        obtain ⟨x, hx⟩ : ∃ x, l[placeP l key - 1]? = some x := ⟨l[placeP l key - 1]'(by omega), List.getElem?_eq_getElem (by omega)⟩
        have hb := plc_below (key := key) (by omega) hx
        by_cases h3 : placeP l key = l.length
        · rw [if_pos h3, List.map_cons, List.map_nil, pathP_eq hx]
          unfold shownE
          dsimp only
          rw [if_neg (hno _ x hx), if_pos (.inr ⟨by omega, hb⟩)]
        · rw [if_neg h3]
          obtain ⟨y, hy⟩ : ∃ y, l[placeP l key]? = some y := ⟨l[placeP l key]'(by omega), List.getElem?_eq_getElem (by omega)⟩
          have ha := plc_above hr (key := key) (Nat.le_refl _) hy
          have hlt : lsB key y.key = true := by
            cases e : lsB key y.key with
            | true => rfl
            | false => exact absurd (lsB_tri ha e) (hno _ y hy)
          rw [List.map_cons, List.map_cons, List.map_nil, pathP_eq hx, pathP_eq hy]
          unfold shownE
          dsimp only
          rw [if_pos ⟨by omega, hb, hlt⟩]
theorem verify_honest {T : List ByteArray} {l : List Rc} (hr : riseE l = 0) {key : ByteArray} (hk : fitK key = true) : pfOk l.length (proofP (hh T) l key) = true ∧ (verifyP (hh T) (rootP (hh T) l) key l.length (proofP (hh T) l key)).2.2 = 0 := by
  have h4 := (rise_ok hr).1
  have hp : pfOk l.length (proofP (hh T) l key) = true := by
    unfold pfOk
    rw [decide_eq_true (show (0 : Int) ≤ l.length ∧ (l.length : Int) ≤ 4096 by omega), decide_eq_true (by unfold proofP; rw [List.length_map]; exact shown_len l key)]
    simp only [Bool.true_and, List.all_eq_true]
    intro x hx
    unfold proofP at hx
    obtain ⟨i, hi, rfl⟩ := List.mem_map.1 hx
    exact ptOk_honest hr (shown_lt hi)
  refine ⟨hp, ?_⟩
  unfold verifyP
  rw [if_pos hk, if_pos hp, if_pos]
  · exact shown_honest (rise_rising hr) key
  · rw [List.all_eq_true]
    intro x hx
    unfold proofP at hx
    obtain ⟨i, hi, rfl⟩ := List.mem_map.1 hx
    rw [Int.toNat_natCast]
    exact led_honest (shown_lt hi)
theorem proof_ext {T T' : List ByteArray} (he : Ext T T') {l : List Rc} {key : ByteArray} (hl : LeavesIn T l) (hs : ∀ i ∈ shownP l key, SidesIn T (leavesH (hh T) l) i) : proofP (hh T') l key = proofP (hh T) l key := by
  unfold proofP
  refine List.map_congr_left fun i hi => ?_
  unfold pathP
  have e1 := (hl.ext he).2
  have e2 := ((hs i hi).ext he).2
  rw [e1, e2]
end Go.Proofs.Ytfgpchffkpomoaa

/- A stretch of a list; rows of texts in memory: taken, left, and beside the book's block. -/
namespace Go.Proofs.Ytfgpchffkpomoaa
set_option linter.unusedSimpArgs false
set_option linter.unusedVariables false
open Go.RowKit

def seg {α : Type} (l : List α) (a b : Nat) : List α := (l.drop a).take (b - a)
theorem seg_len {α : Type} {l : List α} {a b : Nat} (h : b ≤ l.length) : (seg l a b).length = b - a := by
  unfold seg
  rw [List.length_take, List.length_drop]
  omega
theorem seg_take {α : Type} {l : List α} {a b k : Nat} (h : k ≤ b - a) : (seg l a b).take k = seg l a (a + k) := by
  unfold seg
  rw [List.take_take, Nat.min_eq_left h, Nat.add_sub_cancel_left]
theorem seg_drop {α : Type} {l : List α} {a b k : Nat} : (seg l a b).drop k = seg l (a + k) b := by
  unfold seg
  rw [List.drop_take, List.drop_drop, Nat.sub_sub]
theorem seg_all {α : Type} {l : List α} : seg l 0 l.length = l := by
  unfold seg
  rw [List.drop_zero, Nat.sub_zero, List.take_length]
theorem seg_map {α β : Type} (f : α → β) {l : List α} {a b : Nat} : (seg l a b).map f = seg (l.map f) a b := by
  unfold seg
  rw [List.map_take, List.map_drop]
theorem seg_one {α : Type} {l : List α} {a : Nat} (h : a < l.length) : seg l a (a + 1) = [l[a]] := by
  unfold seg
  rw [Nat.add_sub_cancel_left, List.drop_eq_getElem_cons h]
  rfl
theorem seg_mem {α : Type} {l : List α} {a b : Nat} {x : α} (h : x ∈ seg l a b) : x ∈ l := List.mem_of_mem_drop (List.mem_of_mem_take h)
/-- The leaves and the nodes over records are digested. -/
structure OverIn (T : List ByteArray) (l : List Rc) : Prop where
  leaves : LeavesIn T l
  top : TopIn T (leavesH (hh T) l)
theorem OverIn.ext {T T' : List ByteArray} (he : Ext T T') {l : List Rc} (h : OverIn T l) : OverIn T' l ∧ topP (hh T') (leavesH (hh T') l) = topP (hh T) (leavesH (hh T) l) := by
  obtain ⟨a, ea⟩ := h.leaves.ext he
  obtain ⟨b, eb⟩ := h.top.ext he
  exact ⟨⟨a, by rw [ea]; exact b⟩, by rw [ea, eb]⟩
end Go.Proofs.Ytfgpchffkpomoaa

/- The leaves of records: the walk. -/
namespace Go.Proofs.Ytfgpchffkpomoaa
set_option linter.unusedSimpArgs false
set_option linter.unusedVariables false
open Go.RowKit

/-- What the leaves leave: more texts, all leaves among them. -/
def LeavesPost (w0 : World) (b t m n : Nat) (T : List ByteArray) (S : List Wd) (l : List Rc) (base : Nat) (e : Ending) (w' : World) : Prop :=
  ∃ T' A c, e = .returned (.slice A l.length c) ∧ Ext T T' ∧ T'.length ≤ T.length + l.length ∧ LeavesIn T' l ∧ Ch w0.heap.size (· = m) w0 w' ∧ Bk w' b t m n T' S ∧ w'.ownsRow base 9 1 (.slice A l.length c) l.length ((leavesH (hh T') l).flatMap textCells)
theorem RcS.ch {B : Nat} {S : Nat → Prop} {w w' : World} {A : Option Addr} {c : Nat} {l : List Rc} (h : RcS w A c l) (hc : Ch B S w w') (hB : ∀ k, Row A k → k < w.heap.size → k < B ∧ ¬ S k) : RcS w' A c l := Sl.ch h hc hB
theorem TxS.ch {B : Nat} {S : Nat → Prop} {w w' : World} {A : Option Addr} {c : Nat} {l : List ByteArray} (h : TxS w A c l) (hc : Ch B S w w') (hB : ∀ k, Row A k → k < w.heap.size → k < B ∧ ¬ S k) : TxS w' A c l := Sl.ch h hc hB
theorem Bk.app {w w1 : World} {b t m n B : Nat} {T : List ByteArray} {S : List Wd} {A : Option Addr} {o : Obj} (h : Bk w b t m n T S) (hc : Ch (w.alloc o).heap.size (Row A) (w.alloc o) w1) (hR : ∀ j, Row A j → B ≤ j) (hB : b < B ∧ t < B ∧ m < B ∧ n < B) : Bk w1 b t m n T S :=
  (h.alloc o).ch hc (Nat.le_refl _) ⟨fun e => by have := hR _ e; omega, fun e => by have := hR _ e; omega, fun e => by have := hR _ e; omega, fun e => by have := hR _ e; omega⟩
theorem Ch.app {w0 w w1 : World} {B : Nat} {S : Nat → Prop} {A : Option Addr} {o : Obj} (h : Ch B S w0 w) (hB : B ≤ w.heap.size) (hc : Ch (w.alloc o).heap.size (Row A) (w.alloc o) w1) (hR : ∀ j, Row A j → B ≤ j) : Ch B S w0 w1 :=
  (h.alloc hB o).step hc (by simp; omega) (fun i hi e => by have := hR i e; omega)
theorem Bk.all_lt {w : World} {b t m n : Nat} {T : List ByteArray} {S : List Wd} (h : Bk w b t m n T S) : b < w.heap.size ∧ t < w.heap.size ∧ m < w.heap.size ∧ n < w.heap.size := ⟨h.lt.1, h.lt.2, h.tm.lt, h.wm.lt⟩
/-- A slice that is not empty does not lie in block m. -/
def Off (A : Option Addr) (n m : Nat) : Prop := 0 < n → ∀ k, Row A k → k ≠ m
theorem Sl.off {w w' : World} {sz n c m : Nat} {A : Option Addr} {xs : List Value} (h : Sl w sz A n c xs) (hc : Ch w.heap.size (· = m) w w') (ho : Off A n m) : Sl w' sz A n c xs := by
  rcases Nat.eq_zero_or_pos n with h0 | h0
  · have hx : xs = [] := List.eq_nil_of_length_eq_zero (by rw [h.len, h0]; omega)
    exact ⟨h.len, h.fits, fun j u hj => by rw [hx] at hj; simp at hj⟩
  · exact Sl.ch h hc (fun j hj hlt => ⟨hlt, ho h0 j hj⟩)
theorem RcS.off {w w' : World} {m : Nat} {A : Option Addr} {c : Nat} {l : List Rc} (h : RcS w A c l) (hc : Ch w.heap.size (· = m) w w') (ho : Off A l.length m) : RcS w' A c l := Sl.off h hc ho
theorem TxS.off {w w' : World} {m : Nat} {A : Option Addr} {c : Nat} {l : List ByteArray} (h : TxS w A c l) (hc : Ch w.heap.size (· = m) w w') (ho : Off A l.length m) : TxS w' A c l := Sl.off h hc ho
theorem leavesH_succ (h : ByteArray → ByteArray) {l : List Rc} {k : Nat} (hk : k < l.length) : leavesH h (l.take (k + 1)) = leavesH h (l.take k) ++ [h (leafT l[k])] := by
  unfold leavesH
  rw [List.take_succ_eq_append_getElem hk, List.map_append]
  rfl

set_option maxHeartbeats 2000000 in
set_option maxRecDepth 100000 in
theorem leaves_calls (b t m n : Nat) (T : List ByteArray) (S : List Wd) (A : Option Addr) (c : Nat) (l : List Rc) (w : World) (hb : Bk w b t m n T S) (hT : T.length ≤ 100000000) (hs : RcS w A c l) (hl : l.length ≤ 4096) (hok : ∀ x ∈ l, x.key.size ≤ maxLen ∧ x.val.size ≤ maxLen) (hA : Off A l.length m) :
    Calls Try.prog 100 #[.pointer (some ⟨b, 0, none⟩), .slice A l.length c] w (LeavesPost w b t m n T S l w.heap.size) := by
  have HS := Lib.hid hs
  have HOK := Lib.hid hok
  have HA := Lib.hid hA
  have hfit := hs.fits
  have HLT := Lib.hid hb.all_lt
  have hml := hb.tm.lt
  have HB := Lib.hid hb
  clear hb hs hok hA
  go_enter Try.func100, Try.ntmps100
  go_wp2_with fail
  go_loopg [5, 10] l.length (fun g v5 v10 wr => ∃ (k : Nat) (T1 : List ByteArray) (A1 : Option Addr) (c1 : Nat), v5 = .slice A1 k c1 ∧ v10 = .int .i64 k ∧ k ≤ l.length ∧ Hid (g + k = l.length ∧ Ext T T1 ∧ T1.length ≤ T.length + k ∧ LeavesIn T1 (l.take k) ∧ Ch w.heap.size (· = m) w wr ∧ Bk wr b t m n T1 S ∧ wr.ownsRow w.heap.size 9 1 (.slice A1 k c1) k ((leavesH (hh T1) (l.take k)).flatMap textCells)))
  case atStart => exact ⟨0, T, none, 0, rfl, rfl, by omega, by omega, Ext.refl _, by omega, by intro x hx; simp at hx, Ch.refl _ _ _, HB.out, ⟨rfl, .inl ⟨rfl, rfl⟩⟩⟩
  case round =>
    obtain ⟨k, T1, A1, c1, rfl, rfl, hk, HH⟩ := hrel
    obtain ⟨hg, he, hT1, hli, hc, hbk, ho⟩ := HH.out
    have HGK := Lib.hid hg
    have HE := Lib.hid he
    have HT1 := Lib.hid hT1
    have HLI := Lib.hid hli
    have HC := Lib.hid hc
    have HBK := Lib.hid hbk
    have HO := Lib.hid ho
    clear HH hg he hT1 hli hc hbk ho HB
    by_cases hlt : k < l.length
    · have hd2 : decide ((k : Int) < (l.length : Int)) = true := by simp; omega
      have hrs := HS.out.off HC.out HA.out
      obtain ⟨a, rfl, e0, e1⟩ := hrs.elem k hlt
      obtain ⟨key, hkey⟩ : ∃ x, x = l[k].key := ⟨_, rfl⟩
      obtain ⟨val, hval⟩ : ∃ x, x = l[k].val := ⟨_, rfl⟩
      rw [← hkey] at e0
      rw [← hval] at e1
      have hok := HOK.out l[k] (List.getElem_mem hlt)
      have HLK := Lib.hid (show l[k] = ⟨key, val⟩ by rw [hkey, hval])
      have HL := Lib.hid (fun w hb => leaf_calls b t m n T1 S ⟨key, val⟩ w hb (by have := HT1.out; omega) (by rw [hkey]; exact hok.1) (by rw [hval]; exact hok.2))
      clear hkey hval hok hrs
      have HBA := Lib.hid (HBK.out.alloc (.cells #[.string key, .string val] 131))
      have HOA := Lib.hid (HO.out.alloc (.cells #[.string key, .string val] 131))
      have hsz1 := HC.out.size
      go_wp2_with fail
      refine (HL.out _ HBA.out).mono ?_
      rintro e w2 ⟨rfl, hc2, hk2⟩
      obtain ⟨kn1, kn2, kn3⟩ := dig_known T1 (leafT ⟨key, val⟩)
      have kl := digT_len T1 (leafT ⟨key, val⟩)
      rw [kn3]
      obtain ⟨T2, hT2⟩ : ∃ x, x = (digS T1 (leafT ⟨key, val⟩)).2 := ⟨_, rfl⟩
      rw [← hT2] at kn1 kn2 kn3 kl hk2 ⊢
      clear hT2 kn3
      have HO2 := Lib.hid (own_ch HOA.out hc2 (fun j hj => ⟨(own_row HOA.out hj).2, by have := (own_row HOA.out hj).1; omega⟩))
      have hc3 := ((HC.out.alloc (by omega) (.cells #[.string key, .string val] 131)).step hc2 (by simp; omega) (fun _ _ e => e))
      have HC3 := Lib.hid hc3
      have hsz3 := hc3.size
      clear hc2 hc3
      have HK2 := Lib.hid hk2
      obtain ⟨g, hg⟩ : ∃ x, x = hh T2 (leafT ⟨key, val⟩) := ⟨_, rfl⟩
      rw [← hg]
      have HG := Lib.hid hg
      clear hg hk2
      have HNEW := Lib.hid (show leavesH (hh T2) (l.take (k + 1)) = leavesH (hh T1) (l.take k) ++ [g] by rw [leavesH_succ _ hlt, (HLI.out.ext kn1).2, HG.out, HLK.out])
      have HLI2 := Lib.hid (show LeavesIn T2 (l.take (k + 1)) from fun x hx => by
        rw [List.take_succ_eq_append_getElem hlt, List.mem_append] at hx
        rcases hx with hx | hx
        · exact kn1.mem (HLI.out x hx)
        · obtain rfl : x = l[k] := by simpa using hx
          rw [HLK.out]; exact kn2)
      have HE2 := Lib.hid (HE.out.trans kn1)
      have HT2 := Lib.hid (show T2.length ≤ T.length + (k + 1) by have := HT1.out; omega)
      clear kn1 kn2 kl
      have hrow : ∀ j, Row A1 j → w.heap.size ≤ j ∧ j < w2.heap.size := fun j hj => own_row HO2.out hj
      go_wp2_with (at_builtin; refine app_row rfl (.tmp 14) (.tmp 18) 54 rfl w.heap.size 9 _ 1 16 info_str Try.underlying54 rfl (by decide) A1 c1 k ((leavesH (hh T1) (l.take k)).flatMap textCells) rfl (HO2.out.alloc _) _ 1 1 (textCells g) rfl rfl (news_box (Box.new w2 #[.string g] 9)) (text_one g) ?hb1 ?hb2 ?hb3 ?_; (case hb1 => omega); (case hb2 => omega); (case hb3 => simp; omega); intro A' c' w6 ho hc hA; have HO6 := Lib.hid ho; have HC6 := Lib.hid (HC3.out.app hsz3 hc (fun j hj => (hrow j hj).1)); have HK6 := Lib.hid (HK2.out.app hc (fun j hj => (hrow j hj).1) HLT.out); clear ho hc hA)
      have hsz6 := HC6.out.size
      go_roundg (gk - 1)
      case measure => have := HGK.out; omega
      case rel => exact ⟨k + 1, T2, A', c', rfl, by go_num, by omega, by have := HGK.out; omega, HE2.out, HT2.out, HLI2.out, HC6.out, HK6.out, by rw [HNEW.out, List.flatMap_append, List.flatMap_singleton]; exact HO6.out⟩
    · have hd2 : decide ((k : Int) < (l.length : Int)) = false := by simp; omega
      obtain rfl : k = l.length := by omega
      go_wp2
      go_ret
      have hli := HLI.out
      have ho := HO.out
      rw [List.take_length] at hli ho
      exact ⟨T1, A1, c1, rfl, HE.out, HT1.out, hli, HC.out, HBK.out, ho⟩
end Go.Proofs.Ytfgpchffkpomoaa
