/- Texts of this proof, several in one file; each says ahead of it what it proves. -/
import Derived.Test.YtfgpchffkpomoaaPk16
import Derived.Test.YtfgpchffkpomoaaPk18
import Derived.Test.YtfgpchffkpomoaaPk15
import Derived.Test.YtfgpchffkpomoaaPk12
/- A tree over leaves: its top, the sides of a leaf, where a leaf leads; and what that shows: in plain words. -/
namespace Go.Proofs.Ytfgpchffkpomoaa
set_option linter.unusedSimpArgs false
set_option linter.unusedVariables false
open Go.RowKit

theorem halfFrom_ge {n : Nat} : ∀ (g k : Nat), 0 < k → n ≤ g + k → n ≤ 2 * halfFrom n g k
  | 0, k, h, hg => by unfold halfFrom; omega
  | g + 1, k, h, hg => by
    unfold halfFrom
    by_cases h2 : 2 * k < n
    · rw [if_pos h2]
      exact halfFrom_ge g (2 * k) (by omega) (by omega)
    · rw [if_neg h2]
      omega
theorem half_ge (n : Nat) : n ≤ 2 * half n := halfFrom_ge n 1 (by omega) (by omega)
theorem halfFrom_two {n : Nat} : ∀ (g j : Nat), ∃ i, halfFrom n g (2 ^ j) = 2 ^ i
  | 0, j => ⟨j, rfl⟩
  | g + 1, j => by
    unfold halfFrom
    by_cases h2 : 2 * 2 ^ j < n
    · rw [if_pos h2, show 2 * 2 ^ j = 2 ^ (j + 1) by rw [Nat.pow_succ]; omega]
      exact halfFrom_two g (j + 1)
    · rw [if_neg h2]
      exact ⟨j, rfl⟩
theorem half_two (n : Nat) : ∃ i, half n = 2 ^ i := halfFrom_two n 0
/-- Both halves of at most 2^(k+1) leaves are at most 2^k. -/
theorem half_pow {n k : Nat} (h1 : 1 < n) (h : n ≤ 2 ^ (k + 1)) : half n ≤ 2 ^ k ∧ n - half n ≤ 2 ^ k := by
  obtain ⟨i, hi⟩ := half_two n
  have hl := half_lt h1
  have hg := half_ge n
  have h3 : half n ≤ 2 ^ k := by
    rw [hi]
    refine Nat.pow_le_pow_right (by omega) ?_
    rcases Nat.lt_or_ge k i with h4 | h4
    · have := Nat.pow_le_pow_right (n := 2) (by omega) (show k + 1 ≤ i by omega)
      omega
    · exact h4
  exact ⟨h3, by omega⟩

theorem halves {α : Type} {P : List α → Prop} (few : ∀ l, l.length ≤ 1 → P l) (more : ∀ l, 1 < l.length → P (l.take (half l.length)) → P (l.drop (half l.length)) → P l) (l : List α) : P l := by
  have H : ∀ n (l : List α), l.length = n → P l := by
    intro n
    induction n using Nat.strongRecOn with
    | ind n ih =>
      intro l hl
      subst hl
      by_cases h : 1 < l.length
      · have := half_lt h
        exact more l h (ih _ (by simp; omega) _ rfl) (ih _ (by simp; omega) _ rfl)
      · exact few l (by omega)
  exact H _ l rfl

def topP (h : ByteArray → ByteArray) (l : List ByteArray) : ByteArray :=
  if hl : 1 < l.length then h (nodeT (topP h (l.take (half l.length))) (topP h (l.drop (half l.length)))) else l.headD ⟨#[]⟩
  termination_by l.length
  decreasing_by all_goals (have := half_lt hl; simp; omega)
theorem topP_more {h : ByteArray → ByteArray} {l : List ByteArray} (hl : 1 < l.length) : topP h l = h (nodeT (topP h (l.take (half l.length))) (topP h (l.drop (half l.length)))) := by
  rw [topP, dif_pos hl]
theorem topP_few {h : ByteArray → ByteArray} {l : List ByteArray} (hl : ¬ 1 < l.length) : topP h l = l.headD ⟨#[]⟩ := by
  rw [topP, dif_neg hl]
def sidesP (h : ByteArray → ByteArray) (l : List ByteArray) (i : Nat) : List ByteArray :=
  if hl : 1 < l.length then (if i < half l.length then sidesP h (l.take (half l.length)) i ++ [topP h (l.drop (half l.length))] else sidesP h (l.drop (half l.length)) (i - half l.length) ++ [topP h (l.take (half l.length))]) else []
  termination_by l.length
  decreasing_by all_goals (have := half_lt hl; simp; omega)
theorem sidesP_few {h : ByteArray → ByteArray} {l : List ByteArray} {i : Nat} (hl : ¬ 1 < l.length) : sidesP h l i = [] := by
  rw [sidesP, dif_neg hl]
theorem sidesP_left {h : ByteArray → ByteArray} {l : List ByteArray} {i : Nat} (hl : 1 < l.length) (hi : i < half l.length) : sidesP h l i = sidesP h (l.take (half l.length)) i ++ [topP h (l.drop (half l.length))] := by
  rw [sidesP, dif_pos hl, if_pos hi]
theorem sidesP_right {h : ByteArray → ByteArray} {l : List ByteArray} {i : Nat} (hl : 1 < l.length) (hi : ¬ i < half l.length) : sidesP h l i = sidesP h (l.drop (half l.length)) (i - half l.length) ++ [topP h (l.take (half l.length))] := by
  rw [sidesP, dif_pos hl, if_neg hi]
def climbP (h : ByteArray → ByteArray) (d : ByteArray) (i n : Nat) (s : List ByteArray) : ByteArray × Bool :=
  if hn : 1 < n then (if s = [] then (⟨#[]⟩, false) else if i < half n then (h (nodeT (climbP h d i (half n) s.dropLast).1 (s.getLastD ⟨#[]⟩)), (climbP h d i (half n) s.dropLast).2)
    else (h (nodeT (s.getLastD ⟨#[]⟩) (climbP h d (i - half n) (n - half n) s.dropLast).1), (climbP h d (i - half n) (n - half n) s.dropLast).2)) else (d, s.isEmpty)
  termination_by n
  decreasing_by all_goals (have := half_lt hn; omega)
theorem climbP_one {h : ByteArray → ByteArray} {d : ByteArray} {i n : Nat} {s : List ByteArray} (hn : ¬ 1 < n) : climbP h d i n s = (d, s.isEmpty) := by
  rw [climbP, dif_neg hn]
theorem climbP_nil {h : ByteArray → ByteArray} {d : ByteArray} {i n : Nat} (hn : 1 < n) : climbP h d i n [] = (⟨#[]⟩, false) := by
  rw [climbP, dif_pos hn, if_pos rfl]
theorem last_snoc (s : List ByteArray) (y z : ByteArray) : (s ++ [y]).getLastD z = y := by simp [List.getLastD_eq_getLast?]
theorem climbP_left {h : ByteArray → ByteArray} {d : ByteArray} {i n : Nat} {s : List ByteArray} {y : ByteArray} (hn : 1 < n) (hi : i < half n) : climbP h d i n (s ++ [y]) = (h (nodeT (climbP h d i (half n) s).1 y), (climbP h d i (half n) s).2) := by
  rw [climbP, dif_pos hn, if_neg (by simp), if_pos hi, List.dropLast_concat, last_snoc]
theorem climbP_right {h : ByteArray → ByteArray} {d : ByteArray} {i n : Nat} {s : List ByteArray} {y : ByteArray} (hn : 1 < n) (hi : ¬ i < half n) : climbP h d i n (s ++ [y]) = (h (nodeT y (climbP h d (i - half n) (n - half n) s).1), (climbP h d (i - half n) (n - half n) s).2) := by
  rw [climbP, dif_pos hn, if_neg (by simp), if_neg hi, List.dropLast_concat, last_snoc]

/-- All nodes of the tree over some leaves were digested. -/
inductive TopIn (T : List ByteArray) : List ByteArray → Prop
  | few {l : List ByteArray} (h : ¬ 1 < l.length) : TopIn T l
  | more {l : List ByteArray} (h : 1 < l.length) (a : TopIn T (l.take (half l.length))) (b : TopIn T (l.drop (half l.length))) (m : nodeT (topP (hh T) (l.take (half l.length))) (topP (hh T) (l.drop (half l.length))) ∈ T) : TopIn T l
theorem TopIn.ext {T T' : List ByteArray} (he : Ext T T') {l : List ByteArray} (h : TopIn T l) : TopIn T' l ∧ topP (hh T') l = topP (hh T) l := by
  induction h with
  | few h => exact ⟨.few h, by rw [topP_few h, topP_few h]⟩
  | more h a b m iha ihb =>
    refine ⟨.more h iha.1 ihb.1 (by rw [iha.2, ihb.2]; exact he.mem m), ?_⟩
    rw [topP_more h, topP_more h, iha.2, ihb.2, hh_ext he m]
theorem TopIn.parts {T l : List ByteArray} (h : TopIn T l) (hl : 1 < l.length) : TopIn T (l.take (half l.length)) ∧ TopIn T (l.drop (half l.length)) ∧ nodeT (topP (hh T) (l.take (half l.length))) (topP (hh T) (l.drop (half l.length))) ∈ T := by
  cases h with
  | few h => exact absurd hl h
  | more _ a b m => exact ⟨a, b, m⟩
inductive SidesIn (T : List ByteArray) : List ByteArray → Nat → Prop
  | few {l : List ByteArray} {i : Nat} (h : ¬ 1 < l.length) : SidesIn T l i
  | left {l : List ByteArray} {i : Nat} (h : 1 < l.length) (hi : i < half l.length) (a : SidesIn T (l.take (half l.length)) i) (b : TopIn T (l.drop (half l.length))) : SidesIn T l i
  | right {l : List ByteArray} {i : Nat} (h : 1 < l.length) (hi : ¬ i < half l.length) (a : SidesIn T (l.drop (half l.length)) (i - half l.length)) (b : TopIn T (l.take (half l.length))) : SidesIn T l i
theorem SidesIn.ext {T T' : List ByteArray} (he : Ext T T') {l : List ByteArray} {i : Nat} (h : SidesIn T l i) : SidesIn T' l i ∧ sidesP (hh T') l i = sidesP (hh T) l i := by
  induction h with
  | few h => exact ⟨.few h, by rw [sidesP_few h, sidesP_few h]⟩
  | left h hi a b ih => exact ⟨.left h hi ih.1 (b.ext he).1, by rw [sidesP_left h hi, sidesP_left h hi, ih.2, (b.ext he).2]⟩
  | right h hi a b ih => exact ⟨.right h hi ih.1 (b.ext he).1, by rw [sidesP_right h hi, sidesP_right h hi, ih.2, (b.ext he).2]⟩
theorem SidesIn.of_top {T : List ByteArray} : ∀ (l : List ByteArray) (i : Nat), TopIn T l → SidesIn T l i := fun l => by
  refine halves (P := fun l => ∀ i, TopIn T l → SidesIn T l i) (fun l hl i _ => .few (by omega)) (fun l hl iha ihb i h => ?_) l
  obtain ⟨a, b, _⟩ := h.parts hl
  by_cases hi : i < half l.length
  · exact .left hl hi (iha i a) b
  · exact .right hl hi (ihb _ b) a
inductive ClimbIn (T : List ByteArray) (d : ByteArray) : Nat → Nat → List ByteArray → Prop
  | one {i n : Nat} {s : List ByteArray} (h : ¬ 1 < n) : ClimbIn T d i n s
  | nil {i n : Nat} (h : 1 < n) : ClimbIn T d i n []
  | left {i n : Nat} {s : List ByteArray} {y : ByteArray} (h : 1 < n) (hi : i < half n) (a : ClimbIn T d i (half n) s) (m : nodeT (climbP (hh T) d i (half n) s).1 y ∈ T) : ClimbIn T d i n (s ++ [y])
  | right {i n : Nat} {s : List ByteArray} {y : ByteArray} (h : 1 < n) (hi : ¬ i < half n) (a : ClimbIn T d (i - half n) (n - half n) s) (m : nodeT y (climbP (hh T) d (i - half n) (n - half n) s).1 ∈ T) : ClimbIn T d i n (s ++ [y])
theorem ClimbIn.ext {T T' : List ByteArray} (he : Ext T T') {d : ByteArray} {i n : Nat} {s : List ByteArray} (h : ClimbIn T d i n s) : ClimbIn T' d i n s ∧ climbP (hh T') d i n s = climbP (hh T) d i n s := by
  induction h with
  | one h => exact ⟨.one h, by rw [climbP_one h, climbP_one h]⟩
  | nil h => exact ⟨.nil h, by rw [climbP_nil h, climbP_nil h]⟩
  | left h hi a m ih => exact ⟨.left h hi ih.1 (by rw [ih.2]; exact he.mem m), by rw [climbP_left h hi, climbP_left h hi, ih.2, hh_ext he m]⟩
  | right h hi a m ih => exact ⟨.right h hi ih.1 (by rw [ih.2]; exact he.mem m), by rw [climbP_right h hi, climbP_right h hi, ih.2, hh_ext he m]⟩

/-! Texts are laid one behind the other: what is laid tells what it was. -/
theorem putText_inj {s t : ByteArray} {u v : List UInt8} (hs : s.size ≤ 1048576) (ht : t.size ≤ 1048576) (h : putText s ++ u = putText t ++ v) : s = t ∧ u = v := by
  have h1 := text_put (s := bs (putText s ++ u)) (q := 0) hs (at_append.1 (at_self _)).1
  rw [h] at h1
  have h2 := text_put (s := bs (putText t ++ v)) (q := 0) ht (at_append.1 (at_self _)).1
  rw [h1] at h2
  obtain ⟨rfl, _⟩ : s = t ∧ _ := by simpa using h2
  exact ⟨rfl, List.append_cancel_left h⟩
theorem txt_eq {s : ByteArray} (h : s.size ≤ 1048576) : txt s = bs (putText s) := by
  unfold txt putTextE
  rw [if_pos h]
theorem bs_inj {a b : List UInt8} (h : bs a = bs b) : a = b := by
  have := congrArg (fun s : ByteArray => s.data.toList) h
  simpa [bs] using this
theorem node_bs {l r : ByteArray} (hl : l.size ≤ 1048576) (hr : r.size ≤ 1048576) : nodeT l r = bs ([78] ++ (putText l ++ putText r)) := by
  unfold nodeT
  rw [txt_eq hl, txt_eq hr, bs_append, bs_append, ByteArray.append_assoc]
  rfl
theorem nodeT_inj {a b c d : ByteArray} (ha : a.size ≤ 1048576) (hb : b.size ≤ 1048576) (hc : c.size ≤ 1048576) (hd : d.size ≤ 1048576) (h : nodeT a b = nodeT c d) : a = c ∧ b = d := by
  rw [node_bs ha hb, node_bs hc hd] at h
  have h1 := List.append_cancel_left (bs_inj h)
  obtain ⟨rfl, h2⟩ := putText_inj ha hc h1
  refine ⟨rfl, (putText_inj (u := []) (v := []) hb hd (by simpa using h2)).1⟩
theorem leaf_bs {x : Rc} (hl : x.key.size ≤ 1048576) (hr : x.val.size ≤ 1048576) : leafT x = bs ([76] ++ (putText x.key ++ putText x.val)) := by
  unfold leafT
  rw [txt_eq hl, txt_eq hr, bs_append, bs_append, ByteArray.append_assoc]
  rfl
theorem leafT_inj {x y : Rc} (ha : x.key.size ≤ 1048576) (hb : x.val.size ≤ 1048576) (hc : y.key.size ≤ 1048576) (hd : y.val.size ≤ 1048576) (h : leafT x = leafT y) : x = y := by
  rw [leaf_bs ha hb, leaf_bs hc hd] at h
  have h1 := List.append_cancel_left (bs_inj h)
  obtain ⟨k, v⟩ := x
  obtain ⟨k', v'⟩ := y
  simp only at *
  obtain ⟨rfl, h2⟩ := putText_inj ha hc h1
  obtain ⟨rfl, _⟩ := putText_inj (u := []) (v := []) hb hd (by simpa using h2)
  rfl
theorem root_bs {n : Nat} {r : ByteArray} (hn : n ≤ 1000000) (hr : r.size ≤ 1048576) : rootT n r = bs ([82] ++ (putNum n ++ putText r)) := by
  have e : (putInt (n : Int)).1 = bs (putNum n) := by
    unfold putInt
    rw [if_pos (by omega)]
    simp
  unfold rootT
  rw [txt_eq hr, e, bs_append, bs_append, ByteArray.append_assoc]
  rfl
theorem rootT_inj {n k : Nat} {r q : ByteArray} (hn : n ≤ 1000000) (hk : k ≤ 1000000) (hr : r.size ≤ 1048576) (hq : q.size ≤ 1048576) (h : rootT n r = rootT k q) : n = k ∧ r = q := by
  rw [root_bs hn hr, root_bs hk hq] at h
  have h1 := List.append_cancel_left (bs_inj h)
  have h2 := num_put (s := bs (putNum n ++ putText r)) (q := 0) (n := n) (by omega) (at_append.1 (at_self _)).1
  rw [h1] at h2
  have h3 := num_put (s := bs (putNum k ++ putText q)) (q := 0) (n := k) (by omega) (at_append.1 (at_self _)).1
  rw [h2] at h3
  obtain ⟨rfl, _⟩ : n = k ∧ _ := by simpa using h3
  exact ⟨rfl, (putText_inj (u := []) (v := []) hr hq (by simpa using List.append_cancel_left h1)).1⟩

/-! Sizes. -/
theorem topP_size {T : List ByteArray} {l : List ByteArray} (hl : ∀ x ∈ l, x.size ≤ 1000) : (topP (hh T) l).size ≤ 1000 := by
  by_cases h : 1 < l.length
  · rw [topP_more h, hh_size]; omega
  · rw [topP_few h]
    cases l with
    | nil => simp [ByteArray.size]
    | cons x l => exact hl x (by simp)
theorem climbP_size {T : List ByteArray} {d : ByteArray} {i n : Nat} {s : List ByteArray} (hd : d.size ≤ 1000) : (climbP (hh T) d i n s).1.size ≤ 1000 := by
  by_cases h : 1 < n
  · rcases List.eq_nil_or_concat s with rfl | ⟨s, y, rfl⟩
    · rw [climbP_nil h]; simp [ByteArray.size]
    · rw [List.concat_eq_append]
      by_cases hi : i < half n
      · rw [climbP_left h hi]; simp only [hh_size]; omega
      · rw [climbP_right h hi]; simp only [hh_size]; omega
  · rw [climbP_one h]; exact hd
theorem sidesP_size {T : List ByteArray} (l : List ByteArray) : ∀ i, (∀ x ∈ l, x.size ≤ 32) → ∀ y ∈ sidesP (hh T) l i, y.size ≤ 32 := by
  have ht : ∀ l : List ByteArray, (∀ x ∈ l, x.size ≤ 32) → (topP (hh T) l).size ≤ 32 := by
    intro l hl
    by_cases h : 1 < l.length
    · rw [topP_more h, hh_size]; omega
    · rw [topP_few h]
      cases l with
      | nil => simp [ByteArray.size]
      | cons x l => exact hl x (by simp)
  refine halves (P := fun l => ∀ i, (∀ x ∈ l, x.size ≤ 32) → ∀ y ∈ sidesP (hh T) l i, y.size ≤ 32) (fun l hl i _ y hy => ?_) (fun l hl iha ihb i h y hy => ?_) l
  · rw [sidesP_few (by omega)] at hy; cases hy
  · by_cases hi : i < half l.length
    · rw [sidesP_left hl hi, List.mem_append] at hy
      rcases hy with hy | hy
      · exact iha i (fun x hx => h x (List.mem_of_mem_take hx)) y hy
      · obtain rfl : y = _ := by simpa using hy
        exact ht _ (fun x hx => h x (List.mem_of_mem_drop hx))
    · rw [sidesP_right hl hi, List.mem_append] at hy
      rcases hy with hy | hy
      · exact ihb _ (fun x hx => h x (List.mem_of_mem_drop hx)) y hy
      · obtain rfl : y = _ := by simpa using hy
        exact ht _ (fun x hx => h x (List.mem_of_mem_take hx))
theorem sidesP_len (h : ByteArray → ByteArray) : ∀ (k : Nat) (l : List ByteArray) (i : Nat), l.length ≤ 2 ^ k → (sidesP h l i).length ≤ k
  | 0, l, i, hl => by rw [sidesP_few (by simpa using hl)]; simp
  | k + 1, l, i, hl => by
    by_cases h1 : 1 < l.length
    · have hp := half_pow h1 hl
      have hq := half_lt h1
      by_cases hi : i < half l.length
      · rw [sidesP_left h1 hi]
        have := sidesP_len h k (l.take (half l.length)) i (by simp; omega)
        simp; omega
      · rw [sidesP_right h1 hi]
        have := sidesP_len h k (l.drop (half l.length)) (i - half l.length) (by simp; omega)
        simp; omega
    · rw [sidesP_few h1]; simp

/-! What a way shows. -/
theorem climb_sides (h : ByteArray → ByteArray) (l : List ByteArray) : ∀ i d, l[i]? = some d → climbP h d i l.length (sidesP h l i) = (topP h l, true) := by
  refine halves (P := fun l => ∀ i d, l[i]? = some d → climbP h d i l.length (sidesP h l i) = (topP h l, true)) (fun l hl i d hi => ?_) (fun l hl iha ihb i d hi => ?_) l
  · rw [climbP_one (by omega), sidesP_few (by omega), topP_few (by omega)]
    have hlt := (List.getElem?_eq_some_iff.1 hi).1
    obtain rfl : i = 0 := by omega
    cases l with
    | nil => simp at hi
    | cons x l =>
      obtain rfl : x = d := by simpa using hi
      rfl
  · have hq := half_lt hl
    by_cases h2 : i < half l.length
    · have ha := iha i d (by rw [List.getElem?_take, if_pos h2]; exact hi)
      rw [List.length_take, Nat.min_eq_left (by omega)] at ha
      rw [sidesP_left hl h2, climbP_left hl h2, ha, topP_more hl]
    · have hb := ihb (i - half l.length) d (by rw [List.getElem?_drop, show half l.length + (i - half l.length) = i by omega]; exact hi)
      rw [List.length_drop] at hb
      rw [sidesP_right hl h2, climbP_right hl h2, hb, topP_more hl]
theorem climb_sound {T : List ByteArray} (hT : T.length ≤ 1000000000) : ∀ (n : Nat) (l : List ByteArray) (d : ByteArray) (i : Nat) (s : List ByteArray), l.length = n → i < n → TopIn T l → ClimbIn T d i n s → (∀ x ∈ l, x.size ≤ 1000) → d.size ≤ 1000 → (∀ x ∈ s, x.size ≤ 1000) → (climbP (hh T) d i n s).2 = true → (climbP (hh T) d i n s).1 = topP (hh T) l → l[i]? = some d := by
  intro n
  induction n using Nat.strongRecOn with
  | ind n ih =>
    intro l d i s hn hi ht hc hl hd hs h1 h2
    by_cases h : 1 < n
    · have hq := half_lt h
      have hlen : 1 < l.length := by omega
      obtain ⟨ta, tb, tm⟩ := ht.parts hlen
      rw [topP_more hlen] at h2
      rw [hn] at ta tb tm h2
      have hlt : ∀ x ∈ l.take (half n), x.size ≤ 1000 := fun x hx => hl x (List.mem_of_mem_take hx)
      have hld : ∀ x ∈ l.drop (half n), x.size ≤ 1000 := fun x hx => hl x (List.mem_of_mem_drop hx)
      have st := topP_size (T := T) hlt
      have sd := topP_size (T := T) hld
      cases hc with
      | one h' => exact absurd h h'
      | nil _ => rw [climbP_nil h] at h1; cases h1
      | left _ h3 a m =>
        rename_i s y _
        rw [climbP_left h h3] at h1 h2
        simp only at h1 h2
        have hsy := hs y (by simp)
        have hcs := climbP_size (T := T) (i := i) (n := half n) (s := s) hd
        obtain ⟨e1, e2⟩ := nodeT_inj (by omega) (by omega) (by omega) (by omega) (hh_inj hT m tm h2)
        have := ih (half n) (by omega) (l.take (half n)) d i s (by simp; omega) h3 ta a hlt hd (fun x hx => hs x (by simp [hx])) h1 e1
        rw [List.getElem?_take] at this
        rwa [if_pos h3] at this
      | right _ h3 a m =>
        rename_i s y _
        rw [climbP_right h h3] at h1 h2
        simp only at h1 h2
        have hsy := hs y (by simp)
        have hcs := climbP_size (T := T) (i := i - half n) (n := n - half n) (s := s) hd
        obtain ⟨e1, e2⟩ := nodeT_inj (by omega) (by omega) (by omega) (by omega) (hh_inj hT m tm h2)
        have := ih (n - half n) (by omega) (l.drop (half n)) d (i - half n) s (by simp; omega) (by omega) tb a hld hd (fun x hx => hs x (by simp [hx])) h1 e2
        rwa [List.getElem?_drop, show half n + (i - half n) = i by omega] at this
    · obtain rfl : n = 1 := by omega
      obtain rfl : i = 0 := by omega
      rw [climbP_one (by omega), topP_few (by omega)] at h2
      simp only at h2
      cases l with
      | nil => simp at hn
      | cons x l => simpa using h2.symm
theorem top_inj {T : List ByteArray} (hT : T.length ≤ 1000000000) (l : List ByteArray) : ∀ m : List ByteArray, l.length = m.length → TopIn T l → TopIn T m → (∀ x ∈ l, x.size ≤ 1000) → (∀ x ∈ m, x.size ≤ 1000) → topP (hh T) l = topP (hh T) m → l = m := by
  refine halves (P := fun l => ∀ m : List ByteArray, l.length = m.length → TopIn T l → TopIn T m → (∀ x ∈ l, x.size ≤ 1000) → (∀ x ∈ m, x.size ≤ 1000) → topP (hh T) l = topP (hh T) m → l = m) (fun l hl m hn _ _ _ _ h => ?_) (fun l hl iha ihb m hn tl tm sl sm h => ?_) l
  · rw [topP_few (l := l) (by omega), topP_few (l := m) (by omega)] at h
    cases l with
    | nil => exact (List.eq_nil_of_length_eq_zero (by simpa using hn.symm)).symm
    | cons x l =>
      obtain rfl : l = [] := by simpa using hl
      cases m with
      | nil => simp at hn
      | cons y m =>
        obtain rfl : m = [] := List.eq_nil_of_length_eq_zero (by simpa using hn.symm)
        simpa using h
  · obtain ⟨la, lb, lm⟩ := tl.parts hl
    obtain ⟨ma, mb, mm⟩ := tm.parts (by omega)
    rw [topP_more (l := l) hl, topP_more (l := m) (by omega)] at h
    have s1 := topP_size (T := T) (l := l.take (half l.length)) (fun x hx => sl x (List.mem_of_mem_take hx))
    have s2 := topP_size (T := T) (l := l.drop (half l.length)) (fun x hx => sl x (List.mem_of_mem_drop hx))
    have s3 := topP_size (T := T) (l := m.take (half m.length)) (fun x hx => sm x (List.mem_of_mem_take hx))
    have s4 := topP_size (T := T) (l := m.drop (half m.length)) (fun x hx => sm x (List.mem_of_mem_drop hx))
    obtain ⟨e1, e2⟩ := nodeT_inj (by omega) (by omega) (by omega) (by omega) (hh_inj hT lm mm h)
    rw [← hn] at e1 e2 ma mb
    have h1 := iha _ (by simp; omega) la ma (fun x hx => sl x (List.mem_of_mem_take hx)) (fun x hx => sm x (List.mem_of_mem_take hx)) e1
    have h2 := ihb _ (by simp; omega) lb mb (fun x hx => sl x (List.mem_of_mem_drop hx)) (fun x hx => sm x (List.mem_of_mem_drop hx)) e2
    rw [← List.take_append_drop (half l.length) l, h1, h2, List.take_append_drop]
end Go.Proofs.Ytfgpchffkpomoaa

/- Records that may be: what that says of each. -/
namespace Go.Proofs.Ytfgpchffkpomoaa
set_option linter.unusedSimpArgs false
set_option linter.unusedVariables false
open Go.RowKit

theorem riseN_all {l : List Rc} : ∀ {n : Nat}, riseN l n = 0 → ∀ k, k < n → codeAt l k = 0
  | 0, _, k, hk => by omega
  | n + 1, h, k, hk => by
    unfold riseN at h
    by_cases h0 : riseN l n = 0
    · rw [if_pos h0] at h
      by_cases e : k = n
      · subst e; exact h
      · exact riseN_all h0 k (by omega)
    · rw [if_neg h0] at h; exact absurd h h0
theorem rise_ok {l : List Rc} (h : riseE l = 0) : l.length ≤ 4096 ∧ ∀ k (hk : k < l.length), l[k].key.size ≤ 64 ∧ l[k].val.size ≤ 4096 ∧ 0 < l[k].key.size := by
  unfold riseE at h
  by_cases h4 : 4096 < l.length
  · rw [if_pos h4] at h; omega
  · rw [if_neg h4] at h
    refine ⟨by omega, fun k hk => ?_⟩
    have hc := riseN_all h k hk
    unfold codeAt at hc
    rw [dif_pos hk] at hc
    by_cases hb : rcBad l[k] = true
    · rw [if_pos hb] at hc; omega
    · simp only [rcBad, Bool.or_eq_true, decide_eq_true_eq] at hb
      omega
end Go.Proofs.Ytfgpchffkpomoaa

/- Lists of texts, as slices (in a seat without a book; else they stand elsewhere). -/
namespace Go.Proofs.Ytfgpchffkpomoaa
set_option linter.unusedSimpArgs false
set_option linter.unusedVariables false
open Go.ChangeShapes Go.WideShapes Go.RowKit
end Go.Proofs.Ytfgpchffkpomoaa

/- Proofs: what stands in memory; and whether one may be, by the code and by the document. -/
namespace Go.Proofs.Ytfgpchffkpomoaa
set_option linter.unusedSimpArgs false
set_option linter.unusedVariables false
open Go.RowKit

/-- A path; and one in memory: where its sides lie. -/
structure Pt where
  index : Int
  key : ByteArray
  val : ByteArray
  sides : List ByteArray
deriving DecidableEq
structure Pm where
  index : Int
  key : ByteArray
  val : ByteArray
  sides : List ByteArray
  A : Option Addr
  c : Nat
def Pm.pt (m : Pm) : Pt := ⟨m.index, m.key, m.val, m.sides⟩
def Pm.cells (m : Pm) : List Value := [.int .i64 m.index, .string m.key, .string m.val, .slice m.A m.sides.length m.c]
theorem Pm.cells_len (m : Pm) : m.cells.length = 4 := rfl
def PmS (w : World) (A : Option Addr) (c : Nat) (l : List Pm) : Prop := Sl w 4 A l.length c (l.flatMap Pm.cells) ∧ ∀ m ∈ l, TxS w m.A m.c m.sides
theorem PmS.below {w w' : World} {A : Option Addr} {c : Nat} {l : List Pm} (h : PmS w A c l) (hb : Below w.heap.size w w') : PmS w' A c l := ⟨Sl.below h.1 hb, fun m hm => (h.2 m hm).below hb⟩
theorem PmS.elem {w : World} {A : Option Addr} {c : Nat} {l : List Pm} (h : PmS w A c l) (k : Nat) (hk : k < l.length) : ∃ a, A = some a ∧ w.cell? (a.add (k * 4)) = some (.int .i64 l[k].index) ∧
    w.cell? ⟨(a.add (k * 4)).block, (a.add (k * 4)).off + 1, none⟩ = some (.string l[k].key) ∧ w.cell? ⟨(a.add (k * 4)).block, (a.add (k * 4)).off + 2, none⟩ = some (.string l[k].val) ∧
    w.cell? ⟨(a.add (k * 4)).block, (a.add (k * 4)).off + 3, none⟩ = some (.slice l[k].A l[k].sides.length l[k].c) ∧ TxS w l[k].A l[k].c l[k].sides := by
  obtain ⟨a, rfl, h0, h1⟩ := Sl.elem h.1 Pm.cells_len k hk (by decide)
  exact ⟨a, rfl, h0 _ rfl, h1 1 _ (by decide) rfl, h1 2 _ (by decide) rfl, h1 3 _ (by decide) rfl, h.2 _ (List.getElem_mem hk)⟩

/-- May a path be, may a proof be? -/
def ptOk (x : Pt) : Bool := decide (0 ≤ x.index ∧ x.index ≤ 4095) && (decide (x.key.size ≤ 64) && (decide (x.val.size ≤ 4096) && (decide (x.sides.length ≤ 13) && x.sides.all (fun s => decide (s.size ≤ 32)))))
def pfOk (count : Int) (l : List Pt) : Bool := decide (0 ≤ count ∧ count ≤ 4096) && (decide (l.length ≤ 2) && l.all ptOk)
theorem all_take_succ {α : Type} {f : α → Bool} {l : List α} {k : Nat} (hk : k < l.length) : (l.take (k + 1)).all f = ((l.take k).all f && f l[k]) := by
  rw [List.take_succ_eq_append_getElem hk, List.all_append]; simp
theorem all_bad {α : Type} {f : α → Bool} {l : List α} {k : Nat} (hk : k < l.length) (h : f l[k] = false) : l.all f = false := by
  rw [List.all_eq_false]
  exact ⟨l[k], List.getElem_mem hk, by simp [h]⟩
theorem pfOk_count {count : Int} {l : List Pt} (h : ¬ (0 ≤ count ∧ count ≤ 4096)) : pfOk count l = false := by unfold pfOk; rw [decide_eq_false h]; rfl
theorem pfOk_len {count : Int} {l : List Pt} (h : 2 < l.length) : pfOk count l = false := by unfold pfOk; rw [decide_eq_false (show ¬ l.length ≤ 2 by omega)]; simp
theorem pfOk_bad {count : Int} {l : List Pm} {k : Nat} (hk : k < l.length) (h : ptOk l[k].pt = false) : pfOk count (l.map Pm.pt) = false := by
  unfold pfOk
  rw [all_bad (l := l.map Pm.pt) (k := k) (by simpa using hk) (by simpa using h)]
  simp
theorem pfOk_good {count : Int} {l : List Pm} (h1 : 0 ≤ count ∧ count ≤ 4096) (h2 : l.length ≤ 2) (h3 : (l.map Pm.pt).all ptOk = true) : pfOk count (l.map Pm.pt) = true := by
  unfold pfOk
  rw [decide_eq_true h1, h3]
  simpa using h2
theorem ptOk_side {x : Pt} {j : Nat} (hj : j < x.sides.length) (h : 32 < x.sides[j].size) : ptOk x = false := by
  unfold ptOk
  rw [all_bad hj (by simpa using h)]
  simp
theorem ptOk_good {x : Pt} (h1 : 0 ≤ x.index ∧ x.index ≤ 4095) (h2 : x.key.size ≤ 64) (h3 : x.val.size ≤ 4096) (h4 : x.sides.length ≤ 13) (h5 : x.sides.all (fun s => decide (s.size ≤ 32)) = true) : ptOk x = true := by
  unfold ptOk
  rw [decide_eq_true h1, h5]
  simp [h2, h3, h4]
theorem ptOk_no {x : Pt} (h : ¬ ((0 ≤ x.index ∧ x.index ≤ 4095) ∧ x.key.size ≤ 64 ∧ x.val.size ≤ 4096 ∧ x.sides.length ≤ 13)) : ptOk x = false := by
  cases hx : ptOk x with
  | false => rfl
  | true =>
    unfold ptOk at hx
    simp only [Bool.and_eq_true, decide_eq_true_eq] at hx
    exact absurd ⟨hx.1, hx.2.1, hx.2.2.1, hx.2.2.2.1⟩ h
theorem pfOk_iff {count : Int} {l : List Pt} (h : pfOk count l = true) : (0 ≤ count ∧ count ≤ 4096) ∧ l.length ≤ 2 ∧ ∀ x ∈ l, (0 ≤ x.index ∧ x.index ≤ 4095) ∧ x.key.size ≤ 64 ∧ x.val.size ≤ 4096 ∧ x.sides.length ≤ 13 ∧ ∀ s ∈ x.sides, s.size ≤ 32 := by
  unfold pfOk at h
  simp only [Bool.and_eq_true, decide_eq_true_eq, List.all_eq_true] at h
  refine ⟨h.1, h.2.1, fun x hx => ?_⟩
  have hp := h.2.2 x hx
  unfold ptOk at hp
  simp only [Bool.and_eq_true, decide_eq_true_eq, List.all_eq_true] at hp
  exact ⟨hp.1, hp.2.1, hp.2.2.1, hp.2.2.2.1, hp.2.2.2.2⟩
end Go.Proofs.Ytfgpchffkpomoaa
