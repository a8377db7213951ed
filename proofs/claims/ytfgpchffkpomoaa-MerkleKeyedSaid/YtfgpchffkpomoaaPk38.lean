/- Texts of this proof, several in one file; each says ahead of it what it proves. -/
import Derived.Test.YtfgpchffkpomoaaPk37
import Derived.Test.YtfgpchffkpomoaaPk20
import Derived.Test.YtfgpchffkpomoaaPk16
import Derived.Test.YtfgpchffkpomoaaPk19
import Derived.Test.YtfgpchffkpomoaaPk21
/- A book of sums: what stands in memory, and its digests: the walk. -/
namespace Go.Proofs.Ytfgpchffkpomoaa.Kd
set_option linter.unusedSimpArgs false
set_option linter.unusedVariables false
open Go.RowKit

/-- The longest text that is summed here. -/
def maxLen : Nat := 140737488351232
theorem up {n : Nat} (h : n ≤ maxLen) : n ≤ Go.maxLen := Nat.le_trans h (by decide)
/-- What was digested is noted only here, in the proof. -/
def digS (T : List ByteArray) (s : ByteArray) : ByteArray × List ByteArray := (shaP s, T ++ [s])
def hh (T : List ByteArray) (s : ByteArray) : ByteArray := (digS T s).1
theorem hh_ext {T T' : List ByteArray} {s : ByteArray} (_h : Ext T T') (_hs : s ∈ T) : hh T' s = hh T s := rfl
theorem dig_known (T : List ByteArray) (s : ByteArray) : Ext T (digS T s).2 ∧ s ∈ (digS T s).2 ∧ (digS T s).1 = hh (digS T s).2 s := ⟨⟨[s], rfl⟩, by simp [digS], rfl⟩
theorem hh_size (T : List ByteArray) (s : ByteArray) : (hh T s).size = 32 := rfl
theorem digT_len (T : List ByteArray) (s : ByteArray) : (digS T s).2.length ≤ T.length + 1 := by simp [digS]
structure InW (w : World) (k : Nat) : Prop where
  lt : k < w.heap.size
/-- A book by sums in block b, its scheme in block t. -/
structure Bk (w : World) (b t m n : Nat) (T : List ByteArray) (S : List Wd) : Prop where
  book : w.cell? ⟨b, 0, none⟩ = some (.iface 184 (.pointer (some ⟨t, 0, none⟩)))
  tm : InW w m
  wm : InW w n
  lt : b < w.heap.size ∧ t < w.heap.size
theorem Bk.ch {w w' : World} {b t m n B : Nat} {T : List ByteArray} {S : List Wd} {X : Nat → Prop} (h : Bk w b t m n T S) (hc : Ch B X w w') (hB : w.heap.size ≤ B) (hX : ¬ X b ∧ ¬ X t ∧ ¬ X m ∧ ¬ X n) : Bk w' b t m n T S := by
  have l1 := h.lt.1
  have l2 := h.lt.2
  have l3 := h.tm.lt
  have l4 := h.wm.lt
  have hz := hc.size
  exact ⟨(hc.cell (p := ⟨b, 0, none⟩) (by simp only; omega) hX.1).trans h.book, ⟨by omega⟩, ⟨by omega⟩, by omega, by omega⟩
theorem Bk.below {w w' : World} {b t m n : Nat} {T : List ByteArray} {S : List Wd} (h : Bk w b t m n T S) (hc : Below w.heap.size w w') : Bk w' b t m n T S :=
  h.ch (X := fun _ => False) (Ch.of_below hc) (Nat.le_refl _) ⟨fun h => h, fun h => h, fun h => h, fun h => h⟩
theorem Bk.alloc {w : World} {b t m n : Nat} {T : List ByteArray} {S : List Wd} (h : Bk w b t m n T S) (o : Obj) : Bk (w.alloc o) b t m n T S := h.below ((Below.refl _ _).alloc (Nat.le_refl _) _)
theorem Bk.drewN {w : World} {b t m n : Nat} {T : List ByteArray} {S : List Wd} (h : Bk w b t m n T S) (k : Nat) : Bk (w.drewN k) b t m n T S := ⟨h.book, ⟨h.tm.lt⟩, ⟨h.wm.lt⟩, h.lt⟩
theorem Bk.drew {w : World} {b t m n : Nat} {T : List ByteArray} {S : List Wd} (h : Bk w b t m n T S) : Bk w.drew b t m n T S := h.drewN 1
theorem Bk.setCell {w : World} {b t m n : Nat} {T : List ByteArray} {S : List Wd} (h : Bk w b t m n T S) {p : Addr} (hp : p.block ≠ b ∧ p.block ≠ t ∧ p.block ≠ m ∧ p.block ≠ n) (v : Value) : Bk (w.setCell p v) b t m n T S :=
  h.ch (X := fun k => k = p.block) (Ch.setCell (Ch.refl w.heap.size (fun k => k = p.block) w) (.inr rfl) v) (Nat.le_refl _) ⟨fun e => hp.1 e.symm, fun e => hp.2.1 e.symm, fun e => hp.2.2.1 e.symm, fun e => hp.2.2.2 e.symm⟩
theorem Bk.far {w : World} {b t m n : Nat} {T : List ByteArray} {S : List Wd} (h : Bk w b t m n T S) {k : Nat} (hk : w.heap.size ≤ k) : k ≠ b ∧ k ≠ t ∧ k ≠ m ∧ k ≠ n := by
  have l1 := h.lt.1
  have l2 := h.lt.2
  have l3 := h.tm.lt
  have l4 := h.wm.lt
  omega
theorem Bk.all_lt {w : World} {b t m n : Nat} {T : List ByteArray} {S : List Wd} (h : Bk w b t m n T S) : b < w.heap.size ∧ t < w.heap.size ∧ m < w.heap.size ∧ n < w.heap.size := ⟨h.lt.1, h.lt.2, h.tm.lt, h.wm.lt⟩
/-- Nothing in memory hangs on what was noted. -/
theorem Bk.note {w : World} {b t m n : Nat} {T T' : List ByteArray} {S : List Wd} (h : Bk w b t m n T S) : Bk w b t m n T' S := ⟨h.book, h.tm, h.wm, h.lt⟩
set_option maxRecDepth 100000 in
theorem made_calls (b t m n : Nat) (T : List ByteArray) (S : List Wd) (w : World) (hb : Bk w b t m n T S) :
    Calls Try.prog 110 #[.pointer (some ⟨b, 0, none⟩)] w fun e w' => e = .returned (.bool true) ∧ w = w' := by
  have k1 := hb.book
  go_enter Try.func110, Try.ntmps110
  go_wp2
  go_ret
  exact ⟨rfl, rfl⟩
set_option maxRecDepth 100000 in
theorem kdigest_calls (t : Nat) (s : ByteArray) (w : World) (hs : s.size ≤ maxLen) : Calls Try.prog 217 #[.pointer (some ⟨t, 0, none⟩), .string s] w (StrPost (shaP s) w) := by
  have HS := Lib.hid (fun w => sum_calls s w (by simpa only [maxLen] using hs))
  unfold StrPost at HS
  obtain ⟨sp, hsp⟩ : ∃ sp, sp = shaP s := ⟨_, rfl⟩
  rw [← hsp] at HS ⊢
  clear hsp hs
  go_enter Try.func217, Try.ntmps217
  go_wp2_with fail
  refine (HS.out _).mono ?_
  rintro e w1 ⟨rfl, hb1⟩
  go_wp2
  go_ret
  exact ⟨rfl, hb1⟩
set_option maxRecDepth 100000 in
theorem digest_calls (b t m n : Nat) (T : List ByteArray) (S : List Wd) (s : ByteArray) (w : World) (hb : Bk w b t m n T S) (_hT : T.length ≤ 1000000000) (hs : s.size ≤ maxLen) :
    Calls Try.prog 49 #[.pointer (some ⟨b, 0, none⟩), .string s] w (TextPost (digS T s).1 (· = m) (fun w' => Bk w' b t m n (digS T s).2 S) w) := by
  have HM := Lib.hid (fun w hb => made_calls b t m n T S w hb)
  have HD := Lib.hid (kdigest_calls t s w hs)
  have HBK := Lib.hid hb
  have k1 := hb.book
  have HE := Lib.hid (show (digS T s).1 = shaP s from rfl)
  obtain ⟨sp, hsp⟩ : ∃ sp, sp = shaP s := ⟨_, rfl⟩
  rw [← hsp] at HD HE
  unfold StrPost at HD
  clear hb hsp
  go_enter Try.func49, Try.ntmps49
  go_wp2_with fail
  refine (HM.out _ HBK.out).mono ?_
  rintro e w1 ⟨rfl, rfl⟩
  go_wp2_with fail
  refine HD.out.mono ?_
  rintro e w2 ⟨rfl, hb2⟩
  go_wp2
  go_ret
  exact ⟨by rw [HE.out]; rfl, Ch.of_below hb2, (HBK.out.below hb2).note⟩
end Go.Proofs.Ytfgpchffkpomoaa.Kd

/- By a book of sums: what stands in the text Node, once more. -/
namespace Go.Proofs.Ytfgpchffkpomoaa.Kd
set_option linter.unusedSimpArgs false
set_option linter.unusedVariables false
open Go.RowKit
set_option maxHeartbeats 1000000 in
set_option maxRecDepth 100000 in
theorem node_calls (b t m n : Nat) (T : List ByteArray) (S : List Wd) (l r : ByteArray) (w : World) (hb : Bk w b t m n T S) (hT : T.length ≤ 1000000000) (hl : l.size ≤ maxLen) (hr : r.size ≤ maxLen) :
    Calls Try.prog 154 #[.pointer (some ⟨b, 0, none⟩), .string l, .string r] w (TextPost (digS T (nodeT l r)).1 (· = m) (fun w' => Bk w' b t m n (digS T (nodeT l r)).2 S) w) := by
  have H1 := Lib.hid (fun w => mtext_calls l w (up hl))
  have H2 := Lib.hid (fun w => mtext_calls r w (up hr))
  have s1 := txt_size l
  have s2 := txt_size r
  have HN := Lib.hid (show nodeT l r = ⟨#[78]⟩ ++ txt l ++ txt r from rfl)
  obtain ⟨x, hx⟩ : ∃ x, x = txt l := ⟨_, rfl⟩
  obtain ⟨y, hy⟩ : ∃ y, y = txt r := ⟨_, rfl⟩
  rw [← hx] at H1 HN s1
  rw [← hy] at H2 HN s2
  clear hx hy hl hr
  have HD := Lib.hid (fun w hb => digest_calls b t m n T S (⟨#[78]⟩ ++ x ++ y) w hb hT (by simp only [maxLen, ByteArray.size_append, one78]; omega))
  rw [← HN.out] at HD
  have HB := Lib.hid hb
  clear hb
  go_enter Try.func154, Try.ntmps154
  go_wp2_with fail
  refine (H1.out _).mono ?_
  rintro e w1 ⟨rfl, hb1⟩
  go_wp2_with fail
  refine (H2.out _).mono ?_
  rintro e w2 ⟨rfl, hb2⟩
  go_wp2_with fail
  rw [← HN.out]
  refine (HD.out _ ((HB.out.below hb1).below hb2)).mono ?_
  rintro e w3 ⟨rfl, hc3, hk3⟩
  go_wp2
  go_ret
  exact ⟨rfl, (Ch.of_below (hb1.trans (hb2.mono hb1.size))).step hc3 (by have := hb1.size; have := hb2.size; omega) (fun _ _ e => e), hk3⟩
set_option maxHeartbeats 1000000 in
set_option maxRecDepth 100000 in
theorem mroot_calls (b t m n : Nat) (T : List ByteArray) (S : List Wd) (k : Nat) (r : ByteArray) (w : World) (hb : Bk w b t m n T S) (hT : T.length ≤ 1000000000) (hk : k ≤ 1000000) (hr : r.size ≤ maxLen) :
    Calls Try.prog 98 #[.pointer (some ⟨b, 0, none⟩), .int .i64 k, .string r] w (TextPost (digS T (rootT k r)).1 (· = m) (fun w' => Bk w' b t m n (digS T (rootT k r)).2 S) w) := by
  have H1 := Lib.hid (fun w => putInt_calls (k : Int) w)
  unfold StrErr at H1
  have H2 := Lib.hid (fun w => mtext_calls r w (up hr))
  have s1 : (putInt (k : Int)).1.size ≤ 1000 := by
    unfold putInt
    split
    · rw [bs_size]
      have := putNum_len 8 (Int.toNat (k : Int)) (by omega)
      omega
    · simp [ByteArray.size]
  have s2 := txt_size r
  have HN := Lib.hid (show rootT k r = ⟨#[82]⟩ ++ (putInt (k : Int)).1 ++ txt r from rfl)
  obtain ⟨⟨x, xe⟩, hx⟩ : ∃ x, x = putInt (k : Int) := ⟨_, rfl⟩
  obtain ⟨y, hy⟩ : ∃ y, y = txt r := ⟨_, rfl⟩
  rw [← hx] at H1 HN s1
  rw [← hy] at H2 HN s2
  simp only at H1 HN s1
  clear hx hy hr
  have HD := Lib.hid (fun w hb => digest_calls b t m n T S (⟨#[82]⟩ ++ x ++ y) w hb hT (by simp only [maxLen, ByteArray.size_append, one82]; omega))
  rw [← HN.out] at HD
  have HB := Lib.hid hb
  clear hb
  go_enter Try.func98, Try.ntmps98
  go_wp2_with fail
  refine (H1.out _).mono ?_
  rintro e w1 ⟨rfl, hb1⟩
  go_wp2_with fail
  refine (H2.out _).mono ?_
  rintro e w2 ⟨rfl, hb2⟩
  go_wp2_with fail
  rw [← HN.out]
  refine (HD.out _ ((HB.out.below hb1).below hb2)).mono ?_
  rintro e w3 ⟨rfl, hc3, hk3⟩
  go_wp2
  go_ret
  exact ⟨rfl, (Ch.of_below (hb1.trans (hb2.mono hb1.size))).step hc3 (by have := hb1.size; have := hb2.size; omega) (fun _ _ e => e), hk3⟩

set_option maxRecDepth 100000 in
theorem known_calls (b t m n : Nat) (T : List ByteArray) (S : List Wd) (w : World) (hb : Bk w b t m n T S) (hT : T.length ≤ 1000000000) :
    Calls Try.prog 96 #[.pointer (some ⟨b, 0, none⟩)] w fun e w' => e = .returned (.bool true) ∧ Ch w.heap.size (· = m) w w' ∧ Bk w' b t m n (digS T ⟨#[]⟩).2 S := by
  have HD := Lib.hid (digest_calls b t m n T S ⟨#[]⟩ w hb hT (by simp [ByteArray.size, maxLen]))
  have hsz := hh_size T ⟨#[]⟩
  unfold hh at hsz
  obtain ⟨⟨g, T1⟩, hg⟩ : ∃ q, q = digS T ⟨#[]⟩ := ⟨_, rfl⟩
  rw [← hg] at HD hsz ⊢
  simp only at HD hsz
  have hne : g.toList.isEmpty = false := by have := has_text g; rw [decide_eq_true (by omega)] at this; simpa using this
  clear hg hb
  go_enter Try.func96, Try.ntmps96
  go_wp2_with fail
  refine HD.out.mono ?_
  rintro e w1 ⟨rfl, hc, hk⟩
  go_wp2
  go_ret
  exact ⟨rfl, hc, hk⟩

set_option maxHeartbeats 1000000 in
set_option maxRecDepth 100000 in
theorem leaf_calls (b t m n : Nat) (T : List ByteArray) (S : List Wd) (x : Rc) (w : World) (hb : Bk w b t m n T S) (hT : T.length ≤ 1000000000) (h1 : x.key.size ≤ maxLen) (h2 : x.val.size ≤ maxLen) :
    Calls Try.prog 139 #[.pointer (some ⟨b, 0, none⟩), .agg #[.string x.key, .string x.val]] w (TextPost (digS T (leafT x)).1 (· = m) (fun w' => Bk w' b t m n (digS T (leafT x)).2 S) w) := by
  obtain ⟨key, val⟩ := x
  simp only at *
  have H1 := Lib.hid (fun w => mtext_calls key w (up h1))
  have H2 := Lib.hid (fun w => mtext_calls val w (up h2))
  have s1 := txt_size key
  have s2 := txt_size val
  have HN := Lib.hid (show leafT ⟨key, val⟩ = ⟨#[76]⟩ ++ txt key ++ txt val from rfl)
  obtain ⟨y, hy⟩ : ∃ y, y = txt key := ⟨_, rfl⟩
  obtain ⟨z, hz⟩ : ∃ z, z = txt val := ⟨_, rfl⟩
  rw [← hy] at H1 HN s1
  rw [← hz] at H2 HN s2
  clear hy hz h1 h2
  have hq1 : ¬ 9223372036854775807 < 1 + y.size := by omega
  have hq2 : ¬ 9223372036854775807 < 1 + y.size + z.size := by omega
  have HD := Lib.hid (fun w hb => digest_calls b t m n T S (⟨#[76]⟩ ++ y ++ z) w hb hT (by simp only [maxLen, ByteArray.size_append, one76]; omega))
  rw [← HN.out] at HD
  have hml := hb.tm.lt
  have HB := Lib.hid (hb.alloc (.cells #[.string key, .string val] 131))
  have hst := (St.mk ((Below.refl w.heap.size w).alloc (Nat.le_refl _) _) (Box.new w #[.string key, .string val] 131)).drew
  clear hb
  go_enter Try.func139, Try.ntmps139
  go_wp2_with fail
  have hbl := (Below.refl w.heap.size w).alloc (Nat.le_refl _) (.cells #[.string key, .string val] 131)
  have hbd := hbl.drew
  have hbk := HB.out.drew
  go_region_held3 (fun w' => w'.cell? ⟨w.heap.size, 0, none⟩ = some (.string key) ∧ w'.cell? ⟨w.heap.size, 1, none⟩ = some (.string val)) (first | exact ⟨hst.x.cell 0, hst.x.cell 1⟩ | exact ⟨hx3.cell 0, hx3.cell 1⟩) (first | (go_at_call 152; (first | (with_reducible refine (H1.out _).mono ?_) | (with_reducible refine (H2.out _).mono ?_)); rintro e wn ⟨rfl, hc1⟩; have hst1 := hst.call (Nat.le_refl _) hc1; have hbk1 := hbk.below hc1; clear hc1 hst hbk; have hst := hst1; have hbk := hbk1; clear hst1 hbk1) | (go_at_call 49; rw [← HN.out]; refine (HD.out _ hbk).mono ?_; rintro e w3 ⟨rfl, hc3, hk3⟩; have hx3 := hst.x.ch hc3 hst.x.lt (by omega)))
  all_goals go_wp2
  all_goals go_ret
  all_goals exact ⟨rfl, (Ch.of_below hst.b).step hc3 hst.b.size (fun _ _ e => e), hk3⟩
end Go.Proofs.Ytfgpchffkpomoaa.Kd

/- By a book of sums: what stands in the text Shape, once more. -/
namespace Go.Proofs.Ytfgpchffkpomoaa.Kd
set_option linter.unusedSimpArgs false
set_option linter.unusedVariables false
open Go.RowKit
/-- All nodes of the tree over some leaves were digested. -/
inductive TopIn (T : List ByteArray) : List ByteArray → Prop
  | few {l : List ByteArray} (h : ¬ 1 < l.length) : TopIn T l
  | more {l : List ByteArray} (h : 1 < l.length) (a : TopIn T (l.take (half l.length))) (b : TopIn T (l.drop (half l.length))) (m : nodeT (topP (hh T) (l.take (half l.length))) (topP (hh T) (l.drop (half l.length))) ∈ T) : TopIn T l
theorem TopIn.ext {T T' : List ByteArray} (he : Ext T T') {l : List ByteArray} (h : TopIn T l) : TopIn T' l ∧ topP (hh T') l = topP (hh T) l := by
  induction h with
  | few h => exact ⟨.few h, by rw [topP_few h, topP_few h]⟩
  | more h a b m iha ihb =>
    refine ⟨.more h iha.1 ihb.1 (by rw [iha.2, ihb.2]; exact he.mem m), ?_⟩
    rw [topP_more h, topP_more h, iha.2, ihb.2, hh_ext he m]
theorem TopIn.parts {T l : List ByteArray} (h : TopIn T l) (hl : 1 < l.length) : TopIn T (l.take (half l.length)) ∧ TopIn T (l.drop (half l.length)) ∧ nodeT (topP (hh T) (l.take (half l.length))) (topP (hh T) (l.drop (half l.length))) ∈ T := by
  cases h with
  | few h => exact absurd hl h
  | more _ a b m => exact ⟨a, b, m⟩
inductive SidesIn (T : List ByteArray) : List ByteArray → Nat → Prop
  | few {l : List ByteArray} {i : Nat} (h : ¬ 1 < l.length) : SidesIn T l i
  | left {l : List ByteArray} {i : Nat} (h : 1 < l.length) (hi : i < half l.length) (a : SidesIn T (l.take (half l.length)) i) (b : TopIn T (l.drop (half l.length))) : SidesIn T l i
  | right {l : List ByteArray} {i : Nat} (h : 1 < l.length) (hi : ¬ i < half l.length) (a : SidesIn T (l.drop (half l.length)) (i - half l.length)) (b : TopIn T (l.take (half l.length))) : SidesIn T l i
theorem SidesIn.ext {T T' : List ByteArray} (he : Ext T T') {l : List ByteArray} {i : Nat} (h : SidesIn T l i) : SidesIn T' l i ∧ sidesP (hh T') l i = sidesP (hh T) l i := by
  induction h with
  | few h => exact ⟨.few h, by rw [sidesP_few h, sidesP_few h]⟩
  | left h hi a b ih => exact ⟨.left h hi ih.1 (b.ext he).1, by rw [sidesP_left h hi, sidesP_left h hi, ih.2, (b.ext he).2]⟩
  | right h hi a b ih => exact ⟨.right h hi ih.1 (b.ext he).1, by rw [sidesP_right h hi, sidesP_right h hi, ih.2, (b.ext he).2]⟩
theorem SidesIn.of_top {T : List ByteArray} : ∀ (l : List ByteArray) (i : Nat), TopIn T l → SidesIn T l i := fun l => by
  refine halves (P := fun l => ∀ i, TopIn T l → SidesIn T l i) (fun l hl i _ => .few (by omega)) (fun l hl iha ihb i h => ?_) l
  obtain ⟨a, b, _⟩ := h.parts hl
  by_cases hi : i < half l.length
  · exact .left hl hi (iha i a) b
  · exact .right hl hi (ihb _ b) a
inductive ClimbIn (T : List ByteArray) (d : ByteArray) : Nat → Nat → List ByteArray → Prop
  | one {i n : Nat} {s : List ByteArray} (h : ¬ 1 < n) : ClimbIn T d i n s
  | nil {i n : Nat} (h : 1 < n) : ClimbIn T d i n []
  | left {i n : Nat} {s : List ByteArray} {y : ByteArray} (h : 1 < n) (hi : i < half n) (a : ClimbIn T d i (half n) s) (m : nodeT (climbP (hh T) d i (half n) s).1 y ∈ T) : ClimbIn T d i n (s ++ [y])
  | right {i n : Nat} {s : List ByteArray} {y : ByteArray} (h : 1 < n) (hi : ¬ i < half n) (a : ClimbIn T d (i - half n) (n - half n) s) (m : nodeT y (climbP (hh T) d (i - half n) (n - half n) s).1 ∈ T) : ClimbIn T d i n (s ++ [y])
theorem ClimbIn.ext {T T' : List ByteArray} (he : Ext T T') {d : ByteArray} {i n : Nat} {s : List ByteArray} (h : ClimbIn T d i n s) : ClimbIn T' d i n s ∧ climbP (hh T') d i n s = climbP (hh T) d i n s := by
  induction h with
  | one h => exact ⟨.one h, by rw [climbP_one h, climbP_one h]⟩
  | nil h => exact ⟨.nil h, by rw [climbP_nil h, climbP_nil h]⟩
  | left h hi a m ih => exact ⟨.left h hi ih.1 (by rw [ih.2]; exact he.mem m), by rw [climbP_left h hi, climbP_left h hi, ih.2, hh_ext he m]⟩
  | right h hi a m ih => exact ⟨.right h hi ih.1 (by rw [ih.2]; exact he.mem m), by rw [climbP_right h hi, climbP_right h hi, ih.2, hh_ext he m]⟩

theorem topP_size {T : List ByteArray} {l : List ByteArray} (hl : ∀ x ∈ l, x.size ≤ 1000) : (topP (hh T) l).size ≤ 1000 := by
  by_cases h : 1 < l.length
  · rw [topP_more h, hh_size]; omega
  · rw [topP_few h]
    cases l with
    | nil => simp [ByteArray.size]
    | cons x l => exact hl x (by simp)
theorem climbP_size {T : List ByteArray} {d : ByteArray} {i n : Nat} {s : List ByteArray} (hd : d.size ≤ 1000) : (climbP (hh T) d i n s).1.size ≤ 1000 := by
  by_cases h : 1 < n
  · rcases List.eq_nil_or_concat s with rfl | ⟨s, y, rfl⟩
    · rw [climbP_nil h]; simp [ByteArray.size]
    · rw [List.concat_eq_append]
      by_cases hi : i < half n
      · rw [climbP_left h hi]; simp only [hh_size]; omega
      · rw [climbP_right h hi]; simp only [hh_size]; omega
  · rw [climbP_one h]; exact hd
theorem sidesP_size {T : List ByteArray} (l : List ByteArray) : ∀ i, (∀ x ∈ l, x.size ≤ 32) → ∀ y ∈ sidesP (hh T) l i, y.size ≤ 32 := by
  have ht : ∀ l : List ByteArray, (∀ x ∈ l, x.size ≤ 32) → (topP (hh T) l).size ≤ 32 := by
    intro l hl
    by_cases h : 1 < l.length
    · rw [topP_more h, hh_size]; omega
    · rw [topP_few h]
      cases l with
      | nil => simp [ByteArray.size]
      | cons x l => exact hl x (by simp)
  refine halves (P := fun l => ∀ i, (∀ x ∈ l, x.size ≤ 32) → ∀ y ∈ sidesP (hh T) l i, y.size ≤ 32) (fun l hl i _ y hy => ?_) (fun l hl iha ihb i h y hy => ?_) l
  · rw [sidesP_few (by omega)] at hy; cases hy
  · by_cases hi : i < half l.length
    · rw [sidesP_left hl hi, List.mem_append] at hy
      rcases hy with hy | hy
      · exact iha i (fun x hx => h x (List.mem_of_mem_take hx)) y hy
      · obtain rfl : y = _ := by simpa using hy
        exact ht _ (fun x hx => h x (List.mem_of_mem_drop hx))
    · rw [sidesP_right hl hi, List.mem_append] at hy
      rcases hy with hy | hy
      · exact ihb _ (fun x hx => h x (List.mem_of_mem_drop hx)) y hy
      · obtain rfl : y = _ := by simpa using hy
        exact ht _ (fun x hx => h x (List.mem_of_mem_take hx))
end Go.Proofs.Ytfgpchffkpomoaa.Kd

/- By a book of sums: what stands in the text Show, once more. -/
namespace Go.Proofs.Ytfgpchffkpomoaa.Kd
set_option linter.unusedSimpArgs false
set_option linter.unusedVariables false
open Go.RowKit
def LeavesIn (T : List ByteArray) (l : List Rc) : Prop := ∀ x ∈ l, leafT x ∈ T
theorem LeavesIn.ext {T T' : List ByteArray} (he : Ext T T') {l : List Rc} (h : LeavesIn T l) : LeavesIn T' l ∧ leavesH (hh T') l = leavesH (hh T) l :=
  ⟨fun x hx => he.mem (h x hx), List.map_congr_left fun x hx => hh_ext he (h x hx)⟩
theorem leaves_size (T : List ByteArray) (l : List Rc) : ∀ y ∈ leavesH (hh T) l, y.size = 32 := by
  intro y hy
  obtain ⟨x, _, rfl⟩ := List.mem_map.1 hy
  exact hh_size _ _
structure RootIn (T : List ByteArray) (l : List Rc) : Prop where
  leaves : LeavesIn T l
  top : TopIn T (leavesH (hh T) l)
  root : rootT l.length (topP (hh T) (leavesH (hh T) l)) ∈ T
theorem RootIn.ext {T T' : List ByteArray} (he : Ext T T') {l : List Rc} (h : RootIn T l) : RootIn T' l ∧ rootP (hh T') l = rootP (hh T) l := by
  obtain ⟨a, ea⟩ := h.leaves.ext he
  obtain ⟨b, eb⟩ := h.top.ext he
  refine ⟨⟨a, by rw [ea]; exact b, by rw [ea, eb]; exact he.mem h.root⟩, ?_⟩
  unfold rootP
  rw [ea, eb, hh_ext he h.root]
structure LedIn (T : List ByteArray) (n : Nat) (x : Pt) : Prop where
  leaf : leafT x.rc ∈ T
  climb : ClimbIn T (hh T (leafT x.rc)) x.index.toNat n x.sides
  root : rootT n (climbP (hh T) (hh T (leafT x.rc)) x.index.toNat n x.sides).1 ∈ T
theorem LedIn.ext {T T' : List ByteArray} (he : Ext T T') {n : Nat} {x : Pt} (h : LedIn T n x) : LedIn T' n x ∧ ∀ rt, ledP (hh T') rt n x = ledP (hh T) rt n x := by
  have e1 := hh_ext he h.leaf
  obtain ⟨b, eb⟩ := h.climb.ext he
  have e3 := hh_ext he h.root
  refine ⟨⟨he.mem h.leaf, by rw [e1]; exact b, by rw [e1, eb]; exact he.mem h.root⟩, fun rt => ?_⟩
  unfold ledP
  rw [e1, eb, e3]
/-- All that a proof's check digests, was digested. -/
structure VerIn (T : List ByteArray) (count : Int) (l : List Pt) : Prop where
  led : ∀ x ∈ l, LedIn T count.toNat x
  none : l = [] → rootT 0 ⟨#[]⟩ ∈ T
end Go.Proofs.Ytfgpchffkpomoaa.Kd

/- By a book of sums: what stands in the text Honest, once more. -/
namespace Go.Proofs.Ytfgpchffkpomoaa.Kd
set_option linter.unusedSimpArgs false
set_option linter.unusedVariables false
open Go.RowKit
theorem ptOk_honest {T : List ByteArray} {l : List Rc} (hr : riseE l = 0) {i : Nat} (hi : i < l.length) : ptOk (pathP (hh T) l i) = true := by
  obtain ⟨x, hx⟩ : ∃ x, l[i]? = some x := ⟨l[i], List.getElem?_eq_getElem hi⟩
  obtain ⟨h4, hk⟩ := rise_ok hr
  obtain ⟨_, hxe⟩ := List.getElem?_eq_some_iff.1 hx
  have hk2 := hk i hi
  rw [hxe] at hk2
  rw [pathP_eq hx]
  have hl := sidesP_len (hh T) 12 (leavesH (hh T) l) i (by rw [leavesH_len]; omega)
  refine ptOk_good (x := ⟨(i : Int), x.key, x.val, sidesP (hh T) (leavesH (hh T) l) i⟩) ⟨by simp only; omega, by simp only; omega⟩ hk2.1 hk2.2.1 (by simp only; omega) ?_
  rw [List.all_eq_true]
  intro s hs
  exact decide_eq_true (sidesP_size (leavesH (hh T) l) i (fun y hy => by rw [leaves_size T l y hy]; omega) s hs)
theorem verify_honest {T : List ByteArray} {l : List Rc} (hr : riseE l = 0) {key : ByteArray} (hk : fitK key = true) : pfOk l.length (proofP (hh T) l key) = true ∧ (verifyP (hh T) (rootP (hh T) l) key l.length (proofP (hh T) l key)).2.2 = 0 := by
  have h4 := (rise_ok hr).1
  have hp : pfOk l.length (proofP (hh T) l key) = true := by
    unfold pfOk
    rw [decide_eq_true (show (0 : Int) ≤ l.length ∧ (l.length : Int) ≤ 4096 by omega), decide_eq_true (by unfold proofP; rw [List.length_map]; exact shown_len l key)]
    simp only [Bool.true_and, List.all_eq_true]
    intro x hx
    unfold proofP at hx
    obtain ⟨i, hi, rfl⟩ := List.mem_map.1 hx
    exact ptOk_honest hr (shown_lt hi)
  refine ⟨hp, ?_⟩
  unfold verifyP
  rw [if_pos hk, if_pos hp, if_pos]
  · exact shown_honest (rise_rising hr) key
  · rw [List.all_eq_true]
    intro x hx
    unfold proofP at hx
    obtain ⟨i, hi, rfl⟩ := List.mem_map.1 hx
    rw [Int.toNat_natCast]
    exact led_honest (shown_lt hi)
theorem proof_ext {T T' : List ByteArray} (he : Ext T T') {l : List Rc} {key : ByteArray} (hl : LeavesIn T l) (hs : ∀ i ∈ shownP l key, SidesIn T (leavesH (hh T) l) i) : proofP (hh T') l key = proofP (hh T) l key := by
  unfold proofP
  refine List.map_congr_left fun i hi => ?_
  unfold pathP
  have e1 := (hl.ext he).2
  have e2 := ((hs i hi).ext he).2
  rw [e1, e2]
end Go.Proofs.Ytfgpchffkpomoaa.Kd

/- By a book of sums: what stands in the text Leaves, once more. -/
namespace Go.Proofs.Ytfgpchffkpomoaa.Kd
set_option linter.unusedSimpArgs false
set_option linter.unusedVariables false
open Go.RowKit
/-- What the leaves leave: more texts, all leaves among them. -/
def LeavesPost (w0 : World) (b t m n : Nat) (T : List ByteArray) (S : List Wd) (l : List Rc) (base : Nat) (e : Ending) (w' : World) : Prop :=
  ∃ T' A c, e = .returned (.slice A l.length c) ∧ Ext T T' ∧ T'.length ≤ T.length + l.length ∧ LeavesIn T' l ∧ Ch w0.heap.size (· = m) w0 w' ∧ Bk w' b t m n T' S ∧ w'.ownsRow base 9 1 (.slice A l.length c) l.length ((leavesH (hh T') l).flatMap textCells)
theorem Bk.app {w w1 : World} {b t m n B : Nat} {T : List ByteArray} {S : List Wd} {A : Option Addr} {o : Obj} (h : Bk w b t m n T S) (hc : Ch (w.alloc o).heap.size (Row A) (w.alloc o) w1) (hR : ∀ j, Row A j → B ≤ j) (hB : b < B ∧ t < B ∧ m < B ∧ n < B) : Bk w1 b t m n T S :=
  (h.alloc o).ch hc (Nat.le_refl _) ⟨fun e => by have := hR _ e; omega, fun e => by have := hR _ e; omega, fun e => by have := hR _ e; omega, fun e => by have := hR _ e; omega⟩
set_option maxHeartbeats 2000000 in
set_option maxRecDepth 100000 in
theorem leaves_calls (b t m n : Nat) (T : List ByteArray) (S : List Wd) (A : Option Addr) (c : Nat) (l : List Rc) (w : World) (hb : Bk w b t m n T S) (hT : T.length ≤ 100000000) (hs : RcS w A c l) (hl : l.length ≤ 4096) (hok : ∀ x ∈ l, x.key.size ≤ maxLen ∧ x.val.size ≤ maxLen) (hA : Off A l.length m) :
    Calls Try.prog 100 #[.pointer (some ⟨b, 0, none⟩), .slice A l.length c] w (LeavesPost w b t m n T S l w.heap.size) := by
  have HS := Lib.hid hs
  have HOK := Lib.hid hok
  have HA := Lib.hid hA
  have hfit := hs.fits
  have HLT := Lib.hid hb.all_lt
  have hml := hb.tm.lt
  have HB := Lib.hid hb
  clear hb hs hok hA
  go_enter Try.func100, Try.ntmps100
  go_wp2_with fail
  go_loopg [5, 10] l.length (fun g v5 v10 wr => ∃ (k : Nat) (T1 : List ByteArray) (A1 : Option Addr) (c1 : Nat), v5 = .slice A1 k c1 ∧ v10 = .int .i64 k ∧ k ≤ l.length ∧ Hid (g + k = l.length ∧ Ext T T1 ∧ T1.length ≤ T.length + k ∧ LeavesIn T1 (l.take k) ∧ Ch w.heap.size (· = m) w wr ∧ Bk wr b t m n T1 S ∧ wr.ownsRow w.heap.size 9 1 (.slice A1 k c1) k ((leavesH (hh T1) (l.take k)).flatMap textCells)))
  case atStart => exact ⟨0, T, none, 0, rfl, rfl, by omega, by omega, Ext.refl _, by omega, by intro x hx; simp at hx, Ch.refl _ _ _, HB.out, ⟨rfl, .inl ⟨rfl, rfl⟩⟩⟩
  case round =>
    obtain ⟨k, T1, A1, c1, rfl, rfl, hk, HH⟩ := hrel
    obtain ⟨hg, he, hT1, hli, hc, hbk, ho⟩ := HH.out
    have HGK := Lib.hid hg
    have HE := Lib.hid he
    have HT1 := Lib.hid hT1
    have HLI := Lib.hid hli
    have HC := Lib.hid hc
    have HBK := Lib.hid hbk
    have HO := Lib.hid ho
    clear HH hg he hT1 hli hc hbk ho HB
    by_cases hlt : k < l.length
    · have hd2 : decide ((k : Int) < (l.length : Int)) = true := by simp; omega
      have hrs := HS.out.off HC.out HA.out
      obtain ⟨a, rfl, e0, e1⟩ := hrs.elem k hlt
      obtain ⟨key, hkey⟩ : ∃ x, x = l[k].key := ⟨_, rfl⟩
      obtain ⟨val, hval⟩ : ∃ x, x = l[k].val := ⟨_, rfl⟩
      rw [← hkey] at e0
      rw [← hval] at e1
      have hok := HOK.out l[k] (List.getElem_mem hlt)
      have HLK := Lib.hid (show l[k] = ⟨key, val⟩ by rw [hkey, hval])
      have HL := Lib.hid (fun w hb => leaf_calls b t m n T1 S ⟨key, val⟩ w hb (by have := HT1.out; omega) (by rw [hkey]; exact hok.1) (by rw [hval]; exact hok.2))
      clear hkey hval hok hrs
      have HBA := Lib.hid (HBK.out.alloc (.cells #[.string key, .string val] 131))
      have HOA := Lib.hid (HO.out.alloc (.cells #[.string key, .string val] 131))
      have hsz1 := HC.out.size
      go_wp2_with fail
      refine (HL.out _ HBA.out).mono ?_
      rintro e w2 ⟨rfl, hc2, hk2⟩
      obtain ⟨kn1, kn2, kn3⟩ := dig_known T1 (leafT ⟨key, val⟩)
      have kl := digT_len T1 (leafT ⟨key, val⟩)
      rw [kn3]
      obtain ⟨T2, hT2⟩ : ∃ x, x = (digS T1 (leafT ⟨key, val⟩)).2 := ⟨_, rfl⟩
      rw [← hT2] at kn1 kn2 kn3 kl hk2 ⊢
      clear hT2 kn3
      have HO2 := Lib.hid (own_ch HOA.out hc2 (fun j hj => ⟨(own_row HOA.out hj).2, by have := (own_row HOA.out hj).1; omega⟩))
      have hc3 := ((HC.out.alloc (by omega) (.cells #[.string key, .string val] 131)).step hc2 (by simp; omega) (fun _ _ e => e))
      have HC3 := Lib.hid hc3
      have hsz3 := hc3.size
      clear hc2 hc3
      have HK2 := Lib.hid hk2
      obtain ⟨g, hg⟩ : ∃ x, x = hh T2 (leafT ⟨key, val⟩) := ⟨_, rfl⟩
      rw [← hg]
      have HG := Lib.hid hg
      clear hg hk2
      have HNEW := Lib.hid (show leavesH (hh T2) (l.take (k + 1)) = leavesH (hh T1) (l.take k) ++ [g] by rw [leavesH_succ _ hlt, (HLI.out.ext kn1).2, HG.out, HLK.out])
      have HLI2 := Lib.hid (show LeavesIn T2 (l.take (k + 1)) from fun x hx => by
        rw [List.take_succ_eq_append_getElem hlt, List.mem_append] at hx
        rcases hx with hx | hx
        · exact kn1.mem (HLI.out x hx)
        · obtain rfl : x = l[k] := by simpa using hx
          rw [HLK.out]; exact kn2)
      have HE2 := Lib.hid (HE.out.trans kn1)
      have HT2 := Lib.hid (show T2.length ≤ T.length + (k + 1) by have := HT1.out; omega)
      clear kn1 kn2 kl
      have hrow : ∀ j, Row A1 j → w.heap.size ≤ j ∧ j < w2.heap.size := fun j hj => own_row HO2.out hj
      go_wp2_with (at_builtin; refine app_row rfl (.tmp 14) (.tmp 18) 54 rfl w.heap.size 9 _ 1 16 info_str Try.underlying54 rfl (by decide) A1 c1 k ((leavesH (hh T1) (l.take k)).flatMap textCells) rfl (HO2.out.alloc _) _ 1 1 (textCells g) rfl rfl (news_box (Box.new w2 #[.string g] 9)) (text_one g) ?hb1 ?hb2 ?hb3 ?_; (case hb1 => omega); (case hb2 => omega); (case hb3 => simp; omega); intro A' c' w6 ho hc hA; have HO6 := Lib.hid ho; have HC6 := Lib.hid (HC3.out.app hsz3 hc (fun j hj => (hrow j hj).1)); have HK6 := Lib.hid (HK2.out.app hc (fun j hj => (hrow j hj).1) HLT.out); clear ho hc hA)
      have hsz6 := HC6.out.size
      go_roundg (gk - 1)
      case measure => have := HGK.out; omega
      case rel => exact ⟨k + 1, T2, A', c', rfl, by go_num, by omega, by have := HGK.out; omega, HE2.out, HT2.out, HLI2.out, HC6.out, HK6.out, by rw [HNEW.out, List.flatMap_append, List.flatMap_singleton]; exact HO6.out⟩
    · have hd2 : decide ((k : Int) < (l.length : Int)) = false := by simp; omega
      obtain rfl : k = l.length := by omega
      go_wp2
      go_ret
      have hli := HLI.out
      have ho := HO.out
      rw [List.take_length] at hli ho
      exact ⟨T1, A1, c1, rfl, HE.out, HT1.out, hli, HC.out, HBK.out, ho⟩
end Go.Proofs.Ytfgpchffkpomoaa.Kd

/- By a book of sums: what stands in the text Top, once more. -/
namespace Go.Proofs.Ytfgpchffkpomoaa.Kd
set_option linter.unusedSimpArgs false
set_option linter.unusedVariables false
open Go.RowKit
theorem top_join {T T1 T2 : List ByteArray} {l : List ByteArray} (hl : 1 < l.length) (e1 : Ext T T1) (e2 : Ext T1 T2) (t1 : TopIn T1 (l.take (half l.length))) (t2 : TopIn T2 (l.drop (half l.length))) :
    (digS T2 (nodeT (topP (hh T1) (l.take (half l.length))) (topP (hh T2) (l.drop (half l.length))))).1 = topP (hh (digS T2 (nodeT (topP (hh T1) (l.take (half l.length))) (topP (hh T2) (l.drop (half l.length))))).2) l ∧
    Ext T (digS T2 (nodeT (topP (hh T1) (l.take (half l.length))) (topP (hh T2) (l.drop (half l.length))))).2 ∧
    TopIn (digS T2 (nodeT (topP (hh T1) (l.take (half l.length))) (topP (hh T2) (l.drop (half l.length))))).2 l := by
  obtain ⟨kn1, kn2, kn3⟩ := dig_known T2 (nodeT (topP (hh T1) (l.take (half l.length))) (topP (hh T2) (l.drop (half l.length))))
  rw [kn3]
  obtain ⟨T3, hT3⟩ : ∃ x, x = (digS T2 (nodeT (topP (hh T1) (l.take (half l.length))) (topP (hh T2) (l.drop (half l.length))))).2 := ⟨_, rfl⟩
  rw [← hT3] at kn1 kn2 ⊢
  obtain ⟨a1, a2⟩ := t1.ext (e2.trans kn1)
  obtain ⟨b1, b2⟩ := t2.ext kn1
  rw [← a2, ← b2] at kn2 ⊢
  exact ⟨(topP_more hl).symm, (e1.trans e2).trans kn1, .more hl a1 b1 kn2⟩
def TopPost (w0 : World) (b t m n : Nat) (T : List ByteArray) (S : List Wd) (l : List ByteArray) (e : Ending) (w' : World) : Prop :=
  ∃ T', e = .returned (.string (topP (hh T') l)) ∧ Ext T T' ∧ T'.length ≤ T.length + (l.length - 1) ∧ TopIn T' l ∧ Ch w0.heap.size (· = m) w0 w' ∧ Bk w' b t m n T' S

set_option maxHeartbeats 2000000 in
set_option maxRecDepth 100000 in
theorem top_calls (b t m n : Nat) (S : List Wd) : ∀ (N : Nat) (T : List ByteArray) (A : Option Addr) (c : Nat) (l : List ByteArray) (w : World), l.length = N → Bk w b t m n T S → T.length + l.length ≤ 1000000000 → TxS w A c l → l.length ≤ c → l.length ≤ 100000 → (∀ x ∈ l, x.size ≤ 1000) → Off A l.length m →
    Calls Try.prog 99 #[.pointer (some ⟨b, 0, none⟩), .slice A l.length c] w (TopPost w b t m n T S l) := by
  intro N
  induction N using Nat.strongRecOn with
  | ind N ih =>
    intro T A c l w hN hb hT hs hlc hl hsz hA
    subst hN
    have IH := Lib.hid ih
    have HS := Lib.hid hs
    have HSZ := Lib.hid hsz
    have HA := Lib.hid hA
    have hfit := hs.fits
    have hml := hb.tm.lt
    have HB := Lib.hid hb
    clear ih hb hs hsz hA
    by_cases h1 : 1 < l.length
    · have hd0 : (((l.length : Nat) : Int) == 0) = false := by rw [beq_eq_false_iff_ne]; omega
      have hd1 : (((l.length : Nat) : Int) == 1) = false := by rw [beq_eq_false_iff_ne]; omega
      have hhl := half_lt h1
      obtain ⟨k, hk⟩ : ∃ k, k = half l.length := ⟨_, rfl⟩
      have HH := Lib.hid (fun w => half_calls l.length w (by omega))
      rw [← hk] at HH hhl
      have HK := Lib.hid hk
      clear hk
      go_enter Try.func99, Try.ntmps99
      go_wp2_with fail
      refine (HH.out _).mono ?_
      rintro e w1 ⟨rfl, rfl⟩
      go_wp2_with fail
      obtain ⟨a, rfl⟩ : ∃ a, A = some a := by
        obtain ⟨a, e, _⟩ := HS.out.elem 0 (by omega)
        exact ⟨a, e⟩
      have hlk : (l.take k).length = k := by simp; omega
      have C1 := Lib.hid (show ∀ w, Bk w b t m n T S → TxS w (some a) c (l.take k) → Calls Try.prog 99 #[.pointer (some ⟨b, 0, none⟩), .slice (some a) k c] w (TopPost w b t m n T S (l.take k)) from fun w hb hs => by
        have := IH.out k (by omega) T (some a) c (l.take k) w hlk hb (by omega) hs (by omega) (by omega) (fun x hx => HSZ.out x (List.mem_of_mem_take hx)) (fun _ => HA.out (by omega))
        rwa [hlk] at this)
      have hdr : (l.drop k).length = l.length - k := by simp
      have C2 := Lib.hid (show ∀ w T1, Bk w b t m n T1 S → T1.length + (l.length - k) ≤ 1000000000 → TxS w (some (a.add k)) (c - k) (l.drop k) → Calls Try.prog 99 #[.pointer (some ⟨b, 0, none⟩), .slice (some (a.add k)) (l.length - k) (c - k)] w (TopPost w b t m n T1 S (l.drop k)) from fun w T1 hb ht hs => by
        have := IH.out (l.length - k) (by omega) T1 (some (a.add k)) (c - k) (l.drop k) w hdr hb (by omega) hs (by omega) (by omega) (fun x hx => HSZ.out x (List.mem_of_mem_drop hx)) (fun _ j hj => HA.out (by omega) j (by simpa [Row, Sl.add_block] using hj))
        rwa [hdr] at this)
      have hbk := HB.out.drew
      have hst := HS.out.drew
      have hcc := (Ch.refl w1.heap.size (· = m) w1).drew
      have hk0 : (0 : Int) ≤ (k : Int) := by omega
      have hk1 : (k : Int) ≤ (l.length : Int) := by omega
      have hk2 : (k : Int) ≤ (c : Int) := by omega
      go_region_held3 (fun _ => True) (first | exact trivial) (first | (go_at_call 99; refine (C1.out _ hbk (TxS.take hst k)).mono ?_; rintro e w2 ⟨T1, rfl, e1, l1, t1, c1, k1⟩; have hst2 := hst.off c1 HA.out; clear hbk) | (go_at_call 99; refine (C2.out _ _ k1 (by omega) (TxS.drop hst2 k)).mono ?_; rintro e w3 ⟨T2, rfl, e2, l2, t2, c2, k2⟩) | (go_at_call 154; refine (node_calls b t m n T2 S _ _ _ k2 (by omega) (by have := topP_size (T := T1) (l := l.take k) (fun x hx => HSZ.out x (List.mem_of_mem_take hx)); unfold maxLen; omega) (by have := topP_size (T := T2) (l := l.drop k) (fun x hx => HSZ.out x (List.mem_of_mem_drop hx)); unfold maxLen; omega)).mono ?_; rintro e w4 ⟨rfl, c4, k4⟩))
      all_goals go_wp2
      all_goals go_ret
      all_goals
        have hkk := HK.out
        have hdl := digT_len T2 (nodeT (topP (hh T1) (l.take k)) (topP (hh T2) (l.drop k)))
        have hc4 := ((hcc.step c1 (Nat.le_refl _) (fun _ _ e => e)).step c2 c1.size (fun _ _ e => e)).step c4 (Nat.le_trans c1.size c2.size) (fun _ _ e => e)
        subst hkk
        obtain ⟨j1, j2, j3⟩ := top_join h1 e1 e2 t1 t2
        exact ⟨_, by rw [j1]; rfl, j2, by omega, j3, hc4, k4⟩
    · have HP := Lib.hid (topP_few (h := hh T) h1)
      have HIN := Lib.hid (TopIn.few (T := T) h1)
      by_cases h0 : l.length = 0
      · have hd0 : (((l.length : Nat) : Int) == 0) = true := by rw [beq_iff_eq]; omega
        obtain rfl : l = [] := List.eq_nil_of_length_eq_zero h0
        clear h0
        go_enter Try.func99, Try.ntmps99
        go_wp2
        go_ret
        exact ⟨T, by rw [HP.out]; rfl, Ext.refl _, by simp, HIN.out, Ch.refl _ _ _, HB.out⟩
      · have hd0 : (((l.length : Nat) : Int) == 0) = false := by rw [beq_eq_false_iff_ne]; omega
        have hd1 : (((l.length : Nat) : Int) == 1) = true := by rw [beq_iff_eq]; omega
        have hlt : (0 : Nat) < l.length := by omega
        obtain ⟨a, rfl, e0⟩ := HS.out.elem 0 hlt
        have hP2 : topP (hh T) l = l[0] := by
          rw [HP.out]
          cases l with
          | nil => simp at hlt
          | cons x l => rfl
        obtain ⟨x, hx⟩ : ∃ x, x = l[0] := ⟨_, rfl⟩
        rw [← hx] at e0 hP2
        rw [show a.add 0 = a by simp [Addr.add]] at e0
        have HP2 := Lib.hid hP2
        clear hx hP2 h0
        have hl0 : (0 : Int) < (l.length : Int) := by omega
        go_enter Try.func99, Try.ntmps99
        go_wp2
        go_ret
        exact ⟨T, by rw [HP2.out]; rfl, Ext.refl _, by omega, HIN.out, Ch.refl _ _ _, HB.out⟩
end Go.Proofs.Ytfgpchffkpomoaa.Kd

/- By a book of sums: what stands in the text Sides, once more. -/
namespace Go.Proofs.Ytfgpchffkpomoaa.Kd
set_option linter.unusedSimpArgs false
set_option linter.unusedVariables false
open Go.RowKit
def SidesPost (w0 : World) (b t m n : Nat) (T : List ByteArray) (S : List Wd) (l : List ByteArray) (i : Nat) (e : Ending) (w' : World) : Prop :=
  ∃ T' A c L, e = .returned (.slice A L.length c) ∧ Hid (L = sidesP (hh T') l i) ∧ Ext T T' ∧ T'.length ≤ T.length + (l.length - 1) ∧ SidesIn T' l i ∧ Ch w0.heap.size (· = m) w0 w' ∧ Bk w' b t m n T' S ∧ w'.ownsRow w0.heap.size 9 1 (.slice A L.length c) L.length (L.flatMap textCells)

set_option maxHeartbeats 4000000 in
set_option maxRecDepth 100000 in
theorem sides_calls (b t m n : Nat) (S : List Wd) : ∀ (N : Nat) (T : List ByteArray) (A : Option Addr) (c : Nat) (l : List ByteArray) (i : Nat) (w : World), l.length = N → Bk w b t m n T S → T.length + l.length ≤ 1000000000 → TxS w A c l → l.length ≤ c → l.length ≤ 100000 → i ≤ 100000 → (∀ x ∈ l, x.size ≤ 1000) → Off A l.length m →
    Calls Try.prog 182 #[.pointer (some ⟨b, 0, none⟩), .slice A l.length c, .int .i64 i] w (SidesPost w b t m n T S l i) := by
  intro N
  induction N using Nat.strongRecOn with
  | ind N ih =>
    intro T A c l i w hN hb hT hs hlc hl hi hsz hA
    subst hN
    have IH := Lib.hid ih
    have HS := Lib.hid hs
    have HSZ := Lib.hid hsz
    have HA := Lib.hid hA
    have hfit := hs.fits
    have HLT := Lib.hid hb.all_lt
    have hml := hb.tm.lt
    have HB := Lib.hid hb
    clear ih hb hs hsz hA
    by_cases h1 : 1 < l.length
    · have hd0 : decide (((l.length : Nat) : Int) ≤ 1) = false := by rw [decide_eq_false_iff_not]; omega
      have hhl := half_lt h1
      obtain ⟨k, hk⟩ : ∃ k, k = half l.length := ⟨_, rfl⟩
      have HH := Lib.hid (fun w => half_calls l.length w (by omega))
      rw [← hk] at HH hhl
      have HK := Lib.hid hk
      clear hk
      have hck : ¬ c = k := by omega
      have hk0 : (0 : Int) ≤ (k : Int) := by omega
      have hk1 : (k : Int) ≤ (l.length : Int) := by omega
      have hk2 : (k : Int) ≤ (c : Int) := by omega
      have hlk : (l.take k).length = k := by simp; omega
      have hdr : (l.drop k).length = l.length - k := by simp
      obtain ⟨a, rfl⟩ : ∃ a, A = some a := by
        obtain ⟨a, e, _⟩ := HS.out.elem 0 (by omega)
        exact ⟨a, e⟩
      by_cases hik : i < k
      · have hd1 : decide ((i : Int) < (k : Int)) = true := by simp; omega
        have C1 := Lib.hid (show ∀ w, Bk w b t m n T S → TxS w (some a) c (l.take k) → Calls Try.prog 182 #[.pointer (some ⟨b, 0, none⟩), .slice (some a) k c, (.int .i64 i)] w (SidesPost w b t m n T S (l.take k) i) from fun w hb hs => by
          have := IH.out k (by omega) T (some a) c (l.take k) i w hlk hb (by omega) hs (by omega) (by omega) (by omega) (fun x hx => HSZ.out x (List.mem_of_mem_take hx)) (fun _ => HA.out (by omega))
          rw [hlk] at this
          exact this)
        have C2 := Lib.hid (show ∀ w T1, Bk w b t m n T1 S → T1.length + (l.length - k) ≤ 1000000000 → TxS w (some (a.add k)) (c - k) (l.drop k) → Calls Try.prog 99 #[.pointer (some ⟨b, 0, none⟩), .slice (some (a.add k)) (l.length - k) (c - k)] w (TopPost w b t m n T1 S (l.drop k)) from fun w T1 hb ht hs => by
          have := top_calls b t m n S (l.length - k) T1 (some (a.add k)) (c - k) (l.drop k) w hdr hb (by omega) hs (by omega) (by omega) (fun x hx => HSZ.out x (List.mem_of_mem_drop hx)) (fun _ j hj => HA.out (by omega) j (by simpa [Row, Sl.add_block] using hj))
          rwa [hdr] at this)
        go_enter Try.func182, Try.ntmps182
        go_wp2_with fail
        refine (HH.out _).mono ?_
        rintro e w1 ⟨rfl, rfl⟩
        go_wp2_with fail
        have hbk := HB.out.drew
        have hst := HS.out.drew
        have hcc := (Ch.refl w1.heap.size (· = m) w1).drew
        go_region_held3 (fun _ => True) (first | exact trivial) (first | (go_at_call 182; refine (C1.out _ hbk (TxS.take hst k)).mono ?_; rintro e w2 ⟨T1, A1, cp1, L1, rfl, q1, e1, l1, t1, c1, k1, o1⟩; have hst2 := hst.off c1 HA.out; have hs12 : w1.heap.size ≤ w2.heap.size := c1.size; have o1 : w2.ownsRow w1.heap.size 9 1 (.slice A1 L1.length cp1) L1.length (L1.flatMap textCells) := o1; clear hbk) | (go_at_call 99; refine (C2.out _ _ k1 (by omega) (TxS.drop hst2 k)).mono ?_; rintro e w3 ⟨T2, rfl, e2, l2, t2, c2, k2⟩; have hs23 := c2.size; have o2 := own_ch o1 c2 (fun j hj => ⟨(own_row o1 hj).2, by have := (own_row o1 hj).1; omega⟩); have hrow : ∀ j, Row A1 j → w1.heap.size ≤ j ∧ j < w3.heap.size := (fun j hj => own_row o2 hj); obtain ⟨g, hg⟩ : ∃ g, g = topP (hh T2) (l.drop k) := ⟨_, rfl⟩; rw [← hg]; have HG := Lib.hid hg; clear hg) | (refine step_app_row rfl (.tmp 22) (.tmp 28) 54 rfl w1.heap.size 9 _ 1 16 info_str Try.underlying54 rfl (by decide) A1 cp1 L1.length (L1.flatMap textCells) rfl (o2.alloc _) ⟨w3.heap.size, 0, none⟩ 1 1 (textCells g) rfl rfl (news_box (Box.new w3 #[.string g] 9)) (text_one g) ?hb1 ?hb2 ?hb3 ?_; (case hb1 => have := sides_few q1.out (by omega); omega); (case hb2 => have := sides_few q1.out (by omega); omega); (case hb3 => simp; omega); intro A' c' w6 ho hc hA'; have o6 := ho; have c6 := ((hcc.step c1 (Nat.le_refl _) (fun _ _ e => e)).step c2 hs12 (fun _ _ e => e)).app (Nat.le_trans hs12 hs23) hc (fun j hj => (hrow j hj).1); have k6 := k2.app hc (fun j hj => (hrow j hj).1) HLT.out; clear ho hc hA'))
        all_goals go_wp2
        all_goals go_ret
        all_goals
          have hkk := HK.out
          subst hkk
          have hq := q1.out
          have hgg := HG.out
          obtain ⟨t1', ex⟩ := t1.ext e2
          refine ⟨T2, A', c', L1 ++ [g], by simp, ?_, e1.trans e2, by omega, .left h1 hik t1' t2, c6, k6, by simpa using o6⟩
          show L1 ++ [g] = _
          rw [sidesP_left h1 hik, ex, ← hq, ← hgg]
      · have hd1 : decide ((i : Int) < (k : Int)) = false := by simp; omega
        have hwr : IntKind.i64.wrap ((i : Int) - (k : Int)) = (i : Int) - (k : Int) := wrap_small _ (by omega) (by omega)
        have hik2 : ((i : Int) - (k : Int)) = ((i - k : Nat) : Int) := by omega
        have C1 := Lib.hid (show ∀ w, Bk w b t m n T S → TxS w (some (a.add k)) (c - k) (l.drop k) → Calls Try.prog 182 #[.pointer (some ⟨b, 0, none⟩), .slice (some (a.add k)) (l.length - k) (c - k), (.int .i64 ((i : Int) - (k : Int)))] w (SidesPost w b t m n T S (l.drop k) (i - k)) from fun w hb hs => by
          have := IH.out (l.length - k) (by omega) T (some (a.add k)) (c - k) (l.drop k) (i - k) w hdr hb (by omega) hs (by omega) (by omega) (by omega) (fun x hx => HSZ.out x (List.mem_of_mem_drop hx)) (fun _ j hj => HA.out (by omega) j (by simpa [Row, Sl.add_block] using hj))
          rw [hdr] at this
          rw [hik2]; exact this)
        clear hik2
        have C2 := Lib.hid (show ∀ w T1, Bk w b t m n T1 S → T1.length + k ≤ 1000000000 → TxS w (some a) c (l.take k) → Calls Try.prog 99 #[.pointer (some ⟨b, 0, none⟩), .slice (some a) k c] w (TopPost w b t m n T1 S (l.take k)) from fun w T1 hb ht hs => by
          have := top_calls b t m n S k T1 (some a) c (l.take k) w hlk hb (by omega) hs (by omega) (by omega) (fun x hx => HSZ.out x (List.mem_of_mem_take hx)) (fun _ => HA.out (by omega))
          rwa [hlk] at this)
        go_enter Try.func182, Try.ntmps182
        go_wp2_with fail
        refine (HH.out _).mono ?_
        rintro e w1 ⟨rfl, rfl⟩
        go_wp2_with fail
        have hbk := HB.out.drew
        have hst := HS.out.drew
        have hcc := (Ch.refl w1.heap.size (· = m) w1).drew
        go_region_held3 (fun _ => True) (first | exact trivial) (first | (go_at_call 182; refine (C1.out _ hbk (TxS.drop hst k)).mono ?_; rintro e w2 ⟨T1, A1, cp1, L1, rfl, q1, e1, l1, t1, c1, k1, o1⟩; have hst2 := hst.off c1 HA.out; have hs12 : w1.heap.size ≤ w2.heap.size := c1.size; have o1 : w2.ownsRow w1.heap.size 9 1 (.slice A1 L1.length cp1) L1.length (L1.flatMap textCells) := o1; clear hbk) | (go_at_call 99; refine (C2.out _ _ k1 (by omega) (TxS.take hst2 k)).mono ?_; rintro e w3 ⟨T2, rfl, e2, l2, t2, c2, k2⟩; have hs23 := c2.size; have o2 := own_ch o1 c2 (fun j hj => ⟨(own_row o1 hj).2, by have := (own_row o1 hj).1; omega⟩); have hrow : ∀ j, Row A1 j → w1.heap.size ≤ j ∧ j < w3.heap.size := (fun j hj => own_row o2 hj); obtain ⟨g, hg⟩ : ∃ g, g = topP (hh T2) (l.take k) := ⟨_, rfl⟩; rw [← hg]; have HG := Lib.hid hg; clear hg) | (refine step_app_row rfl (.tmp 37) (.tmp 43) 54 rfl w1.heap.size 9 _ 1 16 info_str Try.underlying54 rfl (by decide) A1 cp1 L1.length (L1.flatMap textCells) rfl (o2.alloc _) ⟨w3.heap.size, 0, none⟩ 1 1 (textCells g) rfl rfl (news_box (Box.new w3 #[.string g] 9)) (text_one g) ?hb1 ?hb2 ?hb3 ?_; (case hb1 => have := sides_few q1.out (by omega); omega); (case hb2 => have := sides_few q1.out (by omega); omega); (case hb3 => simp; omega); intro A' c' w6 ho hc hA'; have o6 := ho; have c6 := ((hcc.step c1 (Nat.le_refl _) (fun _ _ e => e)).step c2 hs12 (fun _ _ e => e)).app (Nat.le_trans hs12 hs23) hc (fun j hj => (hrow j hj).1); have k6 := k2.app hc (fun j hj => (hrow j hj).1) HLT.out; clear ho hc hA'))
        all_goals go_wp2
        all_goals go_ret
        all_goals
          have hkk := HK.out
          subst hkk
          have hq := q1.out
          have hgg := HG.out
          obtain ⟨t1', ex⟩ := t1.ext e2
          refine ⟨T2, A', c', L1 ++ [g], by simp, ?_, e1.trans e2, by omega, .right h1 hik t1' t2, c6, k6, by simpa using o6⟩
          show L1 ++ [g] = _
          rw [sidesP_right h1 hik, ex, ← hq, ← hgg]
    · have hd0 : decide (((l.length : Nat) : Int) ≤ 1) = true := by rw [decide_eq_true_iff]; omega
      have HP := Lib.hid (sidesP_few (h := hh T) (i := i) h1)
      have HIN := Lib.hid (SidesIn.few (T := T) (i := i) h1)
      go_enter Try.func182, Try.ntmps182
      go_wp2
      go_ret
      exact ⟨T, none, 0, [], rfl, HP.out.symm, Ext.refl _, by omega, HIN.out, Ch.refl _ _ _, HB.out, ⟨rfl, .inl ⟨rfl, rfl⟩⟩⟩
end Go.Proofs.Ytfgpchffkpomoaa.Kd
