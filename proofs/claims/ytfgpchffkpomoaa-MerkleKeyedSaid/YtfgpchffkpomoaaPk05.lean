/- Texts of this proof, several in one file; each says ahead of it what it proves. -/
import Derived.Test.YtfgpchffkpomoaaPk04
import Derived.Defers
import Derived.Recover
import Derived.Test.YtfgpchffkpomoaaPk02
import Derived.Deep.DeepCutAuto
/- Each face's deferred literal: of a frame that panics it catches what the reader gave up with and lays the results; of one that returns it does nothing. -/
namespace Go.Proofs.Ytfgpchffkpomoaa
set_option linter.unusedSimpArgs false
set_option linter.unusedVariables false
open Go.RowKit

theorem leaves_end {P : Program} {fn : Func} {tmps : Array Value} {R : Ending → World → Prop} {u : FrameMode} {w : World} (hu : settle u = .returning) (h : ∃ v, (results fn tmps).run P w = .ok v w ∧ R (.returned v) w) : Leaves P fn tmps R [] (settle u) w := by
  rw [hu]; exact h

theorem assert_fault (c : Int) (w : World) : (Instr.typeAssert (.iface 261 (.int .i64 c)) 20 261 true).run Try.prog w = .ok (.tuple #[.int .i64 c, .bool true]) w := by kernel_rfl

set_option maxRecDepth 100000 in
theorem caught_calls (c : Int) (w : World) : Calls Try.prog 166 #[.iface 261 (.int .i64 c)] w fun e w' => e = .returned (.int .i64 c) ∧ w = w' := by
  have hta := fun w' => assert_fault c w'
  go_enter Try.func166, Try.ntmps166
  go_wp2
  go_ret
  exact ⟨rfl, rfl⟩








set_option maxHeartbeats 1000000 in
theorem of_catch (g : Nat) (x0 x1 x2 x3 x4 x5 x6 x7 x8 : Value) (c : Nat) (w : World) (h0 : Box w (g) #[x0, x1, x2, x3, x4, x5, x6, x7] 59) (h1 : Box w (g + 1) #[x8] 25) :
    CallsD Try.prog 165 #[.pointer (some ⟨g, 0, none⟩), .pointer (some ⟨g + 1, 0, none⟩)] (.panicking (fault c)) w fun e u' w' =>
      e = .returned (.tuple #[]) ∧ settle u' = .returning ∧ Ch g (fun _ => False) w w' ∧ w'.heap.size = w.heap.size ∧ Box w' (g) #[.int .i64 0, .int .i64 0, .int .i64 0, .int .i64 0, .int .i64 0, .string ⟨#[]⟩, .string ⟨#[]⟩, .slice none 0 0] 59 ∧ Box w' (g + 1) #[.int .i64 c] 25 := by
  unfold fault
  have hf0 := h0.facts8
  have H0 := Lib.hid h0
  have hf1 := h1.facts1
  have H1 := Lib.hid h1
  obtain ⟨c0_0, c0_1, c0_2, c0_3, c0_4, c0_5, c0_6, c0_7, f0_0, f0_1, f0_2, f0_3, f0_4, f0_5, f0_6, f0_7⟩ := hf0
  obtain ⟨c1_0, f1_0⟩ := hf1
  clear h0 h1
  refine callsD_of_wpS Try.func165 rfl fun c₀ cs hu => ?_
  apply wpS_seq
  apply wpS_region
  simp [wpOpsS, go_sem, recoverD, hu, Try.ntmps165, Exit.thenS]
  refine wpS_of_wp ?_
  show Code.wp _ _ _ { tmps := #[.pointer (some ⟨g, 0, none⟩), .pointer (some ⟨g + 1, 0, none⟩), .iface 261 (.int .i64 c), .iface 261 (.int .i64 c), undef, undef, undef, undef, undef], defers := [] } w
  go_wp2_with (go_at_call 166; refine (caught_calls _ _).mono ?_; rintro e w' ⟨rfl, rfl⟩)
  refine ⟨rfl, _, rfl, .tuple #[], by simp [results, Try.results165, go_sem], rfl, rfl, ?_, by simp, (by have h := (((((((((H0.out).set 0 (.int .i64 0)).set 1 (.int .i64 0)).set 2 (.int .i64 0)).set 3 (.int .i64 0)).set 4 (.int .i64 0)).set 5 (.string ⟨#[]⟩)).set 6 (.string ⟨#[]⟩)).set 7 (.slice none 0 0)).other (a := ⟨g + 1, 0, none⟩) (by simp) (.int .i64 c); simpa using h), (by have h := (((((((((H1.out).other (a := ⟨g, 0, none⟩) (by simp) (.int .i64 0)).other (a := ⟨g, 1, none⟩) (by simp) (.int .i64 0)).other (a := ⟨g, 2, none⟩) (by simp) (.int .i64 0)).other (a := ⟨g, 3, none⟩) (by simp) (.int .i64 0)).other (a := ⟨g, 4, none⟩) (by simp) (.int .i64 0)).other (a := ⟨g, 5, none⟩) (by simp) (.string ⟨#[]⟩)).other (a := ⟨g, 6, none⟩) (by simp) (.string ⟨#[]⟩)).other (a := ⟨g, 7, none⟩) (by simp) (.slice none 0 0)).set 0 (.int .i64 c); simpa using h)⟩
  refine Ch.setCell (Ch.setCell (Ch.setCell (Ch.setCell (Ch.setCell (Ch.setCell (Ch.setCell (Ch.setCell (Ch.setCell (Ch.refl _ _ _) ?_ _) ?_ _) ?_ _) ?_ _) ?_ _) ?_ _) ?_ _) ?_ _) ?_ _ <;> (left; simp)

theorem of_idle (w : World) (p0 p1 : Value) :
    CallsD Try.prog 165 #[p0, p1] .returning w fun e u' w' => e = .returned (.tuple #[]) ∧ settle u' = .returning ∧ w = w' := by
  refine callsD_of_wpS Try.func165 rfl fun c₀ cs hu => ?_
  apply wpS_seq
  apply wpS_region
  simp [wpOpsS, go_sem, recoverD, hu, Try.ntmps165, Exit.thenS]
  refine wpS_of_wp ?_
  show Code.wp _ _ _ { tmps := #[p0, p1, .nilIface, .nilIface, undef, undef, undef, undef, undef], defers := [] } w
  go_wp2
  refine ⟨rfl, .returning, ?_, .tuple #[], by simp [results, Try.results165, go_sem], rfl, rfl, rfl⟩
  cases c₀
  simp_all


set_option maxHeartbeats 1000000 in
theorem ofSigned_catch (g : Nat) (x0 x1 x2 x3 : Value) (c : Nat) (w : World) (h0 : Box w (g) #[x0, x1, x2] 61) (h1 : Box w (g + 1) #[x3] 25) :
    CallsD Try.prog 172 #[.pointer (some ⟨g, 0, none⟩), .pointer (some ⟨g + 1, 0, none⟩)] (.panicking (fault c)) w fun e u' w' =>
      e = .returned (.tuple #[]) ∧ settle u' = .returning ∧ Ch g (fun _ => False) w w' ∧ w'.heap.size = w.heap.size ∧ Box w' (g) #[.int .i64 0, .string ⟨#[]⟩, .string ⟨#[]⟩] 61 ∧ Box w' (g + 1) #[.int .i64 c] 25 := by
  unfold fault
  have hf0 := h0.facts3
  have H0 := Lib.hid h0
  have hf1 := h1.facts1
  have H1 := Lib.hid h1
  obtain ⟨c0_0, c0_1, c0_2, f0_0, f0_1, f0_2⟩ := hf0
  obtain ⟨c1_0, f1_0⟩ := hf1
  clear h0 h1
  refine callsD_of_wpS Try.func172 rfl fun c₀ cs hu => ?_
  apply wpS_seq
  apply wpS_region
  simp [wpOpsS, go_sem, recoverD, hu, Try.ntmps172, Exit.thenS]
  refine wpS_of_wp ?_
  show Code.wp _ _ _ { tmps := #[.pointer (some ⟨g, 0, none⟩), .pointer (some ⟨g + 1, 0, none⟩), .iface 261 (.int .i64 c), .iface 261 (.int .i64 c), undef, undef, undef, undef, undef], defers := [] } w
  go_wp2_with (go_at_call 166; refine (caught_calls _ _).mono ?_; rintro e w' ⟨rfl, rfl⟩)
  refine ⟨rfl, _, rfl, .tuple #[], by simp [results, Try.results172, go_sem], rfl, rfl, ?_, by simp, (by have h := ((((H0.out).set 0 (.int .i64 0)).set 1 (.string ⟨#[]⟩)).set 2 (.string ⟨#[]⟩)).other (a := ⟨g + 1, 0, none⟩) (by simp) (.int .i64 c); simpa using h), (by have h := ((((H1.out).other (a := ⟨g, 0, none⟩) (by simp) (.int .i64 0)).other (a := ⟨g, 1, none⟩) (by simp) (.string ⟨#[]⟩)).other (a := ⟨g, 2, none⟩) (by simp) (.string ⟨#[]⟩)).set 0 (.int .i64 c); simpa using h)⟩
  refine Ch.setCell (Ch.setCell (Ch.setCell (Ch.setCell (Ch.refl _ _ _) ?_ _) ?_ _) ?_ _) ?_ _ <;> (left; simp)

theorem ofSigned_idle (w : World) (p0 p1 : Value) :
    CallsD Try.prog 172 #[p0, p1] .returning w fun e u' w' => e = .returned (.tuple #[]) ∧ settle u' = .returning ∧ w = w' := by
  refine callsD_of_wpS Try.func172 rfl fun c₀ cs hu => ?_
  apply wpS_seq
  apply wpS_region
  simp [wpOpsS, go_sem, recoverD, hu, Try.ntmps172, Exit.thenS]
  refine wpS_of_wp ?_
  show Code.wp _ _ _ { tmps := #[p0, p1, .nilIface, .nilIface, undef, undef, undef, undef, undef], defers := [] } w
  go_wp2
  refine ⟨rfl, .returning, ?_, .tuple #[], by simp [results, Try.results172, go_sem], rfl, rfl, rfl⟩
  cases c₀
  simp_all








set_option maxHeartbeats 1000000 in
theorem ofProof_catch (g : Nat) (x0 x1 x2 : Value) (c : Nat) (w : World) (h0 : Box w (g) #[x0, x1] 35) (h1 : Box w (g + 1) #[x2] 25) :
    CallsD Try.prog 183 #[.pointer (some ⟨g, 0, none⟩), .pointer (some ⟨g + 1, 0, none⟩)] (.panicking (fault c)) w fun e u' w' =>
      e = .returned (.tuple #[]) ∧ settle u' = .returning ∧ Ch g (fun _ => False) w w' ∧ w'.heap.size = w.heap.size ∧ Box w' (g) #[.int .i64 0, .slice none 0 0] 35 ∧ Box w' (g + 1) #[.int .i64 c] 25 := by
  unfold fault
  have hf0 := h0.facts2
  have H0 := Lib.hid h0
  have hf1 := h1.facts1
  have H1 := Lib.hid h1
  obtain ⟨c0_0, c0_1, f0_0, f0_1⟩ := hf0
  obtain ⟨c1_0, f1_0⟩ := hf1
  clear h0 h1
  refine callsD_of_wpS Try.func183 rfl fun c₀ cs hu => ?_
  apply wpS_seq
  apply wpS_region
  simp [wpOpsS, go_sem, recoverD, hu, Try.ntmps183, Exit.thenS]
  refine wpS_of_wp ?_
  show Code.wp _ _ _ { tmps := #[.pointer (some ⟨g, 0, none⟩), .pointer (some ⟨g + 1, 0, none⟩), .iface 261 (.int .i64 c), .iface 261 (.int .i64 c), undef, undef, undef, undef, undef], defers := [] } w
  go_wp2_with (go_at_call 166; refine (caught_calls _ _).mono ?_; rintro e w' ⟨rfl, rfl⟩)
  refine ⟨rfl, _, rfl, .tuple #[], by simp [results, Try.results183, go_sem], rfl, rfl, ?_, by simp, (by have h := (((H0.out).set 0 (.int .i64 0)).set 1 (.slice none 0 0)).other (a := ⟨g + 1, 0, none⟩) (by simp) (.int .i64 c); simpa using h), (by have h := (((H1.out).other (a := ⟨g, 0, none⟩) (by simp) (.int .i64 0)).other (a := ⟨g, 1, none⟩) (by simp) (.slice none 0 0)).set 0 (.int .i64 c); simpa using h)⟩
  refine Ch.setCell (Ch.setCell (Ch.setCell (Ch.refl _ _ _) ?_ _) ?_ _) ?_ _ <;> (left; simp)

theorem ofProof_idle (w : World) (p0 p1 : Value) :
    CallsD Try.prog 183 #[p0, p1] .returning w fun e u' w' => e = .returned (.tuple #[]) ∧ settle u' = .returning ∧ w = w' := by
  refine callsD_of_wpS Try.func183 rfl fun c₀ cs hu => ?_
  apply wpS_seq
  apply wpS_region
  simp [wpOpsS, go_sem, recoverD, hu, Try.ntmps183, Exit.thenS]
  refine wpS_of_wp ?_
  show Code.wp _ _ _ { tmps := #[p0, p1, .nilIface, .nilIface, undef, undef, undef, undef, undef], defers := [] } w
  go_wp2
  refine ⟨rfl, .returning, ?_, .tuple #[], by simp [results, Try.results183, go_sem], rfl, rfl, rfl⟩
  cases c₀
  simp_all

end Go.Proofs.Ytfgpchffkpomoaa

/- Bodies: the table of kinds, and which fields are set. -/
namespace Go.Proofs.Ytfgpchffkpomoaa
set_option linter.unusedSimpArgs false
set_option linter.unusedVariables false
open Go.RowKit

structure Bd where
  kind : Int
  view : Int
  seq : Int
  client : Int
  stamp : Int
  digest : ByteArray
  text : ByteArray
  list : List Sg

abbrev Bd.cells (b : Bd) (A : Option Addr) (c : Nat) : Array Value := #[.int .i64 b.kind, .int .i64 b.view, .int .i64 b.seq, .int .i64 b.client, .int .i64 b.stamp, .string b.digest, .string b.text, .slice A b.list.length c]
abbrev Bd.val (b : Bd) (A : Option Addr) (c : Nat) : Value := .agg (b.cells A c)

/-- Which fields are set, the lowest bit first. -/
def Bd.flags (b : Bd) : List Bool := [b.view != 0, b.seq != 0, b.client != 0, b.stamp != 0, !b.digest.toList.isEmpty, !b.text.toList.isEmpty, decide (0 < b.list.length)]
def maskOf : Nat → List Bool → Nat
  | _, [] => 0
  | i, f :: l => (if f then 2 ^ i else 0) + maskOf (i + 1) l
def Bd.mask (b : Bd) : Nat := maskOf 0 b.flags

structure Rule where
  may : Nat
  must : Nat
  list : Nat
  text : Nat
def rules (k : Int) : Rule :=
  if k = 1 then ⟨44, 8, 0, 256⟩ else if k = 2 then ⟨67, 2, 4, 0⟩ else if k = 3 ∨ k = 4 then ⟨19, 18, 0, 0⟩ else if k = 5 then ⟨18, 18, 0, 0⟩ else if k = 6 then ⟨67, 1, 64, 0⟩
  else if k = 7 then ⟨65, 65, 64, 0⟩ else if k = 8 then ⟨15, 0, 0, 0⟩ else if k = 9 ∨ k = 13 then ⟨114, 82, 64, 1048576⟩ else if k = 10 then ⟨45, 8, 0, 256⟩ else if k = 11 then ⟨115, 82, 64, 1048576⟩
  else ⟨36, 0, 0, 64⟩
def Rule.val (r : Rule) : Value := .agg #[.int .i64 r.may, .int .i64 r.must, .int .i64 r.list, .int .i64 r.text]

set_option maxHeartbeats 4000000 in
set_option maxRecDepth 100000 in
theorem rules_calls (k : Int) (h1 : 1 ≤ k) (h2 : k ≤ 13) (w : World) : Calls Try.prog 186 #[.int .i64 k] w fun e w' => e = .returned (rules k).val ∧ Below w.heap.size w w' := by
  obtain rfl | rfl | rfl | rfl | rfl | rfl | rfl | rfl | rfl | rfl | rfl | rfl | rfl : k = 1 ∨ k = 2 ∨ k = 3 ∨ k = 4 ∨ k = 5 ∨ k = 6 ∨ k = 7 ∨ k = 8 ∨ k = 9 ∨ k = 10 ∨ k = 11 ∨ k = 12 ∨ k = 13 := by omega
  all_goals
    go_enter Try.func186, Try.ntmps186
    go_wp2
    exact bodyPost_ret (v := Rule.val (rules _)) (by simp [results, Try.results186, go_sem]; rfl) rfl ⟨rfl, (Below.refl _ _).alloc (Nat.le_refl _) _⟩

theorem maskOf_append (l : List Bool) (f : Bool) : ∀ i, maskOf i (l ++ [f]) = maskOf i l + if f then 2 ^ (i + l.length) else 0 := by
  induction l with
  | nil => intro i; simp [maskOf]
  | cons x l ih => intro i; simp only [List.cons_append, maskOf, ih, List.length_cons]; rw [show i + 1 + l.length = i + (l.length + 1) by omega]; omega
theorem maskOf_le (l : List Bool) : ∀ i, maskOf i l + 2 ^ i ≤ 2 ^ (i + l.length) := by
  induction l with
  | nil => intro i; simp [maskOf]
  | cons x l ih =>
    intro i
    have := ih (i + 1)
    simp only [maskOf, List.length_cons]
    rw [show i + (l.length + 1) = i + 1 + l.length by omega]
    have e : 2 ^ (i + 1) = 2 ^ i + 2 ^ i := by rw [Nat.pow_succ]; omega
    have hp := Nat.two_pow_pos i
    generalize 2 ^ i = p at *
    cases x
    · simp only [Bool.false_eq_true, if_false]; omega
    · simp only [if_true]; omega
theorem maskOf_lt (l : List Bool) : maskOf 0 l < 2 ^ l.length := by
  have := maskOf_le l 0
  simp at this
  omega

set_option maxRecDepth 100000 in
theorem has_calls (b : Bd) (A : Option Addr) (c : Nat) (w : World) (hl : b.list.length ≤ 9223372036854775807) : Calls Try.prog 187 #[b.val A c] w fun e w' => e = .returned (.int .i64 b.mask) ∧ Below w.heap.size w w' := by
  obtain ⟨kind, view, seq, client, stamp, digest, tx, list⟩ := b
  obtain ⟨fl, hfl⟩ : ∃ fl : List Bool, fl = [view != 0, seq != 0, client != 0, stamp != 0, !digest.toList.isEmpty, !tx.toList.isEmpty, decide (0 < list.length)] := ⟨_, rfl⟩
  have HE := Lib.hid (show Bd.mask ⟨kind, view, seq, client, stamp, digest, tx, list⟩ = maskOf 0 fl by rw [hfl]; rfl)
  have HF := Lib.hid (show (fl.map Value.bool).toArray = #[.bool (view != 0), .bool (seq != 0), .bool (client != 0), .bool (stamp != 0), .bool (!digest.toList.isEmpty), .bool (!tx.toList.isEmpty), .bool (decide (0 < list.length))] by rw [hfl]; rfl)
  have HFL := Lib.hid (show fl.length = 7 by rw [hfl]; rfl)
  clear hfl
  unfold Bd.val Bd.cells
  simp only at *
  go_enter Try.func187, Try.ntmps187
  go_wp2
  go_loopg [3, 30] 7 (fun g vn vi wr => ∃ (n k : Nat), vn = .int .i64 n ∧ vi = .int .i64 k ∧ k ≤ 7 ∧ Hid (g + k = 7 ∧ n = maskOf 0 (fl.take k) ∧ Box wr (w.heap.size + 1) (fl.map Value.bool).toArray 4 ∧ Below w.heap.size w wr))
  case atStart =>
    refine ⟨0, 0, rfl, rfl, by omega, rfl, by simp [maskOf], ?_, ((Below.refl _ _).alloc (Nat.le_refl _) _).alloc (by simp) _⟩
    have h := Box.new (w.alloc (.cells #[.int .i64 kind, .int .i64 view, .int .i64 seq, .int .i64 client, .int .i64 stamp, .string digest, .string tx, .slice A list.length c] 59)) #[.bool (view != 0), .bool (seq != 0), .bool (client != 0), .bool (stamp != 0), .bool (!digest.toList.isEmpty), .bool (!tx.toList.isEmpty), .bool (decide (0 < list.length))] 4
    simp only [World.size_alloc] at h
    rw [HF.out]
    exact h
  case round =>
    obtain ⟨n, k, rfl, rfl, hk, HH⟩ := hrel
    obtain ⟨hg, hn, hb, hw⟩ := HH.out
    have HN := Lib.hid hn
    have HB := Lib.hid hb
    have HW := Lib.hid hw
    have HG := Lib.hid hg
    have hfl := HFL.out
    by_cases hlt : k < 7
    · obtain ⟨f, hf⟩ : ∃ f, f = fl[k]'(by omega) := ⟨_, rfl⟩
      have hcell : wr.cell? ⟨w.heap.size + 1, k, none⟩ = some (.bool f) := by rw [hb.cell k, hf]; simp [show k < fl.length by omega]
      have hstep : maskOf 0 (fl.take (k + 1)) = n + if f then 2 ^ k else 0 := by
        rw [List.take_succ_eq_append_getElem (by omega), maskOf_append, ← hn, ← hf]; simp [show min k fl.length = k by omega]
      have hnl : n < 2 ^ k := by have := maskOf_lt (fl.take k); rw [← hn] at this; simpa [show min k fl.length = k by omega] using this
      have hpl : 2 ^ k ≤ 64 := Nat.le_trans (Nat.pow_le_pow_right (by decide) (show k ≤ 6 by omega)) (by decide)
      clear HH hn hb hw hfl hg hf
      cases f with
      | true =>
        simp only [if_true] at hstep
        have hor := i64_or_nat n (2 ^ k) (by omega) (by omega)
        have e : n ||| 2 ^ k = n + 2 ^ k := by have := or_digit n 1 k hnl; simpa using this
        rw [e] at hor
        obtain ⟨m, hm⟩ : ∃ m, m = n + 2 ^ k := ⟨_, rfl⟩
        rw [← hm] at hor hstep
        obtain ⟨u, hu⟩ : ∃ u : Nat, u = 2 ^ k := ⟨_, rfl⟩
        have hsh : wrap64 ((2 : Int) ^ k) = (u : Int) := by
          rw [hu]; unfold wrap64
          have : ((2 : Int) ^ k) = ((2 ^ k : Nat) : Int) := by rw [Int.natCast_pow]; rfl
          rw [this]; omega
        rw [← hu] at hor hpl
        clear hm hu e
        have HS := Lib.hid hstep
        clear hstep hnl
        go_wp2
        go_roundg (gk - 1)
        case measure => have := HG.out; omega
        case rel => exact ⟨m, k + 1, rfl, by go_num, by omega, by have := HG.out; omega, HS.out.symm, HB.out, HW.out⟩
      | false =>
        have HS := Lib.hid hstep
        clear hstep hnl
        go_wp2
        go_roundg (gk - 1)
        case measure => have := HG.out; omega
        case rel => exact ⟨n, k + 1, rfl, by go_num, by omega, by have := HG.out; omega, by have := HS.out; simpa using this.symm, HB.out, HW.out⟩
    · have hd : decide ((k : Int) < 7) = false := by simp; omega
      clear HH hn hb hw hfl hg
      go_wp2
      go_ret
      refine ⟨?_, HW.out⟩
      rw [HE.out, HN.out, List.take_of_length_le (by have := HFL.out; omega)]
      rfl
end Go.Proofs.Ytfgpchffkpomoaa
