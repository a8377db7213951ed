/- Bodies: the table of kinds, and which fields are set. -/
import Derived.Test.YtehbpjkeflcanaaRefNum
import Derived.Deep.DeepCutAuto
namespace Go.Proofs.Ytehbpjkeflcanaa
set_option linter.unusedSimpArgs false
set_option linter.unusedVariables false
open Go.RowKit

structure Bd where
  kind : Int
  view : Int
  seq : Int
  client : Int
  stamp : Int
  digest : ByteArray
  text : ByteArray
  list : List Sg

abbrev Bd.cells (b : Bd) (A : Option Addr) (c : Nat) : Array Value := #[.int .i64 b.kind, .int .i64 b.view, .int .i64 b.seq, .int .i64 b.client, .int .i64 b.stamp, .string b.digest, .string b.text, .slice A b.list.length c]
abbrev Bd.val (b : Bd) (A : Option Addr) (c : Nat) : Value := .agg (b.cells A c)

/-- Which fields are set, the lowest bit first. -/
def Bd.flags (b : Bd) : List Bool := [b.view != 0, b.seq != 0, b.client != 0, b.stamp != 0, !b.digest.toList.isEmpty, !b.text.toList.isEmpty, decide (0 < b.list.length)]
def maskOf : Nat → List Bool → Nat
  | _, [] => 0
  | i, f :: l => (if f then 2 ^ i else 0) + maskOf (i + 1) l
def Bd.mask (b : Bd) : Nat := maskOf 0 b.flags

structure Rule where
  may : Nat
  must : Nat
  list : Nat
  text : Nat
def rules (k : Int) : Rule :=
  if k = 1 then ⟨44, 8, 0, 256⟩ else if k = 2 then ⟨67, 2, 4, 0⟩ else if k = 3 ∨ k = 4 then ⟨19, 18, 0, 0⟩ else if k = 5 then ⟨18, 18, 0, 0⟩ else if k = 6 then ⟨67, 1, 64, 0⟩
  else if k = 7 then ⟨65, 65, 64, 0⟩ else if k = 8 then ⟨15, 0, 0, 0⟩ else if k = 9 ∨ k = 13 then ⟨114, 82, 64, 1048576⟩ else if k = 10 then ⟨45, 8, 0, 256⟩ else if k = 11 then ⟨115, 82, 64, 1048576⟩
  else ⟨36, 0, 0, 64⟩
def Rule.val (r : Rule) : Value := .agg #[.int .i64 r.may, .int .i64 r.must, .int .i64 r.list, .int .i64 r.text]

set_option maxHeartbeats 4000000 in
set_option maxRecDepth 100000 in
theorem rules_calls (k : Int) (h1 : 1 ≤ k) (h2 : k ≤ 13) (w : World) : Calls Try.prog 58 #[.int .i64 k] w fun e w' => e = .returned (rules k).val ∧ Below w.heap.size w w' := by
  obtain rfl | rfl | rfl | rfl | rfl | rfl | rfl | rfl | rfl | rfl | rfl | rfl | rfl : k = 1 ∨ k = 2 ∨ k = 3 ∨ k = 4 ∨ k = 5 ∨ k = 6 ∨ k = 7 ∨ k = 8 ∨ k = 9 ∨ k = 10 ∨ k = 11 ∨ k = 12 ∨ k = 13 := by omega
  all_goals
    go_enter Try.func58, Try.ntmps58
    go_wp2
    exact bodyPost_ret (v := Rule.val (rules _)) (by simp [results, Try.results58, go_sem]; rfl) rfl ⟨rfl, (Below.refl _ _).alloc (Nat.le_refl _) _⟩

theorem maskOf_append (l : List Bool) (f : Bool) : ∀ i, maskOf i (l ++ [f]) = maskOf i l + if f then 2 ^ (i + l.length) else 0 := by
  induction l with
  | nil => intro i; simp [maskOf]
  | cons x l ih => intro i; simp only [List.cons_append, maskOf, ih, List.length_cons]; rw [show i + 1 + l.length = i + (l.length + 1) by omega]; omega
theorem maskOf_le (l : List Bool) : ∀ i, maskOf i l + 2 ^ i ≤ 2 ^ (i + l.length) := by
  induction l with
  | nil => intro i; simp [maskOf]
  | cons x l ih =>
    intro i
    have := ih (i + 1)
    simp only [maskOf, List.length_cons]
    rw [show i + (l.length + 1) = i + 1 + l.length by omega]
    have e : 2 ^ (i + 1) = 2 ^ i + 2 ^ i := by rw [Nat.pow_succ]; omega
    have hp := Nat.two_pow_pos i
    generalize 2 ^ i = p at *
    cases x
    · simp only [Bool.false_eq_true, if_false]; omega
    · simp only [if_true]; omega
theorem maskOf_lt (l : List Bool) : maskOf 0 l < 2 ^ l.length := by
  have := maskOf_le l 0
  simp at this
  omega

set_option maxRecDepth 100000 in
theorem has_calls (b : Bd) (A : Option Addr) (c : Nat) (w : World) (hl : b.list.length ≤ 9223372036854775807) : Calls Try.prog 59 #[b.val A c] w fun e w' => e = .returned (.int .i64 b.mask) ∧ Below w.heap.size w w' := by
  obtain ⟨kind, view, seq, client, stamp, digest, tx, list⟩ := b
  obtain ⟨fl, hfl⟩ : ∃ fl : List Bool, fl = [view != 0, seq != 0, client != 0, stamp != 0, !digest.toList.isEmpty, !tx.toList.isEmpty, decide (0 < list.length)] := ⟨_, rfl⟩
  have HE := Lib.hid (show Bd.mask ⟨kind, view, seq, client, stamp, digest, tx, list⟩ = maskOf 0 fl by rw [hfl]; rfl)
  have HF := Lib.hid (show (fl.map Value.bool).toArray = #[.bool (view != 0), .bool (seq != 0), .bool (client != 0), .bool (stamp != 0), .bool (!digest.toList.isEmpty), .bool (!tx.toList.isEmpty), .bool (decide (0 < list.length))] by rw [hfl]; rfl)
  have HFL := Lib.hid (show fl.length = 7 by rw [hfl]; rfl)
  clear hfl
  unfold Bd.val Bd.cells
  simp only at *
  go_enter Try.func59, Try.ntmps59
  go_wp2
  go_loopg [3, 30] 7 (fun g vn vi wr => ∃ (n k : Nat), vn = .int .i64 n ∧ vi = .int .i64 k ∧ k ≤ 7 ∧ Hid (g + k = 7 ∧ n = maskOf 0 (fl.take k) ∧ Box wr (w.heap.size + 1) (fl.map Value.bool).toArray 4 ∧ Below w.heap.size w wr))
  case atStart =>
    refine ⟨0, 0, rfl, rfl, by omega, rfl, by simp [maskOf], ?_, ((Below.refl _ _).alloc (Nat.le_refl _) _).alloc (by simp) _⟩
    have h := Box.new (w.alloc (.cells #[.int .i64 kind, .int .i64 view, .int .i64 seq, .int .i64 client, .int .i64 stamp, .string digest, .string tx, .slice A list.length c] 24)) #[.bool (view != 0), .bool (seq != 0), .bool (client != 0), .bool (stamp != 0), .bool (!digest.toList.isEmpty), .bool (!tx.toList.isEmpty), .bool (decide (0 < list.length))] 4
    simp only [World.size_alloc] at h
    rw [HF.out]
    exact h
  case round =>
    obtain ⟨n, k, rfl, rfl, hk, HH⟩ := hrel
    obtain ⟨hg, hn, hb, hw⟩ := HH.out
    have HN := Lib.hid hn
    have HB := Lib.hid hb
    have HW := Lib.hid hw
    have HG := Lib.hid hg
    have hfl := HFL.out
    by_cases hlt : k < 7
    · obtain ⟨f, hf⟩ : ∃ f, f = fl[k]'(by omega) := ⟨_, rfl⟩
      have hcell : wr.cell? ⟨w.heap.size + 1, k, none⟩ = some (.bool f) := by rw [hb.cell k, hf]; simp [show k < fl.length by omega]
      have hstep : maskOf 0 (fl.take (k + 1)) = n + if f then 2 ^ k else 0 := by
        rw [List.take_succ_eq_append_getElem (by omega), maskOf_append, ← hn, ← hf]; simp [show min k fl.length = k by omega]
      have hnl : n < 2 ^ k := by have := maskOf_lt (fl.take k); rw [← hn] at this; simpa [show min k fl.length = k by omega] using this
      have hpl : 2 ^ k ≤ 64 := Nat.le_trans (Nat.pow_le_pow_right (by decide) (show k ≤ 6 by omega)) (by decide)
      clear HH hn hb hw hfl hg hf
      cases f with
      | true =>
        simp only [if_true] at hstep
        have hor := i64_or_nat n (2 ^ k) (by omega) (by omega)
        have e : n ||| 2 ^ k = n + 2 ^ k := by have := or_digit n 1 k hnl; simpa using this
        rw [e] at hor
        obtain ⟨m, hm⟩ : ∃ m, m = n + 2 ^ k := ⟨_, rfl⟩
        rw [← hm] at hor hstep
        obtain ⟨u, hu⟩ : ∃ u : Nat, u = 2 ^ k := ⟨_, rfl⟩
        have hsh : wrap64 ((2 : Int) ^ k) = (u : Int) := by
          rw [hu]; unfold wrap64
          have : ((2 : Int) ^ k) = ((2 ^ k : Nat) : Int) := by rw [Int.natCast_pow]; rfl
          rw [this]; omega
        rw [← hu] at hor hpl
        clear hm hu e
        have HS := Lib.hid hstep
        clear hstep hnl
        go_wp2
        go_roundg (gk - 1)
        case measure => have := HG.out; omega
        case rel => exact ⟨m, k + 1, rfl, by go_num, by omega, by have := HG.out; omega, HS.out.symm, HB.out, HW.out⟩
      | false =>
        have HS := Lib.hid hstep
        clear hstep hnl
        go_wp2
        go_roundg (gk - 1)
        case measure => have := HG.out; omega
        case rel => exact ⟨n, k + 1, rfl, by go_num, by omega, by have := HG.out; omega, by have := HS.out; simpa using this.symm, HB.out, HW.out⟩
    · have hd : decide ((k : Int) < 7) = false := by simp; omega
      clear HH hn hb hw hfl hg
      go_wp2
      go_ret
      refine ⟨?_, HW.out⟩
      rw [HE.out, HN.out, List.take_of_length_le (by have := HFL.out; omega)]
      rfl
end Go.Proofs.Ytehbpjkeflcanaa
