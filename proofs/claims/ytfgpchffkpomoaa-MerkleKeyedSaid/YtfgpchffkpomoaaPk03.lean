/- Texts of this proof, several in one file; each says ahead of it what it proves. -/
import Derived.Test.YtfgpchffkpomoaaPk02
import Derived.Handy
import Derived.Test.YtfgpchffkpomoaaPk01
import Derived.Deep.RegionLaw
import Derived.StillTailTactics
/- A number's eight bytes, the highest first; and that they tell the number. In plain words. -/
namespace Go.Proofs.Ytfgpchffkpomoaa
set_option linter.unusedSimpArgs false
set_option linter.unusedVariables false

/-- k bytes of a number, the highest first. -/
def be : Nat → Nat → List UInt8
  | 0, _ => []
  | k + 1, n => be k (n / 256) ++ [UInt8.ofNat (n % 256)]
theorem be_length : ∀ (k n : Nat), (be k n).length = k
  | 0, _ => rfl
  | k + 1, n => by simp [be, be_length k]
/-- The first i bytes of the k are those of what is above. -/
theorem be_take : ∀ (k n i : Nat), i ≤ k → (be k n).take i = be i (n / 256 ^ (k - i))
  | 0, n, i, h => by
    obtain rfl : i = 0 := by omega
    rfl
  | k + 1, n, i, h => by
    by_cases e : i = k + 1
    · subst e
      rw [List.take_of_length_le (by rw [be_length]; exact Nat.le_refl _), Nat.sub_self, Nat.pow_zero, Nat.div_one]
    · rw [be, List.take_append_of_le_length (by rw [be_length]; omega), be_take k (n / 256) i (by omega), Nat.div_div_eq_div_mul, show k + 1 - i = (k - i) + 1 by omega, Nat.pow_succ, Nat.mul_comm]
theorem be_next (k n i : Nat) (h : i < k) : be (i + 1) (n / 256 ^ (k - (i + 1))) = be i (n / 256 ^ (k - i)) ++ [UInt8.ofNat (n / 256 ^ (k - (i + 1)) % 256)] := by
  rw [be, Nat.div_div_eq_div_mul, ← Nat.pow_succ, show (k - (i + 1)).succ = k - i by omega]
theorem be_inj : ∀ (k n m : Nat), n < 256 ^ k → m < 256 ^ k → be k n = be k m → n = m
  | 0, n, m, hn, hm, _ => by simp at hn hm; omega
  | k + 1, n, m, hn, hm, h => by
    unfold be at h
    obtain ⟨h1, h2⟩ := List.append_inj h (by rw [be_length, be_length])
    have e := be_inj k (n / 256) (m / 256) (Nat.div_lt_of_lt_mul (by rw [Nat.pow_succ] at hn; omega)) (Nat.div_lt_of_lt_mul (by rw [Nat.pow_succ] at hm; omega)) h1
    have h3 := congrArg UInt8.toNat (List.cons.inj h2).1
    rw [UInt8.toNat_ofNat', UInt8.toNat_ofNat'] at h3
    omega
def eight (n : Nat) : ByteArray := bs (be 8 n)
theorem eight_size (n : Nat) : (eight n).size = 8 := by unfold eight; rw [bs_size, be_length]
theorem eight_inj {n m : Nat} (hn : n < 18446744073709551616) (hm : m < 18446744073709551616) (h : eight n = eight m) : n = m := by
  refine be_inj 8 n m (by simpa using hn) (by simpa using hm) ?_
  have := congrArg (fun s : ByteArray => s.data.toList) h
  simpa [eight, bs] using this
end Go.Proofs.Ytfgpchffkpomoaa

/- The walk through eight: a number's eight bytes, the highest first. -/
namespace Go.Proofs.Ytfgpchffkpomoaa
set_option linter.unusedSimpArgs false
set_option linter.unusedVariables false
open Go.RowKit

theorem be8 (n : Nat) : be 8 n = [UInt8.ofNat (n / 72057594037927936 % 256), UInt8.ofNat (n / 281474976710656 % 256), UInt8.ofNat (n / 1099511627776 % 256), UInt8.ofNat (n / 4294967296 % 256), UInt8.ofNat (n / 16777216 % 256), UInt8.ofNat (n / 65536 % 256), UInt8.ofNat (n / 256 % 256), UInt8.ofNat (n % 256)] := by
  simp [be, Nat.div_div_eq_div_mul]

set_option maxHeartbeats 1000000 in
set_option maxRecDepth 100000 in
theorem eight_calls (n : Nat) (w : World) (hn : n ≤ 1152921504606846976) : Calls Try.prog 215 #[.int .i64 n] w fun e w' => e = .returned (.string (eight n)) ∧ Below w.heap.size w w' := by
  have hmk : ∀ w : World, (Instr.makeSlice 205 (.int .i64 8) (.int .i64 8)).run Try.prog w = .ok (.slice (some ⟨w.heap.size, 0, none⟩) 8 8) (w.alloc (.cells #[.int .u8 0, .int .u8 0, .int .u8 0, .int .u8 0, .int .u8 0, .int .u8 0, .int .u8 0, .int .u8 0] 5)) := fun _ => by kernel_rfl
  obtain ⟨W, hW⟩ : ∃ W, W = w.alloc (.cells #[.int .u8 ((n : Int) / 72057594037927936), .int .u8 ((n : Int) / 281474976710656 % 256), .int .u8 ((n : Int) / 1099511627776 % 256), .int .u8 ((n : Int) / 4294967296 % 256), .int .u8 ((n : Int) / 16777216 % 256), .int .u8 ((n : Int) / 65536 % 256), .int .u8 ((n : Int) / 256 % 256), .int .u8 ((n : Int) % 256)] 5) := ⟨_, rfl⟩
  have hst : (convert 205 9 (.slice (some ⟨w.heap.size, 0, none⟩) 8 8)).run Try.prog W = .ok (.string (eight n)) W := by
    have hl : (be 8 n).length = 8 := be_length 8 n
    have h := run_convert_bytes_back W 205 9 5 ⟨w.heap.size, 0, none⟩ 8 (be 8 n) Try.underlying205 Try.underlying5 Try.underlying9 (by
      intro j hj
      rw [hl] at hj
      have hc : ∀ i, W.cell? ⟨w.heap.size, i, none⟩ = (#[Value.int .u8 ((n : Int) / 72057594037927936), .int .u8 ((n : Int) / 281474976710656 % 256), .int .u8 ((n : Int) / 1099511627776 % 256), .int .u8 ((n : Int) / 4294967296 % 256), .int .u8 ((n : Int) / 16777216 % 256), .int .u8 ((n : Int) / 65536 % 256), .int .u8 ((n : Int) / 256 % 256), .int .u8 ((n : Int) % 256)])[i]? := by
        rw [hW]; exact (Box.new w _ _).cell
      have e : (⟨w.heap.size, 0, none⟩ : Addr).add j = ⟨w.heap.size, j, none⟩ := by unfold Addr.add; split <;> simp_all
      rw [e, hc]
      have hb := be8 n
      have h8 : j = 0 ∨ j = 1 ∨ j = 2 ∨ j = 3 ∨ j = 4 ∨ j = 5 ∨ j = 6 ∨ j = 7 := by omega
      rcases h8 with rfl | rfl | rfl | rfl | rfl | rfl | rfl | rfl <;> (simp only [hb]; exact congrArg some (byteVal_of (by omega) (by omega))))
    rw [hl] at h
    exact h
  have HB := (show Below w.heap.size w W by rw [hW]; exact (Below.refl _ _).alloc (Nat.le_refl _) _)
  subst hW
  have HB := Lib.hid HB
  go_enter Try.func215, Try.ntmps215
  go_wp2
  go_rounds 9
  go_ret
  exact ⟨rfl, HB.out⟩
end Go.Proofs.Ytfgpchffkpomoaa

/- A book that numbers: what stands in memory, and the walks through its scheme: digest, sign, check, issued. -/
namespace Go.Proofs.Ytfgpchffkpomoaa
set_option linter.unusedSimpArgs false
set_option linter.unusedVariables false
open Go.RowKit
open Go.Maps (Keyed)

theorem laidOut0 : laidOutB Try.prog = true := by kernel_rfl
theorem keyText : Keyed Try.prog 9 := Go.Maps.string_keyed Try.underlying9
theorem keyWord : Keyed Try.prog 281 :=
  Keyed.of_law (deep_law_laid laidOut0 (m := 2) (by omega) (of_decide_eq_true (by kernel_rfl)) (by kernel_rfl) (by rw [Try.underlying281]))

abbrev Wd := Int × ByteArray
def wordVal (x : Wd) : Value := .agg #[.int .i64 x.1, .string x.2]
theorem word_key {who : Int} {s : ByteArray} (h0 : 0 ≤ who) (h1 : who ≤ 255) (hs : s.size ≤ maxLen) : ∃ l, keyOf Try.prog 281 (.agg #[.int .i64 who, .string s]) = some l := by
  have hk : Try.prog.keyType 281 = true := by kernel_rfl
  have hc : Try.prog.cellsOf 281 = 2 := by kernel_rfl
  have hc1 : Try.prog.cellsOf 3 = 1 := by kernel_rfl
  have hc2 : Try.prog.cellsOf 9 = 1 := by kernel_rfl
  have hz : ∃ n, Try.prog.types.size = n + 1 := ⟨Try.prog.types.size - 1, by have : 0 < Try.prog.types.size := of_decide_eq_true (by kernel_rfl); omega⟩
  obtain ⟨n, hn⟩ := hz
  have hw : (Lit.int .i64 who).wf = true := by
    show (decide (IntKind.i64.min ≤ who) && decide (who ≤ IntKind.i64.max)) = true
    rw [show IntKind.i64.min = -9223372036854775808 by decide, show IntKind.i64.max = 9223372036854775807 by decide]
    simp; omega
  refine ⟨.string (keyBytes [.int .i64 who, .string s.data.toList]), ?_⟩
  unfold keyOf
  rw [Try.underlying281]
  simp only [hk, Value.formed, Try.underlying281, hc, Bool.true_and]
  rw [hn]
  simp [Program.keyLits, Try.underlying281, Try.underlying3, Try.underlying9, hc, hc1, hc2, hw, hs, Value.cells]

/-- What was numbered: the i-th with i + 1. -/
def numbered {α : Type} (f : α → Value) (l : List α) : List (Value × Value) := l.mapIdx (fun i x => (f x, .int .i64 ((i + 1 : Nat) : Int)))
theorem numbered_length {α : Type} (f : α → Value) (l : List α) : (numbered f l).length = l.length := by simp [numbered]
theorem numbered_snoc {α : Type} (f : α → Value) (l : List α) (x : α) : numbered f (l ++ [x]) = numbered f l ++ [(f x, .int .i64 ((l.length + 1 : Nat) : Int))] := by
  simp [numbered, List.mapIdx_append]
theorem numbered_mem {α : Type} {f : α → Value} {l : List α} {i : Nat} {x : α} (h : l[i]? = some x) : (f x, Value.int .i64 ((i + 1 : Nat) : Int)) ∈ numbered f l := by
  refine List.mem_of_getElem? (i := i) ?_
  simp [numbered, h]
theorem numbered_not {α : Type} {f : α → Value} (hf : ∀ a b, f a = f b → a = b) {l : List α} {x : α} (h : x ∉ l) : ∀ v, (f x, v) ∉ numbered f l := by
  intro v hv
  obtain ⟨i, hi, he⟩ := List.getElem_of_mem hv
  simp only [numbered, List.getElem_mapIdx, Prod.mk.injEq] at he
  refine h ?_
  rw [← hf _ _ he.1]
  exact List.getElem_mem _
theorem text_inj (a b : ByteArray) (h : Value.string a = Value.string b) : a = b := by simpa using h
theorem word_inj (a b : Wd) (h : wordVal a = wordVal b) : a = b := by
  obtain ⟨x, y⟩ := a
  obtain ⟨z, u⟩ := b
  simp only [wordVal, Value.agg.injEq] at h
  have := congrArg Array.toList h
  simp at this
  rw [this.1, this.2]

/-- A book in block b; its table in block t; the maps of texts and words in m and n. What was digested, and what was signed, in their order. -/
structure Bk (w : World) (b t m n : Nat) (T : List ByteArray) (S : List Wd) : Prop where
  book : w.cell? ⟨b, 0, none⟩ = some (.iface 167 (.pointer (some ⟨t, 0, none⟩)))
  texts : w.cell? ⟨t, 0, none⟩ = some (.map (some m))
  words : w.cell? ⟨t, 1, none⟩ = some (.map (some n))
  tm : MapIs 9 w m (numbered .string T)
  wm : MapIs 281 w n (numbered wordVal S)
  lt : b < w.heap.size ∧ t < w.heap.size
  ne : m ≠ n ∧ b ≠ m ∧ b ≠ n ∧ t ≠ m ∧ t ≠ n

theorem Bk.ch {w w' : World} {b t m n B : Nat} {T : List ByteArray} {S : List Wd} {X : Nat → Prop} (h : Bk w b t m n T S) (hc : Ch B X w w') (hB : w.heap.size ≤ B) (hX : ¬ X b ∧ ¬ X t ∧ ¬ X m ∧ ¬ X n) : Bk w' b t m n T S := by
  have l1 := h.lt.1
  have l2 := h.lt.2
  have l3 := h.tm.lt
  have l4 := h.wm.lt
  exact ⟨(hc.cell (p := ⟨b, 0, none⟩) (by simp only; omega) hX.1).trans h.book, (hc.cell (p := ⟨t, 0, none⟩) (by simp only; omega) hX.2.1).trans h.texts, (hc.cell (p := ⟨t, 1, none⟩) (by simp only; omega) hX.2.1).trans h.words,
    h.tm.ch hc (by omega) hX.2.2.1, h.wm.ch hc (by omega) hX.2.2.2, ⟨Nat.lt_of_lt_of_le l1 hc.size, Nat.lt_of_lt_of_le l2 hc.size⟩, h.ne⟩
theorem Bk.below {w w' : World} {b t m n : Nat} {T : List ByteArray} {S : List Wd} (h : Bk w b t m n T S) (hc : Below w.heap.size w w') : Bk w' b t m n T S :=
  h.ch (X := fun _ => False) (Ch.of_below hc) (Nat.le_refl _) ⟨fun h => h, fun h => h, fun h => h, fun h => h⟩
theorem Bk.alloc {w : World} {b t m n : Nat} {T : List ByteArray} {S : List Wd} (h : Bk w b t m n T S) (o : Obj) : Bk (w.alloc o) b t m n T S := h.below ((Below.refl _ _).alloc (Nat.le_refl _) _)
theorem Bk.drewN {w : World} {b t m n : Nat} {T : List ByteArray} {S : List Wd} (h : Bk w b t m n T S) (k : Nat) : Bk (w.drewN k) b t m n T S := ⟨h.book, h.texts, h.words, h.tm.drewN k, h.wm.drewN k, h.lt, h.ne⟩
theorem Bk.drew {w : World} {b t m n : Nat} {T : List ByteArray} {S : List Wd} (h : Bk w b t m n T S) : Bk w.drew b t m n T S := h.drewN 1

theorem Bk.pushed {w w' : World} {b t m n : Nat} {T : List ByteArray} {S : List Wd} {s : ByteArray} (h : Bk w b t m n T S) (hm : MapIs 9 w' m (numbered .string T ++ [(.string s, .int .i64 ((T.length : Int) + 1))])) (hc : Ch w.heap.size (· = m) w w') : Bk w' b t m n (T ++ [s]) S := by
  obtain ⟨e1, e2, e3, e4, e5⟩ := h.ne
  have l1 := h.lt.1
  have l2 := h.lt.2
  refine ⟨(hc.cell (p := ⟨b, 0, none⟩) l1 e2).trans h.book, (hc.cell (p := ⟨t, 0, none⟩) l2 e4).trans h.texts, (hc.cell (p := ⟨t, 1, none⟩) l2 e4).trans h.words, ?_, h.wm.ch hc h.wm.lt (Ne.symm e1), ⟨Nat.lt_of_lt_of_le l1 hc.size, Nat.lt_of_lt_of_le l2 hc.size⟩, h.ne⟩
  rw [numbered_snoc]; exact hm
theorem Bk.signed {w w' : World} {b t m n : Nat} {T : List ByteArray} {S : List Wd} {x : Wd} (h : Bk w b t m n T S) (hm : MapIs 281 w' n (numbered wordVal S ++ [(wordVal x, .int .i64 ((S.length : Int) + 1))])) (hc : Ch w.heap.size (· = n) w w') : Bk w' b t m n T (S ++ [x]) := by
  obtain ⟨e1, e2, e3, e4, e5⟩ := h.ne
  have l1 := h.lt.1
  have l2 := h.lt.2
  refine ⟨(hc.cell (p := ⟨b, 0, none⟩) l1 e3).trans h.book, (hc.cell (p := ⟨t, 0, none⟩) l2 e5).trans h.texts, (hc.cell (p := ⟨t, 1, none⟩) l2 e5).trans h.words, h.tm.ch hc h.tm.lt e1, ?_, ⟨Nat.lt_of_lt_of_le l1 hc.size, Nat.lt_of_lt_of_le l2 hc.size⟩, h.ne⟩
  rw [numbered_snoc]; exact hm

/-- Where something stands first. -/
def place {α : Type} [DecidableEq α] (x : α) : List α → Option Nat
  | [] => none
  | y :: l => if y = x then some 0 else (place x l).map (· + 1)
section
variable {α : Type} [DecidableEq α] {x : α}
theorem place_get : ∀ {l : List α} {i : Nat}, place x l = some i → l[i]? = some x
  | [], i, h => by cases h
  | y :: l, i, h => by
    unfold place at h
    split at h
    · rename_i e
      obtain rfl := Option.some.inj h
      simp [e]
    · obtain ⟨j, hj, rfl⟩ := Option.map_eq_some_iff.1 h
      simpa using place_get hj
theorem place_first : ∀ {l : List α} {i : Nat}, place x l = some i → ∀ j, j < i → l[j]? ≠ some x
  | [], i, h => by cases h
  | y :: l, i, h => by
    unfold place at h
    split at h
    · obtain rfl := Option.some.inj h
      intro j hj; omega
    · rename_i e
      obtain ⟨k, hk, rfl⟩ := Option.map_eq_some_iff.1 h
      intro j hj
      cases j with
      | zero => simpa using e
      | succ j => simpa using place_first hk j (by omega)
theorem place_lt {l : List α} {i : Nat} (h : place x l = some i) : i < l.length := (List.getElem?_eq_some_iff.1 (place_get h)).1
theorem place_mem {l : List α} {i : Nat} (h : place x l = some i) : x ∈ l := List.mem_of_getElem? (place_get h)
theorem place_none : ∀ {l : List α}, place x l = none → x ∉ l
  | [], _ => by simp
  | y :: l, h => by
    unfold place at h
    split at h
    · cases h
    · rename_i e
      have h1 := place_none (Option.map_eq_none_iff.1 h)
      simp only [List.mem_cons, not_or]
      exact ⟨fun e' => e e'.symm, h1⟩
theorem place_not {l : List α} (h : x ∉ l) : place x l = none := by
  cases e : place x l with
  | none => rfl
  | some i => exact absurd (place_mem e) h
theorem place_app : ∀ {l : List α} {i : Nat} (m : List α), place x l = some i → place x (l ++ m) = some i
  | [], i, m, h => by cases h
  | y :: l, i, m, h => by
    rw [List.cons_append]
    unfold place at h ⊢
    by_cases e : y = x
    · rw [if_pos e] at h ⊢; exact h
    · rw [if_neg e] at h ⊢
      obtain ⟨j, hj, rfl⟩ := Option.map_eq_some_iff.1 h
      rw [place_app m hj]
      rfl
theorem place_snoc : ∀ {l : List α}, x ∉ l → place x (l ++ [x]) = some l.length
  | [], _ => by simp [place]
  | y :: l, h => by
    simp only [List.mem_cons, not_or] at h
    rw [List.cons_append]
    unfold place
    rw [if_neg (fun e => h.1 e.symm), place_snoc h.2]
    rfl
end

/-- The digest of a text, and the texts then. -/
def digS (T : List ByteArray) (s : ByteArray) : ByteArray × List ByteArray := match place s T with
  | some i => (eight (i + 1), T)
  | none => (eight (T.length + 1), T ++ [s])
def sigOf (i : Nat) : ByteArray := bs [115] ++ eight (i + 1)
def signS (S : List Wd) (x : Wd) : ByteArray × List Wd := match place x S with
  | some i => (sigOf i, S)
  | none => (sigOf S.length, S ++ [x])
def checkS (S : List Wd) (x : Wd) (sig : ByteArray) : Bool := match place x S with
  | some i => decide (sig = sigOf i)
  | none => false

theorem zero_int (w : World) : (zeroValue 3).run Try.prog w = .ok (.int .i64 0) w := by kernel_rfl
theorem Bk.look_word {w : World} {b t m n : Nat} {T : List ByteArray} {S : List Wd} (h : Bk w b t m n T S) {who : Int} {s : ByteArray} (h0 : 0 ≤ who) (h1 : who ≤ 255) (hs : s.size ≤ maxLen) :
    (∀ i, place (who, s) S = some i → (Instr.lookup 169 (.map (some n)) (.agg #[.int .i64 who, .string s]) true).run Try.prog w = .ok (.tuple #[.int .i64 ((i + 1 : Nat) : Int), .bool true]) w) ∧
    (place (who, s) S = none → (Instr.lookup 169 (.map (some n)) (.agg #[.int .i64 who, .string s]) true).run Try.prog w = .ok (.tuple #[.int .i64 0, .bool false]) w) := by
  obtain ⟨kl, hkey⟩ := word_key h0 h1 hs
  obtain ⟨l1, l2⟩ := h.wm.look (T := 169) keyWord Try.underlying169 (zero_int w) hkey true
  exact ⟨fun i hi => l1 _ (numbered_mem (f := wordVal) (place_get hi)), fun hn => l2 (numbered_not (f := wordVal) word_inj (place_none hn))⟩
theorem Bk.len_words {w : World} {b t m n : Nat} {T : List ByteArray} {S : List Wd} (h : Bk w b t m n T S) : (Builtin.len_ #[169] 3 #[.map (some n)]).run Try.prog w = .ok (.int .i64 (S.length : Int)) w := by
  have := h.wm.len Try.underlying169 3
  rwa [numbered_length] at this

def TextPost (s : ByteArray) (X : Nat → Prop) (Q : World → Prop) (w : World) (e : Ending) (w' : World) : Prop := e = .returned (.string s) ∧ Ch w.heap.size X w w' ∧ Q w'

set_option maxRecDepth 100000 in
theorem tdigest_calls (b t m n : Nat) (T : List ByteArray) (S : List Wd) (s : ByteArray) (w : World) (hb : Bk w b t m n T S) (hT : T.length ≤ 1000000000) (hs : s.size ≤ maxLen) :
    Calls Try.prog 212 #[.pointer (some ⟨t, 0, none⟩), .string s] w (TextPost (digS T s).1 (· = m) (fun w' => Bk w' b t m n (digS T s).2 S) w) := by
  have HBK := Lib.hid hb
  have k1 := hb.texts
  have hz : (zeroValue 3).run Try.prog w = .ok (.int .i64 0) w := by kernel_rfl
  have hkey : keyOf Try.prog 9 (.string s) = some (.string s.data.toList) := Go.WideMaps.keyOf_string_mk Try.underlying9 hs
  obtain ⟨l1, l2⟩ := hb.tm.look (T := 168) keyText Try.underlying168 hz hkey true
  cases h : place s T with
  | some i0 =>
    have hi := place_lt h
    have hl := l1 _ (numbered_mem (place_get h))
    have HD := Lib.hid (show digS T s = (eight (i0 + 1), T) by unfold digS; rw [h])
    obtain ⟨i, hii⟩ : ∃ i, i = i0 + 1 := ⟨_, rfl⟩
    rw [← hii] at hl HD
    have HE := Lib.hid (fun w => eight_calls i w (by omega))
    clear hb l1 l2 h hi hii hkey hz
    go_enter Try.func212, Try.ntmps212
    go_wp2_with fail
    refine (HE.out _).mono ?_
    rintro e w1 ⟨rfl, hb1⟩
    have HB1 := Lib.hid hb1
    clear hb1
    go_wp2
    go_ret
    rw [HD.out]
    exact ⟨rfl, Ch.of_below HB1.out, HBK.out.below HB1.out⟩
  | none =>
    have hn := numbered_not text_inj (place_none h)
    have hl := l2 hn
    have hlen := hb.tm.len Try.underlying168 3
    rw [numbered_length] at hlen
    have HD := Lib.hid (show digS T s = (eight (T.length + 1), T ++ [s]) by unfold digS; rw [h])
    have HE := Lib.hid (fun w => eight_calls (T.length + 1) w (by omega))
    have HN := Lib.hid hn
    have HKEY := Lib.hid hkey
    clear hb l1 l2 h hkey hz hn
    go_enter Try.func212, Try.ntmps212
    go_wp2_with (at_mapUpdate; refine wpList_push _ rfl (.tmp 27) (.tmp 28) (.tmp 29) rfl keyText Try.underlying168 m (numbered .string T) rfl HBK.out.tm _ _ _ rfl rfl HKEY.out HN.out ?_; intro w1 hm1 hc1 hs1; have HB1 := Lib.hid (Bk.pushed HBK.out hm1 hc1); have HC1 := Lib.hid hc1; clear hm1 hc1 hs1)
    refine (HE.out _).mono ?_
    rintro e w2 ⟨rfl, hb2⟩
    have HB2 := Lib.hid (HB1.out.below hb2)
    have HC2 := Lib.hid (HC1.out.step (Ch.of_below (S := fun _ => False) hb2) HC1.out.size (fun _ _ h => h.elim))
    clear hb2
    go_wp2
    go_ret
    rw [HD.out]
    exact ⟨rfl, HC2.out, HB2.out⟩

theorem beq_list (a b : ByteArray) : (a.toList == b.toList) = decide (a = b) := by
  by_cases h : a = b
  · subst h; simp
  · rw [decide_eq_false h, beq_eq_false_iff_ne]
    intro e
    apply h
    have e2 := beq_toListBytes a b
    rw [e, beq_self_eq_true] at e2
    obtain ⟨x⟩ := a
    obtain ⟨y⟩ := b
    have e3 : (x == y) = true := e2
    rw [eq_of_beq e3]
/-- What signing answers. -/
def SignPost (g : ByteArray) (n : Nat) (Q : World → Prop) (w : World) (e : Ending) (w' : World) : Prop := e = .returned (.tuple #[.string g, .int .i64 0]) ∧ Ch w.heap.size (· = n) w w' ∧ Q w'
set_option maxHeartbeats 400000 in
set_option maxRecDepth 100000 in
theorem tsign_calls (b t m n : Nat) (T : List ByteArray) (S : List Wd) (who : Int) (s : ByteArray) (w : World) (hb : Bk w b t m n T S) (hS : S.length ≤ 1000000000) (h0 : 0 ≤ who) (h1 : who ≤ 255) (hs : s.size ≤ maxLen) :
    Calls Try.prog 214 #[.pointer (some ⟨t, 0, none⟩), .int .i64 who, .string s] w (SignPost (signS S (who, s)).1 n (fun w' => Bk w' b t m n T (signS S (who, s)).2) w) := by
  have HBK := Lib.hid (hb.alloc (.cells #[.int .i64 who, .string s] 281))
  have k1 := hb.words
  have hbt := hb.lt.2
  have HC0 := Lib.hid ((Ch.refl w.heap.size (· = n) w).alloc (Nat.le_refl _) (.cells #[.int .i64 who, .string s] 281))
  have LK := Lib.hid (fun k => (HBK.out.drewN k).look_word h0 h1 hs)
  obtain ⟨kl, hkey⟩ := word_key h0 h1 hs
  have HKEY := Lib.hid hkey
  clear hkey
  cases h : place (who, s) S with
  | some i0 =>
    have hi := place_lt h
    have hl := fun k => (LK.out k).1 _ h
    have HD := Lib.hid (show signS S (who, s) = (bs [115] ++ eight (i0 + 1), S) by unfold signS; rw [h]; rfl)
    obtain ⟨i, hii⟩ : ∃ i, i = i0 + 1 := ⟨_, rfl⟩
    rw [← hii] at hl HD
    have HE := Lib.hid (fun w => eight_calls i w (by omega))
    have h9 := eight_size i
    obtain ⟨g, hg⟩ : ∃ g, g = eight i := ⟨_, rfl⟩
    rw [← hg] at HE HD h9
    have hq : ¬ 9223372036854775807 < 1 + g.size := by omega
    clear hb h hi hii hg h9
    go_enter Try.func214, Try.ntmps214
    go_wp2_with fail
    go_quiet (fail)
    go_wp2_with fail
    refine (HE.out _).mono ?_
    rintro e w1 ⟨rfl, hb1⟩
    have HB1 := Lib.hid ((HBK.out.drewN _).below hb1)
    have HC1 := Lib.hid ((HC0.out.drewN nq).step (Ch.of_below (S := fun _ => False) hb1) (HC0.out.drewN nq).size (fun _ _ h => h.elim))
    clear hb1
    go_wp2
    go_ret2
    unfold SignPost
    rw [HD.out]
    exact ⟨rfl, HC1.out, HB1.out⟩
  | none =>
    have hl := fun k => (LK.out k).2 h
    have hlen := fun k => (HBK.out.drewN k).len_words
    have HN := Lib.hid (numbered_not (f := wordVal) word_inj (place_none h))
    have HD := Lib.hid (show signS S (who, s) = (bs [115] ++ eight (S.length + 1), S ++ [(who, s)]) by unfold signS; rw [h]; rfl)
    have HE := Lib.hid (fun w => eight_calls (S.length + 1) w (by omega))
    have h9 := eight_size (S.length + 1)
    obtain ⟨g, hg⟩ : ∃ g, g = eight (S.length + 1) := ⟨_, rfl⟩
    rw [← hg] at HE HD h9
    have hq : ¬ 9223372036854775807 < 1 + g.size := by omega
    clear hb h hg h9
    go_enter Try.func214, Try.ntmps214
    go_wp2_with fail
    go_quiet (fail)
    go_wp2_with fail
    refine wp_region_still_tail 6 (by kernel_rfl) (by kernel_rfl) ?_
    simp only [List.take_succ_cons, List.take_zero, List.drop_succ_cons, List.drop_zero]
    change wpStill _ _ (World.drew _) (fun a' => wpList _ _ _ _ a' (World.drew _)) _ _
    repeat still_step
    try refine wpStill_nil ?_
    go_wp2_with (at_mapUpdate; refine wpList_push _ rfl (.tmp 34) (.tmp 35) (.tmp 36) rfl keyWord Try.underlying169 n (numbered wordVal S) rfl (HBK.out.drewN nq).drew.wm _ _ _ rfl rfl HKEY.out HN.out ?_; intro w1 hm1 hc1 hs1; have HB1 := Lib.hid (Bk.signed (x := (who, s)) (HBK.out.drewN nq).drew hm1 hc1); have HC1 := Lib.hid ((HC0.out.drewN nq).drew.step hc1 (HC0.out.drewN nq).drew.size (fun _ _ h => h)); clear hm1 hc1 hs1)
    refine (HE.out _).mono ?_
    rintro e w2 ⟨rfl, hb2⟩
    have HB2 := Lib.hid (HB1.out.below hb2)
    have HC2 := Lib.hid (HC1.out.step (Ch.of_below (S := fun _ => False) hb2) HC1.out.size (fun _ _ h => h.elim))
    clear hb2
    go_wp2
    go_ret2
    unfold SignPost
    rw [HD.out]
    exact ⟨rfl, HC2.out, HB2.out⟩

set_option maxRecDepth 100000 in
theorem tcheck_calls (b t m n : Nat) (T : List ByteArray) (S : List Wd) (who : Int) (s sig : ByteArray) (w : World) (hb : Bk w b t m n T S) (hS : S.length ≤ 1000000000) (h0 : 0 ≤ who) (h1 : who ≤ 255) (hs : s.size ≤ maxLen) :
    Calls Try.prog 211 #[.pointer (some ⟨t, 0, none⟩), .int .i64 who, .string s, .string sig] w (BoolPost (checkS S (who, s) sig) w) := by
  have k1 := hb.words
  obtain ⟨l1, l2⟩ := hb.look_word h0 h1 hs
  cases h : place (who, s) S with
  | some i0 =>
    have hi := place_lt h
    have hl := l1 _ h
    have HD := Lib.hid (show checkS S (who, s) sig = decide (sig = bs [115] ++ eight (i0 + 1)) by unfold checkS; rw [h]; rfl)
    obtain ⟨i, hii⟩ : ∃ i, i = i0 + 1 := ⟨_, rfl⟩
    rw [← hii] at hl HD
    have HE := Lib.hid (fun w => eight_calls i w (by omega))
    have h9 := eight_size i
    obtain ⟨g, hg⟩ : ∃ g, g = eight i := ⟨_, rfl⟩
    rw [← hg] at HE HD h9
    have hq : ¬ 9223372036854775807 < 1 + g.size := by omega
    clear hb h hi hii hg h9 l1 l2
    go_enter Try.func211, Try.ntmps211
    go_wp2_with fail
    refine (HE.out _).mono ?_
    rintro e w1 ⟨rfl, hb1⟩
    have HB1 := Lib.hid hb1
    clear hb1
    go_wp2
    go_ret
    exact ⟨ret_bool (by rw [HD.out]; exact (beq_list _ _)), HB1.out⟩
  | none =>
    have hl := l2 h
    have HD := Lib.hid (show checkS S (who, s) sig = false by unfold checkS; rw [h])
    clear hb h l1 l2
    go_enter Try.func211, Try.ntmps211
    go_wp2
    go_ret
    exact ⟨ret_bool HD.out.symm, Below.refl _ _⟩

set_option maxRecDepth 100000 in
theorem tissued_calls (b t m n : Nat) (T : List ByteArray) (S : List Wd) (who : Int) (s : ByteArray) (w : World) (hb : Bk w b t m n T S) (h0 : 0 ≤ who) (h1 : who ≤ 255) (hs : s.size ≤ maxLen) :
    Calls Try.prog 213 #[.pointer (some ⟨t, 0, none⟩), .int .i64 who, .string s] w (BoolPost (place (who, s) S).isSome w) := by
  have k1 := hb.words
  obtain ⟨l1, l2⟩ := hb.look_word h0 h1 hs
  cases h : place (who, s) S with
  | some i0 =>
    have hl := l1 _ h
    clear hb h l1 l2
    go_enter Try.func213, Try.ntmps213
    go_wp2
    go_ret
    exact ⟨rfl, Below.refl _ _⟩
  | none =>
    have hl := l2 h
    clear hb h l1 l2
    go_enter Try.func213, Try.ntmps213
    go_wp2
    go_ret
    exact ⟨rfl, Below.refl _ _⟩
end Go.Proofs.Ytfgpchffkpomoaa

/- A book that numbers: the walks through NewBook, Digest, Sign, Check, Issued. -/
namespace Go.Proofs.Ytfgpchffkpomoaa
set_option linter.unusedSimpArgs false
set_option linter.unusedVariables false
open Go.RowKit

set_option maxRecDepth 100000 in
theorem named_calls (who : Int) (w : World) : Calls Try.prog 117 #[.int .i64 who] w fun e w' => e = .returned (.bool (decide (0 ≤ who ∧ who ≤ 255))) ∧ w = w' := by
  by_cases h0 : 0 ≤ who
  · by_cases h1 : who ≤ 255
    all_goals
      go_enter Try.func117, Try.ntmps117
      go_wp2
      go_ret
      exact ⟨by simp [h0, h1], rfl⟩
  · go_enter Try.func117, Try.ntmps117
    go_wp2
    go_ret
    exact ⟨ret_bool (by simp; omega), rfl⟩

set_option maxRecDepth 100000 in
theorem made_calls (b t m n : Nat) (T : List ByteArray) (S : List Wd) (w : World) (hb : Bk w b t m n T S) :
    Calls Try.prog 110 #[.pointer (some ⟨b, 0, none⟩)] w fun e w' => e = .returned (.bool true) ∧ w = w' := by
  have k1 := hb.book
  go_enter Try.func110, Try.ntmps110
  go_wp2
  go_ret
  exact ⟨rfl, rfl⟩

set_option maxRecDepth 100000 in
theorem digest_calls (b t m n : Nat) (T : List ByteArray) (S : List Wd) (s : ByteArray) (w : World) (hb : Bk w b t m n T S) (hT : T.length ≤ 1000000000) (hs : s.size ≤ maxLen) :
    Calls Try.prog 49 #[.pointer (some ⟨b, 0, none⟩), .string s] w (TextPost (digS T s).1 (· = m) (fun w' => Bk w' b t m n (digS T s).2 S) w) := by
  have HM := Lib.hid (fun w hb => made_calls b t m n T S w hb)
  have HD := Lib.hid (tdigest_calls b t m n T S s w hb hT hs)
  have HBK := Lib.hid hb
  have k1 := hb.book
  clear hb
  go_enter Try.func49, Try.ntmps49
  go_wp2_with fail
  refine (HM.out _ HBK.out).mono ?_
  rintro e w1 ⟨rfl, rfl⟩
  go_wp2_with fail
  refine HD.out.mono ?_
  rintro e w2 ⟨rfl, hc, hb⟩
  have HC := Lib.hid hc
  have HB2 := Lib.hid hb
  clear hc hb
  go_wp2
  go_ret
  exact ⟨rfl, HC.out, HB2.out⟩

/-- What signing by somebody answers. -/
def signE (S : List Wd) (who : Int) (s : ByteArray) : (ByteArray × Int) × List Wd := if 0 ≤ who ∧ who ≤ 255 then (((signS S (who, s)).1, 0), (signS S (who, s)).2) else ((⟨#[]⟩, 1), S)
def SignsPost (r : ByteArray × Int) (n : Nat) (Q : World → Prop) (w : World) (e : Ending) (w' : World) : Prop := e = .returned (.tuple #[.string r.1, .int .i64 r.2]) ∧ Ch w.heap.size (· = n) w w' ∧ Q w'

set_option maxRecDepth 100000 in
theorem sign_calls (b t m n : Nat) (T : List ByteArray) (S : List Wd) (who : Int) (s : ByteArray) (w : World) (hb : Bk w b t m n T S) (hS : S.length ≤ 1000000000) (hs : s.size ≤ maxLen) :
    Calls Try.prog 56 #[.pointer (some ⟨b, 0, none⟩), .int .i64 who, .string s] w (SignsPost (signE S who s).1 n (fun w' => Bk w' b t m n T (signE S who s).2) w) := by
  have HM := Lib.hid (fun w hb => made_calls b t m n T S w hb)
  have HBK := Lib.hid hb
  have k1 := hb.book
  by_cases h : 0 ≤ who ∧ who ≤ 255
  · have HD := Lib.hid (tsign_calls b t m n T S who s w hb hS h.1 h.2 hs)
    have HE := Lib.hid (show signE S who s = (((signS S (who, s)).1, 0), (signS S (who, s)).2) by unfold signE; rw [if_pos h])
    have hd : decide (0 ≤ who ∧ who ≤ 255) = true := decide_eq_true h
    have HN := Lib.hid (fun w => named_calls who w)
    rw [hd] at HN
    clear hb hd h
    go_enter Try.func56, Try.ntmps56
    go_wp2_with fail
    refine (HM.out _ HBK.out).mono ?_
    rintro e w1 ⟨rfl, rfl⟩
    go_wp2_with fail
    refine (HN.out _).mono ?_
    rintro e w1 ⟨rfl, rfl⟩
    go_wp2_with fail
    refine HD.out.mono ?_
    rintro e w2 ⟨rfl, hc, hb⟩
    have HC := Lib.hid hc
    have HB2 := Lib.hid hb
    clear hc hb
    go_wp2
    go_ret2
    unfold SignsPost
    rw [HE.out]
    exact ⟨rfl, HC.out, HB2.out⟩
  · have HE := Lib.hid (show signE S who s = ((⟨#[]⟩, 1), S) by unfold signE; rw [if_neg h])
    have hd : decide (0 ≤ who ∧ who ≤ 255) = false := decide_eq_false h
    have HN := Lib.hid (fun w => named_calls who w)
    rw [hd] at HN
    clear hb hd h
    go_enter Try.func56, Try.ntmps56
    go_wp2_with fail
    refine (HM.out _ HBK.out).mono ?_
    rintro e w1 ⟨rfl, rfl⟩
    go_wp2_with fail
    refine (HN.out _).mono ?_
    rintro e w1 ⟨rfl, rfl⟩
    go_wp2
    go_ret2
    unfold SignsPost
    rw [HE.out]
    exact ⟨rfl, Ch.refl _ _ _, HBK.out⟩

/-- Is it somebody's signature of a text? -/
def checkE (S : List Wd) (who : Int) (s sig : ByteArray) : Bool := decide (0 ≤ who ∧ who ≤ 255) && checkS S (who, s) sig
set_option maxRecDepth 100000 in
theorem check_calls (b t m n : Nat) (T : List ByteArray) (S : List Wd) (who : Int) (s sig : ByteArray) (w : World) (hb : Bk w b t m n T S) (hS : S.length ≤ 1000000000) (hs : s.size ≤ maxLen) :
    Calls Try.prog 61 #[.pointer (some ⟨b, 0, none⟩), .int .i64 who, .string s, .string sig] w (BoolPost (checkE S who s sig) w) := by
  have HM := Lib.hid (fun w hb => made_calls b t m n T S w hb)
  have HBK := Lib.hid hb
  have k1 := hb.book
  by_cases h : 0 ≤ who ∧ who ≤ 255
  · have HD := Lib.hid (tcheck_calls b t m n T S who s sig w hb hS h.1 h.2 hs)
    have HE := Lib.hid (show checkE S who s sig = checkS S (who, s) sig by unfold checkE; rw [decide_eq_true h]; rfl)
    obtain ⟨r, hr⟩ : ∃ r, r = checkS S (who, s) sig := ⟨_, rfl⟩
    rw [← hr] at HD HE
    have hd : decide (0 ≤ who ∧ who ≤ 255) = true := decide_eq_true h
    have HN := Lib.hid (fun w => named_calls who w)
    rw [hd] at HN
    clear hb hd h hr
    go_enter Try.func61, Try.ntmps61
    go_wp2_with fail
    refine (HM.out _ HBK.out).mono ?_
    rintro e w1 ⟨rfl, rfl⟩
    go_wp2_with fail
    refine (HN.out _).mono ?_
    rintro e w1 ⟨rfl, rfl⟩
    go_wp2_with fail
    refine HD.out.mono ?_
    rintro e w2 ⟨rfl, hb⟩
    have HB2 := Lib.hid hb
    clear hb
    go_wp2
    go_ret
    exact ⟨ret_bool HE.out.symm, HB2.out⟩
  · have hd : decide (0 ≤ who ∧ who ≤ 255) = false := decide_eq_false h
    have HE := Lib.hid (show checkE S who s sig = false by unfold checkE; rw [hd]; rfl)
    have HN := Lib.hid (fun w => named_calls who w)
    rw [hd] at HN
    clear hb hd h
    go_enter Try.func61, Try.ntmps61
    go_wp2_with fail
    refine (HM.out _ HBK.out).mono ?_
    rintro e w1 ⟨rfl, rfl⟩
    go_wp2_with fail
    refine (HN.out _).mono ?_
    rintro e w1 ⟨rfl, rfl⟩
    go_wp2
    go_ret
    exact ⟨ret_bool HE.out.symm, Below.refl _ _⟩

def issuedE (S : List Wd) (who : Int) (s : ByteArray) : Bool := decide (0 ≤ who ∧ who ≤ 255) && (place (who, s) S).isSome
set_option maxRecDepth 100000 in
theorem issued_calls (b t m n : Nat) (T : List ByteArray) (S : List Wd) (who : Int) (s : ByteArray) (w : World) (hb : Bk w b t m n T S) (hs : s.size ≤ maxLen) :
    Calls Try.prog 62 #[.pointer (some ⟨b, 0, none⟩), .int .i64 who, .string s] w (BoolPost (issuedE S who s) w) := by
  have HM := Lib.hid (fun w hb => made_calls b t m n T S w hb)
  have HBK := Lib.hid hb
  have k1 := hb.book
  by_cases h : 0 ≤ who ∧ who ≤ 255
  · have HD := Lib.hid (tissued_calls b t m n T S who s w hb h.1 h.2 hs)
    have HE := Lib.hid (show issuedE S who s = (place (who, s) S).isSome by unfold issuedE; rw [decide_eq_true h]; rfl)
    obtain ⟨r, hr⟩ : ∃ r, r = (place (who, s) S).isSome := ⟨_, rfl⟩
    rw [← hr] at HD HE
    have hd : decide (0 ≤ who ∧ who ≤ 255) = true := decide_eq_true h
    have HN := Lib.hid (fun w => named_calls who w)
    rw [hd] at HN
    clear hb hd h hr
    go_enter Try.func62, Try.ntmps62
    go_wp2_with fail
    refine (HM.out _ HBK.out).mono ?_
    rintro e w1 ⟨rfl, rfl⟩
    go_wp2_with fail
    refine (HN.out _).mono ?_
    rintro e w1 ⟨rfl, rfl⟩
    go_wp2_with fail
    refine HD.out.mono ?_
    rintro e w2 ⟨rfl, hb⟩
    have HB2 := Lib.hid hb
    clear hb
    go_wp2
    go_ret
    exact ⟨ret_bool HE.out.symm, HB2.out⟩
  · have hd : decide (0 ≤ who ∧ who ≤ 255) = false := decide_eq_false h
    have HE := Lib.hid (show issuedE S who s = false by unfold issuedE; rw [hd]; rfl)
    have HN := Lib.hid (fun w => named_calls who w)
    rw [hd] at HN
    clear hb hd h
    go_enter Try.func62, Try.ntmps62
    go_wp2_with fail
    refine (HM.out _ HBK.out).mono ?_
    rintro e w1 ⟨rfl, rfl⟩
    go_wp2_with fail
    refine (HN.out _).mono ?_
    rintro e w1 ⟨rfl, rfl⟩
    go_wp2
    go_ret
    exact ⟨ret_bool HE.out.symm, Below.refl _ _⟩

/-- A new book: its blocks are new. -/
def NewPost (w : World) (e : Ending) (w' : World) : Prop := ∃ b t m n, e = .returned (.pointer (some ⟨b, 0, none⟩)) ∧ Below w.heap.size w w' ∧ Bk w' b t m n [] [] ∧ w.heap.size ≤ b ∧ w.heap.size ≤ t ∧ w.heap.size ≤ m ∧ w.heap.size ≤ n
set_option maxRecDepth 100000 in
theorem newBook_calls (w : World) : Calls Try.prog 34 #[] w (NewPost w) := by
  have hmm := @run_makeMap Try.prog
  go_enter Try.func34, Try.ntmps34
  go_wp2
  go_ret
  have h1 := Box.new (((w.alloc (.map #[] 0)).alloc (.map #[] 0)).alloc (.cells #[.map (some w.heap.size), .map (some (w.heap.size + 1))] 171)) #[.iface 167 (.pointer (some ⟨w.heap.size + 1 + 1, 0, none⟩))] 97
  have h2 := (Box.new ((w.alloc (.map #[] 0)).alloc (.map #[] 0)) #[.map (some w.heap.size), .map (some (w.heap.size + 1))] 171).alloc (.cells #[.iface 167 (.pointer (some ⟨w.heap.size + 1 + 1, 0, none⟩))] 97)
  simp only [World.size_alloc] at h1 h2
  refine ⟨w.heap.size + 1 + 1 + 1, w.heap.size + 1 + 1, w.heap.size, w.heap.size + 1, rfl, ?_, ⟨h1.cell 0, h2.cell 0, h2.cell 1, ?_, ?_, by simp only [World.size_alloc]; omega, by omega⟩, by omega, by omega, by omega, by omega⟩
  · exact ((((Below.refl _ _).alloc (Nat.le_refl _) _).alloc (by simp) _).alloc (by simp; omega) _).alloc (by simp; omega) _
  · exact (((MapIs.new w 9).alloc _).alloc _).alloc _
  · have h := ((MapIs.new (w.alloc (.map #[] 0)) 281).alloc (.cells #[.map (some w.heap.size), .map (some (w.heap.size + 1))] 171)).alloc (.cells #[.iface 167 (.pointer (some ⟨w.heap.size + 1 + 1, 0, none⟩))] 97)
    simp only [World.size_alloc] at h
    exact h
end Go.Proofs.Ytfgpchffkpomoaa
