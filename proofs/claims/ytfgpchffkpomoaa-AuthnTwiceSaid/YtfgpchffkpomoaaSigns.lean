/- Many texts are signed, one behind the other: what stands in the book then. In plain words. -/
import Derived.Test.YtfgpchffkpomoaaBook
import Derived.Test.YtfgpchffkpomoaaRow3
namespace Go.Proofs.Ytfgpchffkpomoaa
set_option linter.unusedSimpArgs false
set_option linter.unusedVariables false

def namedB (who : Int) : Bool := decide (0 ≤ who ∧ who ≤ 255)
def signAll : List Act3 → List Wd → List Wd
  | [], S => S
  | a :: l, S => signAll l (signE S a.who a.text).2
theorem signAll_append : ∀ (l k : List Act3) (S : List Wd), signAll (l ++ k) S = signAll k (signAll l S)
  | [], _, _ => rfl
  | a :: l, k, S => signAll_append l k _
theorem signAll_take {l : List Act3} {k : Nat} (hk : k < l.length) (S : List Wd) : signAll (l.take (k + 1)) S = (signE (signAll (l.take k) S) l[k].who l[k].text).2 := by
  rw [List.take_succ_eq_append_getElem hk, signAll_append]; rfl
theorem signE_mem {S : List Wd} {who : Int} {s : ByteArray} (h : namedB who = true) : (who, s) ∈ (signE S who s).2 := by
  unfold signE
  rw [if_pos (by simpa [namedB] using h)]
  unfold signS
  split
  · rename_i i hi; exact place_mem hi
  · simp
theorem signE_sub {S : List Wd} {who : Int} {s : ByteArray} {x : Wd} (h : x ∈ S) : x ∈ (signE S who s).2 := by
  unfold signE
  split
  · unfold signS
    split
    · exact h
    · simp [h]
  · exact h
theorem signE_new_mem {S : List Wd} {who : Int} {s : ByteArray} {x : Wd} (h : x ∈ (signE S who s).2) : x ∈ S ∨ (namedB who = true ∧ x = (who, s)) := by
  unfold signE at h
  split at h
  · rename_i hn
    unfold signS at h
    split at h
    · exact .inl h
    · simp only [List.mem_append, List.mem_singleton] at h
      exact h.imp id fun e => ⟨by simpa [namedB] using hn, e⟩
  · exact .inl h
theorem signE_length {S : List Wd} {who : Int} {s : ByteArray} : (signE S who s).2.length ≤ S.length + 1 := by
  unfold signE
  split
  · unfold signS
    split <;> simp
  · simp
theorem signAll_length : ∀ (l : List Act3) (S : List Wd), (signAll l S).length ≤ S.length + l.length
  | [], S => by simp [signAll]
  | a :: l, S => by
    have h1 := signAll_length l (signE S a.who a.text).2
    have h2 := signE_length (S := S) (who := a.who) (s := a.text)
    simp only [signAll, List.length_cons]
    omega
theorem signAll_sub : ∀ (l : List Act3) {S : List Wd} {x : Wd}, x ∈ S → x ∈ signAll l S
  | [], _, _, h => h
  | _ :: l, _, _, h => signAll_sub l (signE_sub h)
theorem signAll_of : ∀ {l : List Act3} {S : List Wd} {a : Act3}, a ∈ l → namedB a.who = true → (a.who, a.text) ∈ signAll l S
  | [], _, _, h, _ => by simp at h
  | b :: l, S, a, h, hn => by
    rcases List.mem_cons.1 h with rfl | h
    · exact signAll_sub l (signE_mem hn)
    · exact signAll_of (l := l) h hn
theorem signAll_mem : ∀ {l : List Act3} {S : List Wd} {x : Wd}, x ∈ signAll l S → x ∈ S ∨ ∃ a ∈ l, namedB a.who = true ∧ x = (a.who, a.text)
  | [], _, _, h => .inl h
  | b :: l, S, x, h => by
    rcases signAll_mem (l := l) h with h | ⟨a, ha, h⟩
    · rcases signE_new_mem h with h | h
      · exact .inl h
      · exact .inr ⟨b, by simp, h⟩
    · exact .inr ⟨a, by simp [ha], h⟩
theorem place_some {α : Type} [DecidableEq α] {x : α} {l : List α} (h : x ∈ l) : ∃ i, place x l = some i := by
  cases e : place x l with
  | none => exact absurd h (place_none e)
  | some i => exact ⟨i, rfl⟩
theorem place_same {α : Type} [DecidableEq α] {x y : α} {l : List α} {i : Nat} (h : place x l = some i) (k : place y l = some i) : x = y := by
  have h1 := place_get h
  rw [place_get k] at h1
  exact (Option.some.inj h1).symm
/-- Signing again changes nothing. -/
theorem signE_again {S : List Wd} {who : Int} {s : ByteArray} (hn : namedB who = true) {i : Nat} (h : place (who, s) S = some i) : signE S who s = ((sigOf i, 0), S) := by
  unfold signE
  rw [if_pos (by simpa [namedB] using hn)]
  unfold signS
  rw [h]
theorem signE_not {S : List Wd} {who : Int} {s : ByteArray} (hn : namedB who = false) : signE S who s = ((⟨#[]⟩, 1), S) := by
  unfold signE
  rw [if_neg (by simpa [namedB] using hn)]
theorem signE_err {S : List Wd} {who : Int} {s : ByteArray} : (signE S who s).1.2 = if namedB who = true then 0 else 1 := by
  cases h : namedB who with
  | true => unfold signE; rw [if_pos (by simpa [namedB] using h), if_pos rfl]
  | false => rw [signE_not h, if_neg (by decide)]
theorem sigOf_inj {i j : Nat} (hi : i < 1000000000000) (hj : j < 1000000000000) (h : sigOf i = sigOf j) : i = j := by
  have h2 : eight (i + 1) = eight (j + 1) := by
    unfold sigOf at h
    have e := congrArg (fun s : ByteArray => s.data.toList) h
    simp only [ByteArray.data_append, Array.toList_append] at e
    have := List.append_cancel_left e
    exact ByteArray.ext (by rw [← Array.toList_inj]; exact this)
  have := eight_inj (by omega) (by omega) h2
  omega
theorem sigOf_size (i : Nat) : (sigOf i).size = 9 := by
  unfold sigOf
  rw [ByteArray.size_append, eight_size]
  rfl
end Go.Proofs.Ytfgpchffkpomoaa
