/- Which messages may be: both texts, over one word. -/
import Derived.Test.YtehbpjkeflcanaaWrSg
import Derived.Test.YtehbpjkeflcanaaSl
namespace Go.Proofs.Ytehbpjkeflcanaa
set_option linter.unusedSimpArgs false
set_option linter.unusedVariables false
open Go.RowKit

def fitsB (m : Sg) : Bool := decide (0 ≤ m.who ∧ m.who ≤ 255 ∧ m.body.size ≤ 1048576 ∧ m.sig.size ≤ 32)

def BoolPost (b : Bool) (w : World) (e : Ending) (w' : World) : Prop := e = .returned (.bool b) ∧ Below w.heap.size w w'
theorem ret_bool {a b : Bool} (h : a = b) : Ending.returned (.bool a) = .returned (.bool b) := by rw [h]

theorem within_calls (n m : Int) (w : World) : Calls Try.prog 60 #[.int .i64 n, .int .i64 m] w fun e w' => e = .returned (.bool (decide (0 ≤ n ∧ n ≤ m))) ∧ w = w' := by
  by_cases h0 : 0 ≤ n
  · by_cases h1 : n ≤ m
    all_goals
      go_enter Try.func60, Try.ntmps60
      go_wp2
      go_ret
      exact ⟨by simp [h0, h1], rfl⟩
  · go_enter Try.func60, Try.ntmps60
    go_wp2
    go_ret
    exact ⟨ret_bool (by simp; omega), rfl⟩

theorem fits_calls (m : Sg) (w : World) : Calls Try.prog 77 #[m.val] w (BoolPost (fitsB m) w) := by
  obtain ⟨who, body, sig⟩ := m
  unfold Sg.val
  go_enter Try.func77, Try.ntmps77
  go_wp2_with (go_at_call 60; refine (within_calls _ _ _).mono ?_; rintro e w' ⟨rfl, rfl⟩)
  all_goals
    go_ret
    exact ⟨ret_bool (by unfold fitsB; rw [Bool.eq_iff_iff]; simp only [decide_eq_true_eq, Bool.false_eq_true, false_iff]; omega), (Below.refl _ _).alloc (Nat.le_refl _) _⟩

theorem rfits_calls (m : Sg) (w : World) : Calls Try.prog 34 #[m.val] w (BoolPost (fitsB m) w) := by
  obtain ⟨who, body, sig⟩ := m
  unfold Sg.val
  go_enter Try.func34, Try.ntmps34
  go_wp2
  all_goals
    go_ret
    exact ⟨ret_bool (by unfold fitsB; rw [Bool.eq_iff_iff]; simp only [decide_eq_true_eq, Bool.false_eq_true, false_iff]; omega), (Below.refl _ _).alloc (Nat.le_refl _) _⟩

def Sg.cells (m : Sg) : List Value := [.int .i64 m.who, .string m.body, .string m.sig]
theorem Sg.cells_len (m : Sg) : m.cells.length = 3 := rfl
/-- A list of messages, as a slice. -/
def SgS (w : World) (A : Option Addr) (c : Nat) (l : List Sg) : Prop := Sl w 3 A l.length c (l.flatMap Sg.cells)
theorem SgS.below {w w' : World} {A : Option Addr} {c : Nat} {l : List Sg} (h : SgS w A c l) (hb : Below w.heap.size w w') : SgS w' A c l := Sl.below h hb
theorem SgS.elem {w : World} {A : Option Addr} {c : Nat} {l : List Sg} (h : SgS w A c l) (k : Nat) (hk : k < l.length) : ∃ a, A = some a ∧ w.cell? (a.add (k * 3)) = some (.int .i64 l[k].who) ∧
    w.cell? ⟨(a.add (k * 3)).block, (a.add (k * 3)).off + 1, none⟩ = some (.string l[k].body) ∧ w.cell? ⟨(a.add (k * 3)).block, (a.add (k * 3)).off + 2, none⟩ = some (.string l[k].sig) := by
  obtain ⟨a, rfl, h0, h1⟩ := Sl.elem h Sg.cells_len k hk (by decide)
  exact ⟨a, rfl, h0 _ rfl, h1 1 _ (by decide) rfl, h1 2 _ (by decide) rfl⟩

theorem info_sg : (Try.prog.info? 36).map (fun i => (i.zero, i.size, i.bytes)) = some (some (.agg #[.int .i64 0, .string ⟨#[]⟩, .string ⟨#[]⟩]), 3, 40) := by kernel_rfl
theorem Sg.one (m : Sg) : ∀ u ∈ m.cells, u.oneCell' = true := by
  intro u hu
  simp [Sg.cells] at hu
  rcases hu with rfl | rfl | rfl <;> rfl

def fitAllB (l : List Sg) : Bool := l.all fitsB
theorem fitAll_no {l : List Sg} {k : Nat} (hk : k < l.length) (h : fitsB l[k] = false) : fitAllB l = false := by
  unfold fitAllB
  rw [List.all_eq_false]
  exact ⟨l[k], List.getElem_mem hk, by simp [h]⟩
theorem fitAll_take {l : List Sg} {k : Nat} (hk : k < l.length) (h : fitsB l[k] = true) (ht : fitAllB (l.take k) = true) : fitAllB (l.take (k + 1)) = true := by
  unfold fitAllB at *
  rw [List.take_succ_eq_append_getElem hk, List.all_append, ht]
  simp [h]

set_option maxRecDepth 100000 in
theorem fitAll_calls (A : Option Addr) (c : Nat) (l : List Sg) (w : World) (h : SgS w A c l) : Calls Try.prog 61 #[.slice A l.length c] w (BoolPost (fitAllB l) w) := by
  have HS := Lib.hid h
  have hfit := h.fits
  clear h
  go_enter Try.func61, Try.ntmps61
  go_wp2
  go_loopw [7] (fun vi wr => ∃ k : Nat, vi = .int .i64 k ∧ k ≤ l.length ∧ Hid (Below w.heap.size w wr ∧ fitAllB (l.take k) = true)) (fun vi _ => l.length - (intOf vi).toNat)
  case atStart => exact ⟨0, rfl, by omega, Below.refl _ _, rfl⟩
  case round =>
    obtain ⟨k, rfl, hk, HH⟩ := hrel
    obtain ⟨hb, ht⟩ := HH.out
    have HB := Lib.hid hb
    have HT := Lib.hid ht
    have hsz := hb.size
    clear HH hb ht
    by_cases hlt : k < l.length
    · have hd : decide ((k : Int) < (l.length : Int)) = true := by simp; omega
      obtain ⟨a, rfl, h0, h1, h2⟩ := (HS.out.below HB.out).elem k hlt
      have HC := Lib.hid (fits_calls l[k])
      obtain ⟨m, hm⟩ : ∃ m, m = l[k] := ⟨_, rfl⟩
      rw [← hm] at h0 h1 h2 HC
      have HM := Lib.hid hm
      clear hm
      obtain ⟨who, body, sig⟩ := m
      simp only at h0 h1 h2
      cases hf : fitsB ⟨who, body, sig⟩ with
      | true =>
        have HF := Lib.hid hf
        clear hf
        go_wp2_with (go_at_call 77; refine (HC.out _).mono ?_; rw [HF.out]; rintro e w1 ⟨rfl, hb1⟩; have HB1 := Lib.hid hb1; clear hb1)
        go_roundw
        case rel => exact ⟨k + 1, by go_num, by omega, (HB.out.alloc (by omega) _).trans (HB1.out.mono (by simp; omega)), fitAll_take hlt (by rw [← HM.out]; exact HF.out) HT.out⟩
        case measure => simp [intOf]; omega
      | false =>
        have HF := Lib.hid hf
        clear hf
        go_wp2_with (go_at_call 77; refine (HC.out _).mono ?_; rw [HF.out]; rintro e w1 ⟨rfl, hb1⟩; have HB1 := Lib.hid hb1; clear hb1)
        go_ret
        exact ⟨ret_bool (fitAll_no hlt (by rw [← HM.out]; exact HF.out)).symm, (HB.out.alloc (by omega) _).trans (HB1.out.mono (by simp; omega))⟩
    · have hd : decide ((k : Int) < (l.length : Int)) = false := by simp; omega
      go_wp2
      go_ret
      have := HT.out
      rw [List.take_of_length_le (by omega)] at this
      exact ⟨ret_bool this.symm, HB.out⟩
end Go.Proofs.Ytehbpjkeflcanaa
