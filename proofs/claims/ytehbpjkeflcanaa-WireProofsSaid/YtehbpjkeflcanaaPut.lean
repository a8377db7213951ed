/- Numbers, texts and messages are laid: PutInt, PutText, PutSigned. -/
import Derived.Test.YtehbpjkeflcanaaRefNum
namespace Go.Proofs.Ytehbpjkeflcanaa
set_option linter.unusedSimpArgs false
set_option linter.unusedVariables false
open Go.RowKit

/-- Two results: a text, and an error's number. -/
def StrErr (s : ByteArray) (e : Int) (w : World) (r : Ending) (w' : World) : Prop := r = .returned (.tuple #[.string s, .int .i64 e]) ∧ Below w.heap.size w w'
theorem ret_strErr {a b : ByteArray} {e : Int} (h : a = b) : Ending.returned (.tuple #[.string a, .int .i64 e]) = .returned (.tuple #[.string b, .int .i64 e]) := by rw [h]

theorem Wr.new (w : World) : Wr (w.alloc (.cells #[.slice none 0 0] 91)) w.heap.size none 0 [] :=
  ⟨by simp, by simp, World.ownsRow_nil _ _ _ _⟩
/-- What a new writer's step leaves of the world. -/
theorem WrCh.below {w w' : World} {o : Obj} {A : Option Addr} (h : WrCh w.heap.size none A (w.alloc o) w') : Below w.heap.size w w' := by
  refine ((Below.refl _ _).alloc (Nat.le_refl _) o).trans ((h.ch.mono (B' := w.heap.size) (S' := fun _ => False) (by simp) ?_).below (fun _ _ h => h))
  rintro k hk (rfl | hr)
  · omega
  · cases hr

def putInt (n : Int) : ByteArray × Int := if 0 ≤ n ∧ n ≤ 9007199254740992 then (bs (putNum n.toNat), 0) else (⟨#[]⟩, 1)

set_option maxRecDepth 100000 in
theorem putInt_calls (n : Int) (w : World) : Calls Try.prog 25 #[.int .i64 n] w (StrErr (putInt n).1 (putInt n).2 w) := by
  by_cases h : 0 ≤ n ∧ n ≤ 9007199254740992
  · obtain ⟨h0, h1⟩ := h
    have HE := Lib.hid (show putInt n = (bs (putNum n.toNat), 0) by unfold putInt; rw [if_pos ⟨h0, h1⟩])
    have hd0 : decide (n < 0) = false := by simp; omega
    have hd1 : decide (9007199254740992 < n) = false := by simp; omega
    have HL := Lib.hid (putNum_len 8 n.toNat (by omega))
    go_enter Try.func25, Try.ntmps25
    go_wp2_with fail
    refine (wnumber_calls w.heap.size none 0 [] n _ h0 h1 (by have := HL.out; simp; omega) (Wr.new w)).mono ?_
    rintro e w1 ⟨rfl, A, cap, hc, hw⟩
    have hcell := hw.cell
    have hst := own_to_string hw.own
    have HB := Lib.hid hc.below
    clear hw hc
    rw [List.nil_append] at hcell hst
    go_wp2
    go_ret2
    rw [HE.out]
    exact ⟨rfl, HB.out⟩
  · have HE := Lib.hid (show putInt n = (⟨#[]⟩, 1) by unfold putInt; rw [if_neg h])
    by_cases h0 : 0 ≤ n
    · have hd0 : decide (n < 0) = false := by simp; omega
      have hd1 : decide (9007199254740992 < n) = true := by simp; omega
      clear h
      go_enter Try.func25, Try.ntmps25
      go_wp2
      go_ret2
      rw [HE.out]
      exact ⟨rfl, Below.refl _ _⟩
    · have hd0 : decide (n < 0) = true := by simp; omega
      clear h
      go_enter Try.func25, Try.ntmps25
      go_wp2
      go_ret2
      rw [HE.out]
      exact ⟨rfl, Below.refl _ _⟩

def putTextE (t : ByteArray) : ByteArray × Int := if t.size ≤ 1048576 then (bs (putText t), 0) else (⟨#[]⟩, 4)

set_option maxRecDepth 100000 in
theorem putText_calls (t : ByteArray) (w : World) (_ht : t.size ≤ maxLen) : Calls Try.prog 29 #[.string t] w (StrErr (putTextE t).1 (putTextE t).2 w) := by
  by_cases h : t.size ≤ 1048576
  · have HE := Lib.hid (show putTextE t = (bs (putText t), 0) by unfold putTextE; rw [if_pos h])
    have hd1 : decide ((1048576 : Int) < (t.size : Int)) = false := by simp; omega
    have HL := Lib.hid (putNum_len 8 t.size (by omega))
    go_enter Try.func29, Try.ntmps29
    go_wp2_with fail
    refine (wtext_calls w.heap.size none 0 [] t _ (by omega) (by have := HL.out; rw [putText_length]; simp; omega) (Wr.new w)).mono ?_
    rintro e w1 ⟨rfl, A, cap, hc, hw⟩
    have hcell := hw.cell
    have hst := own_to_string hw.own
    have HB := Lib.hid hc.below
    clear hw hc
    rw [List.nil_append] at hcell hst
    go_wp2
    go_ret2
    rw [HE.out]
    exact ⟨rfl, HB.out⟩
  · have HE := Lib.hid (show putTextE t = (⟨#[]⟩, 4) by unfold putTextE; rw [if_neg h])
    have hd1 : decide ((1048576 : Int) < (t.size : Int)) = true := by simp; omega
    go_enter Try.func29, Try.ntmps29
    go_wp2
    go_ret2
    rw [HE.out]
    exact ⟨rfl, Below.refl _ _⟩

def putSigned (m : Sg) : ByteArray × Int := if fitsB m then (bs (putSg m), 0) else (⟨#[]⟩, 14)
theorem fitsB_iff (m : Sg) : fitsB m = true ↔ 0 ≤ m.who ∧ m.who ≤ 255 ∧ m.body.size ≤ 1048576 ∧ m.sig.size ≤ 32 := by simp [fitsB]
theorem putSg_len {m : Sg} (h : fitsB m = true) : (putSg m).length ≤ m.body.size + 59 := by
  rw [fitsB_iff] at h
  have h1 := putNum_len 8 m.who.toNat (by omega)
  have h2 := putNum_len 8 m.body.size (by omega)
  have h3 := putNum_len 8 m.sig.size (by omega)
  simp only [putSg, List.length_append, putText_length]
  omega

set_option maxRecDepth 100000 in
theorem putSigned_calls (m : Sg) (w : World) : Calls Try.prog 33 #[m.val] w (StrErr (putSigned m).1 (putSigned m).2 w) := by
  cases hf : fitsB m with
  | false =>
    have HE := Lib.hid (show putSigned m = (⟨#[]⟩, 14) by unfold putSigned; rw [hf]; rfl)
    have HF := Lib.hid hf
    have HC := Lib.hid (fits_calls m)
    obtain ⟨who, body, sig⟩ := m
    unfold Sg.val at *
    clear hf
    go_enter Try.func33, Try.ntmps33
    go_wp2_with fail
    refine (HC.out _).mono ?_
    rw [HF.out]
    rintro e w1 ⟨rfl, hb⟩
    go_wp2
    go_ret2
    rw [HE.out]
    exact ⟨rfl, ((Below.refl _ _).alloc (Nat.le_refl _) _).trans (hb.mono (by simp))⟩
  | true =>
    have HE := Lib.hid (show putSigned m = (bs (putSg m), 0) by unfold putSigned; rw [hf]; rfl)
    have HF := Lib.hid hf
    have HC := Lib.hid (fits_calls m)
    have HL := Lib.hid (putSg_len hf)
    have hfb := (fitsB_iff m).1 hf
    have HW := Lib.hid (wsigned_calls)
    obtain ⟨who, body, sig⟩ := m
    unfold Sg.val at *
    simp only at hfb HL
    clear hf
    have HB := Lib.hid (Box.new w #[.int .i64 who, .string body, .string sig] 36)
    go_enter Try.func33, Try.ntmps33
    go_wp2_with fail
    refine (HC.out _).mono ?_
    rw [HF.out]
    rintro e w1 ⟨rfl, hb⟩
    have hb1 := HB.out.ch (Ch.of_below (S := fun _ => False) hb) (by simp) (fun h => h)
    obtain ⟨c0, c1, c2, _, _, _⟩ := hb1.facts3
    have HB1 := Lib.hid (((Below.refl w.heap.size w).alloc (Nat.le_refl _) (.cells #[.int .i64 who, .string body, .string sig] 36)).trans (hb.mono (by simp)))
    have hsz := hb1.lt
    clear hb hb1
    go_wp2_with fail
    refine (HW.out w1.heap.size none 0 [] ⟨who, body, sig⟩ _ (by simp; omega) (by simp; omega) (by simp; omega) (by simp; omega) (by have := HL.out; simp; omega) (Wr.new w1)).mono ?_
    rintro e w2 ⟨rfl, A, cap, hc, hw⟩
    have hcell := hw.cell
    have hst := own_to_string hw.own
    have HB2 := Lib.hid (HB1.out.trans (hc.below.mono (Nat.le_of_lt hsz)))
    clear hw hc
    rw [List.nil_append] at hcell hst
    go_wp2
    go_ret2
    rw [HE.out]
    exact ⟨rfl, HB2.out⟩
end Go.Proofs.Ytehbpjkeflcanaa
