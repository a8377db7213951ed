/- Texts of this proof, several in one file; each says ahead of it what it proves. -/
import Derived.Test.YtfgpchffkpomoaaPk13
import Derived.Test.YtfgpchffkpomoaaPk06
/- Which bodies may be, by the document: the walk through its Right. -/
namespace Go.Proofs.Ytfgpchffkpomoaa
set_option linter.unusedSimpArgs false
set_option linter.unusedVariables false
open Go.RowKit

/-- The limits that hold for every kind. -/
def rpre (b : Bd) : Bool := decide (0 ≤ b.view ∧ b.view ≤ 1048576 ∧ 0 ≤ b.seq ∧ b.seq ≤ 1073741824 ∧ 0 ≤ b.client ∧ b.client ≤ 15 ∧ 0 ≤ b.stamp ∧ b.stamp ≤ 1099511627776 ∧ b.digest.size ≤ 32 ∧ b.text.size ≤ 1048576 ∧ b.list.length ≤ 64) && fitAllB b.list
def rkind (b : Bd) : Bool :=
  if b.kind = 1 then allowedB b.flags ⟨#[67, 84, 88]⟩ ⟨#[84]⟩ && decide (b.text.size ≤ 256)
  else if b.kind = 2 then allowedB b.flags ⟨#[86, 83, 76]⟩ ⟨#[83]⟩ && decide (b.list.length ≤ 4)
  else if b.kind = 3 then allowedB b.flags ⟨#[86, 83, 68]⟩ ⟨#[83, 68]⟩ && true
  else if b.kind = 4 then allowedB b.flags ⟨#[86, 83, 68]⟩ ⟨#[83, 68]⟩ && true
  else if b.kind = 5 then allowedB b.flags ⟨#[83, 68]⟩ ⟨#[83, 68]⟩ && decide (Int.tmod b.seq 4 = 0)
  else if b.kind = 6 then allowedB b.flags ⟨#[86, 83, 76]⟩ ⟨#[86]⟩ && decide (Int.tmod b.seq 4 = 0)
  else if b.kind = 7 then allowedB b.flags ⟨#[86, 76]⟩ ⟨#[86, 76]⟩ && true
  else if b.kind = 8 then allowedB b.flags ⟨#[86, 83, 67, 84]⟩ ⟨#[]⟩ && decide (b.client ≤ 1)
  else if b.kind = 9 then allowedB b.flags ⟨#[83, 68, 88, 76]⟩ ⟨#[83, 68, 76]⟩ && decide (Int.tmod b.seq 4 = 0)
  else if b.kind = 10 then allowedB b.flags ⟨#[86, 67, 84, 88]⟩ ⟨#[84]⟩ && decide (b.text.size ≤ 256)
  else if b.kind = 11 then allowedB b.flags ⟨#[86, 83, 68, 88, 76]⟩ ⟨#[83, 68, 76]⟩ && true
  else if b.kind = 12 then allowedB b.flags ⟨#[67, 88]⟩ ⟨#[]⟩ && decide (b.text.size ≤ 64)
  else if b.kind = 13 then allowedB b.flags ⟨#[83, 68, 88, 76]⟩ ⟨#[83, 68, 76]⟩ && decide (Int.tmod b.seq 4 = 0)
  else false
def rRight (b : Bd) : Int := if b.kind < 1 ∨ 13 < b.kind then 13 else if rpre b = true then (if rkind b = true then 0 else 14) else 14

theorem rkind_1 {b : Bd} (h : b.kind = 1) : rkind b = (allowedB b.flags ⟨#[67, 84, 88]⟩ ⟨#[84]⟩ && decide (b.text.size ≤ 256)) := by unfold rkind; rw [if_pos h]
theorem rkind_2 {b : Bd} (h : b.kind = 2) : rkind b = (allowedB b.flags ⟨#[86, 83, 76]⟩ ⟨#[83]⟩ && decide (b.list.length ≤ 4)) := by unfold rkind; rw [if_neg (by omega), if_pos h]
theorem rkind_3 {b : Bd} (h : b.kind = 3) : rkind b = (allowedB b.flags ⟨#[86, 83, 68]⟩ ⟨#[83, 68]⟩ && true) := by unfold rkind; rw [if_neg (by omega), if_neg (by omega), if_pos h]
theorem rkind_4 {b : Bd} (h : b.kind = 4) : rkind b = (allowedB b.flags ⟨#[86, 83, 68]⟩ ⟨#[83, 68]⟩ && true) := by unfold rkind; rw [if_neg (by omega), if_neg (by omega), if_neg (by omega), if_pos h]
theorem rkind_5 {b : Bd} (h : b.kind = 5) : rkind b = (allowedB b.flags ⟨#[83, 68]⟩ ⟨#[83, 68]⟩ && decide (Int.tmod b.seq 4 = 0)) := by unfold rkind; rw [if_neg (by omega), if_neg (by omega), if_neg (by omega), if_neg (by omega), if_pos h]
theorem rkind_6 {b : Bd} (h : b.kind = 6) : rkind b = (allowedB b.flags ⟨#[86, 83, 76]⟩ ⟨#[86]⟩ && decide (Int.tmod b.seq 4 = 0)) := by unfold rkind; rw [if_neg (by omega), if_neg (by omega), if_neg (by omega), if_neg (by omega), if_neg (by omega), if_pos h]
theorem rkind_7 {b : Bd} (h : b.kind = 7) : rkind b = (allowedB b.flags ⟨#[86, 76]⟩ ⟨#[86, 76]⟩ && true) := by unfold rkind; rw [if_neg (by omega), if_neg (by omega), if_neg (by omega), if_neg (by omega), if_neg (by omega), if_neg (by omega), if_pos h]
theorem rkind_8 {b : Bd} (h : b.kind = 8) : rkind b = (allowedB b.flags ⟨#[86, 83, 67, 84]⟩ ⟨#[]⟩ && decide (b.client ≤ 1)) := by unfold rkind; rw [if_neg (by omega), if_neg (by omega), if_neg (by omega), if_neg (by omega), if_neg (by omega), if_neg (by omega), if_neg (by omega), if_pos h]
theorem rkind_9 {b : Bd} (h : b.kind = 9) : rkind b = (allowedB b.flags ⟨#[83, 68, 88, 76]⟩ ⟨#[83, 68, 76]⟩ && decide (Int.tmod b.seq 4 = 0)) := by unfold rkind; rw [if_neg (by omega), if_neg (by omega), if_neg (by omega), if_neg (by omega), if_neg (by omega), if_neg (by omega), if_neg (by omega), if_neg (by omega), if_pos h]
theorem rkind_10 {b : Bd} (h : b.kind = 10) : rkind b = (allowedB b.flags ⟨#[86, 67, 84, 88]⟩ ⟨#[84]⟩ && decide (b.text.size ≤ 256)) := by unfold rkind; rw [if_neg (by omega), if_neg (by omega), if_neg (by omega), if_neg (by omega), if_neg (by omega), if_neg (by omega), if_neg (by omega), if_neg (by omega), if_neg (by omega), if_pos h]
theorem rkind_11 {b : Bd} (h : b.kind = 11) : rkind b = (allowedB b.flags ⟨#[86, 83, 68, 88, 76]⟩ ⟨#[83, 68, 76]⟩ && true) := by unfold rkind; rw [if_neg (by omega), if_neg (by omega), if_neg (by omega), if_neg (by omega), if_neg (by omega), if_neg (by omega), if_neg (by omega), if_neg (by omega), if_neg (by omega), if_neg (by omega), if_pos h]
theorem rkind_12 {b : Bd} (h : b.kind = 12) : rkind b = (allowedB b.flags ⟨#[67, 88]⟩ ⟨#[]⟩ && decide (b.text.size ≤ 64)) := by unfold rkind; rw [if_neg (by omega), if_neg (by omega), if_neg (by omega), if_neg (by omega), if_neg (by omega), if_neg (by omega), if_neg (by omega), if_neg (by omega), if_neg (by omega), if_neg (by omega), if_neg (by omega), if_pos h]
theorem rkind_13 {b : Bd} (h : b.kind = 13) : rkind b = (allowedB b.flags ⟨#[83, 68, 88, 76]⟩ ⟨#[83, 68, 76]⟩ && decide (Int.tmod b.seq 4 = 0)) := by unfold rkind; rw [if_neg (by omega), if_neg (by omega), if_neg (by omega), if_neg (by omega), if_neg (by omega), if_neg (by omega), if_neg (by omega), if_neg (by omega), if_neg (by omega), if_neg (by omega), if_neg (by omega), if_neg (by omega), if_pos h]

set_option maxRecDepth 100000 in
theorem rfitAll_calls (A : Option Addr) (c : Nat) (l : List Sg) (w : World) (h : SgS w A c l) : Calls Try.prog 163 #[.slice A l.length c] w (BoolPost (fitAllB l) w) := by
  have HS := Lib.hid h
  have hfit := h.fits
  clear h
  go_enter Try.func163, Try.ntmps163
  go_wp2
  go_loopw [3] (fun vi wr => ∃ k : Nat, vi = .int .i64 k ∧ k ≤ l.length ∧ Hid (Below w.heap.size w wr ∧ fitAllB (l.take k) = true)) (fun vi _ => l.length - (intOf vi).toNat)
  case atStart => exact ⟨0, rfl, by omega, Below.refl _ _, rfl⟩
  case round =>
    obtain ⟨k, rfl, hk, HH⟩ := hrel
    obtain ⟨hb, ht⟩ := HH.out
    have HB := Lib.hid hb
    have HT := Lib.hid ht
    have hsz := hb.size
    clear HH hb ht
    by_cases hlt : k < l.length
    · have hd : decide ((k : Int) < (l.length : Int)) = true := by simp; omega
      obtain ⟨a, rfl, h0, h1, h2⟩ := (HS.out.below HB.out).elem k hlt
      have HC := Lib.hid (rfits_calls l[k])
      obtain ⟨m, hm⟩ : ∃ m, m = l[k] := ⟨_, rfl⟩
      rw [← hm] at h0 h1 h2 HC
      have HM := Lib.hid hm
      clear hm
      obtain ⟨who, body, sig⟩ := m
      simp only at h0 h1 h2
      cases hf : fitsB ⟨who, body, sig⟩ with
      | true =>
        have HF := Lib.hid hf
        clear hf
        go_wp2_with (go_at_call 148; refine (HC.out _).mono ?_; rw [HF.out]; rintro e w1 ⟨rfl, hb1⟩; have HB1 := Lib.hid hb1; clear hb1)
        go_roundw
        case rel => exact ⟨k + 1, by go_num, by omega, HB.out.trans (HB1.out.mono hsz), fitAll_take hlt (by rw [← HM.out]; exact HF.out) HT.out⟩
        case measure => simp [intOf]; omega
      | false =>
        have HF := Lib.hid hf
        clear hf
        go_wp2_with (go_at_call 148; refine (HC.out _).mono ?_; rw [HF.out]; rintro e w1 ⟨rfl, hb1⟩; have HB1 := Lib.hid hb1; clear hb1)
        go_ret
        exact ⟨ret_bool (fitAll_no hlt (by rw [← HM.out]; exact HF.out)).symm, HB.out.trans (HB1.out.mono hsz)⟩
    · have hd : decide ((k : Int) < (l.length : Int)) = false := by simp; omega
      go_wp2
      go_ret
      have := HT.out
      rw [List.take_of_length_le (by omega)] at this
      exact ⟨ret_bool this.symm, HB.out⟩

set_option maxRecDepth 100000 in
theorem rright_low (b : Bd) (A : Option Addr) (c : Nat) (w : World) (h : b.kind < 1 ∨ 13 < b.kind) : Calls Try.prog 113 #[b.val A c] w (IntPost 13 w) := by
  obtain ⟨kind, view, seq, client, stamp, digest, tx, list⟩ := b
  unfold Bd.val Bd.cells
  simp only at *
  by_cases h1 : kind < 1
  · have hd : decide (kind < 1) = true := by simp; omega
    go_enter Try.func113, Try.ntmps113
    go_wp2
    go_ret
    exact ⟨rfl, (Below.refl _ _).alloc (Nat.le_refl _) _⟩
  · have hd : decide (kind < 1) = false := by simp; omega
    have hd2 : decide (13 < kind) = true := by simp; omega
    go_enter Try.func113, Try.ntmps113
    go_wp2
    go_ret
    exact ⟨rfl, (Below.refl _ _).alloc (Nat.le_refl _) _⟩

set_option maxHeartbeats 8000000 in
set_option maxRecDepth 100000 in
theorem rright_high (b : Bd) (A : Option Addr) (c : Nat) (w : World) (h1 : 1 ≤ b.kind) (h2 : b.kind ≤ 13) (hs : SgS w A c b.list) : Calls Try.prog 113 #[b.val A c] w (IntPost (rRight b) w) := by
  have HAL := Lib.hid (fun may must wx hx h1 h2 => allowed_calls b A c may must wx hx h1 h2)
  have hfit := hs.fits
  have HS := Lib.hid hs
  have hd : decide (b.kind < 1) = false := by simp; omega
  have hd2 : decide (13 < b.kind) = false := by simp; omega
  have HBX := Lib.hid (Box.new w (b.cells A c) 59)
  have HA := Lib.hid ((Below.refl w.heap.size w).alloc (Nat.le_refl _) (.cells (b.cells A c) 59))
  have HE := Lib.hid (show rRight b = if rpre b = true then (if rkind b = true then 0 else 14) else 14 by unfold rRight; rw [if_neg (by omega)])
  obtain ⟨p, hp⟩ : ∃ p, p = rpre b := ⟨_, rfl⟩
  rw [← hp] at HE
  have HP := Lib.hid hp
  obtain ⟨fl, hfl⟩ : ∃ fl, fl = b.flags := ⟨_, rfl⟩
  rw [← hfl] at HAL
  have HFL := Lib.hid hfl
  clear hs hp hfl
  obtain ⟨kind, view, seq, client, stamp, digest, tx, list⟩ := b
  unfold Bd.val Bd.cells at *
  simp only at *
  go_enter Try.func113, Try.ntmps113
  go_upto_region 3 with fail
  go_cut [73] (fun s73 wx => s73 = .bool (!p) ∧ Hid (St w.heap.size w w.heap.size #[.int .i64 kind, .int .i64 view, .int .i64 seq, .int .i64 client, .int .i64 stamp, .string digest, .string tx, .slice A list.length c] 59 wx))
  case first =>
    go_wp2_with (go_at_call 163; refine (rfitAll_calls A c list _ (HS.out.below HA.out)).mono ?_; rintro e w2 ⟨rfl, hc2⟩; have HST2 := Lib.hid ((St.mk HA.out HBX.out).call (Nat.le_refl _) hc2); clear hc2)
    all_goals
      go_meet
      refine ⟨congrArg Value.bool ?_, by first | exact HST2.out | exact St.mk HA.out HBX.out⟩
      rw [HP.out]
      unfold rpre
      simp only
      generalize fitAllB list = fa
      cases fa <;> (rw [Bool.eq_iff_iff]; simp only [Bool.or_true, Bool.or_false, Bool.or_eq_true, decide_eq_true_eq, Bool.and_true, Bool.and_false, Bool.not_false, Bool.not_true, Bool.not_eq_true', decide_eq_false_iff_not, Bool.false_eq_true, true_iff, false_iff]; try omega)
  case rest =>
    obtain ⟨rfl, HC⟩ := hcut
    have HST := Lib.hid HC.out
    clear HC
    obtain ⟨c0, c1, c2, c3, c4, c5, c6, c7⟩ := boxS HST.out.x
    cases p with
    | false =>
      go_wp2
      go_ret
      rw [HE.out]
      exact ⟨rfl, HST.out.b⟩
    | true =>
      have HE2 := Lib.hid (show rRight ⟨kind, view, seq, client, stamp, digest, tx, list⟩ = if rkind ⟨kind, view, seq, client, stamp, digest, tx, list⟩ = true then 0 else 14 by rw [HE.out]; rfl)
      clear HE
      obtain rfl | rfl | rfl | rfl | rfl | rfl | rfl | rfl | rfl | rfl | rfl | rfl | rfl : kind = 1 ∨ kind = 2 ∨ kind = 3 ∨ kind = 4 ∨ kind = 5 ∨ kind = 6 ∨ kind = 7 ∨ kind = 8 ∨ kind = 9 ∨ kind = 10 ∨ kind = 11 ∨ kind = 12 ∨ kind = 13 := by omega

      · have HK := Lib.hid (rkind_1 (b := ⟨1, view, seq, client, stamp, digest, tx, list⟩) rfl)
        obtain ⟨al, hal⟩ : ∃ al, al = allowedB fl ⟨#[67, 84, 88]⟩ ⟨#[84]⟩ := ⟨_, rfl⟩
        have HCALL := Lib.hid (HAL.out ⟨#[67, 84, 88]⟩ ⟨#[84]⟩ wc hfit (by decide) (by decide))
        rw [← hal] at HCALL
        have HAL2 := Lib.hid hal
        clear hal HAL
        cases al
        · skip
          go_wp2_with fail
          refine HCALL.out.mono ?_
          rintro e w2 ⟨rfl, hb2⟩
          have HST2 := Lib.hid (HST.out.call (Nat.le_refl _) hb2)
          obtain ⟨d0, d1, d2, d3, d4, d5, d6, d7⟩ := boxS HST2.out.x
          clear hb2
          go_wp2
          go_ret
          rw [HE2.out, HK.out]
          refine ⟨?_, HST2.out.b⟩
          rw [← HFL.out, ← HAL2.out]
          rfl
        · by_cases hcond : tx.size ≤ 256
          · have hd3 : decide ((tx.size : Int) ≤ 256) = true := by simp; omega
            go_wp2_with fail
            refine HCALL.out.mono ?_
            rintro e w2 ⟨rfl, hb2⟩
            have HST2 := Lib.hid (HST.out.call (Nat.le_refl _) hb2)
            obtain ⟨d0, d1, d2, d3, d4, d5, d6, d7⟩ := boxS HST2.out.x
            clear hb2
            go_wp2
            go_ret
            rw [HE2.out, HK.out]
            refine ⟨?_, HST2.out.b⟩
            rw [← HFL.out, ← HAL2.out]
            simp [hcond]
          · have hd3 : decide ((tx.size : Int) ≤ 256) = false := by simp; omega
            go_wp2_with fail
            refine HCALL.out.mono ?_
            rintro e w2 ⟨rfl, hb2⟩
            have HST2 := Lib.hid (HST.out.call (Nat.le_refl _) hb2)
            obtain ⟨d0, d1, d2, d3, d4, d5, d6, d7⟩ := boxS HST2.out.x
            clear hb2
            go_wp2
            go_ret
            rw [HE2.out, HK.out]
            refine ⟨?_, HST2.out.b⟩
            rw [← HFL.out, ← HAL2.out]
            simp [hcond]
      · have HK := Lib.hid (rkind_2 (b := ⟨2, view, seq, client, stamp, digest, tx, list⟩) rfl)
        obtain ⟨al, hal⟩ : ∃ al, al = allowedB fl ⟨#[86, 83, 76]⟩ ⟨#[83]⟩ := ⟨_, rfl⟩
        have HCALL := Lib.hid (HAL.out ⟨#[86, 83, 76]⟩ ⟨#[83]⟩ wc hfit (by decide) (by decide))
        rw [← hal] at HCALL
        have HAL2 := Lib.hid hal
        clear hal HAL
        cases al
        · skip
          go_wp2_with fail
          refine HCALL.out.mono ?_
          rintro e w2 ⟨rfl, hb2⟩
          have HST2 := Lib.hid (HST.out.call (Nat.le_refl _) hb2)
          obtain ⟨d0, d1, d2, d3, d4, d5, d6, d7⟩ := boxS HST2.out.x
          clear hb2
          go_wp2
          go_ret
          rw [HE2.out, HK.out]
          refine ⟨?_, HST2.out.b⟩
          rw [← HFL.out, ← HAL2.out]
          rfl
        · by_cases hcond : list.length ≤ 4
          · have hd3 : decide ((list.length : Int) ≤ 4) = true := by simp; omega
            go_wp2_with fail
            refine HCALL.out.mono ?_
            rintro e w2 ⟨rfl, hb2⟩
            have HST2 := Lib.hid (HST.out.call (Nat.le_refl _) hb2)
            obtain ⟨d0, d1, d2, d3, d4, d5, d6, d7⟩ := boxS HST2.out.x
            clear hb2
            go_wp2
            go_ret
            rw [HE2.out, HK.out]
            refine ⟨?_, HST2.out.b⟩
            rw [← HFL.out, ← HAL2.out]
            simp [hcond]
          · have hd3 : decide ((list.length : Int) ≤ 4) = false := by simp; omega
            go_wp2_with fail
            refine HCALL.out.mono ?_
            rintro e w2 ⟨rfl, hb2⟩
            have HST2 := Lib.hid (HST.out.call (Nat.le_refl _) hb2)
            obtain ⟨d0, d1, d2, d3, d4, d5, d6, d7⟩ := boxS HST2.out.x
            clear hb2
            go_wp2
            go_ret
            rw [HE2.out, HK.out]
            refine ⟨?_, HST2.out.b⟩
            rw [← HFL.out, ← HAL2.out]
            simp [hcond]
      · have HK := Lib.hid (rkind_3 (b := ⟨3, view, seq, client, stamp, digest, tx, list⟩) rfl)
        obtain ⟨al, hal⟩ : ∃ al, al = allowedB fl ⟨#[86, 83, 68]⟩ ⟨#[83, 68]⟩ := ⟨_, rfl⟩
        have HCALL := Lib.hid (HAL.out ⟨#[86, 83, 68]⟩ ⟨#[83, 68]⟩ wc hfit (by decide) (by decide))
        rw [← hal] at HCALL
        have HAL2 := Lib.hid hal
        clear hal HAL
        cases al
        · skip
          go_wp2_with fail
          refine HCALL.out.mono ?_
          rintro e w2 ⟨rfl, hb2⟩
          have HST2 := Lib.hid (HST.out.call (Nat.le_refl _) hb2)
          obtain ⟨d0, d1, d2, d3, d4, d5, d6, d7⟩ := boxS HST2.out.x
          clear hb2
          go_wp2
          go_ret
          rw [HE2.out, HK.out]
          refine ⟨?_, HST2.out.b⟩
          rw [← HFL.out, ← HAL2.out]
          rfl
        · skip
          go_wp2_with fail
          refine HCALL.out.mono ?_
          rintro e w2 ⟨rfl, hb2⟩
          have HST2 := Lib.hid (HST.out.call (Nat.le_refl _) hb2)
          obtain ⟨d0, d1, d2, d3, d4, d5, d6, d7⟩ := boxS HST2.out.x
          clear hb2
          go_wp2
          go_ret
          rw [HE2.out, HK.out]
          refine ⟨?_, HST2.out.b⟩
          rw [← HFL.out, ← HAL2.out]
          rfl
      · have HK := Lib.hid (rkind_4 (b := ⟨4, view, seq, client, stamp, digest, tx, list⟩) rfl)
        obtain ⟨al, hal⟩ : ∃ al, al = allowedB fl ⟨#[86, 83, 68]⟩ ⟨#[83, 68]⟩ := ⟨_, rfl⟩
        have HCALL := Lib.hid (HAL.out ⟨#[86, 83, 68]⟩ ⟨#[83, 68]⟩ wc hfit (by decide) (by decide))
        rw [← hal] at HCALL
        have HAL2 := Lib.hid hal
        clear hal HAL
        cases al
        · skip
          go_wp2_with fail
          refine HCALL.out.mono ?_
          rintro e w2 ⟨rfl, hb2⟩
          have HST2 := Lib.hid (HST.out.call (Nat.le_refl _) hb2)
          obtain ⟨d0, d1, d2, d3, d4, d5, d6, d7⟩ := boxS HST2.out.x
          clear hb2
          go_wp2
          go_ret
          rw [HE2.out, HK.out]
          refine ⟨?_, HST2.out.b⟩
          rw [← HFL.out, ← HAL2.out]
          rfl
        · skip
          go_wp2_with fail
          refine HCALL.out.mono ?_
          rintro e w2 ⟨rfl, hb2⟩
          have HST2 := Lib.hid (HST.out.call (Nat.le_refl _) hb2)
          obtain ⟨d0, d1, d2, d3, d4, d5, d6, d7⟩ := boxS HST2.out.x
          clear hb2
          go_wp2
          go_ret
          rw [HE2.out, HK.out]
          refine ⟨?_, HST2.out.b⟩
          rw [← HFL.out, ← HAL2.out]
          rfl
      · have HK := Lib.hid (rkind_5 (b := ⟨5, view, seq, client, stamp, digest, tx, list⟩) rfl)
        obtain ⟨al, hal⟩ : ∃ al, al = allowedB fl ⟨#[83, 68]⟩ ⟨#[83, 68]⟩ := ⟨_, rfl⟩
        have HCALL := Lib.hid (HAL.out ⟨#[83, 68]⟩ ⟨#[83, 68]⟩ wc hfit (by decide) (by decide))
        rw [← hal] at HCALL
        have HAL2 := Lib.hid hal
        clear hal HAL
        cases al
        · skip
          go_wp2_with fail
          refine HCALL.out.mono ?_
          rintro e w2 ⟨rfl, hb2⟩
          have HST2 := Lib.hid (HST.out.call (Nat.le_refl _) hb2)
          obtain ⟨d0, d1, d2, d3, d4, d5, d6, d7⟩ := boxS HST2.out.x
          clear hb2
          go_wp2
          go_ret
          rw [HE2.out, HK.out]
          refine ⟨?_, HST2.out.b⟩
          rw [← HFL.out, ← HAL2.out]
          rfl
        · by_cases hcond : Int.tmod seq 4 = 0
          · have hd3 : (Int.tmod seq 4 == 0) = true := by simp; omega
            go_wp2_with fail
            refine HCALL.out.mono ?_
            rintro e w2 ⟨rfl, hb2⟩
            have HST2 := Lib.hid (HST.out.call (Nat.le_refl _) hb2)
            obtain ⟨d0, d1, d2, d3, d4, d5, d6, d7⟩ := boxS HST2.out.x
            clear hb2
            go_wp2
            go_ret
            rw [HE2.out, HK.out]
            refine ⟨?_, HST2.out.b⟩
            rw [← HFL.out, ← HAL2.out]
            simp [hcond]
          · have hd3 : (Int.tmod seq 4 == 0) = false := by simp; omega
            go_wp2_with fail
            refine HCALL.out.mono ?_
            rintro e w2 ⟨rfl, hb2⟩
            have HST2 := Lib.hid (HST.out.call (Nat.le_refl _) hb2)
            obtain ⟨d0, d1, d2, d3, d4, d5, d6, d7⟩ := boxS HST2.out.x
            clear hb2
            go_wp2
            go_ret
            rw [HE2.out, HK.out]
            refine ⟨?_, HST2.out.b⟩
            rw [← HFL.out, ← HAL2.out]
            simp [hcond]
      · have HK := Lib.hid (rkind_6 (b := ⟨6, view, seq, client, stamp, digest, tx, list⟩) rfl)
        obtain ⟨al, hal⟩ : ∃ al, al = allowedB fl ⟨#[86, 83, 76]⟩ ⟨#[86]⟩ := ⟨_, rfl⟩
        have HCALL := Lib.hid (HAL.out ⟨#[86, 83, 76]⟩ ⟨#[86]⟩ wc hfit (by decide) (by decide))
        rw [← hal] at HCALL
        have HAL2 := Lib.hid hal
        clear hal HAL
        cases al
        · skip
          go_wp2_with fail
          refine HCALL.out.mono ?_
          rintro e w2 ⟨rfl, hb2⟩
          have HST2 := Lib.hid (HST.out.call (Nat.le_refl _) hb2)
          obtain ⟨d0, d1, d2, d3, d4, d5, d6, d7⟩ := boxS HST2.out.x
          clear hb2
          go_wp2
          go_ret
          rw [HE2.out, HK.out]
          refine ⟨?_, HST2.out.b⟩
          rw [← HFL.out, ← HAL2.out]
          rfl
        · by_cases hcond : Int.tmod seq 4 = 0
          · have hd3 : (Int.tmod seq 4 == 0) = true := by simp; omega
            go_wp2_with fail
            refine HCALL.out.mono ?_
            rintro e w2 ⟨rfl, hb2⟩
            have HST2 := Lib.hid (HST.out.call (Nat.le_refl _) hb2)
            obtain ⟨d0, d1, d2, d3, d4, d5, d6, d7⟩ := boxS HST2.out.x
            clear hb2
            go_wp2
            go_ret
            rw [HE2.out, HK.out]
            refine ⟨?_, HST2.out.b⟩
            rw [← HFL.out, ← HAL2.out]
            simp [hcond]
          · have hd3 : (Int.tmod seq 4 == 0) = false := by simp; omega
            go_wp2_with fail
            refine HCALL.out.mono ?_
            rintro e w2 ⟨rfl, hb2⟩
            have HST2 := Lib.hid (HST.out.call (Nat.le_refl _) hb2)
            obtain ⟨d0, d1, d2, d3, d4, d5, d6, d7⟩ := boxS HST2.out.x
            clear hb2
            go_wp2
            go_ret
            rw [HE2.out, HK.out]
            refine ⟨?_, HST2.out.b⟩
            rw [← HFL.out, ← HAL2.out]
            simp [hcond]
      · have HK := Lib.hid (rkind_7 (b := ⟨7, view, seq, client, stamp, digest, tx, list⟩) rfl)
        obtain ⟨al, hal⟩ : ∃ al, al = allowedB fl ⟨#[86, 76]⟩ ⟨#[86, 76]⟩ := ⟨_, rfl⟩
        have HCALL := Lib.hid (HAL.out ⟨#[86, 76]⟩ ⟨#[86, 76]⟩ wc hfit (by decide) (by decide))
        rw [← hal] at HCALL
        have HAL2 := Lib.hid hal
        clear hal HAL
        cases al
        · skip
          go_wp2_with fail
          refine HCALL.out.mono ?_
          rintro e w2 ⟨rfl, hb2⟩
          have HST2 := Lib.hid (HST.out.call (Nat.le_refl _) hb2)
          obtain ⟨d0, d1, d2, d3, d4, d5, d6, d7⟩ := boxS HST2.out.x
          clear hb2
          go_wp2
          go_ret
          rw [HE2.out, HK.out]
          refine ⟨?_, HST2.out.b⟩
          rw [← HFL.out, ← HAL2.out]
          rfl
        · skip
          go_wp2_with fail
          refine HCALL.out.mono ?_
          rintro e w2 ⟨rfl, hb2⟩
          have HST2 := Lib.hid (HST.out.call (Nat.le_refl _) hb2)
          obtain ⟨d0, d1, d2, d3, d4, d5, d6, d7⟩ := boxS HST2.out.x
          clear hb2
          go_wp2
          go_ret
          rw [HE2.out, HK.out]
          refine ⟨?_, HST2.out.b⟩
          rw [← HFL.out, ← HAL2.out]
          rfl
      · have HK := Lib.hid (rkind_8 (b := ⟨8, view, seq, client, stamp, digest, tx, list⟩) rfl)
        obtain ⟨al, hal⟩ : ∃ al, al = allowedB fl ⟨#[86, 83, 67, 84]⟩ ⟨#[]⟩ := ⟨_, rfl⟩
        have HCALL := Lib.hid (HAL.out ⟨#[86, 83, 67, 84]⟩ ⟨#[]⟩ wc hfit (by decide) (by decide))
        rw [← hal] at HCALL
        have HAL2 := Lib.hid hal
        clear hal HAL
        cases al
        · skip
          go_wp2_with fail
          refine HCALL.out.mono ?_
          rintro e w2 ⟨rfl, hb2⟩
          have HST2 := Lib.hid (HST.out.call (Nat.le_refl _) hb2)
          obtain ⟨d0, d1, d2, d3, d4, d5, d6, d7⟩ := boxS HST2.out.x
          clear hb2
          go_wp2
          go_ret
          rw [HE2.out, HK.out]
          refine ⟨?_, HST2.out.b⟩
          rw [← HFL.out, ← HAL2.out]
          rfl
        · by_cases hcond : client ≤ 1
          · have hd3 : decide (client ≤ 1) = true := by simp; omega
            go_wp2_with fail
            refine HCALL.out.mono ?_
            rintro e w2 ⟨rfl, hb2⟩
            have HST2 := Lib.hid (HST.out.call (Nat.le_refl _) hb2)
            obtain ⟨d0, d1, d2, d3, d4, d5, d6, d7⟩ := boxS HST2.out.x
            clear hb2
            go_wp2
            go_ret
            rw [HE2.out, HK.out]
            refine ⟨?_, HST2.out.b⟩
            rw [← HFL.out, ← HAL2.out]
            simp [hcond]
          · have hd3 : decide (client ≤ 1) = false := by simp; omega
            go_wp2_with fail
            refine HCALL.out.mono ?_
            rintro e w2 ⟨rfl, hb2⟩
            have HST2 := Lib.hid (HST.out.call (Nat.le_refl _) hb2)
            obtain ⟨d0, d1, d2, d3, d4, d5, d6, d7⟩ := boxS HST2.out.x
            clear hb2
            go_wp2
            go_ret
            rw [HE2.out, HK.out]
            refine ⟨?_, HST2.out.b⟩
            rw [← HFL.out, ← HAL2.out]
            simp [hcond]
      · have HK := Lib.hid (rkind_9 (b := ⟨9, view, seq, client, stamp, digest, tx, list⟩) rfl)
        obtain ⟨al, hal⟩ : ∃ al, al = allowedB fl ⟨#[83, 68, 88, 76]⟩ ⟨#[83, 68, 76]⟩ := ⟨_, rfl⟩
        have HCALL := Lib.hid (HAL.out ⟨#[83, 68, 88, 76]⟩ ⟨#[83, 68, 76]⟩ wc hfit (by decide) (by decide))
        rw [← hal] at HCALL
        have HAL2 := Lib.hid hal
        clear hal HAL
        cases al
        · skip
          go_wp2_with fail
          refine HCALL.out.mono ?_
          rintro e w2 ⟨rfl, hb2⟩
          have HST2 := Lib.hid (HST.out.call (Nat.le_refl _) hb2)
          obtain ⟨d0, d1, d2, d3, d4, d5, d6, d7⟩ := boxS HST2.out.x
          clear hb2
          go_wp2
          go_ret
          rw [HE2.out, HK.out]
          refine ⟨?_, HST2.out.b⟩
          rw [← HFL.out, ← HAL2.out]
          rfl
        · by_cases hcond : Int.tmod seq 4 = 0
          · have hd3 : (Int.tmod seq 4 == 0) = true := by simp; omega
            go_wp2_with fail
            refine HCALL.out.mono ?_
            rintro e w2 ⟨rfl, hb2⟩
            have HST2 := Lib.hid (HST.out.call (Nat.le_refl _) hb2)
            obtain ⟨d0, d1, d2, d3, d4, d5, d6, d7⟩ := boxS HST2.out.x
            clear hb2
            go_wp2
            go_ret
            rw [HE2.out, HK.out]
            refine ⟨?_, HST2.out.b⟩
            rw [← HFL.out, ← HAL2.out]
            simp [hcond]
          · have hd3 : (Int.tmod seq 4 == 0) = false := by simp; omega
            go_wp2_with fail
            refine HCALL.out.mono ?_
            rintro e w2 ⟨rfl, hb2⟩
            have HST2 := Lib.hid (HST.out.call (Nat.le_refl _) hb2)
            obtain ⟨d0, d1, d2, d3, d4, d5, d6, d7⟩ := boxS HST2.out.x
            clear hb2
            go_wp2
            go_ret
            rw [HE2.out, HK.out]
            refine ⟨?_, HST2.out.b⟩
            rw [← HFL.out, ← HAL2.out]
            simp [hcond]
      · have HK := Lib.hid (rkind_10 (b := ⟨10, view, seq, client, stamp, digest, tx, list⟩) rfl)
        obtain ⟨al, hal⟩ : ∃ al, al = allowedB fl ⟨#[86, 67, 84, 88]⟩ ⟨#[84]⟩ := ⟨_, rfl⟩
        have HCALL := Lib.hid (HAL.out ⟨#[86, 67, 84, 88]⟩ ⟨#[84]⟩ wc hfit (by decide) (by decide))
        rw [← hal] at HCALL
        have HAL2 := Lib.hid hal
        clear hal HAL
        cases al
        · skip
          go_wp2_with fail
          refine HCALL.out.mono ?_
          rintro e w2 ⟨rfl, hb2⟩
          have HST2 := Lib.hid (HST.out.call (Nat.le_refl _) hb2)
          obtain ⟨d0, d1, d2, d3, d4, d5, d6, d7⟩ := boxS HST2.out.x
          clear hb2
          go_wp2
          go_ret
          rw [HE2.out, HK.out]
          refine ⟨?_, HST2.out.b⟩
          rw [← HFL.out, ← HAL2.out]
          rfl
        · by_cases hcond : tx.size ≤ 256
          · have hd3 : decide ((tx.size : Int) ≤ 256) = true := by simp; omega
            go_wp2_with fail
            refine HCALL.out.mono ?_
            rintro e w2 ⟨rfl, hb2⟩
            have HST2 := Lib.hid (HST.out.call (Nat.le_refl _) hb2)
            obtain ⟨d0, d1, d2, d3, d4, d5, d6, d7⟩ := boxS HST2.out.x
            clear hb2
            go_wp2
            go_ret
            rw [HE2.out, HK.out]
            refine ⟨?_, HST2.out.b⟩
            rw [← HFL.out, ← HAL2.out]
            simp [hcond]
          · have hd3 : decide ((tx.size : Int) ≤ 256) = false := by simp; omega
            go_wp2_with fail
            refine HCALL.out.mono ?_
            rintro e w2 ⟨rfl, hb2⟩
            have HST2 := Lib.hid (HST.out.call (Nat.le_refl _) hb2)
            obtain ⟨d0, d1, d2, d3, d4, d5, d6, d7⟩ := boxS HST2.out.x
            clear hb2
            go_wp2
            go_ret
            rw [HE2.out, HK.out]
            refine ⟨?_, HST2.out.b⟩
            rw [← HFL.out, ← HAL2.out]
            simp [hcond]
      · have HK := Lib.hid (rkind_11 (b := ⟨11, view, seq, client, stamp, digest, tx, list⟩) rfl)
        obtain ⟨al, hal⟩ : ∃ al, al = allowedB fl ⟨#[86, 83, 68, 88, 76]⟩ ⟨#[83, 68, 76]⟩ := ⟨_, rfl⟩
        have HCALL := Lib.hid (HAL.out ⟨#[86, 83, 68, 88, 76]⟩ ⟨#[83, 68, 76]⟩ wc hfit (by decide) (by decide))
        rw [← hal] at HCALL
        have HAL2 := Lib.hid hal
        clear hal HAL
        cases al
        · skip
          go_wp2_with fail
          refine HCALL.out.mono ?_
          rintro e w2 ⟨rfl, hb2⟩
          have HST2 := Lib.hid (HST.out.call (Nat.le_refl _) hb2)
          obtain ⟨d0, d1, d2, d3, d4, d5, d6, d7⟩ := boxS HST2.out.x
          clear hb2
          go_wp2
          go_ret
          rw [HE2.out, HK.out]
          refine ⟨?_, HST2.out.b⟩
          rw [← HFL.out, ← HAL2.out]
          rfl
        · skip
          go_wp2_with fail
          refine HCALL.out.mono ?_
          rintro e w2 ⟨rfl, hb2⟩
          have HST2 := Lib.hid (HST.out.call (Nat.le_refl _) hb2)
          obtain ⟨d0, d1, d2, d3, d4, d5, d6, d7⟩ := boxS HST2.out.x
          clear hb2
          go_wp2
          go_ret
          rw [HE2.out, HK.out]
          refine ⟨?_, HST2.out.b⟩
          rw [← HFL.out, ← HAL2.out]
          rfl
      · have HK := Lib.hid (rkind_12 (b := ⟨12, view, seq, client, stamp, digest, tx, list⟩) rfl)
        obtain ⟨al, hal⟩ : ∃ al, al = allowedB fl ⟨#[67, 88]⟩ ⟨#[]⟩ := ⟨_, rfl⟩
        have HCALL := Lib.hid (HAL.out ⟨#[67, 88]⟩ ⟨#[]⟩ wc hfit (by decide) (by decide))
        rw [← hal] at HCALL
        have HAL2 := Lib.hid hal
        clear hal HAL
        cases al
        · skip
          go_wp2_with fail
          refine HCALL.out.mono ?_
          rintro e w2 ⟨rfl, hb2⟩
          have HST2 := Lib.hid (HST.out.call (Nat.le_refl _) hb2)
          obtain ⟨d0, d1, d2, d3, d4, d5, d6, d7⟩ := boxS HST2.out.x
          clear hb2
          go_wp2
          go_ret
          rw [HE2.out, HK.out]
          refine ⟨?_, HST2.out.b⟩
          rw [← HFL.out, ← HAL2.out]
          rfl
        · by_cases hcond : tx.size ≤ 64
          · have hd3 : decide ((tx.size : Int) ≤ 64) = true := by simp; omega
            go_wp2_with fail
            refine HCALL.out.mono ?_
            rintro e w2 ⟨rfl, hb2⟩
            have HST2 := Lib.hid (HST.out.call (Nat.le_refl _) hb2)
            obtain ⟨d0, d1, d2, d3, d4, d5, d6, d7⟩ := boxS HST2.out.x
            clear hb2
            go_wp2
            go_ret
            rw [HE2.out, HK.out]
            refine ⟨?_, HST2.out.b⟩
            rw [← HFL.out, ← HAL2.out]
            simp [hcond]
          · have hd3 : decide ((tx.size : Int) ≤ 64) = false := by simp; omega
            go_wp2_with fail
            refine HCALL.out.mono ?_
            rintro e w2 ⟨rfl, hb2⟩
            have HST2 := Lib.hid (HST.out.call (Nat.le_refl _) hb2)
            obtain ⟨d0, d1, d2, d3, d4, d5, d6, d7⟩ := boxS HST2.out.x
            clear hb2
            go_wp2
            go_ret
            rw [HE2.out, HK.out]
            refine ⟨?_, HST2.out.b⟩
            rw [← HFL.out, ← HAL2.out]
            simp [hcond]
      · have HK := Lib.hid (rkind_13 (b := ⟨13, view, seq, client, stamp, digest, tx, list⟩) rfl)
        obtain ⟨al, hal⟩ : ∃ al, al = allowedB fl ⟨#[83, 68, 88, 76]⟩ ⟨#[83, 68, 76]⟩ := ⟨_, rfl⟩
        have HCALL := Lib.hid (HAL.out ⟨#[83, 68, 88, 76]⟩ ⟨#[83, 68, 76]⟩ wc hfit (by decide) (by decide))
        rw [← hal] at HCALL
        have HAL2 := Lib.hid hal
        clear hal HAL
        cases al
        · skip
          go_wp2_with fail
          refine HCALL.out.mono ?_
          rintro e w2 ⟨rfl, hb2⟩
          have HST2 := Lib.hid (HST.out.call (Nat.le_refl _) hb2)
          obtain ⟨d0, d1, d2, d3, d4, d5, d6, d7⟩ := boxS HST2.out.x
          clear hb2
          go_wp2
          go_ret
          rw [HE2.out, HK.out]
          refine ⟨?_, HST2.out.b⟩
          rw [← HFL.out, ← HAL2.out]
          rfl
        · by_cases hcond : Int.tmod seq 4 = 0
          · have hd3 : (Int.tmod seq 4 == 0) = true := by simp; omega
            go_wp2_with fail
            refine HCALL.out.mono ?_
            rintro e w2 ⟨rfl, hb2⟩
            have HST2 := Lib.hid (HST.out.call (Nat.le_refl _) hb2)
            obtain ⟨d0, d1, d2, d3, d4, d5, d6, d7⟩ := boxS HST2.out.x
            clear hb2
            go_wp2
            go_ret
            rw [HE2.out, HK.out]
            refine ⟨?_, HST2.out.b⟩
            rw [← HFL.out, ← HAL2.out]
            simp [hcond]
          · have hd3 : (Int.tmod seq 4 == 0) = false := by simp; omega
            go_wp2_with fail
            refine HCALL.out.mono ?_
            rintro e w2 ⟨rfl, hb2⟩
            have HST2 := Lib.hid (HST.out.call (Nat.le_refl _) hb2)
            obtain ⟨d0, d1, d2, d3, d4, d5, d6, d7⟩ := boxS HST2.out.x
            clear hb2
            go_wp2
            go_ret
            rw [HE2.out, HK.out]
            refine ⟨?_, HST2.out.b⟩
            rw [← HFL.out, ← HAL2.out]
            simp [hcond]

theorem rright_calls (b : Bd) (A : Option Addr) (c : Nat) (w : World) (hs : SgS w A c b.list) : Calls Try.prog 113 #[b.val A c] w (IntPost (rRight b) w) := by
  by_cases h : b.kind < 1 ∨ 13 < b.kind
  · have e : rRight b = 13 := by unfold rRight; rw [if_pos h]
    rw [e]
    exact rright_low b A c w h
  · exact rright_high b A c w (by omega) (by omega) hs
end Go.Proofs.Ytfgpchffkpomoaa
