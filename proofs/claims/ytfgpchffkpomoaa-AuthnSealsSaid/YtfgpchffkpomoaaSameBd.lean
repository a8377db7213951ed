/- Whether two bodies are the same. -/
import Derived.Test.YtfgpchffkpomoaaSame
namespace Go.Proofs.Ytfgpchffkpomoaa
set_option linter.unusedSimpArgs false
set_option linter.unusedVariables false
open Go.RowKit

def sameBd (b c : Bd) : Bool := decide (b.kind = c.kind) && (decide (b.view = c.view) && (decide (b.seq = c.seq) && (decide (b.client = c.client) && (decide (b.stamp = c.stamp) && (decide (b.digest = c.digest) && (decide (b.text = c.text) && sameL b.list c.list))))))
theorem sameBd_iff {b c : Bd} : sameBd b c = true ↔ b = c := by
  cases b; cases c
  simp [sameBd, sameL_iff]
theorem sameBd_no {b c : Bd} (h : b ≠ c) : sameBd b c = false := by
  rw [← Bool.not_eq_true, sameBd_iff]; exact h
theorem toList_ne {a b : ByteArray} (h : a ≠ b) : (a.toList == b.toList) = false := by
  rw [← Bool.not_eq_true, beq_iff_eq]; exact fun e => h (toList_eq e)

set_option maxRecDepth 100000 in
theorem same_calls (b c : Bd) (A B : Option Addr) (p q : Nat) (w : World) (hs : SgS w A p b.list) (ht : SgS w B q c.list) : Calls Try.prog 54 #[b.val A p, c.val B q] w (BoolPost (sameBd b c) w) := by
  have hbb : Below w.heap.size w ((w.alloc (.cells (b.cells A p) 59)).alloc (.cells (c.cells B q) 59)) := ((Below.refl _ _).alloc (Nat.le_refl _) _).alloc (by simp) _
  have hl1 := hs.fits
  have hl2 := ht.fits
  have HS := Lib.hid (hs.below hbb)
  have HT := Lib.hid (ht.below hbb)
  have HB := Lib.hid hbb
  clear hs ht hbb
  obtain ⟨a0, a1, a2, a3, a4, a5, a6, a7⟩ := b
  obtain ⟨b0, b1, b2, b3, b4, b5, b6, b7⟩ := c
  unfold Bd.val Bd.cells at *
  simp only at *
  by_cases h : a0 = b0
  · subst h
    by_cases h : a1 = b1
    · subst h
      by_cases h : a2 = b2
      · subst h
        by_cases h : a3 = b3
        · subst h
          by_cases h : a4 = b4
          · subst h
            by_cases h : a5 = b5
            · subst h
              by_cases h : a6 = b6
              · subst h
                have HE := Lib.hid (show sameBd ⟨a0, a1, a2, a3, a4, a5, a6, a7⟩ ⟨a0, a1, a2, a3, a4, a5, a6, b7⟩ = sameL a7 b7 by simp [sameBd])
                go_enter Try.func54, Try.ntmps54
                go_wp2_with (first | (go_at_call 116; refine (sameAll_calls _ _ _ _ _ _ _ HS.out HT.out).mono ?_; rintro e wn ⟨rfl, hbn⟩; have HBn := Lib.hid (HB.out.trans (hbn.mono HB.out.size)); clear HB hbn; have HB := HBn; clear HBn))
                go_ret
                exact ⟨ret_bool HE.out.symm, HB.out⟩
              · have hd : (a6.toList == b6.toList) = false := toList_ne h
                have HE := Lib.hid (sameBd_no (b := ⟨a0, a1, a2, a3, a4, a5, a6, a7⟩) (c := ⟨a0, a1, a2, a3, a4, a5, b6, b7⟩) (by intro e; injection e; contradiction))
                clear h
                go_enter Try.func54, Try.ntmps54
                go_wp2
                go_ret
                exact ⟨ret_bool HE.out.symm, HB.out⟩
            · have hd : (a5.toList == b5.toList) = false := toList_ne h
              have HE := Lib.hid (sameBd_no (b := ⟨a0, a1, a2, a3, a4, a5, a6, a7⟩) (c := ⟨a0, a1, a2, a3, a4, b5, b6, b7⟩) (by intro e; injection e; contradiction))
              clear h
              go_enter Try.func54, Try.ntmps54
              go_wp2
              go_ret
              exact ⟨ret_bool HE.out.symm, HB.out⟩
          · have hd : (a4 == b4) = false := by simpa using h
            have HE := Lib.hid (sameBd_no (b := ⟨a0, a1, a2, a3, a4, a5, a6, a7⟩) (c := ⟨a0, a1, a2, a3, b4, b5, b6, b7⟩) (by intro e; injection e; contradiction))
            clear h
            go_enter Try.func54, Try.ntmps54
            go_wp2
            go_ret
            exact ⟨ret_bool HE.out.symm, HB.out⟩
        · have hd : (a3 == b3) = false := by simpa using h
          have HE := Lib.hid (sameBd_no (b := ⟨a0, a1, a2, a3, a4, a5, a6, a7⟩) (c := ⟨a0, a1, a2, b3, b4, b5, b6, b7⟩) (by intro e; injection e; contradiction))
          clear h
          go_enter Try.func54, Try.ntmps54
          go_wp2
          go_ret
          exact ⟨ret_bool HE.out.symm, HB.out⟩
      · have hd : (a2 == b2) = false := by simpa using h
        have HE := Lib.hid (sameBd_no (b := ⟨a0, a1, a2, a3, a4, a5, a6, a7⟩) (c := ⟨a0, a1, b2, b3, b4, b5, b6, b7⟩) (by intro e; injection e; contradiction))
        clear h
        go_enter Try.func54, Try.ntmps54
        go_wp2
        go_ret
        exact ⟨ret_bool HE.out.symm, HB.out⟩
    · have hd : (a1 == b1) = false := by simpa using h
      have HE := Lib.hid (sameBd_no (b := ⟨a0, a1, a2, a3, a4, a5, a6, a7⟩) (c := ⟨a0, b1, b2, b3, b4, b5, b6, b7⟩) (by intro e; injection e; contradiction))
      clear h
      go_enter Try.func54, Try.ntmps54
      go_wp2
      go_ret
      exact ⟨ret_bool HE.out.symm, HB.out⟩
  · have hd : (a0 == b0) = false := by simpa using h
    have HE := Lib.hid (sameBd_no (b := ⟨a0, a1, a2, a3, a4, a5, a6, a7⟩) (c := ⟨b0, b1, b2, b3, b4, b5, b6, b7⟩) (by intro e; injection e; contradiction))
    clear h
    go_enter Try.func54, Try.ntmps54
    go_wp2
    go_ret
    exact ⟨ret_bool HE.out.symm, HB.out⟩
end Go.Proofs.Ytfgpchffkpomoaa
