/- Records: whether they may be, by the code and by the document. -/
import Derived.Test.YtehbpjkeflcanaaSame
import Derived.Test.YtehbpjkeflcanaaRc
namespace Go.Proofs.Ytehbpjkeflcanaa
set_option linter.unusedSimpArgs false
set_option linter.unusedVariables false
open Go.RowKit

set_option maxHeartbeats 1000000 in
set_option maxRecDepth 100000 in
theorem rise_calls (A : Option Addr) (c : Nat) (l : List Rc) (w : World) (hs : RcS w A c l) : Calls Try.prog 85 #[.slice A l.length c] w (IntPost (riseE l) w) := by
  have hfit := hs.fits
  have HS := Lib.hid hs
  clear hs
  by_cases h4 : 4096 < l.length
  · have hd : decide ((4096 : Int) < (l.length : Int)) = true := by simp; omega
    have HE := Lib.hid (show riseE l = 2 by unfold riseE; rw [if_pos h4])
    go_enter Try.func85, Try.ntmps85
    go_wp2
    go_ret
    unfold IntPost
    rw [HE.out]
    exact ⟨rfl, Below.refl _ _⟩
  · have hd : decide ((4096 : Int) < (l.length : Int)) = false := by simp; omega
    have HE := Lib.hid (show riseE l = riseN l l.length by unfold riseE; rw [if_neg h4])
    go_enter Try.func85, Try.ntmps85
    go_wp2
    go_loopg [10] l.length (fun g vi wr => ∃ k : Nat, vi = .int .i64 k ∧ k ≤ l.length ∧ Hid (g + k = l.length ∧ Below w.heap.size w wr ∧ riseN l k = 0))
    case atStart => exact ⟨0, rfl, by omega, rfl, Below.refl _ _, rfl⟩
    case round =>
      obtain ⟨k, rfl, hk, HH⟩ := hrel
      obtain ⟨hg, hb, ht⟩ := HH.out
      have HGK := Lib.hid hg
      have HB := Lib.hid hb
      have HT := Lib.hid ht
      have hsz := hb.size
      clear HH hb ht hg
      by_cases hlt : k < l.length
      · have hd2 : decide ((k : Int) < (l.length : Int)) = true := by simp; omega
        obtain ⟨a, rfl, h0, h1⟩ := (HS.out.below HB.out).elem k hlt
        obtain ⟨m, hm⟩ : ∃ m, m = l[k] := ⟨_, rfl⟩
        rw [← hm] at h0 h1
        have HM := Lib.hid hm
        clear hm
        obtain ⟨key, val⟩ := m
        simp only at h0 h1
        by_cases hb0 : key.size = 0
        · have hd3 : key.toList.isEmpty = true := by have := has_text key; rw [decide_eq_false (by omega)] at this; simpa using this
          have HE2 := Lib.hid (show riseE l = 14 by rw [HE.out]; exact riseN_stop HT.out (codeAt_bad hlt (by rw [← HM.out]; simp [rcBad, hb0])) (by decide) _ hlt)
          clear hb0
          go_wp2
          go_ret
          unfold IntPost
          rw [HE2.out]
          exact ⟨rfl, (HB.out.alloc hsz _)⟩
        · have hd3 : key.toList.isEmpty = false := by have := has_text key; rw [decide_eq_true (by omega)] at this; simpa using this
          by_cases hb1 : 64 < key.size
          · have hd4 : decide ((64 : Int) < (key.size : Int)) = true := by simp; omega
            have HE2 := Lib.hid (show riseE l = 14 by rw [HE.out]; exact riseN_stop HT.out (codeAt_bad hlt (by rw [← HM.out]; simp [rcBad, hb1])) (by decide) _ hlt)
            clear hb0
            go_wp2
            go_ret
            unfold IntPost
            rw [HE2.out]
            exact ⟨rfl, (HB.out.alloc hsz _)⟩
          · have hd4 : decide ((64 : Int) < (key.size : Int)) = false := by simp; omega
            by_cases hb2 : 4096 < val.size
            · have hd5 : decide ((4096 : Int) < (val.size : Int)) = true := by simp; omega
              have HE2 := Lib.hid (show riseE l = 14 by rw [HE.out]; exact riseN_stop HT.out (codeAt_bad hlt (by rw [← HM.out]; simp [rcBad, hb2])) (by decide) _ hlt)
              clear hb0
              go_wp2
              go_ret
              unfold IntPost
              rw [HE2.out]
              exact ⟨rfl, (HB.out.alloc hsz _)⟩
            · have hd5 : decide ((4096 : Int) < (val.size : Int)) = false := by simp; omega
              have hok : rcBad l[k] = false := by rw [← HM.out]; simp [rcBad, hb0]; omega
              clear hb0
              rcases Nat.eq_zero_or_pos k with hz | hz
              · have HE2 := Lib.hid (show riseN l (k + 1) = 0 from riseN_next HT.out (by subst hz; exact codeAt_first hlt hok))
                have hd6 : ¬ 0 < k := by omega
                have hd7 : decide ((0 : Int) < (k : Int)) = false := by simp; omega
                clear hok hz
                go_wp2_with fail
                go_quiet (fail)
                go_wp2
                go_roundg (gk - 1)
                case measure => have := HGK.out; omega
                case rel => exact ⟨k + 1, by go_num, by omega, by have := HGK.out; omega, below_drewN (HB.out.alloc hsz _) _, HE2.out⟩
              · obtain ⟨j, hj⟩ : ∃ j, k = j + 1 := ⟨k - 1, by omega⟩
                have hjl : j < l.length := by omega
                obtain ⟨a', ha', g0, hx1⟩ := (HS.out.below HB.out).elem j hjl
                clear hx1
                obtain rfl : a = a' := by simpa using ha'
                have hcd : codeAt l k = if geB l[j].key key = true then 15 else 0 := by subst hj; rw [codeAt_next hlt hok, ← HM.out]
                obtain ⟨pk, hpk⟩ : ∃ pk, pk = l[j].key := ⟨_, rfl⟩
                rw [← hpk] at g0 hcd
                have hjk : (k : Int) - 1 = (j : Int) := by omega
                have hd7 : decide ((0 : Int) < (k : Int)) = true := by simp; omega
                clear hpk hok ha' hj
                have g0x := (World.cell?_alloc_lt wr (.cells #[.string key, .string val] 114) _ (World.block_lt_of_cell? _ _ g0)).trans g0
                by_cases hge : geB pk key = true
                · have HE2 := Lib.hid (show riseE l = 15 by rw [HE.out]; exact riseN_stop HT.out (by rw [hcd, if_pos hge]) (by decide) _ hlt)
                  have hd6 : Op.bytesLess pk.toList key.toList = false := by unfold geB at hge; simpa using hge
                  clear hcd hge
                  go_wp2_with fail
                  go_quiet (fail)
                  go_wp2
                  go_ret
                  unfold IntPost
                  rw [HE2.out]
                  exact ⟨rfl, below_drewN (HB.out.alloc hsz _) _⟩
                · have HE2 := Lib.hid (riseN_next HT.out (by rw [hcd, if_neg hge]))
                  have hd6 : Op.bytesLess pk.toList key.toList = true := by unfold geB at hge; simpa using hge
                  clear hcd hge
                  go_wp2_with fail
                  go_quiet (fail)
                  go_wp2
                  go_roundg (gk - 1)
                  case measure => have := HGK.out; omega
                  case rel => exact ⟨k + 1, by go_num, by omega, by have := HGK.out; omega, below_drewN (HB.out.alloc hsz _) _, HE2.out⟩
      · have hd2 : decide ((k : Int) < (l.length : Int)) = false := by simp; omega
        obtain rfl : k = l.length := by omega
        go_wp2
        go_ret
        unfold IntPost
        rw [HE.out, HT.out]
        exact ⟨rfl, HB.out⟩

set_option maxHeartbeats 1000000 in
set_option maxRecDepth 100000 in
theorem rrise_calls (A : Option Addr) (c : Nat) (l : List Rc) (w : World) (hs : RcS w A c l) : Calls Try.prog 86 #[.slice A l.length c] w (IntPost (riseE l) w) := by
  have hfit := hs.fits
  have HS := Lib.hid hs
  clear hs
  by_cases h4 : 4096 < l.length
  · have hd : decide ((4096 : Int) < (l.length : Int)) = true := by simp; omega
    have HE := Lib.hid (show riseE l = 2 by unfold riseE; rw [if_pos h4])
    go_enter Try.func86, Try.ntmps86
    go_wp2
    go_ret
    unfold IntPost
    rw [HE.out]
    exact ⟨rfl, Below.refl _ _⟩
  · have hd : decide ((4096 : Int) < (l.length : Int)) = false := by simp; omega
    have HE := Lib.hid (show riseE l = riseN l l.length by unfold riseE; rw [if_neg h4])
    go_enter Try.func86, Try.ntmps86
    go_wp2
    go_loopg [3] l.length (fun g vi wr => ∃ k : Nat, vi = .int .i64 k ∧ k ≤ l.length ∧ Hid (g + k = l.length ∧ Below w.heap.size w wr ∧ riseN l k = 0))
    case atStart => exact ⟨0, rfl, by omega, rfl, Below.refl _ _, rfl⟩
    case round =>
      obtain ⟨k, rfl, hk, HH⟩ := hrel
      obtain ⟨hg, hb, ht⟩ := HH.out
      have HGK := Lib.hid hg
      have HB := Lib.hid hb
      have HT := Lib.hid ht
      have hsz := hb.size
      clear HH hb ht hg
      by_cases hlt : k < l.length
      · have hd2 : decide ((k : Int) < (l.length : Int)) = true := by simp; omega
        obtain ⟨a, rfl, h0, h1⟩ := (HS.out.below HB.out).elem k hlt
        obtain ⟨m, hm⟩ : ∃ m, m = l[k] := ⟨_, rfl⟩
        rw [← hm] at h0 h1
        have HM := Lib.hid hm
        clear hm
        obtain ⟨key, val⟩ := m
        simp only at h0 h1
        by_cases hb0 : key.size = 0
        · have hd3 : key.toList.isEmpty = true := by have := has_text key; rw [decide_eq_false (by omega)] at this; simpa using this
          have HE2 := Lib.hid (show riseE l = 14 by rw [HE.out]; exact riseN_stop HT.out (codeAt_bad hlt (by rw [← HM.out]; simp [rcBad, hb0])) (by decide) _ hlt)
          clear hb0
          go_wp2
          go_ret
          unfold IntPost
          rw [HE2.out]
          exact ⟨rfl, HB.out⟩
        · have hd3 : key.toList.isEmpty = false := by have := has_text key; rw [decide_eq_true (by omega)] at this; simpa using this
          by_cases hb1 : 64 < key.size
          · have hd4 : decide ((64 : Int) < (key.size : Int)) = true := by simp; omega
            have HE2 := Lib.hid (show riseE l = 14 by rw [HE.out]; exact riseN_stop HT.out (codeAt_bad hlt (by rw [← HM.out]; simp [rcBad, hb1])) (by decide) _ hlt)
            clear hb0
            go_wp2
            go_ret
            unfold IntPost
            rw [HE2.out]
            exact ⟨rfl, HB.out⟩
          · have hd4 : decide ((64 : Int) < (key.size : Int)) = false := by simp; omega
            by_cases hb2 : 4096 < val.size
            · have hd5 : decide ((4096 : Int) < (val.size : Int)) = true := by simp; omega
              have HE2 := Lib.hid (show riseE l = 14 by rw [HE.out]; exact riseN_stop HT.out (codeAt_bad hlt (by rw [← HM.out]; simp [rcBad, hb2])) (by decide) _ hlt)
              clear hb0
              go_wp2
              go_ret
              unfold IntPost
              rw [HE2.out]
              exact ⟨rfl, HB.out⟩
            · have hd5 : decide ((4096 : Int) < (val.size : Int)) = false := by simp; omega
              have hok : rcBad l[k] = false := by rw [← HM.out]; simp [rcBad, hb0]; omega
              clear hb0
              rcases Nat.eq_zero_or_pos k with hz | hz
              · have HE2 := Lib.hid (show riseN l (k + 1) = 0 from riseN_next HT.out (by subst hz; exact codeAt_first hlt hok))
                have hd6 : ¬ 0 < k := by omega
                have hd7 : decide ((0 : Int) < (k : Int)) = false := by simp; omega
                clear hok hz
                go_wp2_with fail
                go_quiet (fail)
                go_wp2
                go_roundg (gk - 1)
                case measure => have := HGK.out; omega
                case rel => exact ⟨k + 1, by go_num, by omega, by have := HGK.out; omega, below_drewN HB.out _, HE2.out⟩
              · obtain ⟨j, hj⟩ : ∃ j, k = j + 1 := ⟨k - 1, by omega⟩
                have hjl : j < l.length := by omega
                obtain ⟨a', ha', g0, hx1⟩ := (HS.out.below HB.out).elem j hjl
                clear hx1
                obtain rfl : a = a' := by simpa using ha'
                have hcd : codeAt l k = if geB l[j].key key = true then 15 else 0 := by subst hj; rw [codeAt_next hlt hok, ← HM.out]
                obtain ⟨pk, hpk⟩ : ∃ pk, pk = l[j].key := ⟨_, rfl⟩
                rw [← hpk] at g0 hcd
                have hjk : (k : Int) - 1 = (j : Int) := by omega
                have hd7 : decide ((0 : Int) < (k : Int)) = true := by simp; omega
                clear hpk hok ha' hj
                by_cases hge : geB pk key = true
                · have HE2 := Lib.hid (show riseE l = 15 by rw [HE.out]; exact riseN_stop HT.out (by rw [hcd, if_pos hge]) (by decide) _ hlt)
                  have hd6 : Op.bytesLess pk.toList key.toList = false := by unfold geB at hge; simpa using hge
                  clear hcd hge
                  go_wp2_with fail
                  go_quiet (fail)
                  go_wp2
                  go_ret
                  unfold IntPost
                  rw [HE2.out]
                  exact ⟨rfl, below_drewN HB.out _⟩
                · have HE2 := Lib.hid (riseN_next HT.out (by rw [hcd, if_neg hge]))
                  have hd6 : Op.bytesLess pk.toList key.toList = true := by unfold geB at hge; simpa using hge
                  clear hcd hge
                  go_wp2_with fail
                  go_quiet (fail)
                  go_wp2
                  go_roundg (gk - 1)
                  case measure => have := HGK.out; omega
                  case rel => exact ⟨k + 1, by go_num, by omega, by have := HGK.out; omega, below_drewN HB.out _, HE2.out⟩
      · have hd2 : decide ((k : Int) < (l.length : Int)) = false := by simp; omega
        obtain rfl : k = l.length := by omega
        go_wp2
        go_ret
        unfold IntPost
        rw [HE.out, HT.out]
        exact ⟨rfl, HB.out⟩
end Go.Proofs.Ytehbpjkeflcanaa
