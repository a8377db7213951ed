/- May a proof be: the walks through the code's right and the document's ProofFits. -/
import Derived.Test.YtehbpjkeflcanaaPf
import Derived.Test.YtehbpjkeflcanaaRight
namespace Go.Proofs.Ytehbpjkeflcanaa
set_option linter.unusedSimpArgs false
set_option linter.unusedVariables false
open Go.RowKit

theorem box4 {w : World} {k : Nat} {a b c d : Value} {T : TypeId} (h : Box w k #[a, b, c, d] T) : w.cell? ⟨k, 0, none⟩ = some a ∧ w.cell? ⟨k, 1, none⟩ = some b ∧ w.cell? ⟨k, 2, none⟩ = some c ∧ w.cell? ⟨k, 3, none⟩ = some d := ⟨h.cell 0, h.cell 1, h.cell 2, h.cell 3⟩

set_option maxHeartbeats 2000000 in
set_option maxRecDepth 100000 in
theorem wright_calls (count : Int) (A : Option Addr) (c : Nat) (l : List Pm) (w : World) (hs : PmS w A c l) : Calls Try.prog 88 #[.agg #[.int .i64 count, .slice A l.length c]] w (BoolPost (pfOk count (l.map Pm.pt)) w) := by
  have hfit := hs.1.fits
  have HS := Lib.hid hs
  clear hs
  have HB0 := Lib.hid ((Below.refl w.heap.size w).alloc (Nat.le_refl _) (.cells #[.int .i64 count, .slice A l.length c] 76))
  obtain ⟨k0, k1, _⟩ := (Box.new w #[.int .i64 count, .slice A l.length c] 76).facts2
  by_cases hc : 0 ≤ count ∧ count ≤ 4096
  · have hd0 : decide (0 ≤ count ∧ count ≤ 4096) = true := decide_eq_true hc
    by_cases hl : 2 < l.length
    · have HE := Lib.hid (show pfOk count (l.map Pm.pt) = false from pfOk_len (by simpa using hl))
      go_enter Try.func88, Try.ntmps88
      go_wp2_with (go_at_call 60; refine (within_calls _ _ _).mono ?_; rintro e w' ⟨rfl, rfl⟩)
      go_ret
      exact ⟨ret_bool HE.out.symm, HB0.out⟩
    · have HC := Lib.hid hc
      clear hc
      go_enter Try.func88, Try.ntmps88
      go_wp2_with (go_at_call 60; refine (within_calls _ _ _).mono ?_; rintro e w' ⟨rfl, rfl⟩)
      obtain ⟨W, hW⟩ : ∃ W, W = w.alloc (.cells #[.int .i64 count, .slice A l.length c] 76) := ⟨_, rfl⟩
      rw [← hW] at HB0 k0 k1 ⊢
      clear hW
      go_loopg [20] l.length (fun g v20 wr => ∃ k : Nat, v20 = .int .i64 k ∧ k ≤ l.length ∧ Hid (g + k = l.length ∧ Below w.heap.size w wr ∧ ((l.map Pm.pt).take k).all ptOk = true))
      case atStart => exact ⟨0, rfl, Nat.zero_le _, rfl, HB0.out, rfl⟩
      case round =>
        clear HB0 k0 k1
        obtain ⟨k, rfl, hk, HH⟩ := hrel
        obtain ⟨hg, hb, ha⟩ := HH.out
        have HG := Lib.hid hg
        have HB := Lib.hid hb
        have HA := Lib.hid ha
        have hsz := hb.size
        clear HH hg hb ha
        by_cases hlt : k < l.length
        · obtain ⟨a, rfl, e0, e1, e2, e3, hsd⟩ := (HS.out.below HB.out).elem k hlt
          have hbad := fun h => pfOk_bad (count := count) hlt h
          have hnx : ptOk l[k].pt = true → ((l.map Pm.pt).take (k + 1)).all ptOk = true := fun h => by
            rw [all_take_succ (by simpa using hlt), HA.out]
            simpa using h
          obtain ⟨⟨index, key, val, sides, SA, sc⟩, hx⟩ : ∃ x, x = l[k] := ⟨_, rfl⟩
          rw [← hx] at e0 e1 e2 e3 hsd hbad hnx
          simp only at e0 e1 e2 e3 hsd
          have hsf := hsd.2
          clear hx
          have HBAD := Lib.hid hbad
          have HNX := Lib.hid hnx
          have HSD := Lib.hid (hsd.below ((Below.refl wr.heap.size wr).alloc (Nat.le_refl _) (.cells #[.int .i64 index, .string key, .string val, .slice SA sides.length sc] 118)))
          have HB1 := Lib.hid (HB.out.alloc hsz (.cells #[.int .i64 index, .string key, .string val, .slice SA sides.length sc] 118))
          obtain ⟨q0, q1, q2, q3⟩ := box4 (Box.new wr #[.int .i64 index, .string key, .string val, .slice SA sides.length sc] 118)
          clear hbad hnx hsd
          by_cases hp : (0 ≤ index ∧ index ≤ 4095) ∧ key.size ≤ 64 ∧ val.size ≤ 4096 ∧ sides.length ≤ 13
          · obtain ⟨p1, p2, p3, p4⟩ := hp
            have hd1 : decide (0 ≤ index ∧ index ≤ 4095) = true := decide_eq_true p1
            have HP1 := Lib.hid p1
            clear p1
            go_wp2_with (go_at_call 60; refine (within_calls _ _ _).mono ?_; rintro e w' ⟨rfl, rfl⟩)
            obtain ⟨V, hV⟩ : ∃ V, V = wr.alloc (.cells #[.int .i64 index, .string key, .string val, .slice SA sides.length sc] 118) := ⟨_, rfl⟩
            rw [← hV] at HSD HB1 q0 q1 q2 q3 ⊢
            clear hV e0 e1 e2 e3
            go_loopg [49] sides.length (fun g v49 wj => ∃ j : Nat, v49 = .int .i64 j ∧ j ≤ sides.length ∧ Hid (g + j = sides.length ∧ wj = V ∧ (sides.take j).all (fun s => decide (s.size ≤ 32)) = true))
            case atStart => exact ⟨0, rfl, Nat.zero_le _, rfl, rfl, rfl⟩
            case round =>
              obtain ⟨j, rfl, hj, HH⟩ := hrel
              obtain ⟨hgj, hw, hja⟩ := HH.out
              subst hw
              have HGJ := Lib.hid hgj
              have HJA := Lib.hid hja
              clear HH hgj hja
              by_cases hjl : j < sides.length
              · obtain ⟨sa, rfl, s0⟩ := HSD.out.elem j hjl
                have hjn := all_take_succ (f := fun s : ByteArray => decide (s.size ≤ 32)) hjl
                rw [HJA.out] at hjn
                have hjb := ptOk_side (x := Pm.pt ⟨index, key, val, sides, some sa, sc⟩) (j := j) hjl
                change 32 < sides[j].size → _ at hjb
                obtain ⟨t, ht⟩ : ∃ t, t = sides[j] := ⟨_, rfl⟩
                rw [← ht] at s0 hjn hjb
                clear ht
                have HJN := Lib.hid hjn
                have HJB := Lib.hid hjb
                clear hjn hjb
                by_cases h32 : 32 < t.size
                · have hd9 : decide ((32 : Int) < (t.size : Int)) = true := by simp; omega
                  have HE := Lib.hid (HBAD.out (HJB.out h32))
                  go_wp2
                  go_ret
                  exact ⟨ret_bool HE.out.symm, HB1.out⟩
                · have hd9 : decide ((32 : Int) < (t.size : Int)) = false := by simp; omega
                  go_wp2
                  go_roundg (sides.length - (j + 1))
                  case measure => have := HGJ.out; omega
                  case rel => exact ⟨j + 1, by go_num, by omega, by omega, rfl, by rw [HJN.out]; simp; omega⟩
              · have hall := HJA.out
                rw [List.take_of_length_le (by omega)] at hall
                have HN := Lib.hid (HNX.out (ptOk_good HP1.out p2 p3 p4 hall))
                clear hall
                go_wp2
                go_roundg (l.length - (k + 1))
                case measure => have := HG.out; omega
                case rel => exact ⟨k + 1, by go_num, by omega, by omega, HB1.out, HN.out⟩
          · have HE := Lib.hid (HBAD.out (ptOk_no hp))
            by_cases p1 : 0 ≤ index ∧ index ≤ 4095
            · have hd1 : decide (0 ≤ index ∧ index ≤ 4095) = true := decide_eq_true p1
              by_cases p2 : key.size ≤ 64
              · by_cases p3 : val.size ≤ 4096
                · have p4 : ¬ sides.length ≤ 13 := fun h => hp ⟨p1, p2, p3, h⟩
                  clear hp p1
                  go_wp2_with (go_at_call 60; refine (within_calls _ _ _).mono ?_; rintro e w' ⟨rfl, rfl⟩)
                  go_ret
                  exact ⟨ret_bool HE.out.symm, HB1.out⟩
                · clear hp p1
                  go_wp2_with (go_at_call 60; refine (within_calls _ _ _).mono ?_; rintro e w' ⟨rfl, rfl⟩)
                  go_ret
                  exact ⟨ret_bool HE.out.symm, HB1.out⟩
              · clear hp p1
                go_wp2_with (go_at_call 60; refine (within_calls _ _ _).mono ?_; rintro e w' ⟨rfl, rfl⟩)
                go_ret
                exact ⟨ret_bool HE.out.symm, HB1.out⟩
            · have hd1 : decide (0 ≤ index ∧ index ≤ 4095) = false := decide_eq_false p1
              clear hp p1
              go_wp2_with (go_at_call 60; refine (within_calls _ _ _).mono ?_; rintro e w' ⟨rfl, rfl⟩)
              go_ret
              exact ⟨ret_bool HE.out.symm, HB1.out⟩
        · have hall := HA.out
          rw [List.take_of_length_le (by simp; omega)] at hall
          have HE := Lib.hid (pfOk_good HC.out (by omega) hall)
          clear hall
          go_wp2
          go_ret
          exact ⟨ret_bool HE.out.symm, HB.out⟩
  · have hd0 : decide (0 ≤ count ∧ count ≤ 4096) = false := decide_eq_false hc
    have HE := Lib.hid (show pfOk count (l.map Pm.pt) = false from pfOk_count hc)
    clear hc
    go_enter Try.func88, Try.ntmps88
    go_wp2_with (go_at_call 60; refine (within_calls _ _ _).mono ?_; rintro e w' ⟨rfl, rfl⟩)
    go_ret
    exact ⟨ret_bool HE.out.symm, HB0.out⟩

set_option maxHeartbeats 2000000 in
set_option maxRecDepth 100000 in
theorem rpfits_calls (count : Int) (A : Option Addr) (c : Nat) (l : List Pm) (w : World) (hs : PmS w A c l) : Calls Try.prog 89 #[.agg #[.int .i64 count, .slice A l.length c]] w (BoolPost (pfOk count (l.map Pm.pt)) w) := by
  have hfit := hs.1.fits
  have HS := Lib.hid hs
  clear hs
  have HB0 := Lib.hid ((Below.refl w.heap.size w).alloc (Nat.le_refl _) (.cells #[.int .i64 count, .slice A l.length c] 76))
  obtain ⟨k0, k1, _⟩ := (Box.new w #[.int .i64 count, .slice A l.length c] 76).facts2
  by_cases hc : 0 ≤ count ∧ count ≤ 4096
  · have hd0 : decide (0 ≤ count ∧ count ≤ 4096) = true := decide_eq_true hc
    by_cases hl : 2 < l.length
    · have HE := Lib.hid (show pfOk count (l.map Pm.pt) = false from pfOk_len (by simpa using hl))
      obtain ⟨hc1, hc2⟩ := hc
      clear hd0
      go_enter Try.func89, Try.ntmps89
      go_wp2_with fail
      go_ret
      exact ⟨ret_bool HE.out.symm, HB0.out⟩
    · have HC := Lib.hid hc
      have HBX := Lib.hid (Box.new w #[.int .i64 count, .slice A l.length c] 76)
      obtain ⟨hc1, hc2⟩ := hc
      clear hd0
      go_enter Try.func89, Try.ntmps89
      go_wp2_with fail
      obtain ⟨W, hW⟩ : ∃ W, W = w.alloc (.cells #[.int .i64 count, .slice A l.length c] 76) := ⟨_, rfl⟩
      rw [← hW] at HB0 HBX k0 k1 ⊢
      clear hW
      go_loopg [3] l.length (fun g v20 wr => ∃ k : Nat, v20 = .int .i64 k ∧ k ≤ l.length ∧ Hid (g + k = l.length ∧ Below w.heap.size w wr ∧ Box wr w.heap.size #[.int .i64 count, .slice A l.length c] 76 ∧ ((l.map Pm.pt).take k).all ptOk = true))
      case atStart => exact ⟨0, rfl, Nat.zero_le _, rfl, HB0.out, HBX.out, rfl⟩
      case round =>
        clear HB0 HBX k0 k1
        obtain ⟨k, rfl, hk, HH⟩ := hrel
        obtain ⟨hg, hb, hbx, ha⟩ := HH.out
        have HBX := Lib.hid hbx
        obtain ⟨k0, k1, _⟩ := hbx.facts2
        have HG := Lib.hid hg
        have HB := Lib.hid hb
        have HA := Lib.hid ha
        have hsz := hb.size
        clear HH hg hb hbx ha
        by_cases hlt : k < l.length
        · obtain ⟨a, rfl, e0, e1, e2, e3, hsd⟩ := (HS.out.below HB.out).elem k hlt
          have hbad := fun h => pfOk_bad (count := count) hlt h
          have hnx : ptOk l[k].pt = true → ((l.map Pm.pt).take (k + 1)).all ptOk = true := fun h => by
            rw [all_take_succ (by simpa using hlt), HA.out]
            simpa using h
          obtain ⟨⟨index, key, val, sides, SA, sc⟩, hx⟩ : ∃ x, x = l[k] := ⟨_, rfl⟩
          rw [← hx] at e0 e1 e2 e3 hsd hbad hnx
          simp only at e0 e1 e2 e3 hsd
          have hsf := hsd.2
          clear hx
          have HBAD := Lib.hid hbad
          have HNX := Lib.hid hnx
          have HSD := Lib.hid (hsd.below ((Below.refl wr.heap.size wr).alloc (Nat.le_refl _) (.cells #[.int .i64 index, .string key, .string val, .slice SA sides.length sc] 118)))
          have HB1 := Lib.hid (HB.out.alloc hsz (.cells #[.int .i64 index, .string key, .string val, .slice SA sides.length sc] 118))
          obtain ⟨q0, q1, q2, q3⟩ := box4 (Box.new wr #[.int .i64 index, .string key, .string val, .slice SA sides.length sc] 118)
          have HBX1 := Lib.hid (HBX.out.alloc (.cells #[.int .i64 index, .string key, .string val, .slice SA sides.length sc] 118))
          clear hbad hnx hsd
          by_cases hp : (0 ≤ index ∧ index ≤ 4095) ∧ key.size ≤ 64 ∧ val.size ≤ 4096 ∧ sides.length ≤ 13
          · obtain ⟨p1, p2, p3, p4⟩ := hp
            have hd1 : decide (0 ≤ index ∧ index ≤ 4095) = true := decide_eq_true p1
            have HP1 := Lib.hid p1
            obtain ⟨p1a, p1b⟩ := p1
            clear hd1
            go_wp2_with fail
            obtain ⟨V, hV⟩ : ∃ V, V = wr.alloc (.cells #[.int .i64 index, .string key, .string val, .slice SA sides.length sc] 118) := ⟨_, rfl⟩
            rw [← hV] at HSD HB1 HBX1 q0 q1 q2 q3 ⊢
            clear k0 k1
            obtain ⟨k0, k1, _⟩ := HBX1.out.facts2
            clear hV e0 e1 e2 e3
            go_loopg [5] sides.length (fun g v49 wj => ∃ j : Nat, v49 = .int .i64 j ∧ j ≤ sides.length ∧ Hid (g + j = sides.length ∧ wj = V ∧ (sides.take j).all (fun s => decide (s.size ≤ 32)) = true))
            case atStart => exact ⟨0, rfl, Nat.zero_le _, rfl, rfl, rfl⟩
            case round =>
              obtain ⟨j, rfl, hj, HH⟩ := hrel
              obtain ⟨hgj, hw, hja⟩ := HH.out
              subst hw
              have HGJ := Lib.hid hgj
              have HJA := Lib.hid hja
              clear HH hgj hja
              by_cases hjl : j < sides.length
              · obtain ⟨sa, rfl, s0⟩ := HSD.out.elem j hjl
                have hjn := all_take_succ (f := fun s : ByteArray => decide (s.size ≤ 32)) hjl
                rw [HJA.out] at hjn
                have hjb := ptOk_side (x := Pm.pt ⟨index, key, val, sides, some sa, sc⟩) (j := j) hjl
                change 32 < sides[j].size → _ at hjb
                obtain ⟨t, ht⟩ : ∃ t, t = sides[j] := ⟨_, rfl⟩
                rw [← ht] at s0 hjn hjb
                clear ht
                have HJN := Lib.hid hjn
                have HJB := Lib.hid hjb
                clear hjn hjb
                by_cases h32 : 32 < t.size
                · have hd9 : decide ((32 : Int) < (t.size : Int)) = true := by simp; omega
                  have HE := Lib.hid (HBAD.out (HJB.out h32))
                  go_wp2
                  go_ret
                  exact ⟨ret_bool HE.out.symm, HB1.out⟩
                · have hd9 : decide ((32 : Int) < (t.size : Int)) = false := by simp; omega
                  go_wp2
                  go_roundg (sides.length - (j + 1))
                  case measure => have := HGJ.out; omega
                  case rel => exact ⟨j + 1, by go_num, by omega, by omega, rfl, by rw [HJN.out]; simp; omega⟩
              · have hall := HJA.out
                rw [List.take_of_length_le (by omega)] at hall
                have HN := Lib.hid (HNX.out (ptOk_good HP1.out p2 p3 p4 hall))
                clear hall
                go_wp2
                go_roundg (l.length - (k + 1))
                case measure => have := HG.out; omega
                case rel => exact ⟨k + 1, by go_num, by omega, by omega, HB1.out, HBX1.out, HN.out⟩
          · have HE := Lib.hid (HBAD.out (ptOk_no hp))
            by_cases p1 : 0 ≤ index ∧ index ≤ 4095
            · have hd1 : decide (0 ≤ index ∧ index ≤ 4095) = true := decide_eq_true p1
              by_cases p2 : key.size ≤ 64
              · by_cases p3 : val.size ≤ 4096
                · have p4 : ¬ sides.length ≤ 13 := fun h => hp ⟨p1, p2, p3, h⟩
                  obtain ⟨p1a, p1b⟩ := p1
                  clear hp hd1
                  go_wp2_with fail
                  go_ret
                  exact ⟨ret_bool HE.out.symm, HB1.out⟩
                · obtain ⟨p1a, p1b⟩ := p1
                  clear hp hd1
                  go_wp2_with fail
                  go_ret
                  exact ⟨ret_bool HE.out.symm, HB1.out⟩
              · obtain ⟨p1a, p1b⟩ := p1
                clear hp hd1
                go_wp2_with fail
                go_ret
                exact ⟨ret_bool HE.out.symm, HB1.out⟩
            · clear hp
              by_cases p1a : 0 ≤ index
              · have p1b : ¬ index ≤ 4095 := fun h => p1 ⟨p1a, h⟩
                clear p1
                go_wp2_with fail
                go_ret
                exact ⟨ret_bool HE.out.symm, HB1.out⟩
              · clear p1
                go_wp2_with fail
                go_ret
                exact ⟨ret_bool HE.out.symm, HB1.out⟩
        · have hall := HA.out
          rw [List.take_of_length_le (by simp; omega)] at hall
          have HE := Lib.hid (pfOk_good HC.out (by omega) hall)
          clear hall
          go_wp2
          go_ret
          exact ⟨ret_bool HE.out.symm, HB.out⟩
  · have HE := Lib.hid (show pfOk count (l.map Pm.pt) = false from pfOk_count hc)
    by_cases hc1 : 0 ≤ count
    · have hc2 : ¬ count ≤ 4096 := fun h => hc ⟨hc1, h⟩
      clear hc
      go_enter Try.func89, Try.ntmps89
      go_wp2_with fail
      go_ret
      exact ⟨ret_bool HE.out.symm, HB0.out⟩
    · clear hc
      go_enter Try.func89, Try.ntmps89
      go_wp2_with fail
      go_ret
      exact ⟨ret_bool HE.out.symm, HB0.out⟩
end Go.Proofs.Ytehbpjkeflcanaa
