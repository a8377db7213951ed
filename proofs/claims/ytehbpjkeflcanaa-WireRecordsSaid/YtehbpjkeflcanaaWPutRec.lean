/- Records are laid: the walk through the code's PutRecords. -/
import Derived.Test.YtehbpjkeflcanaaPutRec
namespace Go.Proofs.Ytehbpjkeflcanaa
set_option linter.unusedSimpArgs false
set_option linter.unusedVariables false
open Go.RowKit

theorem cells2 {w : World} {k : Nat} {a b : Value} {T : TypeId} (h : Box w k #[a, b] T) : w.cell? ⟨k, 0, none⟩ = some a ∧ w.cell? ⟨k, 1, none⟩ = some b := ⟨h.cell 0, h.cell 1⟩

set_option maxHeartbeats 1000000 in
set_option maxRecDepth 100000 in
theorem wrecs_calls (A : Option Addr) (c : Nat) (l : List Rc) (w : World) (hs : RcS w A c l) : Calls Try.prog 48 #[.slice A l.length c] w (StrErr (recsE l).1 (recsE l).2 w) := by
  have hfit := hs.fits
  have HS := Lib.hid hs
  have HR := Lib.hid (rise_calls A c l w hs)
  clear hs
  by_cases hr : riseE l = 0
  · have hok := rise_ok hr
    have HE := Lib.hid (show recsE l = (if 1048576 < (putRecs l).length then (⟨#[]⟩, 4) else (bs (putRecs l), 0)) by unfold recsE; rw [if_pos hr])
    rw [hr] at HR
    have HOK := Lib.hid hok.2
    have hl4 := hok.1
    have HL0 := Lib.hid (putNum_len 8 l.length (by omega))
    clear hok hr
    go_enter Try.func48, Try.ntmps48
    go_wp2_with fail
    refine HR.out.mono ?_
    rintro e wo ⟨rfl, hbo⟩
    have HB := Lib.hid hbo
    have HS4 := Lib.hid (HS.out.below hbo)
    clear hbo
    obtain ⟨W, hW⟩ : ∃ W, W = wo.alloc (.cells #[.slice none 0 0] 91) := ⟨_, rfl⟩
    have HW := Lib.hid (Wr.new wo)
    rw [← hW] at HW
    have HWW := Lib.hid hW
    clear hW
    go_wp2_with fail
    rw [← HWW.out]
    refine (wnumber_calls wo.heap.size none 0 [] (l.length : Nat) W (by omega) (by omega) (by rw [Int.toNat_natCast]; have := HL0.out; simp; omega) HW.out).mono ?_
    rw [Int.toNat_natCast]
    rintro e w2 ⟨rfl, An, capn, hcn, hwn⟩
    have HCh := Lib.hid hcn
    have HW9 := Lib.hid hwn
    clear hcn hwn
    have HBLW := Lib.hid (fun (A2 : Option Addr) (w2 : World) (hh : WrCh wo.heap.size none A2 W w2) => (show Below wo.heap.size wo w2 by rw [HWW.out] at hh; exact hh.below))
    go_wp2_with fail
    go_loopg [18] l.length (fun g vi w2 => ∃ (k : Nat) (A2 : Option Addr) (cap2 : Nat) (p : List UInt8), vi = .int .i64 k ∧ k ≤ l.length ∧ p.length ≤ 1048576 ∧ Hid (g + k = l.length ∧ p = putNum l.length ++ (l.take k).flatMap putRc ∧ WrCh wo.heap.size none A2 W w2 ∧ Wr w2 wo.heap.size A2 cap2 p))
    case atStart =>
      refine ⟨0, An, capn, putNum l.length, rfl, Nat.zero_le _, by have := HL0.out; omega, rfl, by simp, HCh.out, ?_⟩
      have hh := HW9.out
      simpa using hh
    case round =>
      obtain ⟨k, A2, cap2, p, rfl, hk, hpl, HH⟩ := hrel
      obtain ⟨hg, hp, hch, hw⟩ := HH.out
      have HG := Lib.hid hg
      have HP := Lib.hid hp
      have HCH := Lib.hid hch
      have HW2 := Lib.hid hw
      have HBL := Lib.hid (HBLW.out A2 wr hch)
      clear HH hg hch hw hp
      by_cases hlt : k < l.length
      · have hd3 : decide ((k : Int) < (l.length : Int)) = true := by simp; omega
        obtain ⟨a, rfl, hq⟩ := (HS4.out.below HBL.out).elem k hlt
        clear hq
        obtain ⟨e0, e1⟩ := (HS4.out.below HBL.out).get k hlt
        have hsz := HOK.out k hlt
        have hst := take_rec hlt
        obtain ⟨m, hm⟩ : ∃ m, m = l[k] := ⟨_, rfl⟩
        rw [← hm] at e0 e1 hsz hst
        clear hm
        obtain ⟨key, val⟩ := m
        simp only at e0 e1 hsz hst
        have h64 := hsz.1
        have h4096 := hsz.2.1
        have hyl : (putText key).length ≤ 73 := by rw [putText_length]; have := putNum_len 8 key.size (by omega); omega
        have hzl : (putText val).length ≤ 4105 := by rw [putText_length]; have := putNum_len 8 val.size (by omega); omega
        have HNEW := Lib.hid (show p ++ putText key ++ putText val = putNum l.length ++ (l.take (k + 1)).flatMap putRc by rw [hst, HP.out]; simp)
        have HSUM := Lib.hid (show (p ++ putText key ++ putText val).length = (putNum l.length).length + ((l.take (k + 1)).flatMap putRc).length by rw [HNEW.out, List.length_append])
        have HYL := Lib.hid hyl
        have HZL := Lib.hid hzl
        clear hst hsz hyl hzl
        have hwl := HW2.out.lt
        have hRA : ¬ Row A2 wr.heap.size := fun h => by have := (own_row HW2.out.own h).2; omega
        have HA2 := Lib.hid ((Wr.alloc HW2.out (.cells #[.string key, .string val] 114)))
        have HBX := Lib.hid (Box.new wr #[.string key, .string val] 114)
        have HL1 := Lib.hid (show p.length + (putText key).length ≤ 140737488355328 by have := HYL.out; omega)
        have HL2 := Lib.hid (show (p ++ putText key).length + (putText val).length ≤ 140737488355328 by have := HYL.out; have := HZL.out; simp only [List.length_append]; omega)
        have HA := Lib.hid (WrCh.alloc wo.heap.size A2 wr (.cells #[.string key, .string val] 114))
        obtain ⟨V, hV⟩ : ∃ V, V = wr.alloc (.cells #[.string key, .string val] 114) := ⟨_, rfl⟩
        have hsz : wr.heap.size < V.heap.size := by rw [hV]; simp
        rw [← hV] at HA2 HBX HA
        have HVV := Lib.hid hV
        clear hV
        go_wp2_with fail
        rw [← HVV.out]
        have t0 : True := trivial
        go_region_held3 (fun w' => w'.cell? ⟨wr.heap.size, 0, none⟩ = some (.string key) ∧ w'.cell? ⟨wr.heap.size, 1, none⟩ = some (.string val)) (first | exact cells2 (by assumption) | exact cells2 HBX.out) (first | (go_at_call 65; have _t := t0; clear t0; refine (wtext_calls wo.heap.size A2 cap2 p key _ (by omega) HL1.out HA2.out.drew).mono ?_; rintro e w1 ⟨rfl, A3, cap3, hc1, hw1⟩; have HC1 := Lib.hid ((WrCh.drewN wo.heap.size A2 V 1).trans hc1); have hb1 := HBX.out.drew.ch hc1.ch (by exact hsz) (by exact wr_ne (WrCh.refl wo.heap.size A2 V) hsz (by omega) hRA); clear hc1; have t1 : True := trivial) | (go_at_call 65; have _t := t1; clear t1; refine (wtext_calls wo.heap.size A3 cap3 _ val _ (by omega) HL2.out hw1).mono ?_; rintro e w2 ⟨rfl, A4, cap4, hc2, hw2⟩; have hb2 := hb1.ch hc2.ch (by exact hb1.lt) (by exact wr_ne HC1.out hsz (by omega) hRA); have HC2 := Lib.hid (HC1.out.trans hc2); clear hc2 hb1 hw1))
        have HW4 := Lib.hid hw2
        have hcell := hw2.cell
        have HCH4 := Lib.hid (HCH.out.trans (HA.out.trans HC2.out))
        have HLN := Lib.hid (show (p ++ putText key ++ putText val).length = p.length + (putText key).length + (putText val).length by simp only [List.length_append])
        obtain ⟨p4, hp4⟩ : ∃ x, x = p ++ putText key ++ putText val := ⟨_, rfl⟩
        rw [← hp4] at HW4 hcell HNEW HSUM HLN
        have hp4l : p4.length ≤ 1060000 := by have := HLN.out; have := HYL.out; have := HZL.out; omega
        clear hw2 hb2 hp4
        have HFIN := Lib.hid (HB.out.trans ((HBLW.out A4 _ HCH4.out).mono HB.out.size))
        by_cases hbig : 1048576 < p4.length
        · have hd4 : decide ((1048576 : Int) < (p4.length : Int)) = true := by simp; omega
          have hge := HE.out
          rw [if_pos (by unfold putRecs; have h1 := HSUM.out; have h2 := take_le_rec (l := l) (k + 1); simp only [List.length_append]; omega)] at hge
          have HGE := Lib.hid hge
          clear hge
          go_wp2
          go_ret2
          rw [HGE.out]
          exact ⟨rfl, HFIN.out⟩
        · have hd4 : decide ((1048576 : Int) < (p4.length : Int)) = false := by simp; omega
          go_wp2
          go_roundg (gk - 1)
          case measure => have := HG.out; omega
          case rel => exact ⟨k + 1, A4, cap4, p4, by go_num, by omega, by omega, by have := HG.out; omega, HNEW.out, HCH4.out, HW4.out⟩
      · have hd3 : decide ((k : Int) < (l.length : Int)) = false := by simp; omega
        have hst := own_to_string HW2.out.own
        have hcell := HW2.out.cell
        have HPP := Lib.hid (show p = putRecs l by rw [HP.out, List.take_of_length_le (by omega)]; rfl)
        have HFIN := Lib.hid (HB.out.trans (HBL.out.mono HB.out.size))
        have hge := HE.out
        rw [← HPP.out, if_neg (by omega)] at hge
        have HGE := Lib.hid hge
        clear hge
        go_wp2
        go_ret2
        rw [HGE.out]
        exact ⟨rfl, HFIN.out⟩
  · obtain ⟨n, hn⟩ : ∃ n, n = riseE l := ⟨_, rfl⟩
    have HE := Lib.hid (show recsE l = (⟨#[]⟩, n) by unfold recsE; rw [if_neg hr, hn])
    have hd : (n == 0) = false := by rw [hn]; simpa using hr
    rw [← hn] at HR
    clear hr hn
    go_enter Try.func48, Try.ntmps48
    go_wp2_with fail
    refine HR.out.mono ?_
    rintro e w1 ⟨rfl, hb1⟩
    go_wp2
    go_ret2
    rw [HE.out]
    exact ⟨rfl, hb1⟩
end Go.Proofs.Ytehbpjkeflcanaa
