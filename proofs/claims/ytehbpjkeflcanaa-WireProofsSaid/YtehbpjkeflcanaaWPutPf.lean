/- A proof is laid: the walk through the code's PutProof. -/
import Derived.Test.YtehbpjkeflcanaaPutPf
namespace Go.Proofs.Ytehbpjkeflcanaa
set_option linter.unusedSimpArgs false
set_option linter.unusedVariables false
open Go.RowKit

set_option maxHeartbeats 2000000 in
set_option maxRecDepth 100000 in
theorem wproof_calls (count : Int) (A : Option Addr) (c : Nat) (l : List Pm) (w : World) (hs : PmS w A c l) : Calls Try.prog 53 #[.agg #[.int .i64 count, .slice A l.length c]] w (StrErr (proofE count (l.map Pm.pt)).1 (proofE count (l.map Pm.pt)).2 w) := by
  have hfit := hs.1.fits
  have HS := Lib.hid hs
  have HB0 := Lib.hid ((Below.refl w.heap.size w).alloc (Nat.le_refl _) (.cells #[.int .i64 count, .slice A l.length c] 76))
  have HBX := Lib.hid (Box.new w #[.int .i64 count, .slice A l.length c] 76)
  have HR := Lib.hid (wright_calls count A c l (w.alloc (.cells #[.int .i64 count, .slice A l.length c] 76)) (hs.below ((Below.refl w.heap.size w).alloc (Nat.le_refl _) _)))
  clear hs
  obtain ⟨k0, k1, _⟩ := HBX.out.facts2
  by_cases hok : pfOk count (l.map Pm.pt) = true
  · have HE := Lib.hid (show proofE count (l.map Pm.pt) = (bs (putPf count (l.map Pm.pt)), 0) by unfold proofE; rw [if_pos hok])
    rw [hok] at HR
    obtain ⟨⟨hc0, hc1⟩, hl2, hall⟩ := pfOk_iff hok
    rw [List.length_map] at hl2
    have HALL := Lib.hid (show ∀ k (h : k < l.length), (0 ≤ l[k].index ∧ l[k].index ≤ 4095) ∧ l[k].key.size ≤ 64 ∧ l[k].val.size ≤ 4096 ∧ l[k].sides.length ≤ 13 ∧ ∀ s ∈ l[k].sides, s.size ≤ 32 from fun k h => hall l[k].pt (List.mem_map.2 ⟨_, List.getElem_mem h, rfl⟩))
    clear hok hall
    have HL1 := Lib.hid (putNum_len 8 count.toNat (by omega))
    have HL2 := Lib.hid (putNum_len 8 l.length (by omega))
    obtain ⟨W0, hW⟩ : ∃ W, W = w.alloc (.cells #[.int .i64 count, .slice A l.length c] 76) := ⟨_, rfl⟩
    rw [← hW] at HBX HB0 HR
    have HW0 := Lib.hid hW
    clear hW
    go_enter Try.func53, Try.ntmps53
    go_wp2_with fail
    rw [← HW0.out]
    refine HR.out.mono ?_
    rintro e wo ⟨rfl, hb⟩
    have HST := Lib.hid ((St.mk HB0.out HBX.out).call (Nat.le_refl _) hb)
    clear hb k0 k1 HB0 HBX HW0 HR
    have hlt2 := HST.out.x.lt
    obtain ⟨W, hW⟩ : ∃ W, W = wo.alloc (.cells #[.slice none 0 0] 91) := ⟨_, rfl⟩
    have HW := Lib.hid (Wr.new wo)
    have HB3 := Lib.hid (HST.out.x.alloc (.cells #[.slice none 0 0] 91))
    have hWs : W.heap.size = wo.heap.size + 1 := by rw [hW]; simp
    rw [← hW] at HW HB3
    have HWW := Lib.hid hW
    clear hW
    have HBLW := Lib.hid (fun (A2 : Option Addr) (w2 : World) (hh : WrCh wo.heap.size none A2 W w2) => (show Below wo.heap.size wo w2 by rw [HWW.out] at hh; exact hh.below))
    go_wp2_with fail
    rw [← HWW.out]
    have hw := HW.out.drew
    have hbx := HB3.out.drew
    have HCh := Lib.hid ((WrCh.refl wo.heap.size none W).trans (WrCh.drewN wo.heap.size none W 1))
    have hWl : w.heap.size < W.heap.size := by omega
    go_region_held3 (fun w' => w'.cell? ⟨w.heap.size, 0, none⟩ = some (.int .i64 count) ∧ w'.cell? ⟨w.heap.size, 1, none⟩ = some (.slice A l.length c)) (exact ⟨hbx.cell 0, hbx.cell 1⟩) (first | (go_at_call 64; refine (wnumber_calls wo.heap.size _ _ _ _ _ ?h0 ?h1 ?hl hw).mono ?_; (case h0 => omega); (case h1 => omega); (case hl => (have a1 := HL1.out; have a2 := HL2.out; simp only [List.length_append, List.length_nil, Int.toNat_natCast]; omega)); rintro e wn ⟨rfl, An, capn, hcn, hwn⟩; have hbn := hbx.ch hcn.ch hbx.lt (by exact wr_ne HCh.out hWl (by omega) (by intro hh; cases hh)); have HChn := Lib.hid (HCh.out.trans hcn); clear hcn hbx HCh hw; have hw := hwn; have hbx := hbn; have HCh := Lib.hid HChn.out; clear hwn hbn HChn))
    have HW9 := Lib.hid hw
    obtain ⟨k0, k1, _⟩ := hbx.facts2
    clear hw hbx
    have HCH0 := Lib.hid HCh.out
    obtain ⟨An0, hAn0⟩ : ∃ x, x = An := ⟨_, rfl⟩
    rw [← hAn0] at HW9 HCH0
    go_wp2_with fail
    go_loopg [22] l.length (fun g vi w2 => ∃ (k : Nat) (A2 : Option Addr) (cap2 : Nat) (p : List UInt8), vi = .int .i64 k ∧ k ≤ l.length ∧ p.length ≤ 18 + 5000 * k ∧ Hid (g + k = l.length ∧ p = putNum count.toNat ++ putNum l.length ++ ((l.map Pm.pt).take k).flatMap putPt ∧ WrCh wo.heap.size none A2 W w2 ∧ Wr w2 wo.heap.size A2 cap2 p))
    case atStart =>
      refine ⟨0, An0, capn, putNum count.toNat ++ putNum l.length, rfl, Nat.zero_le _, by have := HL1.out; have := HL2.out; simp only [List.length_append]; omega, rfl, by simp, HCH0.out, ?_⟩
      have hh := HW9.out
      simpa using hh
    case round =>
      clear HW9 HCH0 HCh hAn0 k0 k1
      obtain ⟨k, A2, cap2, p, rfl, hk, hpl, HH⟩ := hrel
      obtain ⟨hg, hp, hch, hw⟩ := HH.out
      have HG := Lib.hid hg
      have HP := Lib.hid hp
      have HCH := Lib.hid hch
      have HW2 := Lib.hid hw
      have HBL := Lib.hid (HST.out.b.trans ((HBLW.out A2 wr hch).mono HST.out.b.size))
      clear HH hg hch hw hp
      by_cases hlt : k < l.length
      · obtain ⟨a, rfl, e0, e1, e2, e3, hsd⟩ := (HS.out.below HBL.out).elem k hlt
        have hok := HALL.out k hlt
        have hnx := flat_take putPt (l := l.map Pm.pt) (k := k) (by simpa using hlt)
        rw [List.getElem_map] at hnx
        obtain ⟨⟨index, key, val, sides, SA, sc⟩, hx⟩ : ∃ x, x = l[k] := ⟨_, rfl⟩
        rw [← hx] at e0 e1 e2 e3 hsd hok hnx
        simp only at e0 e1 e2 e3 hsd hok
        have hsf := hsd.2
        obtain ⟨⟨p0, p1⟩, p2, p3, p4, p5⟩ := hok
        have HP5 := Lib.hid p5
        have HNX := Lib.hid hnx
        have HSD := Lib.hid hsd
        have HSW := Lib.hid (show ∀ w', Below w.heap.size w w' → TxS w' SA sc sides from fun w' hb => by have := (HS.out.below hb).2 l[k] (List.getElem_mem hlt); rw [← hx] at this; exact this)
        clear p5 hnx hsd hx
        have HL3 := Lib.hid (putNum_len 8 index.toNat (by omega))
        have HL4 := Lib.hid (show (putText key).length ≤ 73 by rw [putText_length]; have := putNum_len 8 key.size (by omega); omega)
        have HL5 := Lib.hid (show (putText val).length ≤ 4105 by rw [putText_length]; have := putNum_len 8 val.size (by omega); omega)
        have HL6 := Lib.hid (putNum_len 8 sides.length (by omega))
        have hwl := HW2.out.lt
        have hRA : ¬ Row A2 wr.heap.size := fun h => by have := (own_row HW2.out.own h).2; omega
        have HA2 := Lib.hid ((Wr.alloc HW2.out (.cells #[.int .i64 index, .string key, .string val, .slice SA sides.length sc] 118)))
        have HBX := Lib.hid (Box.new wr #[.int .i64 index, .string key, .string val, .slice SA sides.length sc] 118)
        have HA := Lib.hid (WrCh.alloc wo.heap.size A2 wr (.cells #[.int .i64 index, .string key, .string val, .slice SA sides.length sc] 118))
        obtain ⟨V, hV⟩ : ∃ V, V = wr.alloc (.cells #[.int .i64 index, .string key, .string val, .slice SA sides.length sc] 118) := ⟨_, rfl⟩
        have hVl : wr.heap.size < V.heap.size := by rw [hV]; simp
        rw [← hV] at HA2 HBX HA
        have HVV := Lib.hid hV
        clear hV
        go_wp2_with fail
        rw [← HVV.out]
        have hw := HA2.out.drew
        have hbx := HBX.out.drew
        have HCh := Lib.hid ((WrCh.refl wo.heap.size A2 V).trans (WrCh.drewN wo.heap.size A2 V 1))
        go_region_held3 (fun w' => w'.cell? ⟨wr.heap.size, 0, none⟩ = some (.int .i64 index) ∧ w'.cell? ⟨wr.heap.size, 1, none⟩ = some (.string key) ∧ w'.cell? ⟨wr.heap.size, 2, none⟩ = some (.string val) ∧ w'.cell? ⟨wr.heap.size, 3, none⟩ = some (.slice SA sides.length sc)) (exact box4 hbx) (first | (go_at_call 64; refine (wnumber_calls wo.heap.size _ _ _ _ _ ?h0 ?h1 ?hl hw).mono ?_; (case h0 => omega); (case h1 => omega); (case hl => (have a1 := HL3.out; have a2 := HL4.out; have a3 := HL5.out; have a4 := HL6.out; (try simp only [List.length_append, List.length_nil, Int.toNat_natCast]); omega)); rintro e wn ⟨rfl, An, capn, hcn, hwn⟩; have hbn := hbx.ch hcn.ch hbx.lt (by exact wr_ne HCh.out hVl (by omega) hRA); have HChn := Lib.hid (HCh.out.trans hcn); clear hcn hbx HCh hw; have hw := hwn; have hbx := hbn; have HCh := Lib.hid HChn.out; clear hwn hbn HChn) | (go_at_call 65; refine (wtext_calls wo.heap.size _ _ _ _ _ ?h1 ?hl hw).mono ?_; (case h1 => omega); (case hl => (have a1 := HL3.out; have a2 := HL4.out; have a3 := HL5.out; have a4 := HL6.out; (try simp only [List.length_append, List.length_nil, Int.toNat_natCast]); omega)); rintro e wn ⟨rfl, An, capn, hcn, hwn⟩; have hbn := hbx.ch hcn.ch hbx.lt (by exact wr_ne HCh.out hVl (by omega) hRA); have HChn := Lib.hid (HCh.out.trans hcn); clear hcn hbx HCh hw; have hw := hwn; have hbx := hbn; have HCh := Lib.hid HChn.out; clear hwn hbn HChn))
        have HW9 := Lib.hid hw
        obtain ⟨q0, q1, q2, q3⟩ := box4 hbx
        have HCH4 := Lib.hid (HCH.out.trans (HA.out.trans HCh.out))
        clear hw hbx HCh
        obtain ⟨p4, hp4⟩ : ∃ x, x = p ++ putNum index.toNat ++ putText key ++ putText val ++ putNum sides.length := ⟨_, rfl⟩
        have hp4l : p4.length ≤ 18 + 5000 * k + 4300 := by have a1 := HL3.out; have a2 := HL4.out; have a3 := HL5.out; have a4 := HL6.out; rw [hp4]; simp only [List.length_append]; omega
        have HW9 := Lib.hid (show Wr _ wo.heap.size An capn p4 from by have hh := HW9.out; rw [hp4]; simpa using hh)
        have HP4 := Lib.hid hp4
        clear hp4 e0 e1 e2 e3
        go_wp2_with fail
        go_loopg [42] sides.length (fun g vj wj => ∃ (j : Nat) (A5 : Option Addr) (cap5 : Nat) (p5 : List UInt8), vj = .int .i64 j ∧ j ≤ sides.length ∧ p5.length ≤ 18 + 5000 * k + 4300 + 50 * j ∧ Hid (g + j = sides.length ∧ p5 = p4 ++ (sides.take j).flatMap putText ∧ WrCh wo.heap.size none A5 W wj ∧ Wr wj wo.heap.size A5 cap5 p5))
        case atStart => exact ⟨0, An, capn, p4, rfl, Nat.zero_le _, by omega, rfl, by simp, HCH4.out, HW9.out⟩
        case round =>
          clear HW9 HCH4 HW2 HCH HA2 HBX HA hwl hRA hVl HVV q0 q1 q2 q3
          obtain ⟨j, A5, cap5, p5, rfl, hj, hpl5, HH⟩ := hrel
          obtain ⟨hgj, hp, hch, hw⟩ := HH.out
          have HGJ := Lib.hid hgj
          have HP5L := Lib.hid hp
          have HCH := Lib.hid hch
          have HW2 := Lib.hid hw
          have HBL5 := Lib.hid (HST.out.b.trans ((HBLW.out A5 _ hch).mono HST.out.b.size))
          clear HH hgj hp hch hw
          by_cases hjl : j < sides.length
          · obtain ⟨sa, rfl, s0⟩ := (HSW.out _ HBL5.out).elem j hjl
            have h32 := HP5.out sides[j] (List.getElem_mem hjl)
            have hjn := flat_take putText hjl
            obtain ⟨t, ht⟩ : ∃ t, t = sides[j] := ⟨_, rfl⟩
            rw [← ht] at s0 hjn h32
            clear ht
            have hs7 : (putText t).length ≤ 41 := by rw [putText_length]; have := putNum_len 8 t.size (by omega); omega
            have HNU := Lib.hid (show p5 ++ putText t = p4 ++ (sides.take (j + 1)).flatMap putText by rw [hjn, HP5L.out, List.append_assoc])
            have HS7 := Lib.hid hs7
            clear hjn hs7
            go_wp2_with fail
            refine (wtext_calls wo.heap.size A5 cap5 p5 t _ (by omega) (by have := HS7.out; omega) HW2.out).mono ?_
            rintro e w5 ⟨rfl, A6, cap6, hc6, hw6⟩
            have HCH6 := Lib.hid (HCH.out.trans hc6)
            have HW6 := Lib.hid hw6
            clear hc6 hw6 s0
            go_wp2_with fail
            go_roundg (sides.length - (j + 1))
            case measure => have := HGJ.out; omega
            case rel => exact ⟨j + 1, A6, cap6, p5 ++ putText t, by go_num, by omega, by have := HS7.out; simp only [List.length_append]; omega, by omega, HNU.out, HCH6.out, HW6.out⟩
          · have HNV := Lib.hid (show p5 = putNum count.toNat ++ putNum l.length ++ ((l.map Pm.pt).take (k + 1)).flatMap putPt by
              rw [HP5L.out, List.take_of_length_le (by omega), HNX.out, HP4.out, HP.out]
              simp [putPt, Pm.pt])
            go_wp2
            go_roundg (l.length - (k + 1))
            case measure => have := HG.out; omega
            case rel => exact ⟨k + 1, A5, cap5, p5, by go_num, by omega, by omega, by omega, HNV.out, HCH.out, HW2.out⟩
      · have hst := own_to_string HW2.out.own
        have hcell := HW2.out.cell
        have HPP := Lib.hid (show p = putPf count (l.map Pm.pt) by rw [HP.out, List.take_of_length_le (by simp; omega)]; unfold putPf; simp)
        have hge := HE.out
        rw [← HPP.out] at hge
        have HGE := Lib.hid hge
        clear hge
        go_wp2
        go_ret2
        rw [HGE.out]
        exact ⟨rfl, HBL.out⟩
  · have HE := Lib.hid (show proofE count (l.map Pm.pt) = (⟨#[]⟩, 14) by unfold proofE; rw [if_neg hok])
    have hf : pfOk count (l.map Pm.pt) = false := by simpa using hok
    rw [hf] at HR
    clear hok hf
    go_enter Try.func53, Try.ntmps53
    go_wp2_with fail
    refine HR.out.mono ?_
    rintro e w1 ⟨rfl, hb⟩
    have HB1 := Lib.hid (HB0.out.trans (hb.mono HB0.out.size))
    clear hb
    go_wp2
    go_ret2
    rw [HE.out]
    exact ⟨rfl, HB1.out⟩
end Go.Proofs.Ytehbpjkeflcanaa
