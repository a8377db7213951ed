/- A proof is laid: the walk through the document's Proof. -/
import Derived.Test.YtehbpjkeflcanaaPfOk
import Derived.Test.YtehbpjkeflcanaaRefNum
import Derived.Test.YtehbpjkeflcanaaBytes
namespace Go.Proofs.Ytehbpjkeflcanaa
set_option linter.unusedSimpArgs false
set_option linter.unusedVariables false
open Go.RowKit

def putPt (x : Pt) : List UInt8 := putNum x.index.toNat ++ (putText x.key ++ (putText x.val ++ (putNum x.sides.length ++ x.sides.flatMap putText)))
def putPf (count : Int) (l : List Pt) : List UInt8 := putNum count.toNat ++ (putNum l.length ++ l.flatMap putPt)
def proofE (count : Int) (l : List Pt) : ByteArray × Int := if pfOk count l = true then (bs (putPf count l), 0) else (⟨#[]⟩, 14)
theorem flat_take {α : Type} (f : α → List UInt8) {l : List α} {k : Nat} (hk : k < l.length) : (l.take (k + 1)).flatMap f = (l.take k).flatMap f ++ f l[k] := by
  rw [List.take_succ_eq_append_getElem hk, List.flatMap_append, List.flatMap_singleton]
/-- Two boxes, and nothing else changed. -/
structure St2 (B : Nat) (w0 : World) (i : Nat) (cs : Array Value) (T : TypeId) (j : Nat) (ds : Array Value) (U : TypeId) (w : World) : Prop where
  b : Below B w0 w
  x : Box w i cs T
  y : Box w j ds U
theorem St2.drew {B i j : Nat} {w0 w : World} {cs ds : Array Value} {T U : TypeId} (h : St2 B w0 i cs T j ds U w) : St2 B w0 i cs T j ds U w.drew := ⟨h.b.drew, h.x, h.y⟩
theorem St2.call {B i j : Nat} {w0 w w1 : World} {cs ds : Array Value} {T U : TypeId} (h : St2 B w0 i cs T j ds U w) (hB : B ≤ i) (hc : Below w.heap.size w w1) : St2 B w0 i cs T j ds U w1 :=
  ⟨h.b.trans (hc.mono (by have := h.x.lt; omega)), h.x.call hc, h.y.call hc⟩

set_option maxHeartbeats 2000000 in
set_option maxRecDepth 100000 in
theorem rproof_calls (count : Int) (A : Option Addr) (c : Nat) (l : List Pm) (w : World) (hs : PmS w A c l) : Calls Try.prog 54 #[.agg #[.int .i64 count, .slice A l.length c]] w (StrErr (proofE count (l.map Pm.pt)).1 (proofE count (l.map Pm.pt)).2 w) := by
  have hfit := hs.1.fits
  have HS := Lib.hid hs
  have HB0 := Lib.hid ((Below.refl w.heap.size w).alloc (Nat.le_refl _) (.cells #[.int .i64 count, .slice A l.length c] 76))
  have HBX := Lib.hid (Box.new w #[.int .i64 count, .slice A l.length c] 76)
  have HR := Lib.hid (rpfits_calls count A c l (w.alloc (.cells #[.int .i64 count, .slice A l.length c] 76)) (hs.below ((Below.refl w.heap.size w).alloc (Nat.le_refl _) _)))
  clear hs
  obtain ⟨k0, k1, _⟩ := HBX.out.facts2
  by_cases hok : pfOk count (l.map Pm.pt) = true
  · have HE := Lib.hid (show proofE count (l.map Pm.pt) = (bs (putPf count (l.map Pm.pt)), 0) by unfold proofE; rw [if_pos hok])
    rw [hok] at HR
    obtain ⟨⟨hc0, hc1⟩, hl2, hall⟩ := pfOk_iff hok
    rw [List.length_map] at hl2
    have HALL := Lib.hid (show ∀ k (h : k < l.length), (0 ≤ l[k].index ∧ l[k].index ≤ 4095) ∧ l[k].key.size ≤ 64 ∧ l[k].val.size ≤ 4096 ∧ l[k].sides.length ≤ 13 ∧ ∀ s ∈ l[k].sides, s.size ≤ 32 from fun k h => hall l[k].pt (List.mem_map.2 ⟨_, List.getElem_mem h, rfl⟩))
    clear hok hall
    have HN1 := Lib.hid (fun w => rNumber_calls count w hc0 (by omega))
    have HN2 := Lib.hid (fun w => rNumber_calls (l.length : Nat) w (by omega) (by omega))
    rw [Int.toNat_natCast] at HN2
    obtain ⟨x1, hx1⟩ : ∃ x, x = bs (putNum count.toNat) := ⟨_, rfl⟩
    obtain ⟨x2, hx2⟩ : ∃ x, x = bs (putNum l.length) := ⟨_, rfl⟩
    have hs1 : x1.size ≤ 9 := by rw [hx1, bs_size]; exact putNum_len 8 _ (by omega)
    have hs2 : x2.size ≤ 9 := by rw [hx2, bs_size]; exact putNum_len 8 _ (by omega)
    have hq2 : ¬ 9223372036854775807 < x1.size + x2.size := by omega
    rw [← hx1] at HN1
    rw [← hx2] at HN2
    have HV0 := Lib.hid (show x1 ++ x2 = bs (putNum count.toNat ++ putNum l.length) by rw [hx1, hx2, bs_append])
    clear hx1 hx2
    obtain ⟨W, hW⟩ : ∃ W, W = w.alloc (.cells #[.int .i64 count, .slice A l.length c] 76) := ⟨_, rfl⟩
    rw [← hW] at HBX HB0 HR
    have HWW := Lib.hid hW
    clear hW
    go_enter Try.func54, Try.ntmps54
    go_wp2_with fail
    rw [← HWW.out]
    refine HR.out.mono ?_
    rintro e w1 ⟨rfl, hb⟩
    have HST := Lib.hid ((St.mk HB0.out HBX.out).call (Nat.le_refl _) hb)
    clear hb k0 k1
    go_wp2_with fail
    have hst := HST.out.drew
    clear HST
    go_region_held3 (fun w' => w'.cell? ⟨w.heap.size, 0, none⟩ = some (.int .i64 count) ∧ w'.cell? ⟨w.heap.size, 1, none⟩ = some (.slice A l.length c)) (exact ⟨hst.x.cell 0, hst.x.cell 1⟩) (first | (go_at_call 27; (first | (with_reducible refine (HN1.out _).mono ?_) | (with_reducible refine (HN2.out _).mono ?_)); rintro e wn ⟨rfl, hc1⟩; have hst1 := hst.call (Nat.le_refl _) hc1; clear hc1 hst; have hst := hst1; clear hst1))
    have HST := Lib.hid hst
    clear hst
    rw [HV0.out]
    obtain ⟨v0, hv0⟩ : ∃ v, v = bs (putNum count.toNat ++ putNum l.length) := ⟨_, rfl⟩
    have hv0s : v0.size ≤ 18 := by rw [hv0, ← HV0.out, ByteArray.size_append]; omega
    rw [← hv0]
    have HV := Lib.hid hv0
    clear hv0 hq2
    go_wp2_with fail
    go_loopg [4, 5] l.length (fun g v4 v5 wr => ∃ (k : Nat) (v : ByteArray), v4 = .string v ∧ v5 = .int .i64 k ∧ k ≤ l.length ∧ v.size ≤ 18 + 5000 * k ∧ Hid (g + k = l.length ∧ v = bs (putNum count.toNat ++ putNum l.length ++ ((l.map Pm.pt).take k).flatMap putPt) ∧ St w.heap.size w w.heap.size #[.int .i64 count, .slice A l.length c] 76 wr))
    case atStart => exact ⟨0, v0, rfl, rfl, Nat.zero_le _, by omega, rfl, by rw [HV.out]; simp, HST.out⟩
    case round =>
      clear HST HV
      obtain ⟨k, v, rfl, rfl, hk, hvs, HH⟩ := hrel
      obtain ⟨hg, hv, hst⟩ := HH.out
      have HG := Lib.hid hg
      have HV := Lib.hid hv
      have HST := Lib.hid hst
      obtain ⟨k0, k1, _⟩ := hst.x.facts2
      clear HH hg hv hst
      by_cases hlt : k < l.length
      · obtain ⟨a, rfl, e0, e1, e2, e3, hsd⟩ := (HS.out.below HST.out.b).elem k hlt
        have hok := HALL.out k hlt
        have hnx := flat_take putPt (l := l.map Pm.pt) (k := k) (by simpa using hlt)
        rw [List.getElem_map] at hnx
        obtain ⟨⟨index, key, val, sides, SA, sc⟩, hx⟩ : ∃ x, x = l[k] := ⟨_, rfl⟩
        rw [← hx] at e0 e1 e2 e3 hsd hok hnx
        simp only at e0 e1 e2 e3 hsd hok
        have hsf := hsd.2
        clear hx
        obtain ⟨⟨p0, p1⟩, p2, p3, p4, p5⟩ := hok
        have HP5 := Lib.hid p5
        have HNX := Lib.hid hnx
        clear p5 hnx
        have HN3 := Lib.hid (fun w => rNumber_calls index w p0 (by omega))
        have HN4 := Lib.hid (fun w => rLaid_calls key w (by omega))
        have HN5 := Lib.hid (fun w => rLaid_calls val w (by omega))
        have HN6 := Lib.hid (fun w => rNumber_calls (sides.length : Nat) w (by omega) (by omega))
        rw [Int.toNat_natCast] at HN6
        obtain ⟨x3, hx3⟩ : ∃ x, x = bs (putNum index.toNat) := ⟨_, rfl⟩
        obtain ⟨x4, hx4⟩ : ∃ x, x = bs (putText key) := ⟨_, rfl⟩
        obtain ⟨x5, hx5⟩ : ∃ x, x = bs (putText val) := ⟨_, rfl⟩
        obtain ⟨x6, hx6⟩ : ∃ x, x = bs (putNum sides.length) := ⟨_, rfl⟩
        have hs3 : x3.size ≤ 9 := by rw [hx3, bs_size]; exact putNum_len 8 _ (by omega)
        have hs4 : x4.size ≤ 73 := by rw [hx4, bs_size, putText_length]; have := putNum_len 8 key.size (by omega); omega
        have hs5 : x5.size ≤ 4105 := by rw [hx5, bs_size, putText_length]; have := putNum_len 8 val.size (by omega); omega
        have hs6 : x6.size ≤ 9 := by rw [hx6, bs_size]; exact putNum_len 8 _ (by omega)
        rw [← hx3] at HN3
        rw [← hx4] at HN4
        rw [← hx5] at HN5
        rw [← hx6] at HN6
        have HW := Lib.hid (show v ++ x3 ++ x4 ++ x5 ++ x6 = bs (putNum count.toNat ++ putNum l.length ++ ((l.map Pm.pt).take k).flatMap putPt ++ putNum index.toNat ++ putText key ++ putText val ++ putNum sides.length) by rw [hx3, hx4, hx5, hx6, HV.out]; simp only [bs_append])
        clear hx3 hx4 hx5 hx6
        have hq3 : ¬ 9223372036854775807 < v.size + x3.size := by omega
        have hq4 : ¬ 9223372036854775807 < v.size + x3.size + x4.size := by omega
        have hq5 : ¬ 9223372036854775807 < v.size + x3.size + x4.size + x5.size := by omega
        have hq6 : ¬ 9223372036854775807 < v.size + x3.size + x4.size + x5.size + x6.size := by omega
        have hwl := HST.out.x.lt
        have HST2 := Lib.hid (show St2 w.heap.size w w.heap.size #[.int .i64 count, .slice (some a) l.length c] 76 wr.heap.size #[.int .i64 index, .string key, .string val, .slice SA sides.length sc] 118 (wr.alloc (.cells #[.int .i64 index, .string key, .string val, .slice SA sides.length sc] 118)) from ⟨HST.out.b.alloc HST.out.b.size _, HST.out.x.alloc _, Box.new _ _ _⟩)
        have HSD := Lib.hid (hsd.below ((Below.refl wr.heap.size wr).alloc (Nat.le_refl _) (.cells #[.int .i64 index, .string key, .string val, .slice SA sides.length sc] 118)))
        clear hsd
        obtain ⟨V, hVV⟩ : ∃ V, V = wr.alloc (.cells #[.int .i64 index, .string key, .string val, .slice SA sides.length sc] 118) := ⟨_, rfl⟩
        rw [← hVV] at HST2 HSD
        have HVV := Lib.hid hVV
        clear hVV
        go_wp2_with fail
        rw [← HVV.out]
        have hst := HST2.out.drew
        have hbl := (Below.refl V.heap.size V).drew
        go_region_held3 (fun w' => w'.cell? ⟨wr.heap.size, 0, none⟩ = some (.int .i64 index) ∧ w'.cell? ⟨wr.heap.size, 1, none⟩ = some (.string key) ∧ w'.cell? ⟨wr.heap.size, 2, none⟩ = some (.string val) ∧ w'.cell? ⟨wr.heap.size, 3, none⟩ = some (.slice SA sides.length sc)) (exact box4 hst.y) (first | (go_at_call 27; (first | (with_reducible refine (HN3.out _).mono ?_) | (with_reducible refine (HN6.out _).mono ?_)); rintro e wn ⟨rfl, hc1⟩; have hst1 := hst.call (Nat.le_refl _) hc1; have hbl1 := hbl.trans (hc1.mono hbl.size); clear hc1 hst hbl; have hst := hst1; have hbl := hbl1; clear hst1 hbl1) | (go_at_call 31; (first | (with_reducible refine (HN4.out _).mono ?_) | (with_reducible refine (HN5.out _).mono ?_)); rintro e wn ⟨rfl, hc1⟩; have hst1 := hst.call (Nat.le_refl _) hc1; have hbl1 := hbl.trans (hc1.mono hbl.size); clear hc1 hst hbl; have hst := hst1; have hbl := hbl1; clear hst1 hbl1))
        have HST3 := Lib.hid hst
        have HBL := Lib.hid hbl
        clear hst hbl
        obtain ⟨lw, hlw⟩ : ∃ lw, lw = putNum count.toNat ++ putNum l.length ++ ((l.map Pm.pt).take k).flatMap putPt ++ putNum index.toNat ++ putText key ++ putText val ++ putNum sides.length := ⟨_, rfl⟩
        rw [← hlw] at HW
        obtain ⟨u0, hu0⟩ : ∃ u, u = v ++ x3 ++ x4 ++ x5 ++ x6 := ⟨_, rfl⟩
        have hu0s : u0.size ≤ 18 + 5000 * k + 4300 := by rw [hu0]; simp only [ByteArray.size_append]; omega
        rw [← hu0] at HW ⊢
        have HLW := Lib.hid hlw
        clear hu0 hlw hq3 hq4 hq5 hq6 k0 k1 e0 e1 e2 e3
        go_wp2_with fail
        go_loopg [4, 7] sides.length (fun g v4 v7 wj => ∃ (j : Nat) (u : ByteArray), v4 = .string u ∧ v7 = .int .i64 j ∧ j ≤ sides.length ∧ u.size ≤ 18 + 5000 * k + 4300 + 50 * j ∧ Hid (g + j = sides.length ∧ u = bs (lw ++ (sides.take j).flatMap putText) ∧ St2 w.heap.size w w.heap.size #[.int .i64 count, .slice (some a) l.length c] 76 wr.heap.size #[.int .i64 index, .string key, .string val, .slice SA sides.length sc] 118 wj ∧ Below V.heap.size V wj))
        case atStart => exact ⟨0, u0, rfl, rfl, Nat.zero_le _, by omega, rfl, by rw [HW.out]; simp, HST3.out, HBL.out⟩
        case round =>
          clear HST3 HBL HST2 HST
          obtain ⟨j, u, rfl, rfl, hj, hus, HH⟩ := hrel
          obtain ⟨hgj, hu, hst, hbl⟩ := HH.out
          have HGJ := Lib.hid hgj
          have HU := Lib.hid hu
          have HST := Lib.hid hst
          have HBL := Lib.hid hbl
          obtain ⟨q0, q1, q2, q3⟩ := box4 hst.y
          obtain ⟨k0, k1, _⟩ := hst.x.facts2
          clear HH hgj hu hst hbl
          by_cases hjl : j < sides.length
          · obtain ⟨sa, rfl, s0⟩ := (HSD.out.below HBL.out).elem j hjl
            have h32 := HP5.out sides[j] (List.getElem_mem hjl)
            have hjn := flat_take putText hjl
            obtain ⟨t, ht⟩ : ∃ t, t = sides[j] := ⟨_, rfl⟩
            rw [← ht] at s0 hjn h32
            clear ht
            have HL := Lib.hid (fun w => rLaid_calls t w (by omega))
            obtain ⟨x7, hx7⟩ : ∃ x, x = bs (putText t) := ⟨_, rfl⟩
            have hs7 : x7.size ≤ 41 := by rw [hx7, bs_size, putText_length]; have := putNum_len 8 t.size (by omega); omega
            rw [← hx7] at HL
            have HNU := Lib.hid (show u ++ x7 = bs (lw ++ (sides.take (j + 1)).flatMap putText) by rw [hjn, hx7, HU.out]; simp only [bs_append, ByteArray.append_assoc])
            clear hx7 hjn
            have hq7 : ¬ 9223372036854775807 < u.size + x7.size := by omega
            go_wp2_with fail
            refine (HL.out _).mono ?_
            rintro e w5 ⟨rfl, hb5⟩
            have HST5 := Lib.hid (HST.out.call (Nat.le_refl _) hb5)
            have HBL5 := Lib.hid (HBL.out.trans (hb5.mono HBL.out.size))
            clear hb5
            go_wp2_with fail
            go_roundg (sides.length - (j + 1))
            case measure => have := HGJ.out; omega
            case rel => exact ⟨j + 1, u ++ x7, by go_num, by go_num, by omega, by rw [ByteArray.size_append]; omega, by omega, HNU.out, HST5.out, HBL5.out⟩
          · have HNV := Lib.hid (show u = bs (putNum count.toNat ++ putNum l.length ++ ((l.map Pm.pt).take (k + 1)).flatMap putPt) by
              rw [HU.out, List.take_of_length_le (by omega), HNX.out, HLW.out]
              simp [putPt, Pm.pt])
            go_wp2
            go_roundg (l.length - (k + 1))
            case measure => have := HG.out; omega
            case rel => exact ⟨k + 1, u, rfl, by go_num, by omega, by omega, by omega, HNV.out, HST.out.b, HST.out.x⟩
      · have HPP := Lib.hid (show v = bs (putPf count (l.map Pm.pt)) by rw [HV.out, List.take_of_length_le (by simp; omega)]; unfold putPf; simp)
        go_wp2
        go_ret2
        rw [HE.out, ← HPP.out]
        exact ⟨rfl, HST.out.b⟩
  · have HE := Lib.hid (show proofE count (l.map Pm.pt) = (⟨#[]⟩, 14) by unfold proofE; rw [if_neg hok])
    have hf : pfOk count (l.map Pm.pt) = false := by simpa using hok
    rw [hf] at HR
    clear hok hf
    go_enter Try.func54, Try.ntmps54
    go_wp2_with fail
    refine HR.out.mono ?_
    rintro e w1 ⟨rfl, hb⟩
    have HB1 := Lib.hid (HB0.out.trans (hb.mono HB0.out.size))
    clear hb
    go_wp2
    go_ret2
    rw [HE.out]
    exact ⟨rfl, HB1.out⟩
end Go.Proofs.Ytehbpjkeflcanaa
