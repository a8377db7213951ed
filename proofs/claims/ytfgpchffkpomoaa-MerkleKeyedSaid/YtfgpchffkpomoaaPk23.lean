/- Texts of this proof, several in one file; each says ahead of it what it proves. -/
import Derived.Test.YtfgpchffkpomoaaPk22
import Derived.Test.YtfgpchffkpomoaaPk02
import Derived.Test.YtfgpchffkpomoaaPk09
import Derived.Test.YtfgpchffkpomoaaPk05
import Derived.Test.YtfgpchffkpomoaaPk06
import Derived.Laws.StructEq
/- A proof is laid: the walk through the document's Proof. -/
namespace Go.Proofs.Ytfgpchffkpomoaa
set_option linter.unusedSimpArgs false
set_option linter.unusedVariables false
open Go.RowKit

def putPt (x : Pt) : List UInt8 := putNum x.index.toNat ++ (putText x.key ++ (putText x.val ++ (putNum x.sides.length ++ x.sides.flatMap putText)))
def putPf (count : Int) (l : List Pt) : List UInt8 := putNum count.toNat ++ (putNum l.length ++ l.flatMap putPt)
def proofE (count : Int) (l : List Pt) : ByteArray × Int := if pfOk count l = true then (bs (putPf count l), 0) else (⟨#[]⟩, 14)
theorem flat_take {α : Type} (f : α → List UInt8) {l : List α} {k : Nat} (hk : k < l.length) : (l.take (k + 1)).flatMap f = (l.take k).flatMap f ++ f l[k] := by
  rw [List.take_succ_eq_append_getElem hk, List.flatMap_append, List.flatMap_singleton]
/-- Two boxes, and nothing else changed. -/
structure St2 (B : Nat) (w0 : World) (i : Nat) (cs : Array Value) (T : TypeId) (j : Nat) (ds : Array Value) (U : TypeId) (w : World) : Prop where
  b : Below B w0 w
  x : Box w i cs T
  y : Box w j ds U
theorem St2.drew {B i j : Nat} {w0 w : World} {cs ds : Array Value} {T U : TypeId} (h : St2 B w0 i cs T j ds U w) : St2 B w0 i cs T j ds U w.drew := ⟨h.b.drew, h.x, h.y⟩
theorem St2.call {B i j : Nat} {w0 w w1 : World} {cs ds : Array Value} {T U : TypeId} (h : St2 B w0 i cs T j ds U w) (hB : B ≤ i) (hc : Below w.heap.size w w1) : St2 B w0 i cs T j ds U w1 :=
  ⟨h.b.trans (hc.mono (by have := h.x.lt; omega)), h.x.call hc, h.y.call hc⟩

set_option maxHeartbeats 2000000 in
set_option maxRecDepth 100000 in
theorem rproof_calls (count : Int) (A : Option Addr) (c : Nat) (l : List Pm) (w : World) (hs : PmS w A c l) : Calls Try.prog 92 #[.agg #[.int .i64 count, .slice A l.length c]] w (StrErr (proofE count (l.map Pm.pt)).1 (proofE count (l.map Pm.pt)).2 w) := by
  have hfit := hs.1.fits
  have HS := Lib.hid hs
  have HB0 := Lib.hid ((Below.refl w.heap.size w).alloc (Nat.le_refl _) (.cells #[.int .i64 count, .slice A l.length c] 35))
  have HBX := Lib.hid (Box.new w #[.int .i64 count, .slice A l.length c] 35)
  have HR := Lib.hid (rpfits_calls count A c l (w.alloc (.cells #[.int .i64 count, .slice A l.length c] 35)) (hs.below ((Below.refl w.heap.size w).alloc (Nat.le_refl _) _)))
  clear hs
  obtain ⟨k0, k1, _⟩ := HBX.out.facts2
  by_cases hok : pfOk count (l.map Pm.pt) = true
  · have HE := Lib.hid (show proofE count (l.map Pm.pt) = (bs (putPf count (l.map Pm.pt)), 0) by unfold proofE; rw [if_pos hok])
    rw [hok] at HR
    obtain ⟨⟨hc0, hc1⟩, hl2, hall⟩ := pfOk_iff hok
    rw [List.length_map] at hl2
    have HALL := Lib.hid (show ∀ k (h : k < l.length), (0 ≤ l[k].index ∧ l[k].index ≤ 4095) ∧ l[k].key.size ≤ 64 ∧ l[k].val.size ≤ 4096 ∧ l[k].sides.length ≤ 13 ∧ ∀ s ∈ l[k].sides, s.size ≤ 32 from fun k h => hall l[k].pt (List.mem_map.2 ⟨_, List.getElem_mem h, rfl⟩))
    clear hok hall
    have HN1 := Lib.hid (fun w => rNumber_calls count w hc0 (by omega))
    have HN2 := Lib.hid (fun w => rNumber_calls (l.length : Nat) w (by omega) (by omega))
    rw [Int.toNat_natCast] at HN2
    obtain ⟨x1, hx1⟩ : ∃ x, x = bs (putNum count.toNat) := ⟨_, rfl⟩
    obtain ⟨x2, hx2⟩ : ∃ x, x = bs (putNum l.length) := ⟨_, rfl⟩
    have hs1 : x1.size ≤ 9 := by rw [hx1, bs_size]; exact putNum_len 8 _ (by omega)
    have hs2 : x2.size ≤ 9 := by rw [hx2, bs_size]; exact putNum_len 8 _ (by omega)
    have hq2 : ¬ 9223372036854775807 < x1.size + x2.size := by omega
    rw [← hx1] at HN1
    rw [← hx2] at HN2
    have HV0 := Lib.hid (show x1 ++ x2 = bs (putNum count.toNat ++ putNum l.length) by rw [hx1, hx2, bs_append])
    clear hx1 hx2
    obtain ⟨W, hW⟩ : ∃ W, W = w.alloc (.cells #[.int .i64 count, .slice A l.length c] 35) := ⟨_, rfl⟩
    rw [← hW] at HBX HB0 HR
    have HWW := Lib.hid hW
    clear hW
    go_enter Try.func92, Try.ntmps92
    go_wp2_with fail
    rw [← HWW.out]
    refine HR.out.mono ?_
    rintro e w1 ⟨rfl, hb⟩
    have HST := Lib.hid ((St.mk HB0.out HBX.out).call (Nat.le_refl _) hb)
    clear hb k0 k1
    go_wp2_with fail
    have hst := HST.out.drew
    clear HST
    go_region_held3 (fun w' => w'.cell? ⟨w.heap.size, 0, none⟩ = some (.int .i64 count) ∧ w'.cell? ⟨w.heap.size, 1, none⟩ = some (.slice A l.length c)) (exact ⟨hst.x.cell 0, hst.x.cell 1⟩) (first | (go_at_call 101; (first | (with_reducible refine (HN1.out _).mono ?_) | (with_reducible refine (HN2.out _).mono ?_)); rintro e wn ⟨rfl, hc1⟩; have hst1 := hst.call (Nat.le_refl _) hc1; clear hc1 hst; have hst := hst1; clear hst1))
    have HST := Lib.hid hst
    clear hst
    rw [HV0.out]
    obtain ⟨v0, hv0⟩ : ∃ v, v = bs (putNum count.toNat ++ putNum l.length) := ⟨_, rfl⟩
    have hv0s : v0.size ≤ 18 := by rw [hv0, ← HV0.out, ByteArray.size_append]; omega
    rw [← hv0]
    have HV := Lib.hid hv0
    clear hv0 hq2
    go_wp2_with fail
    go_loopg [4, 5] l.length (fun g v4 v5 wr => ∃ (k : Nat) (v : ByteArray), v4 = .string v ∧ v5 = .int .i64 k ∧ k ≤ l.length ∧ v.size ≤ 18 + 5000 * k ∧ Hid (g + k = l.length ∧ v = bs (putNum count.toNat ++ putNum l.length ++ ((l.map Pm.pt).take k).flatMap putPt) ∧ St w.heap.size w w.heap.size #[.int .i64 count, .slice A l.length c] 35 wr))
    case atStart => exact ⟨0, v0, rfl, rfl, Nat.zero_le _, by omega, rfl, by rw [HV.out]; simp, HST.out⟩
    case round =>
      clear HST HV
      obtain ⟨k, v, rfl, rfl, hk, hvs, HH⟩ := hrel
      obtain ⟨hg, hv, hst⟩ := HH.out
      have HG := Lib.hid hg
      have HV := Lib.hid hv
      have HST := Lib.hid hst
      obtain ⟨k0, k1, _⟩ := hst.x.facts2
      clear HH hg hv hst
      by_cases hlt : k < l.length
      · obtain ⟨a, rfl, e0, e1, e2, e3, hsd⟩ := (HS.out.below HST.out.b).elem k hlt
        have hok := HALL.out k hlt
        have hnx := flat_take putPt (l := l.map Pm.pt) (k := k) (by simpa using hlt)
        rw [List.getElem_map] at hnx
        obtain ⟨⟨index, key, val, sides, SA, sc⟩, hx⟩ : ∃ x, x = l[k] := ⟨_, rfl⟩
        rw [← hx] at e0 e1 e2 e3 hsd hok hnx
        simp only at e0 e1 e2 e3 hsd hok
        have hsf := hsd.2
        clear hx
        obtain ⟨⟨p0, p1⟩, p2, p3, p4, p5⟩ := hok
        have HP5 := Lib.hid p5
        have HNX := Lib.hid hnx
        clear p5 hnx
        have HN3 := Lib.hid (fun w => rNumber_calls index w p0 (by omega))
        have HN4 := Lib.hid (fun w => rLaid_calls key w (by omega))
        have HN5 := Lib.hid (fun w => rLaid_calls val w (by omega))
        have HN6 := Lib.hid (fun w => rNumber_calls (sides.length : Nat) w (by omega) (by omega))
        rw [Int.toNat_natCast] at HN6
        obtain ⟨x3, hx3⟩ : ∃ x, x = bs (putNum index.toNat) := ⟨_, rfl⟩
        obtain ⟨x4, hx4⟩ : ∃ x, x = bs (putText key) := ⟨_, rfl⟩
        obtain ⟨x5, hx5⟩ : ∃ x, x = bs (putText val) := ⟨_, rfl⟩
        obtain ⟨x6, hx6⟩ : ∃ x, x = bs (putNum sides.length) := ⟨_, rfl⟩
        have hs3 : x3.size ≤ 9 := by rw [hx3, bs_size]; exact putNum_len 8 _ (by omega)
        have hs4 : x4.size ≤ 73 := by rw [hx4, bs_size, putText_length]; have := putNum_len 8 key.size (by omega); omega
        have hs5 : x5.size ≤ 4105 := by rw [hx5, bs_size, putText_length]; have := putNum_len 8 val.size (by omega); omega
        have hs6 : x6.size ≤ 9 := by rw [hx6, bs_size]; exact putNum_len 8 _ (by omega)
        rw [← hx3] at HN3
        rw [← hx4] at HN4
        rw [← hx5] at HN5
        rw [← hx6] at HN6
        have HW := Lib.hid (show v ++ x3 ++ x4 ++ x5 ++ x6 = bs (putNum count.toNat ++ putNum l.length ++ ((l.map Pm.pt).take k).flatMap putPt ++ putNum index.toNat ++ putText key ++ putText val ++ putNum sides.length) by rw [hx3, hx4, hx5, hx6, HV.out]; simp only [bs_append])
        clear hx3 hx4 hx5 hx6
        have hq3 : ¬ 9223372036854775807 < v.size + x3.size := by omega
        have hq4 : ¬ 9223372036854775807 < v.size + x3.size + x4.size := by omega
        have hq5 : ¬ 9223372036854775807 < v.size + x3.size + x4.size + x5.size := by omega
        have hq6 : ¬ 9223372036854775807 < v.size + x3.size + x4.size + x5.size + x6.size := by omega
        have hwl := HST.out.x.lt
        have HST2 := Lib.hid (show St2 w.heap.size w w.heap.size #[.int .i64 count, .slice (some a) l.length c] 35 wr.heap.size #[.int .i64 index, .string key, .string val, .slice SA sides.length sc] 179 (wr.alloc (.cells #[.int .i64 index, .string key, .string val, .slice SA sides.length sc] 179)) from ⟨HST.out.b.alloc HST.out.b.size _, HST.out.x.alloc _, Box.new _ _ _⟩)
        have HSD := Lib.hid (hsd.below ((Below.refl wr.heap.size wr).alloc (Nat.le_refl _) (.cells #[.int .i64 index, .string key, .string val, .slice SA sides.length sc] 179)))
        clear hsd
        obtain ⟨V, hVV⟩ : ∃ V, V = wr.alloc (.cells #[.int .i64 index, .string key, .string val, .slice SA sides.length sc] 179) := ⟨_, rfl⟩
        rw [← hVV] at HST2 HSD
        have HVV := Lib.hid hVV
        clear hVV
        go_wp2_with fail
        rw [← HVV.out]
        have hst := HST2.out.drew
        have hbl := (Below.refl V.heap.size V).drew
        go_region_held3 (fun w' => w'.cell? ⟨wr.heap.size, 0, none⟩ = some (.int .i64 index) ∧ w'.cell? ⟨wr.heap.size, 1, none⟩ = some (.string key) ∧ w'.cell? ⟨wr.heap.size, 2, none⟩ = some (.string val) ∧ w'.cell? ⟨wr.heap.size, 3, none⟩ = some (.slice SA sides.length sc)) (exact box4 hst.y) (first | (go_at_call 101; (first | (with_reducible refine (HN3.out _).mono ?_) | (with_reducible refine (HN6.out _).mono ?_)); rintro e wn ⟨rfl, hc1⟩; have hst1 := hst.call (Nat.le_refl _) hc1; have hbl1 := hbl.trans (hc1.mono hbl.size); clear hc1 hst hbl; have hst := hst1; have hbl := hbl1; clear hst1 hbl1) | (go_at_call 114; (first | (with_reducible refine (HN4.out _).mono ?_) | (with_reducible refine (HN5.out _).mono ?_)); rintro e wn ⟨rfl, hc1⟩; have hst1 := hst.call (Nat.le_refl _) hc1; have hbl1 := hbl.trans (hc1.mono hbl.size); clear hc1 hst hbl; have hst := hst1; have hbl := hbl1; clear hst1 hbl1))
        have HST3 := Lib.hid hst
        have HBL := Lib.hid hbl
        clear hst hbl
        obtain ⟨lw, hlw⟩ : ∃ lw, lw = putNum count.toNat ++ putNum l.length ++ ((l.map Pm.pt).take k).flatMap putPt ++ putNum index.toNat ++ putText key ++ putText val ++ putNum sides.length := ⟨_, rfl⟩
        rw [← hlw] at HW
        obtain ⟨u0, hu0⟩ : ∃ u, u = v ++ x3 ++ x4 ++ x5 ++ x6 := ⟨_, rfl⟩
        have hu0s : u0.size ≤ 18 + 5000 * k + 4300 := by rw [hu0]; simp only [ByteArray.size_append]; omega
        rw [← hu0] at HW ⊢
        have HLW := Lib.hid hlw
        clear hu0 hlw hq3 hq4 hq5 hq6 k0 k1 e0 e1 e2 e3
        go_wp2_with fail
        go_loopg [4, 7] sides.length (fun g v4 v7 wj => ∃ (j : Nat) (u : ByteArray), v4 = .string u ∧ v7 = .int .i64 j ∧ j ≤ sides.length ∧ u.size ≤ 18 + 5000 * k + 4300 + 50 * j ∧ Hid (g + j = sides.length ∧ u = bs (lw ++ (sides.take j).flatMap putText) ∧ St2 w.heap.size w w.heap.size #[.int .i64 count, .slice (some a) l.length c] 35 wr.heap.size #[.int .i64 index, .string key, .string val, .slice SA sides.length sc] 179 wj ∧ Below V.heap.size V wj))
        case atStart => exact ⟨0, u0, rfl, rfl, Nat.zero_le _, by omega, rfl, by rw [HW.out]; simp, HST3.out, HBL.out⟩
        case round =>
          clear HST3 HBL HST2 HST
          obtain ⟨j, u, rfl, rfl, hj, hus, HH⟩ := hrel
          obtain ⟨hgj, hu, hst, hbl⟩ := HH.out
          have HGJ := Lib.hid hgj
          have HU := Lib.hid hu
          have HST := Lib.hid hst
          have HBL := Lib.hid hbl
          obtain ⟨q0, q1, q2, q3⟩ := box4 hst.y
          obtain ⟨k0, k1, _⟩ := hst.x.facts2
          clear HH hgj hu hst hbl
          by_cases hjl : j < sides.length
          · obtain ⟨sa, rfl, s0⟩ := (HSD.out.below HBL.out).elem j hjl
            have h32 := HP5.out sides[j] (List.getElem_mem hjl)
            have hjn := flat_take putText hjl
            obtain ⟨t, ht⟩ : ∃ t, t = sides[j] := ⟨_, rfl⟩
            rw [← ht] at s0 hjn h32
            clear ht
            have HL := Lib.hid (fun w => rLaid_calls t w (by omega))
            obtain ⟨x7, hx7⟩ : ∃ x, x = bs (putText t) := ⟨_, rfl⟩
            have hs7 : x7.size ≤ 41 := by rw [hx7, bs_size, putText_length]; have := putNum_len 8 t.size (by omega); omega
            rw [← hx7] at HL
            have HNU := Lib.hid (show u ++ x7 = bs (lw ++ (sides.take (j + 1)).flatMap putText) by rw [hjn, hx7, HU.out]; simp only [bs_append, ByteArray.append_assoc])
            clear hx7 hjn
            have hq7 : ¬ 9223372036854775807 < u.size + x7.size := by omega
            go_wp2_with fail
            refine (HL.out _).mono ?_
            rintro e w5 ⟨rfl, hb5⟩
            have HST5 := Lib.hid (HST.out.call (Nat.le_refl _) hb5)
            have HBL5 := Lib.hid (HBL.out.trans (hb5.mono HBL.out.size))
            clear hb5
            go_wp2_with fail
            go_roundg (sides.length - (j + 1))
            case measure => have := HGJ.out; omega
            case rel => exact ⟨j + 1, u ++ x7, by go_num, by go_num, by omega, by rw [ByteArray.size_append]; omega, by omega, HNU.out, HST5.out, HBL5.out⟩
          · have HNV := Lib.hid (show u = bs (putNum count.toNat ++ putNum l.length ++ ((l.map Pm.pt).take (k + 1)).flatMap putPt) by
              rw [HU.out, List.take_of_length_le (by omega), HNX.out, HLW.out]
              simp [putPt, Pm.pt])
            go_wp2
            go_roundg (l.length - (k + 1))
            case measure => have := HG.out; omega
            case rel => exact ⟨k + 1, u, rfl, by go_num, by omega, by omega, by omega, HNV.out, HST.out.b, HST.out.x⟩
      · have HPP := Lib.hid (show v = bs (putPf count (l.map Pm.pt)) by rw [HV.out, List.take_of_length_le (by simp; omega)]; unfold putPf; simp)
        go_wp2
        go_ret2
        rw [HE.out, ← HPP.out]
        exact ⟨rfl, HST.out.b⟩
  · have HE := Lib.hid (show proofE count (l.map Pm.pt) = (⟨#[]⟩, 14) by unfold proofE; rw [if_neg hok])
    have hf : pfOk count (l.map Pm.pt) = false := by simpa using hok
    rw [hf] at HR
    clear hok hf
    go_enter Try.func92, Try.ntmps92
    go_wp2_with fail
    refine HR.out.mono ?_
    rintro e w1 ⟨rfl, hb⟩
    have HB1 := Lib.hid (HB0.out.trans (hb.mono HB0.out.size))
    clear hb
    go_wp2
    go_ret2
    rw [HE.out]
    exact ⟨rfl, HB1.out⟩
end Go.Proofs.Ytfgpchffkpomoaa

/- A proof is laid: the walk through the code's PutProof. -/
namespace Go.Proofs.Ytfgpchffkpomoaa
set_option linter.unusedSimpArgs false
set_option linter.unusedVariables false
open Go.RowKit

set_option maxHeartbeats 2000000 in
set_option maxRecDepth 100000 in
theorem wproof_calls (count : Int) (A : Option Addr) (c : Nat) (l : List Pm) (w : World) (hs : PmS w A c l) : Calls Try.prog 107 #[.agg #[.int .i64 count, .slice A l.length c]] w (StrErr (proofE count (l.map Pm.pt)).1 (proofE count (l.map Pm.pt)).2 w) := by
  have hfit := hs.1.fits
  have HS := Lib.hid hs
  have HB0 := Lib.hid ((Below.refl w.heap.size w).alloc (Nat.le_refl _) (.cells #[.int .i64 count, .slice A l.length c] 35))
  have HBX := Lib.hid (Box.new w #[.int .i64 count, .slice A l.length c] 35)
  have HR := Lib.hid (wright_calls count A c l (w.alloc (.cells #[.int .i64 count, .slice A l.length c] 35)) (hs.below ((Below.refl w.heap.size w).alloc (Nat.le_refl _) _)))
  clear hs
  obtain ⟨k0, k1, _⟩ := HBX.out.facts2
  by_cases hok : pfOk count (l.map Pm.pt) = true
  · have HE := Lib.hid (show proofE count (l.map Pm.pt) = (bs (putPf count (l.map Pm.pt)), 0) by unfold proofE; rw [if_pos hok])
    rw [hok] at HR
    obtain ⟨⟨hc0, hc1⟩, hl2, hall⟩ := pfOk_iff hok
    rw [List.length_map] at hl2
    have HALL := Lib.hid (show ∀ k (h : k < l.length), (0 ≤ l[k].index ∧ l[k].index ≤ 4095) ∧ l[k].key.size ≤ 64 ∧ l[k].val.size ≤ 4096 ∧ l[k].sides.length ≤ 13 ∧ ∀ s ∈ l[k].sides, s.size ≤ 32 from fun k h => hall l[k].pt (List.mem_map.2 ⟨_, List.getElem_mem h, rfl⟩))
    clear hok hall
    have HL1 := Lib.hid (putNum_len 8 count.toNat (by omega))
    have HL2 := Lib.hid (putNum_len 8 l.length (by omega))
    obtain ⟨W0, hW⟩ : ∃ W, W = w.alloc (.cells #[.int .i64 count, .slice A l.length c] 35) := ⟨_, rfl⟩
    rw [← hW] at HBX HB0 HR
    have HW0 := Lib.hid hW
    clear hW
    go_enter Try.func107, Try.ntmps107
    go_wp2_with fail
    rw [← HW0.out]
    refine HR.out.mono ?_
    rintro e wo ⟨rfl, hb⟩
    have HST := Lib.hid ((St.mk HB0.out HBX.out).call (Nat.le_refl _) hb)
    clear hb k0 k1 HB0 HBX HW0 HR
    have hlt2 := HST.out.x.lt
    obtain ⟨W, hW⟩ : ∃ W, W = wo.alloc (.cells #[.slice none 0 0] 232) := ⟨_, rfl⟩
    have HW := Lib.hid (Wr.new wo)
    have HB3 := Lib.hid (HST.out.x.alloc (.cells #[.slice none 0 0] 232))
    have hWs : W.heap.size = wo.heap.size + 1 := by rw [hW]; simp
    rw [← hW] at HW HB3
    have HWW := Lib.hid hW
    clear hW
    have HBLW := Lib.hid (fun (A2 : Option Addr) (w2 : World) (hh : WrCh wo.heap.size none A2 W w2) => (show Below wo.heap.size wo w2 by rw [HWW.out] at hh; exact hh.below))
    go_wp2_with fail
    rw [← HWW.out]
    have hw := HW.out.drew
    have hbx := HB3.out.drew
    have HCh := Lib.hid ((WrCh.refl wo.heap.size none W).trans (WrCh.drewN wo.heap.size none W 1))
    have hWl : w.heap.size < W.heap.size := by omega
    go_region_held3 (fun w' => w'.cell? ⟨w.heap.size, 0, none⟩ = some (.int .i64 count) ∧ w'.cell? ⟨w.heap.size, 1, none⟩ = some (.slice A l.length c)) (exact ⟨hbx.cell 0, hbx.cell 1⟩) (first | (go_at_call 158; refine (wnumber_calls wo.heap.size _ _ _ _ _ ?h0 ?h1 ?hl hw).mono ?_; (case h0 => omega); (case h1 => omega); (case hl => (have a1 := HL1.out; have a2 := HL2.out; simp only [List.length_append, List.length_nil, Int.toNat_natCast]; omega)); rintro e wn ⟨rfl, An, capn, hcn, hwn⟩; have hbn := hbx.ch hcn.ch hbx.lt (by exact wr_ne HCh.out hWl (by omega) (by intro hh; cases hh)); have HChn := Lib.hid (HCh.out.trans hcn); clear hcn hbx HCh hw; have hw := hwn; have hbx := hbn; have HCh := Lib.hid HChn.out; clear hwn hbn HChn))
    have HW9 := Lib.hid hw
    obtain ⟨k0, k1, _⟩ := hbx.facts2
    clear hw hbx
    have HCH0 := Lib.hid HCh.out
    obtain ⟨An0, hAn0⟩ : ∃ x, x = An := ⟨_, rfl⟩
    rw [← hAn0] at HW9 HCH0
    go_wp2_with fail
    go_loopg [22] l.length (fun g vi w2 => ∃ (k : Nat) (A2 : Option Addr) (cap2 : Nat) (p : List UInt8), vi = .int .i64 k ∧ k ≤ l.length ∧ p.length ≤ 18 + 5000 * k ∧ Hid (g + k = l.length ∧ p = putNum count.toNat ++ putNum l.length ++ ((l.map Pm.pt).take k).flatMap putPt ∧ WrCh wo.heap.size none A2 W w2 ∧ Wr w2 wo.heap.size A2 cap2 p))
    case atStart =>
      refine ⟨0, An0, capn, putNum count.toNat ++ putNum l.length, rfl, Nat.zero_le _, by have := HL1.out; have := HL2.out; simp only [List.length_append]; omega, rfl, by simp, HCH0.out, ?_⟩
      have hh := HW9.out
      simpa using hh
    case round =>
      clear HW9 HCH0 HCh hAn0 k0 k1
      obtain ⟨k, A2, cap2, p, rfl, hk, hpl, HH⟩ := hrel
      obtain ⟨hg, hp, hch, hw⟩ := HH.out
      have HG := Lib.hid hg
      have HP := Lib.hid hp
      have HCH := Lib.hid hch
      have HW2 := Lib.hid hw
      have HBL := Lib.hid (HST.out.b.trans ((HBLW.out A2 wr hch).mono HST.out.b.size))
      clear HH hg hch hw hp
      by_cases hlt : k < l.length
      · obtain ⟨a, rfl, e0, e1, e2, e3, hsd⟩ := (HS.out.below HBL.out).elem k hlt
        have hok := HALL.out k hlt
        have hnx := flat_take putPt (l := l.map Pm.pt) (k := k) (by simpa using hlt)
        rw [List.getElem_map] at hnx
        obtain ⟨⟨index, key, val, sides, SA, sc⟩, hx⟩ : ∃ x, x = l[k] := ⟨_, rfl⟩
        rw [← hx] at e0 e1 e2 e3 hsd hok hnx
        simp only at e0 e1 e2 e3 hsd hok
        have hsf := hsd.2
        obtain ⟨⟨p0, p1⟩, p2, p3, p4, p5⟩ := hok
        have HP5 := Lib.hid p5
        have HNX := Lib.hid hnx
        have HSD := Lib.hid hsd
        have HSW := Lib.hid (show ∀ w', Below w.heap.size w w' → TxS w' SA sc sides from fun w' hb => by have := (HS.out.below hb).2 l[k] (List.getElem_mem hlt); rw [← hx] at this; exact this)
        clear p5 hnx hsd hx
        have HL3 := Lib.hid (putNum_len 8 index.toNat (by omega))
        have HL4 := Lib.hid (show (putText key).length ≤ 73 by rw [putText_length]; have := putNum_len 8 key.size (by omega); omega)
        have HL5 := Lib.hid (show (putText val).length ≤ 4105 by rw [putText_length]; have := putNum_len 8 val.size (by omega); omega)
        have HL6 := Lib.hid (putNum_len 8 sides.length (by omega))
        have hwl := HW2.out.lt
        have hRA : ¬ Row A2 wr.heap.size := fun h => by have := (own_row HW2.out.own h).2; omega
        have HA2 := Lib.hid ((Wr.alloc HW2.out (.cells #[.int .i64 index, .string key, .string val, .slice SA sides.length sc] 179)))
        have HBX := Lib.hid (Box.new wr #[.int .i64 index, .string key, .string val, .slice SA sides.length sc] 179)
        have HA := Lib.hid (WrCh.alloc wo.heap.size A2 wr (.cells #[.int .i64 index, .string key, .string val, .slice SA sides.length sc] 179))
        obtain ⟨V, hV⟩ : ∃ V, V = wr.alloc (.cells #[.int .i64 index, .string key, .string val, .slice SA sides.length sc] 179) := ⟨_, rfl⟩
        have hVl : wr.heap.size < V.heap.size := by rw [hV]; simp
        rw [← hV] at HA2 HBX HA
        have HVV := Lib.hid hV
        clear hV
        go_wp2_with fail
        rw [← HVV.out]
        have hw := HA2.out.drew
        have hbx := HBX.out.drew
        have HCh := Lib.hid ((WrCh.refl wo.heap.size A2 V).trans (WrCh.drewN wo.heap.size A2 V 1))
        go_region_held3 (fun w' => w'.cell? ⟨wr.heap.size, 0, none⟩ = some (.int .i64 index) ∧ w'.cell? ⟨wr.heap.size, 1, none⟩ = some (.string key) ∧ w'.cell? ⟨wr.heap.size, 2, none⟩ = some (.string val) ∧ w'.cell? ⟨wr.heap.size, 3, none⟩ = some (.slice SA sides.length sc)) (exact box4 hbx) (first | (go_at_call 158; refine (wnumber_calls wo.heap.size _ _ _ _ _ ?h0 ?h1 ?hl hw).mono ?_; (case h0 => omega); (case h1 => omega); (case hl => (have a1 := HL3.out; have a2 := HL4.out; have a3 := HL5.out; have a4 := HL6.out; (try simp only [List.length_append, List.length_nil, Int.toNat_natCast]); omega)); rintro e wn ⟨rfl, An, capn, hcn, hwn⟩; have hbn := hbx.ch hcn.ch hbx.lt (by exact wr_ne HCh.out hVl (by omega) hRA); have HChn := Lib.hid (HCh.out.trans hcn); clear hcn hbx HCh hw; have hw := hwn; have hbx := hbn; have HCh := Lib.hid HChn.out; clear hwn hbn HChn) | (go_at_call 159; refine (wtext_calls wo.heap.size _ _ _ _ _ ?h1 ?hl hw).mono ?_; (case h1 => omega); (case hl => (have a1 := HL3.out; have a2 := HL4.out; have a3 := HL5.out; have a4 := HL6.out; (try simp only [List.length_append, List.length_nil, Int.toNat_natCast]); omega)); rintro e wn ⟨rfl, An, capn, hcn, hwn⟩; have hbn := hbx.ch hcn.ch hbx.lt (by exact wr_ne HCh.out hVl (by omega) hRA); have HChn := Lib.hid (HCh.out.trans hcn); clear hcn hbx HCh hw; have hw := hwn; have hbx := hbn; have HCh := Lib.hid HChn.out; clear hwn hbn HChn))
        have HW9 := Lib.hid hw
        obtain ⟨q0, q1, q2, q3⟩ := box4 hbx
        have HCH4 := Lib.hid (HCH.out.trans (HA.out.trans HCh.out))
        clear hw hbx HCh
        obtain ⟨p4, hp4⟩ : ∃ x, x = p ++ putNum index.toNat ++ putText key ++ putText val ++ putNum sides.length := ⟨_, rfl⟩
        have hp4l : p4.length ≤ 18 + 5000 * k + 4300 := by have a1 := HL3.out; have a2 := HL4.out; have a3 := HL5.out; have a4 := HL6.out; rw [hp4]; simp only [List.length_append]; omega
        have HW9 := Lib.hid (show Wr _ wo.heap.size An capn p4 from by have hh := HW9.out; rw [hp4]; simpa using hh)
        have HP4 := Lib.hid hp4
        clear hp4 e0 e1 e2 e3
        go_wp2_with fail
        go_loopg [42] sides.length (fun g vj wj => ∃ (j : Nat) (A5 : Option Addr) (cap5 : Nat) (p5 : List UInt8), vj = .int .i64 j ∧ j ≤ sides.length ∧ p5.length ≤ 18 + 5000 * k + 4300 + 50 * j ∧ Hid (g + j = sides.length ∧ p5 = p4 ++ (sides.take j).flatMap putText ∧ WrCh wo.heap.size none A5 W wj ∧ Wr wj wo.heap.size A5 cap5 p5))
        case atStart => exact ⟨0, An, capn, p4, rfl, Nat.zero_le _, by omega, rfl, by simp, HCH4.out, HW9.out⟩
        case round =>
          clear HW9 HCH4 HW2 HCH HA2 HBX HA hwl hRA hVl HVV q0 q1 q2 q3
          obtain ⟨j, A5, cap5, p5, rfl, hj, hpl5, HH⟩ := hrel
          obtain ⟨hgj, hp, hch, hw⟩ := HH.out
          have HGJ := Lib.hid hgj
          have HP5L := Lib.hid hp
          have HCH := Lib.hid hch
          have HW2 := Lib.hid hw
          have HBL5 := Lib.hid (HST.out.b.trans ((HBLW.out A5 _ hch).mono HST.out.b.size))
          clear HH hgj hp hch hw
          by_cases hjl : j < sides.length
          · obtain ⟨sa, rfl, s0⟩ := (HSW.out _ HBL5.out).elem j hjl
            have h32 := HP5.out sides[j] (List.getElem_mem hjl)
            have hjn := flat_take putText hjl
            obtain ⟨t, ht⟩ : ∃ t, t = sides[j] := ⟨_, rfl⟩
            rw [← ht] at s0 hjn h32
            clear ht
            have hs7 : (putText t).length ≤ 41 := by rw [putText_length]; have := putNum_len 8 t.size (by omega); omega
            have HNU := Lib.hid (show p5 ++ putText t = p4 ++ (sides.take (j + 1)).flatMap putText by rw [hjn, HP5L.out, List.append_assoc])
            have HS7 := Lib.hid hs7
            clear hjn hs7
            go_wp2_with fail
            refine (wtext_calls wo.heap.size A5 cap5 p5 t _ (by omega) (by have := HS7.out; omega) HW2.out).mono ?_
            rintro e w5 ⟨rfl, A6, cap6, hc6, hw6⟩
            have HCH6 := Lib.hid (HCH.out.trans hc6)
            have HW6 := Lib.hid hw6
            clear hc6 hw6 s0
            go_wp2_with fail
            go_roundg (sides.length - (j + 1))
            case measure => have := HGJ.out; omega
            case rel => exact ⟨j + 1, A6, cap6, p5 ++ putText t, by go_num, by omega, by have := HS7.out; simp only [List.length_append]; omega, by omega, HNU.out, HCH6.out, HW6.out⟩
          · have HNV := Lib.hid (show p5 = putNum count.toNat ++ putNum l.length ++ ((l.map Pm.pt).take (k + 1)).flatMap putPt by
              rw [HP5L.out, List.take_of_length_le (by omega), HNX.out, HP4.out, HP.out]
              simp [putPt, Pm.pt])
            go_wp2
            go_roundg (l.length - (k + 1))
            case measure => have := HG.out; omega
            case rel => exact ⟨k + 1, A5, cap5, p5, by go_num, by omega, by omega, by omega, HNV.out, HCH.out, HW2.out⟩
      · have hst := own_to_string HW2.out.own
        have hcell := HW2.out.cell
        have HPP := Lib.hid (show p = putPf count (l.map Pm.pt) by rw [HP.out, List.take_of_length_le (by simp; omega)]; unfold putPf; simp)
        have hge := HE.out
        rw [← HPP.out] at hge
        have HGE := Lib.hid hge
        clear hge
        go_wp2
        go_ret2
        rw [HGE.out]
        exact ⟨rfl, HBL.out⟩
  · have HE := Lib.hid (show proofE count (l.map Pm.pt) = (⟨#[]⟩, 14) by unfold proofE; rw [if_neg hok])
    have hf : pfOk count (l.map Pm.pt) = false := by simpa using hok
    rw [hf] at HR
    clear hok hf
    go_enter Try.func107, Try.ntmps107
    go_wp2_with fail
    refine HR.out.mono ?_
    rintro e w1 ⟨rfl, hb⟩
    have HB1 := Lib.hid (HB0.out.trans (hb.mono HB0.out.size))
    clear hb
    go_wp2
    go_ret2
    rw [HE.out]
    exact ⟨rfl, HB1.out⟩
end Go.Proofs.Ytfgpchffkpomoaa

/- Whether two lists of messages, or two bodies, are the same. -/
namespace Go.Proofs.Ytfgpchffkpomoaa
set_option linter.unusedSimpArgs false
set_option linter.unusedVariables false
open Go.RowKit

def sameSg (a b : Sg) : Bool := decide (a.who = b.who) && (decide (a.body = b.body) && decide (a.sig = b.sig))
theorem sameSg_iff {a b : Sg} : sameSg a b = true ↔ a = b := by
  cases a; cases b
  simp [sameSg]
def sameL : List Sg → List Sg → Bool
  | [], [] => true
  | x :: l, y :: m => sameSg x y && sameL l m
  | _, _ => false
theorem sameL_iff : ∀ {l m : List Sg}, sameL l m = true ↔ l = m
  | [], [] => by simp [sameL]
  | [], _ :: _ => by simp [sameL]
  | _ :: _, [] => by simp [sameL]
  | x :: l, y :: m => by simp [sameL, sameSg_iff, sameL_iff]
theorem sameL_no {l m : List Sg} (h : l ≠ m) : sameL l m = false := by
  rw [← Bool.not_eq_true, sameL_iff]; exact h

theorem eqSg (x0 y0 : Int) (x1 y1 x2 y2 : ByteArray) (w : World) : (Op.equalIn 10000 61 (.agg #[.int .i64 x0, .string x1, .string x2]) (.agg #[.int .i64 y0, .string y1, .string y2])).run Try.prog w = .ok (x0 == y0 && (x1.toList == y1.toList && x2.toList == y2.toList)) w := by
  rw [show (10000 : Nat) = 9999 + 1 from rfl, run_equalIn_struct (P := Try.prog) w 9999 61 _ _ (by kernel_rfl) (by kernel_rfl)]
  simp only [Program.fieldsOf, Try.underlying61]
  simp [Op.eqFields, go_sem]
  by_cases h0 : x0 = y0 <;> by_cases h1 : x1.toList = y1.toList <;> by_cases h2 : x2.toList = y2.toList <;> simp [h0, h1, h2]
theorem toList_eq {a b : ByteArray} (h : a.toList = b.toList) : a = b := by
  have e := beq_toListBytes a b
  rw [h, beq_self_eq_true] at e
  obtain ⟨x⟩ := a
  obtain ⟨y⟩ := b
  have e : (x == y) = true := e
  rw [eq_of_beq e]
theorem below_drewN {B : Nat} {w0 w : World} (h : Below B w0 w) (n : Nat) : Below B w0 (w.drewN n) := ⟨h.1, h.2, h.3, h.4, h.5⟩
theorem eqSg_no {x y : Sg} (h : x ≠ y) (w : World) : (Op.equalIn 10000 61 x.val y.val).run Try.prog w = .ok false w := by
  unfold Sg.val
  rw [eqSg]
  congr 1
  rw [← Bool.not_eq_true]
  intro hc
  simp only [Bool.and_eq_true, beq_iff_eq] at hc
  apply h
  cases x; cases y
  simp only at hc
  rw [hc.1, toList_eq hc.2.1, toList_eq hc.2.2]

set_option maxRecDepth 100000 in
theorem sameAll_calls (A B : Option Addr) (c d : Nat) (l m : List Sg) (w : World) (hl : SgS w A c l) (hm : SgS w B d m) : Calls Try.prog 116 #[.slice A l.length c, .slice B m.length d] w (BoolPost (sameL l m) w) := by
  have hf1 := hl.fits
  have hf2 := hm.fits
  have HL := Lib.hid hl
  have HM := Lib.hid hm
  clear hl hm
  by_cases hlen : l.length = m.length
  · have hd0 : ((l.length : Int) == (m.length : Int)) = true := by simp; omega
    have hd00 : ((l.length : Int) != (m.length : Int)) = false := by rw [bne, hd0]; rfl
    have HLEN := Lib.hid hlen
    clear hlen
    go_enter Try.func116, Try.ntmps116
    go_wp2
    go_loopg [5] l.length (fun g vi wr => ∃ k : Nat, vi = .int .i64 k ∧ k ≤ l.length ∧ Hid (g + k = l.length ∧ Below w.heap.size w wr ∧ l.take k = m.take k))
    case atStart => exact ⟨0, rfl, by omega, rfl, Below.refl _ _, rfl⟩
    case round =>
      obtain ⟨k, rfl, hk, HH⟩ := hrel
      obtain ⟨hg, hb, ht⟩ := HH.out
      have HGK := Lib.hid hg
      have HB := Lib.hid hb
      have HT := Lib.hid ht
      have hsz := hb.size
      clear HH hb ht hg
      by_cases hlt : k < l.length
      · have hd : decide ((k : Int) < (l.length : Int)) = true := by simp; omega
        have hlt2 : k < m.length := by have := HLEN.out; omega
        obtain ⟨a, rfl, h0, h1, h2⟩ := (HL.out.below HB.out).elem k hlt
        obtain ⟨b, rfl, g0, g1, g2⟩ := (HM.out.below HB.out).elem k hlt2
        obtain ⟨x, hx⟩ : ∃ x, x = l[k] := ⟨_, rfl⟩
        obtain ⟨y, hy⟩ : ∃ y, y = m[k] := ⟨_, rfl⟩
        rw [← hx] at h0 h1 h2
        rw [← hy] at g0 g1 g2
        have HX := Lib.hid hx
        have HY := Lib.hid hy
        clear hx hy
        by_cases hxy : x = y
        · have HXY := Lib.hid hxy
          subst hxy
          obtain ⟨who, body, sig⟩ := x
          simp only at h0 h1 h2 g0 g1 g2
          go_wp2_with fail
          go_quiet (fail)
          go_wp2
          go_roundg (gk - 1)
          case measure => have := HGK.out; omega
          case rel => exact ⟨k + 1, by go_num, by omega, by have := HGK.out; omega, below_drewN HB.out _, by rw [List.take_succ_eq_append_getElem hlt, List.take_succ_eq_append_getElem hlt2, HT.out, ← HX.out, ← HY.out]⟩
        · have HE := Lib.hid (sameL_no (l := l) (m := m) (by rintro rfl; exact hxy (HX.out.trans HY.out.symm)))
          have hq := eqSg_no hxy
          obtain ⟨who, body, sig⟩ := x
          obtain ⟨who', body', sig'⟩ := y
          clear hxy
          simp only at h0 h1 h2 g0 g1 g2
          simp only [Sg.val] at hq
          go_wp2_with fail
          go_quiet (fail)
          go_wp2
          go_ret
          exact ⟨ret_bool HE.out.symm, below_drewN HB.out _⟩
      · have hd : decide ((k : Int) < (l.length : Int)) = false := by simp; omega
        have HE := Lib.hid (show sameL l m = true by rw [sameL_iff, ← List.take_of_length_le (i := k) (l := l) (by omega), HT.out]; exact List.take_of_length_le (by have := HLEN.out; omega))
        go_wp2
        go_ret
        exact ⟨ret_bool HE.out.symm, HB.out⟩
  · have hd0 : ((l.length : Int) == (m.length : Int)) = false := by simp; omega
    have HE := Lib.hid (sameL_no (l := l) (m := m) (by rintro rfl; exact hlen rfl))
    go_enter Try.func116, Try.ntmps116
    go_wp2
    go_ret
    exact ⟨ret_bool HE.out.symm, Below.refl _ _⟩
end Go.Proofs.Ytfgpchffkpomoaa
