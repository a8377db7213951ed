/- The document's own bytes of a body. -/
import Derived.Test.YtehbpjkeflcanaaBytes
import Derived.Test.YtehbpjkeflcanaaRightEq
namespace Go.Proofs.Ytehbpjkeflcanaa
set_option linter.unusedSimpArgs false
set_option linter.unusedVariables false
open Go.RowKit

theorem fitAll_get {l : List Sg} (h : fitAllB l = true) {k : Nat} (hk : k < l.length) : fitsB l[k] = true := by
  unfold fitAllB at h
  rw [List.all_eq_true] at h
  exact h _ (List.getElem_mem hk)
theorem take_le {l : List Sg} {k : Nat} (hk : k < l.length) : ((l.take k).flatMap putSg).length + (putSg l[k]).length ≤ (l.flatMap putSg).length := by
  have e := congrArg (fun l => (l.flatMap putSg).length) (List.take_append_drop (k + 1) l)
  rw [List.take_succ_eq_append_getElem hk] at e
  simp only [List.flatMap_append, List.flatMap_singleton, List.length_append] at e
  omega

set_option maxRecDepth 100000 in
theorem rbytes_no (b : Bd) (A : Option Addr) (c : Nat) (w : World) (hs : SgS w A c b.list) (h : ¬ rightE b = 0) : Calls Try.prog 21 #[b.val A c] w (StrErr (bytesE b).1 (bytesE b).2 w) := by
  have HE := Lib.hid (show bytesE b = (⟨#[]⟩, rightE b) by unfold bytesE; rw [if_neg h])
  have HR := Lib.hid (rright_calls b A c (w.alloc (.cells (b.cells A c) 24)) (hs.below ((Below.refl _ _).alloc (Nat.le_refl _) _)))
  rw [right_eq] at HR
  obtain ⟨n, hn⟩ : ∃ n, n = rightE b := ⟨_, rfl⟩
  rw [← hn] at HE HR h
  have hd : (n == 0) = false := by simpa using h
  clear hn h hs
  obtain ⟨kind, view, seq, client, stamp, digest, tx, list⟩ := b
  unfold Bd.val Bd.cells at *
  simp only at *
  go_enter Try.func21, Try.ntmps21
  go_wp2_with fail
  refine HR.out.mono ?_
  rintro e w1 ⟨rfl, hb⟩
  go_wp2
  go_ret2
  rw [HE.out]
  exact ⟨rfl, ((Below.refl w.heap.size w).alloc (Nat.le_refl _) _).trans (hb.mono (by simp))⟩

set_option maxHeartbeats 1000000 in
set_option maxRecDepth 100000 in
theorem rbytes_yes (b : Bd) (A : Option Addr) (c : Nat) (w : World) (hs : SgS w A c b.list) (h : rightE b = 0) : Calls Try.prog 21 #[b.val A c] w (StrErr (bytesE b).1 (bytesE b).2 w) := by
  have HE := Lib.hid (show bytesE b = (if 1048576 < (putBody b).length then (⟨#[]⟩, 4) else (bs (putBody b), 0)) by unfold bytesE; rw [if_pos h])
  have HR := Lib.hid (rright_calls b A c (w.alloc (.cells (b.cells A c) 24)) (hs.below ((Below.refl _ _).alloc (Nat.le_refl _) _)))
  rw [right_eq, h] at HR
  have hok := right_ok h
  have HP := Lib.hid (putBody_eq b)
  have HS := Lib.hid hs
  clear h hs
  obtain ⟨kind, view, seq, client, stamp, digest, tx, list⟩ := b
  unfold Bd.val Bd.cells at *
  simp only at *
  obtain ⟨k1, k2, v1, v2, q1, q2, c1, c2, t1, t2, d1, d2, l1, hfa⟩ := hok
  have HFA := Lib.hid hfa
  clear hfa
  obtain ⟨x1, hx1⟩ : ∃ x, x = bs (putNum kind.toNat) := ⟨_, rfl⟩
  have hs1 : x1.size ≤ 9 := by rw [hx1, bs_size]; exact putNum_len 8 kind.toNat (by omega)
  obtain ⟨x2, hx2⟩ : ∃ x, x = bs (putNum view.toNat) := ⟨_, rfl⟩
  have hs2 : x2.size ≤ 9 := by rw [hx2, bs_size]; exact putNum_len 8 view.toNat (by omega)
  obtain ⟨x3, hx3⟩ : ∃ x, x = bs (putNum seq.toNat) := ⟨_, rfl⟩
  have hs3 : x3.size ≤ 9 := by rw [hx3, bs_size]; exact putNum_len 8 seq.toNat (by omega)
  obtain ⟨x4, hx4⟩ : ∃ x, x = bs (putNum client.toNat) := ⟨_, rfl⟩
  have hs4 : x4.size ≤ 9 := by rw [hx4, bs_size]; exact putNum_len 8 client.toNat (by omega)
  obtain ⟨x5, hx5⟩ : ∃ x, x = bs (putNum stamp.toNat) := ⟨_, rfl⟩
  have hs5 : x5.size ≤ 9 := by rw [hx5, bs_size]; exact putNum_len 8 stamp.toNat (by omega)
  obtain ⟨x6, hx6⟩ : ∃ x, x = bs (putText digest) := ⟨_, rfl⟩
  have hs6 : x6.size ≤ 41 := by rw [hx6, bs_size, putText_length]; have := putNum_len 8 digest.size (by omega); omega
  obtain ⟨x7, hx7⟩ : ∃ x, x = bs (putText tx) := ⟨_, rfl⟩
  have hs7 : x7.size ≤ 1048585 := by rw [hx7, bs_size, putText_length]; have := putNum_len 8 tx.size (by omega); omega
  obtain ⟨x8, hx8⟩ : ∃ x, x = bs (putNum list.length) := ⟨_, rfl⟩
  have hs8 : x8.size ≤ 9 := by rw [hx8, bs_size]; exact putNum_len 8 list.length (by omega)
  have HN1 := Lib.hid (fun w => rNumber_calls kind w (by omega) (by omega))
  rw [← hx1] at HN1
  have HN2 := Lib.hid (fun w => rNumber_calls view w (by omega) (by omega))
  rw [← hx2] at HN2
  have HN3 := Lib.hid (fun w => rNumber_calls seq w (by omega) (by omega))
  rw [← hx3] at HN3
  have HN4 := Lib.hid (fun w => rNumber_calls client w (by omega) (by omega))
  rw [← hx4] at HN4
  have HN5 := Lib.hid (fun w => rNumber_calls stamp w (by omega) (by omega))
  rw [← hx5] at HN5
  have HN8 := Lib.hid (fun w => rNumber_calls (list.length : Nat) w (by omega) (by omega))
  rw [Int.toNat_natCast, ← hx8] at HN8
  have HN6 := Lib.hid (fun w => rLaid_calls digest w (by omega))
  rw [← hx6] at HN6
  have HN7 := Lib.hid (fun w => rLaid_calls tx w (by omega))
  rw [← hx7] at HN7
  obtain ⟨l0, hl0⟩ : ∃ l0, l0 = putNum kind.toNat ++ (putNum view.toNat ++ (putNum seq.toNat ++ (putNum client.toNat ++ (putNum stamp.toNat ++ (putText digest ++ (putText tx ++ (putNum list.length))))))) := ⟨_, rfl⟩
  have hbs : x1 ++ x2 ++ x3 ++ x4 ++ x5 ++ x6 ++ x7 ++ x8 = bs l0 := by rw [hl0, hx1, hx2, hx3, hx4, hx5, hx6, hx7, hx8]; simp only [bs_append, ByteArray.append_assoc]
  have hpb : putBody ⟨kind, view, seq, client, stamp, digest, tx, list⟩ = l0 ++ list.flatMap putSg := by rw [HP.out, hl0]; simp only [List.append_assoc]
  have hl0b : l0.length ≤ 1048680 := by rw [← bs_size, ← hbs]; simp only [ByteArray.size_append]; omega
  have hq2 : ¬ 9223372036854775807 < x1.size + x2.size := by omega
  have hq3 : ¬ 9223372036854775807 < x1.size + x2.size + x3.size := by omega
  have hq4 : ¬ 9223372036854775807 < x1.size + x2.size + x3.size + x4.size := by omega
  have hq5 : ¬ 9223372036854775807 < x1.size + x2.size + x3.size + x4.size + x5.size := by omega
  have hq6 : ¬ 9223372036854775807 < x1.size + x2.size + x3.size + x4.size + x5.size + x6.size := by omega
  have hq7 : ¬ 9223372036854775807 < x1.size + x2.size + x3.size + x4.size + x5.size + x6.size + x7.size := by omega
  have hq8 : ¬ 9223372036854775807 < x1.size + x2.size + x3.size + x4.size + x5.size + x6.size + x7.size + x8.size := by omega
  have HBS := Lib.hid hbs
  have HPB := Lib.hid hpb
  clear hx1 hx2 hx3 hx4 hx5 hx6 hx7 hx8 hl0 hbs hpb HP
  go_enter Try.func21, Try.ntmps21
  go_wp2_with fail
  refine HR.out.mono ?_
  rintro e w1 ⟨rfl, hb⟩
  have HST := Lib.hid ((St.mk ((Below.refl w.heap.size w).alloc (Nat.le_refl _) _) (Box.new w #[.int .i64 kind, .int .i64 view, .int .i64 seq, .int .i64 client, .int .i64 stamp, .string digest, .string tx, .slice A list.length c] 24)).call (Nat.le_refl _) hb)
  clear hb
  go_wp2_with fail
  have hst := HST.out.drew
  clear HST
  go_region_held3 (fun w' => w'.cell? ⟨w.heap.size, 0, none⟩ = some (.int .i64 kind) ∧ w'.cell? ⟨w.heap.size, 1, none⟩ = some (.int .i64 view) ∧ w'.cell? ⟨w.heap.size, 2, none⟩ = some (.int .i64 seq) ∧ w'.cell? ⟨w.heap.size, 3, none⟩ = some (.int .i64 client) ∧ w'.cell? ⟨w.heap.size, 4, none⟩ = some (.int .i64 stamp) ∧ w'.cell? ⟨w.heap.size, 5, none⟩ = some (.string digest) ∧ w'.cell? ⟨w.heap.size, 6, none⟩ = some (.string tx) ∧ w'.cell? ⟨w.heap.size, 7, none⟩ = some (.slice A list.length c)) (exact boxS hst.x) (first | (go_at_call 27; (first | (with_reducible refine (HN1.out _).mono ?_) | (with_reducible refine (HN2.out _).mono ?_) | (with_reducible refine (HN3.out _).mono ?_) | (with_reducible refine (HN4.out _).mono ?_) | (with_reducible refine (HN5.out _).mono ?_) | (with_reducible refine (HN8.out _).mono ?_)); rintro e wn ⟨rfl, hc1⟩; have hst1 := hst.call (Nat.le_refl _) hc1; clear hc1 hst; have hst := hst1; clear hst1) | (go_at_call 31; (first | (with_reducible refine (HN6.out _).mono ?_) | (with_reducible refine (HN7.out _).mono ?_)); rintro e wn ⟨rfl, hc1⟩; have hst1 := hst.call (Nat.le_refl _) hc1; clear hc1 hst; have hst := hst1; clear hst1))
  have HST := Lib.hid hst
  clear hst
  rw [HBS.out]
  obtain ⟨v0, hv0⟩ : ∃ v, v = bs l0 := ⟨_, rfl⟩
  have hv0s : v0.size ≤ 1048680 := by rw [hv0, bs_size]; exact hl0b
  rw [← hv0]
  have HV0 := Lib.hid hv0
  clear hv0 hq2 hq3 hq4 hq5 hq6 hq7 hq8
  go_wp2_with fail
  have hcell := (boxS HST.out.x).2.2.2.2.2.2.2
  go_loopg [5, 6] list.length (fun g v5 v6 wr => ∃ (k : Nat) (v : ByteArray), v5 = .string v ∧ v6 = .int .i64 k ∧ k ≤ list.length ∧ v.size ≤ 1048680 ∧ Hid (g + k = list.length ∧ v = bs (l0 ++ (list.take k).flatMap putSg) ∧ St w.heap.size w w.heap.size #[.int .i64 kind, .int .i64 view, .int .i64 seq, .int .i64 client, .int .i64 stamp, .string digest, .string tx, .slice A list.length c] 24 wr))
  case atStart => exact ⟨0, v0, rfl, rfl, by omega, hv0s, rfl, by rw [HV0.out]; simp, HST.out⟩
  case round =>
    clear HST hcell
    obtain ⟨k, v, rfl, rfl, hk, hvs, HH⟩ := hrel
    obtain ⟨hg, hv, hst⟩ := HH.out
    have HG := Lib.hid hg
    have HV := Lib.hid hv
    have HST := Lib.hid hst
    obtain ⟨_, _, _, _, _, _, _, c7⟩ := boxS hst.x
    clear HH hg hv hst
    by_cases hlt : k < list.length
    · have hd3 : decide ((k : Int) < (list.length : Int)) = true := by simp; omega
      obtain ⟨a, rfl, e0, e1, e2⟩ := (HS.out.below HST.out.b).elem k hlt
      have hfi := (fitsB_iff _).1 (fitAll_get HFA.out hlt)
      have hstep : (list.take (k + 1)).flatMap putSg = (list.take k).flatMap putSg ++ putSg list[k] := by rw [List.take_succ_eq_append_getElem hlt, List.flatMap_append, List.flatMap_singleton]
      have htk := take_le hlt
      obtain ⟨m, hm⟩ : ∃ m, m = list[k] := ⟨_, rfl⟩
      rw [← hm] at e0 e1 e2 hfi hstep htk
      clear hm
      have HC := Lib.hid (fun w => rOne_calls m w (by omega) (by omega) (by omega) (by omega))
      obtain ⟨y, hy⟩ : ∃ y, y = bs (putSg m) := ⟨_, rfl⟩
      rw [← hy] at HC
      have hys : y.size ≤ 1048700 := by
        rw [hy, bs_size]
        unfold putSg
        have b1 := putNum_len 8 m.who.toNat (by omega)
        have b2 := putNum_len 8 m.body.size (by omega)
        have b3 := putNum_len 8 m.sig.size (by omega)
        simp only [List.length_append, putText_length]
        omega
      have hq : ¬ 9223372036854775807 < v.size + y.size := by omega
      have HNEW := Lib.hid (show v ++ y = bs (l0 ++ (list.take (k + 1)).flatMap putSg) by rw [HV.out, hy, hstep, ← bs_append, List.append_assoc])
      have hsum : v.size + y.size = l0.length + ((list.take k).flatMap putSg).length + (putSg m).length := by rw [HV.out, hy, bs_size, bs_size, List.length_append]
      have HSUM := Lib.hid hsum
      have HTK := Lib.hid htk
      clear hy hstep hsum htk hfi
      obtain ⟨who, body, sig⟩ := m
      unfold Sg.val at HC
      simp only at e0 e1 e2 HC
      by_cases hbig : 1048576 < v.size + y.size
      · have hd4 : decide ((1048576 : Int) < (v.size : Int) + (y.size : Int)) = true := by simp; omega
        have hge := HE.out
        rw [if_pos (by rw [HPB.out, List.length_append]; have := HSUM.out; have := HTK.out; omega)] at hge
        have HGE := Lib.hid hge
        clear hge
        go_wp2_with fail
        refine (HC.out _).mono ?_
        rintro e w3 ⟨rfl, hb⟩
        have HB3 := Lib.hid (HST.out.b.trans (hb.mono HST.out.b.size))
        clear hb
        go_wp2_with fail
        go_ret2
        rw [HGE.out]
        exact ⟨rfl, HB3.out⟩
      · have hd4 : decide ((1048576 : Int) < (v.size : Int) + (y.size : Int)) = false := by simp; omega
        go_wp2_with fail
        refine (HC.out _).mono ?_
        rintro e w3 ⟨rfl, hb⟩
        have HST3 := Lib.hid (HST.out.call (Nat.le_refl _) hb)
        clear hb
        go_wp2_with fail
        go_roundg (gk - 1)
        case measure => have := HG.out; omega
        case rel => exact ⟨k + 1, v ++ y, rfl, by go_num, by omega, by rw [ByteArray.size_append]; omega, by have := HG.out; omega, HNEW.out, HST3.out⟩
    · have hd3 : decide ((k : Int) < (list.length : Int)) = false := by simp; omega
      have HE3 := Lib.hid (show v = bs (putBody ⟨kind, view, seq, client, stamp, digest, tx, list⟩) by rw [HV.out, HPB.out, List.take_of_length_le (by omega)])
      have hsz : v.size = (putBody ⟨kind, view, seq, client, stamp, digest, tx, list⟩).length := by rw [HE3.out, bs_size]
      by_cases hbig : 1048576 < v.size
      · have hd4 : decide ((1048576 : Int) < (v.size : Int)) = true := by simp; omega
        have hge := HE.out
        rw [if_pos (by rw [← hsz]; exact hbig)] at hge
        have HGE := Lib.hid hge
        clear hge hsz
        go_wp2_with fail
        go_ret2
        rw [HGE.out]
        exact ⟨rfl, HST.out.b⟩
      · have hd4 : decide ((1048576 : Int) < (v.size : Int)) = false := by simp; omega
        have hge := HE.out
        rw [if_neg (by rw [← hsz]; exact hbig), ← HE3.out] at hge
        have HGE := Lib.hid hge
        clear hge hsz
        go_wp2_with fail
        go_ret2
        rw [HGE.out]
        exact ⟨rfl, HST.out.b⟩

theorem rbytes_calls (b : Bd) (A : Option Addr) (c : Nat) (w : World) (hs : SgS w A c b.list) : Calls Try.prog 21 #[b.val A c] w (StrErr (bytesE b).1 (bytesE b).2 w) := by
  by_cases h : rightE b = 0
  · exact rbytes_yes b A c w hs h
  · exact rbytes_no b A c w hs h
end Go.Proofs.Ytehbpjkeflcanaa
