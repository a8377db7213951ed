/- Texts of this proof, several in one file; each says ahead of it what it proves. -/
import Derived.Test.YtfgpchffkpomoaaPk09
import Derived.Test.YtfgpchffkpomoaaPk15
import Derived.Test.YtfgpchffkpomoaaPk17
/- The document's own bytes of a body. -/
namespace Go.Proofs.Ytfgpchffkpomoaa
set_option linter.unusedSimpArgs false
set_option linter.unusedVariables false
open Go.RowKit

theorem fitAll_get {l : List Sg} (h : fitAllB l = true) {k : Nat} (hk : k < l.length) : fitsB l[k] = true := by
  unfold fitAllB at h
  rw [List.all_eq_true] at h
  exact h _ (List.getElem_mem hk)
theorem take_le {l : List Sg} {k : Nat} (hk : k < l.length) : ((l.take k).flatMap putSg).length + (putSg l[k]).length ≤ (l.flatMap putSg).length := by
  have e := congrArg (fun l => (l.flatMap putSg).length) (List.take_append_drop (k + 1) l)
  rw [List.take_succ_eq_append_getElem hk] at e
  simp only [List.flatMap_append, List.flatMap_singleton, List.length_append] at e
  omega

set_option maxRecDepth 100000 in
theorem rbytes_no (b : Bd) (A : Option Addr) (c : Nat) (w : World) (hs : SgS w A c b.list) (h : ¬ rightE b = 0) : Calls Try.prog 52 #[b.val A c] w (StrErr (bytesE b).1 (bytesE b).2 w) := by
  have HE := Lib.hid (show bytesE b = (⟨#[]⟩, rightE b) by unfold bytesE; rw [if_neg h])
  have HR := Lib.hid (rright_calls b A c (w.alloc (.cells (b.cells A c) 59)) (hs.below ((Below.refl _ _).alloc (Nat.le_refl _) _)))
  rw [right_eq] at HR
  obtain ⟨n, hn⟩ : ∃ n, n = rightE b := ⟨_, rfl⟩
  rw [← hn] at HE HR h
  have hd : (n == 0) = false := by simpa using h
  clear hn h hs
  obtain ⟨kind, view, seq, client, stamp, digest, tx, list⟩ := b
  unfold Bd.val Bd.cells at *
  simp only at *
  go_enter Try.func52, Try.ntmps52
  go_wp2_with fail
  refine HR.out.mono ?_
  rintro e w1 ⟨rfl, hb⟩
  go_wp2
  go_ret2
  rw [HE.out]
  exact ⟨rfl, ((Below.refl w.heap.size w).alloc (Nat.le_refl _) _).trans (hb.mono (by simp))⟩

set_option maxHeartbeats 1000000 in
set_option maxRecDepth 100000 in
theorem rbytes_yes (b : Bd) (A : Option Addr) (c : Nat) (w : World) (hs : SgS w A c b.list) (h : rightE b = 0) : Calls Try.prog 52 #[b.val A c] w (StrErr (bytesE b).1 (bytesE b).2 w) := by
  have HE := Lib.hid (show bytesE b = (if 1048576 < (putBody b).length then (⟨#[]⟩, 4) else (bs (putBody b), 0)) by unfold bytesE; rw [if_pos h])
  have HR := Lib.hid (rright_calls b A c (w.alloc (.cells (b.cells A c) 59)) (hs.below ((Below.refl _ _).alloc (Nat.le_refl _) _)))
  rw [right_eq, h] at HR
  have hok := right_ok h
  have HP := Lib.hid (putBody_eq b)
  have HS := Lib.hid hs
  clear h hs
  obtain ⟨kind, view, seq, client, stamp, digest, tx, list⟩ := b
  unfold Bd.val Bd.cells at *
  simp only at *
  obtain ⟨k1, k2, v1, v2, q1, q2, c1, c2, t1, t2, d1, d2, l1, hfa⟩ := hok
  have HFA := Lib.hid hfa
  clear hfa
  obtain ⟨x1, hx1⟩ : ∃ x, x = bs (putNum kind.toNat) := ⟨_, rfl⟩
  have hs1 : x1.size ≤ 9 := by rw [hx1, bs_size]; exact putNum_len 8 kind.toNat (by omega)
  obtain ⟨x2, hx2⟩ : ∃ x, x = bs (putNum view.toNat) := ⟨_, rfl⟩
  have hs2 : x2.size ≤ 9 := by rw [hx2, bs_size]; exact putNum_len 8 view.toNat (by omega)
  obtain ⟨x3, hx3⟩ : ∃ x, x = bs (putNum seq.toNat) := ⟨_, rfl⟩
  have hs3 : x3.size ≤ 9 := by rw [hx3, bs_size]; exact putNum_len 8 seq.toNat (by omega)
  obtain ⟨x4, hx4⟩ : ∃ x, x = bs (putNum client.toNat) := ⟨_, rfl⟩
  have hs4 : x4.size ≤ 9 := by rw [hx4, bs_size]; exact putNum_len 8 client.toNat (by omega)
  obtain ⟨x5, hx5⟩ : ∃ x, x = bs (putNum stamp.toNat) := ⟨_, rfl⟩
  have hs5 : x5.size ≤ 9 := by rw [hx5, bs_size]; exact putNum_len 8 stamp.toNat (by omega)
  obtain ⟨x6, hx6⟩ : ∃ x, x = bs (putText digest) := ⟨_, rfl⟩
  have hs6 : x6.size ≤ 41 := by rw [hx6, bs_size, putText_length]; have := putNum_len 8 digest.size (by omega); omega
  obtain ⟨x7, hx7⟩ : ∃ x, x = bs (putText tx) := ⟨_, rfl⟩
  have hs7 : x7.size ≤ 1048585 := by rw [hx7, bs_size, putText_length]; have := putNum_len 8 tx.size (by omega); omega
  obtain ⟨x8, hx8⟩ : ∃ x, x = bs (putNum list.length) := ⟨_, rfl⟩
  have hs8 : x8.size ≤ 9 := by rw [hx8, bs_size]; exact putNum_len 8 list.length (by omega)
  have HN1 := Lib.hid (fun w => rNumber_calls kind w (by omega) (by omega))
  rw [← hx1] at HN1
  have HN2 := Lib.hid (fun w => rNumber_calls view w (by omega) (by omega))
  rw [← hx2] at HN2
  have HN3 := Lib.hid (fun w => rNumber_calls seq w (by omega) (by omega))
  rw [← hx3] at HN3
  have HN4 := Lib.hid (fun w => rNumber_calls client w (by omega) (by omega))
  rw [← hx4] at HN4
  have HN5 := Lib.hid (fun w => rNumber_calls stamp w (by omega) (by omega))
  rw [← hx5] at HN5
  have HN8 := Lib.hid (fun w => rNumber_calls (list.length : Nat) w (by omega) (by omega))
  rw [Int.toNat_natCast, ← hx8] at HN8
  have HN6 := Lib.hid (fun w => rLaid_calls digest w (by omega))
  rw [← hx6] at HN6
  have HN7 := Lib.hid (fun w => rLaid_calls tx w (by omega))
  rw [← hx7] at HN7
  obtain ⟨l0, hl0⟩ : ∃ l0, l0 = putNum kind.toNat ++ (putNum view.toNat ++ (putNum seq.toNat ++ (putNum client.toNat ++ (putNum stamp.toNat ++ (putText digest ++ (putText tx ++ (putNum list.length))))))) := ⟨_, rfl⟩
  have hbs : x1 ++ x2 ++ x3 ++ x4 ++ x5 ++ x6 ++ x7 ++ x8 = bs l0 := by rw [hl0, hx1, hx2, hx3, hx4, hx5, hx6, hx7, hx8]; simp only [bs_append, ByteArray.append_assoc]
  have hpb : putBody ⟨kind, view, seq, client, stamp, digest, tx, list⟩ = l0 ++ list.flatMap putSg := by rw [HP.out, hl0]; simp only [List.append_assoc]
  have hl0b : l0.length ≤ 1048680 := by rw [← bs_size, ← hbs]; simp only [ByteArray.size_append]; omega
  have hq2 : ¬ 9223372036854775807 < x1.size + x2.size := by omega
  have hq3 : ¬ 9223372036854775807 < x1.size + x2.size + x3.size := by omega
  have hq4 : ¬ 9223372036854775807 < x1.size + x2.size + x3.size + x4.size := by omega
  have hq5 : ¬ 9223372036854775807 < x1.size + x2.size + x3.size + x4.size + x5.size := by omega
  have hq6 : ¬ 9223372036854775807 < x1.size + x2.size + x3.size + x4.size + x5.size + x6.size := by omega
  have hq7 : ¬ 9223372036854775807 < x1.size + x2.size + x3.size + x4.size + x5.size + x6.size + x7.size := by omega
  have hq8 : ¬ 9223372036854775807 < x1.size + x2.size + x3.size + x4.size + x5.size + x6.size + x7.size + x8.size := by omega
  have HBS := Lib.hid hbs
  have HPB := Lib.hid hpb
  clear hx1 hx2 hx3 hx4 hx5 hx6 hx7 hx8 hl0 hbs hpb HP
  go_enter Try.func52, Try.ntmps52
  go_wp2_with fail
  refine HR.out.mono ?_
  rintro e w1 ⟨rfl, hb⟩
  have HST := Lib.hid ((St.mk ((Below.refl w.heap.size w).alloc (Nat.le_refl _) _) (Box.new w #[.int .i64 kind, .int .i64 view, .int .i64 seq, .int .i64 client, .int .i64 stamp, .string digest, .string tx, .slice A list.length c] 59)).call (Nat.le_refl _) hb)
  clear hb
  go_wp2_with fail
  have hst := HST.out.drew
  clear HST
  go_region_held3 (fun w' => w'.cell? ⟨w.heap.size, 0, none⟩ = some (.int .i64 kind) ∧ w'.cell? ⟨w.heap.size, 1, none⟩ = some (.int .i64 view) ∧ w'.cell? ⟨w.heap.size, 2, none⟩ = some (.int .i64 seq) ∧ w'.cell? ⟨w.heap.size, 3, none⟩ = some (.int .i64 client) ∧ w'.cell? ⟨w.heap.size, 4, none⟩ = some (.int .i64 stamp) ∧ w'.cell? ⟨w.heap.size, 5, none⟩ = some (.string digest) ∧ w'.cell? ⟨w.heap.size, 6, none⟩ = some (.string tx) ∧ w'.cell? ⟨w.heap.size, 7, none⟩ = some (.slice A list.length c)) (exact boxS hst.x) (first | (go_at_call 101; (first | (with_reducible refine (HN1.out _).mono ?_) | (with_reducible refine (HN2.out _).mono ?_) | (with_reducible refine (HN3.out _).mono ?_) | (with_reducible refine (HN4.out _).mono ?_) | (with_reducible refine (HN5.out _).mono ?_) | (with_reducible refine (HN8.out _).mono ?_)); rintro e wn ⟨rfl, hc1⟩; have hst1 := hst.call (Nat.le_refl _) hc1; clear hc1 hst; have hst := hst1; clear hst1) | (go_at_call 114; (first | (with_reducible refine (HN6.out _).mono ?_) | (with_reducible refine (HN7.out _).mono ?_)); rintro e wn ⟨rfl, hc1⟩; have hst1 := hst.call (Nat.le_refl _) hc1; clear hc1 hst; have hst := hst1; clear hst1))
  have HST := Lib.hid hst
  clear hst
  rw [HBS.out]
  obtain ⟨v0, hv0⟩ : ∃ v, v = bs l0 := ⟨_, rfl⟩
  have hv0s : v0.size ≤ 1048680 := by rw [hv0, bs_size]; exact hl0b
  rw [← hv0]
  have HV0 := Lib.hid hv0
  clear hv0 hq2 hq3 hq4 hq5 hq6 hq7 hq8
  go_wp2_with fail
  have hcell := (boxS HST.out.x).2.2.2.2.2.2.2
  go_loopg [5, 6] list.length (fun g v5 v6 wr => ∃ (k : Nat) (v : ByteArray), v5 = .string v ∧ v6 = .int .i64 k ∧ k ≤ list.length ∧ v.size ≤ 1048680 ∧ Hid (g + k = list.length ∧ v = bs (l0 ++ (list.take k).flatMap putSg) ∧ St w.heap.size w w.heap.size #[.int .i64 kind, .int .i64 view, .int .i64 seq, .int .i64 client, .int .i64 stamp, .string digest, .string tx, .slice A list.length c] 59 wr))
  case atStart => exact ⟨0, v0, rfl, rfl, by omega, hv0s, rfl, by rw [HV0.out]; simp, HST.out⟩
  case round =>
    clear HST hcell
    obtain ⟨k, v, rfl, rfl, hk, hvs, HH⟩ := hrel
    obtain ⟨hg, hv, hst⟩ := HH.out
    have HG := Lib.hid hg
    have HV := Lib.hid hv
    have HST := Lib.hid hst
    obtain ⟨_, _, _, _, _, _, _, c7⟩ := boxS hst.x
    clear HH hg hv hst
    by_cases hlt : k < list.length
    · have hd3 : decide ((k : Int) < (list.length : Int)) = true := by simp; omega
      obtain ⟨a, rfl, e0, e1, e2⟩ := (HS.out.below HST.out.b).elem k hlt
      have hfi := (fitsB_iff _).1 (fitAll_get HFA.out hlt)
      have hstep : (list.take (k + 1)).flatMap putSg = (list.take k).flatMap putSg ++ putSg list[k] := by rw [List.take_succ_eq_append_getElem hlt, List.flatMap_append, List.flatMap_singleton]
      have htk := take_le hlt
      obtain ⟨m, hm⟩ : ∃ m, m = list[k] := ⟨_, rfl⟩
      rw [← hm] at e0 e1 e2 hfi hstep htk
      clear hm
      have HC := Lib.hid (fun w => rOne_calls m w (by omega) (by omega) (by omega) (by omega))
      obtain ⟨y, hy⟩ : ∃ y, y = bs (putSg m) := ⟨_, rfl⟩
      rw [← hy] at HC
      have hys : y.size ≤ 1048700 := by
        rw [hy, bs_size]
        unfold putSg
        have b1 := putNum_len 8 m.who.toNat (by omega)
        have b2 := putNum_len 8 m.body.size (by omega)
        have b3 := putNum_len 8 m.sig.size (by omega)
        simp only [List.length_append, putText_length]
        omega
      have hq : ¬ 9223372036854775807 < v.size + y.size := by omega
      have HNEW := Lib.hid (show v ++ y = bs (l0 ++ (list.take (k + 1)).flatMap putSg) by rw [HV.out, hy, hstep, ← bs_append, List.append_assoc])
      have hsum : v.size + y.size = l0.length + ((list.take k).flatMap putSg).length + (putSg m).length := by rw [HV.out, hy, bs_size, bs_size, List.length_append]
      have HSUM := Lib.hid hsum
      have HTK := Lib.hid htk
      clear hy hstep hsum htk hfi
      obtain ⟨who, body, sig⟩ := m
      unfold Sg.val at HC
      simp only at e0 e1 e2 HC
      by_cases hbig : 1048576 < v.size + y.size
      · have hd4 : decide ((1048576 : Int) < (v.size : Int) + (y.size : Int)) = true := by simp; omega
        have hge := HE.out
        rw [if_pos (by rw [HPB.out, List.length_append]; have := HSUM.out; have := HTK.out; omega)] at hge
        have HGE := Lib.hid hge
        clear hge
        go_wp2_with fail
        refine (HC.out _).mono ?_
        rintro e w3 ⟨rfl, hb⟩
        have HB3 := Lib.hid (HST.out.b.trans (hb.mono HST.out.b.size))
        clear hb
        go_wp2_with fail
        go_ret2
        rw [HGE.out]
        exact ⟨rfl, HB3.out⟩
      · have hd4 : decide ((1048576 : Int) < (v.size : Int) + (y.size : Int)) = false := by simp; omega
        go_wp2_with fail
        refine (HC.out _).mono ?_
        rintro e w3 ⟨rfl, hb⟩
        have HST3 := Lib.hid (HST.out.call (Nat.le_refl _) hb)
        clear hb
        go_wp2_with fail
        go_roundg (gk - 1)
        case measure => have := HG.out; omega
        case rel => exact ⟨k + 1, v ++ y, rfl, by go_num, by omega, by rw [ByteArray.size_append]; omega, by have := HG.out; omega, HNEW.out, HST3.out⟩
    · have hd3 : decide ((k : Int) < (list.length : Int)) = false := by simp; omega
      have HE3 := Lib.hid (show v = bs (putBody ⟨kind, view, seq, client, stamp, digest, tx, list⟩) by rw [HV.out, HPB.out, List.take_of_length_le (by omega)])
      have hsz : v.size = (putBody ⟨kind, view, seq, client, stamp, digest, tx, list⟩).length := by rw [HE3.out, bs_size]
      by_cases hbig : 1048576 < v.size
      · have hd4 : decide ((1048576 : Int) < (v.size : Int)) = true := by simp; omega
        have hge := HE.out
        rw [if_pos (by rw [← hsz]; exact hbig)] at hge
        have HGE := Lib.hid hge
        clear hge hsz
        go_wp2_with fail
        go_ret2
        rw [HGE.out]
        exact ⟨rfl, HST.out.b⟩
      · have hd4 : decide ((1048576 : Int) < (v.size : Int)) = false := by simp; omega
        have hge := HE.out
        rw [if_neg (by rw [← hsz]; exact hbig), ← HE3.out] at hge
        have HGE := Lib.hid hge
        clear hge hsz
        go_wp2_with fail
        go_ret2
        rw [HGE.out]
        exact ⟨rfl, HST.out.b⟩

theorem rbytes_calls (b : Bd) (A : Option Addr) (c : Nat) (w : World) (hs : SgS w A c b.list) : Calls Try.prog 52 #[b.val A c] w (StrErr (bytesE b).1 (bytesE b).2 w) := by
  by_cases h : rightE b = 0
  · exact rbytes_yes b A c w hs h
  · exact rbytes_no b A c w hs h
end Go.Proofs.Ytfgpchffkpomoaa

/- What is read is what was written, and the other way round: numbers, texts and messages. In plain words, with no program in sight. -/
namespace Go.Proofs.Ytfgpchffkpomoaa
set_option linter.unusedSimpArgs false
set_option linter.unusedVariables false

/-- The bytes m stand in s from place q on. -/
def At (s : ByteArray) (q : Nat) (m : List UInt8) : Prop := q + m.length ≤ s.size ∧ ∀ i (h : i < m.length), byteAt s (q + i) = m[i].toNat

theorem at_nil {s : ByteArray} {q : Nat} (h : q ≤ s.size) : At s q [] := ⟨by simpa using h, fun i hi => by simp at hi⟩
theorem at_append {s : ByteArray} {q : Nat} {a b : List UInt8} : At s q (a ++ b) ↔ At s q a ∧ At s (q + a.length) b := by
  constructor
  · rintro ⟨h1, h2⟩
    simp only [List.length_append] at h1 h2
    refine ⟨⟨by omega, fun i hi => ?_⟩, ⟨by omega, fun i hi => ?_⟩⟩
    · have := h2 i (by omega)
      rwa [List.getElem_append_left hi] at this
    · have := h2 (a.length + i) (by omega)
      rw [List.getElem_append_right (by omega)] at this
      simp only [Nat.add_sub_cancel_left] at this
      rwa [Nat.add_assoc]
  · rintro ⟨⟨h1, h2⟩, ⟨h3, h4⟩⟩
    refine ⟨by simp only [List.length_append]; omega, fun i hi => ?_⟩
    simp only [List.length_append] at hi
    by_cases h : i < a.length
    · rw [List.getElem_append_left h]; exact h2 i h
    · rw [List.getElem_append_right (by omega)]
      have := h4 (i - a.length) (by omega)
      rwa [show q + a.length + (i - a.length) = q + i by omega] at this
theorem at_one {s : ByteArray} {q : Nat} {x : UInt8} : At s q [x] ↔ q < s.size ∧ byteAt s q = x.toNat := by
  constructor
  · rintro ⟨h1, h2⟩
    exact ⟨by simp only [List.length_singleton] at h1; omega, by simpa using h2 0 (by simp)⟩
  · rintro ⟨h1, h2⟩
    refine ⟨by simp only [List.length_singleton]; omega, fun i hi => ?_⟩
    have : i = 0 := by simpa using hi
    subst this
    simpa using h2
theorem at_cons {s : ByteArray} {q : Nat} {x : UInt8} {m : List UInt8} : At s q (x :: m) ↔ (q < s.size ∧ byteAt s q = x.toNat) ∧ At s (q + 1) m := by
  rw [show x :: m = [x] ++ m from rfl, at_append, at_one]; rfl
theorem byteAt_bs (l : List UInt8) (i : Nat) (h : i < l.length) : byteAt (bs l) i = l[i].toNat := by
  rw [← byteAt_eq (bs l) i (by rw [bs_size]; exact h)]
  rfl
theorem byteAt_append (s t : ByteArray) (i : Nat) (h : i < s.size) : byteAt (s ++ t) i = byteAt s i := by
  rw [← byteAt_eq s i h, ← byteAt_eq (s ++ t) i (by rw [ByteArray.size_append]; omega), ByteArray.getElem_append_left h]
theorem at_more {s t : ByteArray} {q : Nat} {m : List UInt8} (h : At s q m) : At (s ++ t) q m :=
  ⟨by rw [ByteArray.size_append]; have := h.1; omega, fun i hi => by rw [byteAt_append _ _ _ (by have := h.1; omega)]; exact h.2 i hi⟩
theorem at_self (l : List UInt8) : At (bs l) 0 l := ⟨by rw [bs_size]; omega, fun i hi => by rw [Nat.zero_add]; exact byteAt_bs l i hi⟩
theorem eq_bs {s : ByteArray} {l : List UInt8} (h : At s 0 l) (hl : l.length = s.size) : s = bs l := by
  refine ByteArray.ext_getElem (by rw [bs_size, hl]) (fun i hi hi' => ?_)
  rw [← UInt8.toNat_inj, byteAt_eq, byteAt_eq]
  have := h.2 i (by omega)
  rw [Nat.zero_add] at this
  rw [this, byteAt_bs]
theorem at_extract {s : ByteArray} {q n : Nat} (h : q + n ≤ s.size) : At s q (s.extract q (q + n)).data.toList := by
  have hs : (s.extract q (q + n)).size = n := by rw [ByteArray.size_extract]; omega
  refine ⟨by simp only [Array.length_toList, ByteArray.size_data, hs]; exact h, fun i hi => ?_⟩
  have hi' : i < (s.extract q (q + n)).size := by simp only [Array.length_toList, ByteArray.size_data] at hi; exact hi
  have e : (s.extract q (q + n)).data.toList[i] = (s.extract q (q + n))[i] := by simp [ByteArray.getElem_eq_getElem_data]
  rw [e, ByteArray.getElem_extract hi', byteAt_eq]
theorem extract_of_at {s t : ByteArray} {q : Nat} (h : At s q t.data.toList) : s.extract q (q + t.size) = t := by
  have h1 : q + t.size ≤ s.size := by simpa using h.1
  refine ByteArray.ext_getElem (by rw [ByteArray.size_extract]; omega) (fun i hi hi' => ?_)
  rw [ByteArray.getElem_extract hi, ← UInt8.toNat_inj, byteAt_eq]
  have := h.2 i (by simpa using hi')
  rw [this]
  simp [ByteArray.getElem_eq_getElem_data]

/-! Numbers. -/
theorem rdNum_put (s : ByteArray) : ∀ (k n q i acc : Nat), k + i = 8 → n < 128 ^ k → (0 < i → 0 < n) → acc + n * 2 ^ (7 * i) ≤ 9007199254740992 → At s q (putNum n) → rdNum s k q i acc = .ok (acc + n * 2 ^ (7 * i), q + (putNum n).length)
  | 0, n, q, i, acc, hk, hn, h0, _, _ => by
    simp at hn
    have := h0 (by omega)
    omega
  | k + 1, n, q, i, acc, hk, hn, h0, hb, h => by
    by_cases hs : n < 128
    · rw [putNum_small hs] at h ⊢
      obtain ⟨hq, hv⟩ := at_one.1 h
      have hv : byteAt s q = n := by rw [hv, UInt8.toNat_ofNat']; omega
      unfold rdNum
      rw [if_neg (by omega), hv, if_neg (by omega), if_neg (by omega), Nat.mod_eq_of_lt hs, if_neg (by omega)]
      rfl
    · rw [putNum_large hs] at h ⊢
      obtain ⟨⟨hq, hv⟩, h2⟩ := at_cons.1 h
      have hv : byteAt s q = 128 + n % 128 := by rw [hv, UInt8.toNat_ofNat']; omega
      have hk0 : k ≠ 0 := by rintro rfl; simp at hn; omega
      have hp : 2 ^ (7 * (i + 1)) = 128 * 2 ^ (7 * i) := by rw [show 7 * (i + 1) = 7 + 7 * i by omega, Nat.pow_add]
      have e : acc + n % 128 * 2 ^ (7 * i) + n / 128 * 2 ^ (7 * (i + 1)) = acc + n * 2 ^ (7 * i) := by
        rw [hp, ← Nat.mul_assoc, Nat.add_assoc, ← Nat.add_mul]
        congr 2
        omega
      unfold rdNum
      rw [if_neg (by omega), hv, if_pos (by omega), if_neg (by omega), show (128 + n % 128) % 128 = n % 128 by omega]
      rw [rdNum_put s k (n / 128) (q + 1) (i + 1) _ (by omega) (Nat.div_lt_of_lt_mul (by rw [Nat.pow_succ] at hn; omega)) (fun _ => by omega) (by rw [e]; exact hb) h2, e]
      simp only [List.length_cons]
      congr 2
      omega
theorem num_put {s : ByteArray} {q n : Nat} (hn : n ≤ 9007199254740992) (h : At s q (putNum n)) : num s q = .ok (n, q + (putNum n).length) := by
  have := rdNum_put s 8 n q 0 0 rfl (by omega) (fun h => by omega) (by omega) h
  simpa [num] using this
theorem rdNum_get (s : ByteArray) : ∀ (k q i acc m p : Nat), rdNum s k q i acc = .ok (m, p) → ∃ n, m = acc + n * 2 ^ (7 * i) ∧ (0 < i → 0 < n) ∧ At s q (putNum n) ∧ p = q + (putNum n).length
  | 0, _, _, _, _, _, h => by simp [rdNum] at h
  | k + 1, q, i, acc, m, p, h => by
    unfold rdNum at h
    by_cases hq : s.size ≤ q
    · rw [if_pos hq] at h; cases h
    rw [if_neg hq] at h
    have hc := byteAt_lt s q
    by_cases h1 : 128 ≤ byteAt s q
    · rw [if_pos h1] at h
      by_cases h7 : i = 7
      · rw [if_pos h7] at h; cases h
      rw [if_neg h7] at h
      obtain ⟨n, hm, hpos, hat, hp⟩ := rdNum_get s k _ _ _ _ _ h
      have hn := hpos (by omega)
      have hl : ¬ n * 128 + byteAt s q % 128 < 128 := by omega
      have hp2 : 2 ^ (7 * (i + 1)) = 128 * 2 ^ (7 * i) := by rw [show 7 * (i + 1) = 7 + 7 * i by omega, Nat.pow_add]
      refine ⟨n * 128 + byteAt s q % 128, ?_, fun _ => by omega, ?_, ?_⟩
      · rw [hm, hp2, ← Nat.mul_assoc, Nat.add_assoc, ← Nat.add_mul, Nat.add_comm (n * 128)]
      · rw [putNum_large hl, show (n * 128 + byteAt s q % 128) / 128 = n by omega, show (n * 128 + byteAt s q % 128) % 128 = byteAt s q % 128 by omega]
        exact at_cons.2 ⟨⟨by omega, by rw [UInt8.toNat_ofNat']; omega⟩, hat⟩
      · rw [putNum_large hl, show (n * 128 + byteAt s q % 128) / 128 = n by omega, List.length_cons]
        omega
    · rw [if_neg h1] at h
      by_cases h0 : byteAt s q = 0 ∧ 0 < i
      · rw [if_pos h0] at h; cases h
      rw [if_neg h0] at h
      split at h
      · cases h
      · simp only [Except.ok.injEq, Prod.mk.injEq] at h
        obtain ⟨rfl, rfl⟩ := h
        refine ⟨byteAt s q, by rw [Nat.mod_eq_of_lt (by omega)], fun _ => by omega, ?_, ?_⟩
        · rw [putNum_small (by omega)]
          exact at_one.2 ⟨by omega, by rw [UInt8.toNat_ofNat']; omega⟩
        · rw [putNum_small (by omega)]; rfl
theorem num_get {s : ByteArray} {q n p : Nat} (h : num s q = .ok (n, p)) : At s q (putNum n) ∧ p = q + (putNum n).length := by
  obtain ⟨m, hm, _, h1, h2⟩ := rdNum_get s 8 q 0 0 n p h
  have : n = m := by simpa using hm
  subst this
  exact ⟨h1, h2⟩

/-! Texts. -/
theorem text_put {s t : ByteArray} {q : Nat} (ht : t.size ≤ 1048576) (h : At s q (putText t)) : text s q = .ok (t, q + (putText t).length) := by
  unfold putText at h ⊢
  obtain ⟨h1, h2⟩ := at_append.1 h
  unfold text
  rw [num_put (by omega) h1]
  simp only
  rw [if_neg (by omega)]
  unfold take_
  have h3 : q + (putNum t.size).length + t.size ≤ s.size := by simpa using h2.1
  rw [if_neg (by omega), extract_of_at h2]
  simp [Nat.add_assoc]
theorem text_get {s t : ByteArray} {q p : Nat} (h : text s q = .ok (t, p)) : At s q (putText t) ∧ p = q + (putText t).length := by
  unfold text at h
  cases hx : num s q with
  | error e => rw [hx] at h; cases h
  | ok r =>
    obtain ⟨n, p1⟩ := r
    obtain ⟨h1, h2⟩ := num_get hx
    obtain ⟨_, hb, _⟩ := num_bd hx
    rw [hx] at h
    simp only at h
    split at h
    · cases h
    · unfold take_ at h
      split at h
      · cases h
      · simp only [Except.ok.injEq, Prod.mk.injEq] at h
        obtain ⟨rfl, rfl⟩ := h
        have hs : (s.extract p1 (p1 + n)).size = n := by rw [ByteArray.size_extract]; omega
        unfold putText
        rw [hs]
        refine ⟨at_append.2 ⟨h1, ?_⟩, ?_⟩
        · rw [← h2]; exact at_extract (by omega)
        · simp [hs, h2]; omega

/-! Messages. -/
theorem signed_put {s : ByteArray} {m : Sg} {q : Nat} (h0 : 0 ≤ m.who) (h1 : m.who ≤ 9007199254740992) (hb : m.body.size ≤ 1048576) (hg : m.sig.size ≤ 1048576) (h : At s q (putSg m)) : signed s q = .ok (m, q + (putSg m).length) := by
  obtain ⟨who, body, sig⟩ := m
  simp only at h0 h1 hb hg
  unfold putSg at h ⊢
  simp only at h ⊢
  obtain ⟨a1, h⟩ := at_append.1 h
  obtain ⟨a2, a3⟩ := at_append.1 h
  unfold signed
  rw [num_put (by omega) a1]
  simp only
  rw [text_put hb a2]
  simp only
  rw [text_put hg a3]
  simp only [List.length_append, Except.ok.injEq, Prod.mk.injEq, Sg.mk.injEq, and_true, true_and]
  exact ⟨by omega, by omega⟩
theorem signed_get {s : ByteArray} {m : Sg} {q p : Nat} (h : signed s q = .ok (m, p)) : At s q (putSg m) ∧ p = q + (putSg m).length := by
  unfold signed at h
  cases hx : num s q with
  | error e => rw [hx] at h; cases h
  | ok r =>
    obtain ⟨n, p1⟩ := r
    obtain ⟨a1, b1⟩ := num_get hx
    rw [hx] at h
    simp only at h
    cases hy : text s p1 with
    | error e => rw [hy] at h; cases h
    | ok r =>
      obtain ⟨t, p2⟩ := r
      obtain ⟨a2, b2⟩ := text_get hy
      rw [hy] at h
      simp only at h
      cases hz : text s p2 with
      | error e => rw [hz] at h; cases h
      | ok r =>
        obtain ⟨g, p3⟩ := r
        obtain ⟨a3, b3⟩ := text_get hz
        rw [hz] at h
        simp only [Except.ok.injEq, Prod.mk.injEq] at h
        obtain ⟨rfl, rfl⟩ := h
        unfold putSg
        simp only [Int.toNat_natCast, List.length_append]
        exact ⟨at_append.2 ⟨a1, by rw [← b1]; exact at_append.2 ⟨a2, by rw [← b2]; exact a3⟩⟩, by omega⟩
theorem many_put {s : ByteArray} : ∀ (l : List Sg) (q : Nat) (acc : List Sg), fitAllB l = true → At s q (l.flatMap putSg) → many s l.length q acc = .ok (acc ++ l, q + (l.flatMap putSg).length)
  | [], q, acc, _, _ => by simp [many]
  | m :: l, q, acc, hf, h => by
    simp only [List.flatMap_cons] at h ⊢
    obtain ⟨a1, a2⟩ := at_append.1 h
    unfold fitAllB at hf
    simp only [List.all_cons, Bool.and_eq_true] at hf
    obtain ⟨f1, f2, f3, f4⟩ := (fitsB_iff m).1 hf.1
    rw [List.length_cons, many_ok (signed_put f1 (by omega) (by omega) (by omega) a1), many_put l _ _ hf.2 a2]
    simp [Nat.add_assoc]
theorem many_get {s : ByteArray} : ∀ (n q : Nat) (acc : List Sg) (r : List Sg) (p : Nat), many s n q acc = .ok (r, p) → q ≤ s.size → ∃ l, r = acc ++ l ∧ l.length = n ∧ At s q (l.flatMap putSg) ∧ p = q + (l.flatMap putSg).length
  | 0, q, acc, r, p, h, hq => by
    simp only [many, Except.ok.injEq, Prod.mk.injEq] at h
    obtain ⟨rfl, rfl⟩ := h
    exact ⟨[], by simp, rfl, at_nil hq, by simp⟩
  | n + 1, q, acc, r, p, h, hq => by
    cases hz : signed s q with
    | error e => rw [many_no hz] at h; cases h
    | ok x =>
      obtain ⟨m, p1⟩ := x
      obtain ⟨a1, b1⟩ := signed_get hz
      rw [many_ok hz] at h
      obtain ⟨l, h1, h2, h3, h4⟩ := many_get n p1 _ r p h (signed_bd hz).2
      refine ⟨m :: l, by rw [h1]; simp, by simp [h2], ?_, ?_⟩
      · simp only [List.flatMap_cons]
        exact at_append.2 ⟨a1, by rw [← b1]; exact h3⟩
      · simp only [List.flatMap_cons, List.length_append]
        omega
theorem manyAt_put {s : ByteArray} {l : List Sg} {q most : Nat} (hl : l.length ≤ most) (hm : most ≤ 1000) (hf : fitAllB l = true) (h : At s q (putNum l.length ++ l.flatMap putSg)) : manyAt s most q = .ok (l, q + (putNum l.length ++ l.flatMap putSg).length) := by
  obtain ⟨a1, a2⟩ := at_append.1 h
  unfold manyAt count
  rw [num_put (by omega) a1]
  simp only
  rw [if_neg (by omega)]
  simp only
  rw [many_put l _ [] hf a2]
  simp [Nat.add_assoc]
theorem manyAt_get {s : ByteArray} {l : List Sg} {q most p : Nat} (h : manyAt s most q = .ok (l, p)) : At s q (putNum l.length ++ l.flatMap putSg) ∧ p = q + (putNum l.length ++ l.flatMap putSg).length := by
  unfold manyAt count at h
  cases hx : num s q with
  | error e => rw [hx] at h; cases h
  | ok r =>
    obtain ⟨n, p1⟩ := r
    obtain ⟨a1, b1⟩ := num_get hx
    obtain ⟨_, hb, _⟩ := num_bd hx
    rw [hx] at h
    simp only at h
    by_cases hm : most < n
    · simp only [if_pos hm] at h; cases h
    · simp only [if_neg hm] at h
      obtain ⟨l', h1, h2, h3, h4⟩ := many_get n p1 [] l p h hb
      obtain rfl : l = l' := by simpa using h1
      rw [h2]
      exact ⟨at_append.2 ⟨a1, by rw [← b1]; exact h3⟩, by rw [List.length_append]; omega⟩
end Go.Proofs.Ytfgpchffkpomoaa
