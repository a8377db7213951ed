/- Records are laid: the walks through PutRecords and the document's Records. -/
import Derived.Test.YtehbpjkeflcanaaRec
import Derived.Test.YtehbpjkeflcanaaBytes
namespace Go.Proofs.Ytehbpjkeflcanaa
set_option linter.unusedSimpArgs false
set_option linter.unusedVariables false
open Go.RowKit

def putRc (m : Rc) : List UInt8 := putText m.key ++ putText m.val
def putRecs (l : List Rc) : List UInt8 := putNum l.length ++ l.flatMap putRc
def recsE (l : List Rc) : ByteArray × Int := if riseE l = 0 then (if 1048576 < (putRecs l).length then (⟨#[]⟩, 4) else (bs (putRecs l), 0)) else (⟨#[]⟩, riseE l)
theorem riseN_all {l : List Rc} : ∀ {n : Nat}, riseN l n = 0 → ∀ k, k < n → codeAt l k = 0
  | 0, _, k, hk => by omega
  | n + 1, h, k, hk => by
    unfold riseN at h
    by_cases h0 : riseN l n = 0
    · rw [if_pos h0] at h
      by_cases e : k = n
      · subst e; exact h
      · exact riseN_all h0 k (by omega)
    · rw [if_neg h0] at h; exact absurd h h0
theorem rise_ok {l : List Rc} (h : riseE l = 0) : l.length ≤ 4096 ∧ ∀ k (hk : k < l.length), l[k].key.size ≤ 64 ∧ l[k].val.size ≤ 4096 ∧ 0 < l[k].key.size := by
  unfold riseE at h
  by_cases h4 : 4096 < l.length
  · rw [if_pos h4] at h; omega
  · rw [if_neg h4] at h
    refine ⟨by omega, fun k hk => ?_⟩
    have hc := riseN_all h k hk
    unfold codeAt at hc
    rw [dif_pos hk] at hc
    by_cases hb : rcBad l[k] = true
    · rw [if_pos hb] at hc; omega
    · simp only [rcBad, Bool.or_eq_true, decide_eq_true_eq] at hb
      omega
theorem RcS.get {w : World} {a : Addr} {c : Nat} {l : List Rc} (h : RcS w (some a) c l) (k : Nat) (hk : k < l.length) : w.cell? (a.add (k * 2)) = some (.string l[k].key) ∧ w.cell? ⟨(a.add (k * 2)).block, (a.add (k * 2)).off + 1, none⟩ = some (.string l[k].val) := by
  obtain ⟨b, hb, h0, h1⟩ := h.elem k hk
  obtain rfl : a = b := by simpa using hb
  exact ⟨h0, h1⟩
theorem putRc_len {m : Rc} (h1 : m.key.size ≤ 64) (h2 : m.val.size ≤ 4096) : (putRc m).length ≤ 4178 := by
  have b1 := putNum_len 8 m.key.size (by omega)
  have b2 := putNum_len 8 m.val.size (by omega)
  unfold putRc
  simp only [List.length_append, putText_length]
  omega
theorem take_rec {l : List Rc} {k : Nat} (hk : k < l.length) : (l.take (k + 1)).flatMap putRc = (l.take k).flatMap putRc ++ (putText l[k].key ++ putText l[k].val) := by
  rw [List.take_succ_eq_append_getElem hk, List.flatMap_append, List.flatMap_singleton]; rfl
theorem take_le_rec {l : List Rc} (k : Nat) : ((l.take k).flatMap putRc).length ≤ (l.flatMap putRc).length := by
  have e := congrArg (fun l => (l.flatMap putRc).length) (List.take_append_drop k l)
  simp only [List.flatMap_append, List.length_append] at e
  omega

set_option maxHeartbeats 1000000 in
set_option maxRecDepth 100000 in
theorem rrecs_calls (A : Option Addr) (c : Nat) (l : List Rc) (w : World) (hs : RcS w A c l) : Calls Try.prog 49 #[.slice A l.length c] w (StrErr (recsE l).1 (recsE l).2 w) := by
  have hfit := hs.fits
  have HS := Lib.hid hs
  have HR := Lib.hid (rrise_calls A c l w hs)
  clear hs
  by_cases hr : riseE l = 0
  · have hok := rise_ok hr
    have HE := Lib.hid (show recsE l = (if 1048576 < (putRecs l).length then (⟨#[]⟩, 4) else (bs (putRecs l), 0)) by unfold recsE; rw [if_pos hr])
    rw [hr] at HR
    have HOK := Lib.hid hok.2
    have hl4 := hok.1
    clear hok hr
    have HN := Lib.hid (fun w => rNumber_calls (l.length : Nat) w (by omega) (by omega))
    rw [Int.toNat_natCast] at HN
    obtain ⟨v0, hv0⟩ : ∃ v, v = bs (putNum l.length) := ⟨_, rfl⟩
    have hv0s : v0.size ≤ 9 := by rw [hv0, bs_size]; exact putNum_len 8 l.length (by omega)
    have HVD := Lib.hid (show v0.data.toList = putNum l.length by rw [hv0]; simp [bs])
    rw [← hv0] at HN
    clear hv0
    go_enter Try.func49, Try.ntmps49
    go_wp2_with fail
    refine HR.out.mono ?_
    rintro e w1 ⟨rfl, hb1⟩
    have HB1 := Lib.hid hb1
    clear hb1
    go_wp2_with fail
    refine (HN.out _).mono ?_
    rintro e w2 ⟨rfl, hb2⟩
    have HB2 := Lib.hid (HB1.out.trans (hb2.mono HB1.out.size))
    clear hb2
    go_wp2_with (first | (at_builtin; refine app_str rfl (.tmp 12) (.tmp 15) rfl w.heap.size none 0 [] rfl ⟨rfl, .inl ⟨rfl, rfl⟩⟩ v0 rfl ?hl ?hb ?_; (case hl => simp; omega); (case hb => exact HB2.out.size); intro A' cap' w3 ho hc hA; have HO3 := Lib.hid ho; have HB3 := Lib.hid (below_app0 HB2.out HB2.out.size hc (fun k hk => by cases hk)); clear ho hc hA))
    go_loopg [5, 6] l.length (fun g v5 v6 wr => ∃ (k : Nat) (A1 : Option Addr) (cap1 : Nat) (p : List UInt8), v5 = .slice A1 p.length cap1 ∧ v6 = .int .i64 k ∧ k ≤ l.length ∧ p.length ≤ 1048576 ∧ Hid (g + k = l.length ∧ p = putNum l.length ++ (l.take k).flatMap putRc ∧ OwnB wr w.heap.size A1 cap1 p ∧ Below w.heap.size w wr))
    case atStart => exact ⟨0, A', cap', [] ++ v0.data.toList, rfl, rfl, by omega, by simp; omega, rfl, by rw [HVD.out]; simp, HO3.out, HB3.out⟩
    case round =>
      clear HB1 HB2 HB3 HO3
      obtain ⟨k, A1, cap1, p, rfl, rfl, hk, hpl, HH⟩ := hrel
      obtain ⟨hg, hp, ho, hb⟩ := HH.out
      have HGK := Lib.hid hg
      have HP := Lib.hid hp
      have HO := Lib.hid ho
      have HB := Lib.hid hb
      clear HH hg hp ho hb
      by_cases hlt : k < l.length
      · have hd2 : decide ((k : Int) < (l.length : Int)) = true := by simp; omega
        obtain ⟨a, rfl, hq⟩ := (HS.out.below HB.out).elem k hlt
        clear hq
        obtain ⟨e0, e1⟩ := (HS.out.below HB.out).get k hlt
        have hsz := HOK.out k hlt
        have hst := take_rec hlt
        obtain ⟨m, hm⟩ : ∃ m, m = l[k] := ⟨_, rfl⟩
        rw [← hm] at e0 e1 hsz hst
        have HM := Lib.hid hm
        clear hm
        obtain ⟨key, val⟩ := m
        simp only at e0 e1 hsz hst
        have HL1 := Lib.hid (fun w => rLaid_calls key w (by omega))
        have HL2 := Lib.hid (fun w => rLaid_calls val w (by omega))
        obtain ⟨y, hy⟩ : ∃ y, y = bs (putText key) := ⟨_, rfl⟩
        obtain ⟨z, hz⟩ : ∃ z, z = bs (putText val) := ⟨_, rfl⟩
        rw [← hy] at HL1
        rw [← hz] at HL2
        have hys : y.size ≤ 73 := by rw [hy, bs_size, putText_length]; have := putNum_len 8 key.size (by omega); omega
        have hzs : z.size ≤ 4105 := by rw [hz, bs_size, putText_length]; have := putNum_len 8 val.size (by omega); omega
        have HNEW := Lib.hid (show p ++ y.data.toList ++ z.data.toList = putNum l.length ++ (l.take (k + 1)).flatMap putRc by rw [hst, HP.out, hy, hz]; simp [bs])
        clear hy hz hst hsz
        go_wp2_with fail
        refine (HL1.out _).mono ?_
        rintro e w4 ⟨rfl, hb4⟩
        have HB4 := Lib.hid (HB.out.trans (hb4.mono HB.out.size))
        have HO4 := Lib.hid (own_ch HO.out (Ch.of_below (S := fun _ => False) hb4) (fun k hk => ⟨(own_row HO.out hk).2, fun h => h⟩))
        clear hb4 e0 e1
        go_wp2_with (first | (at_builtin; refine app_str rfl (.tmp 23) (.tmp 29) rfl w.heap.size A1 cap1 p rfl HO4.out y rfl ?hl ?hb ?_; (case hl => omega); (case hb => exact HB4.out.size); intro A5 cap5 w9 ho hc hA; obtain ⟨p2, hp2⟩ : ∃ x, x = p ++ y.data.toList := ⟨_, rfl⟩; rw [← hp2] at ho ⊢; have hp2l : p2.length ≤ 1060000 := (by rw [hp2]; simp; omega); have HP2L := Lib.hid (show p2.length = p.length + y.size by rw [hp2]; simp); have HP2 := Lib.hid hp2; clear hp2; have HO5 := Lib.hid ho; have HB5 := Lib.hid (below_app0 HB4.out HB4.out.size hc (fun k hk => (own_row HO4.out hk).1)); clear ho hc hA; obtain ⟨e0, e1⟩ := (HS.out.below HB5.out).get k hlt; rw [← HM.out] at e0 e1; simp only at e0 e1))
        refine (HL2.out _).mono ?_
        rintro e w6 ⟨rfl, hb6⟩
        have HB6 := Lib.hid (HB5.out.trans (hb6.mono HB5.out.size))
        have HO6 := Lib.hid (own_ch HO5.out (Ch.of_below (S := fun _ => False) hb6) (fun k hk => ⟨(own_row HO5.out hk).2, fun h => h⟩))
        clear hb6 e0 e1
        have HSUM := Lib.hid (show p.length + y.size + z.size = (putNum l.length).length + ((l.take (k + 1)).flatMap putRc).length by have h1 := congrArg List.length HNEW.out; simpa [Nat.add_assoc] using h1)
        by_cases hbig : 1048576 < p.length + y.size + z.size
        · have hge := HE.out
          rw [if_pos (by unfold putRecs; have h1 := HSUM.out; have h2 := take_le_rec (l := l) (k + 1); simp only [List.length_append]; omega)] at hge
          have HGE := Lib.hid hge
          clear hge
          go_wp2_with (first | (at_builtin; refine app_str rfl (.tmp 31) (.tmp 37) rfl w.heap.size A5 cap5 p2 rfl HO6.out z rfl ?hl ?hb ?_; (case hl => omega); (case hb => exact HB6.out.size); intro A7 cap7 w9 ho hc hA; obtain ⟨p3, hp3⟩ : ∃ x, x = p2 ++ z.data.toList := ⟨_, rfl⟩; rw [← hp3] at ho ⊢; have hp3l : p3.length ≤ 1060000 := (by have q0 := HP2L.out; rw [hp3]; simp; omega); have HP3L := Lib.hid (show p3.length = p2.length + z.size by rw [hp3]; simp); have HP3 := Lib.hid hp3; clear hp3; have HO7 := Lib.hid ho; have HB7 := Lib.hid (below_app0 HB6.out HB6.out.size hc (fun k hk => (own_row HO6.out hk).1)); clear ho hc hA; have hd4 : decide ((1048576 : Int) < (p3.length : Int)) = true := (by have q1 := HP2L.out; have q2 := HP3L.out; simp; omega)))
          go_ret2
          rw [HGE.out]
          exact ⟨rfl, HB7.out⟩
        · go_wp2_with (first | (at_builtin; refine app_str rfl (.tmp 31) (.tmp 37) rfl w.heap.size A5 cap5 p2 rfl HO6.out z rfl ?hl ?hb ?_; (case hl => omega); (case hb => exact HB6.out.size); intro A7 cap7 w9 ho hc hA; obtain ⟨p3, hp3⟩ : ∃ x, x = p2 ++ z.data.toList := ⟨_, rfl⟩; rw [← hp3] at ho ⊢; have hp3l : p3.length ≤ 1060000 := (by have q0 := HP2L.out; rw [hp3]; simp; omega); have HP3L := Lib.hid (show p3.length = p2.length + z.size by rw [hp3]; simp); have HP3 := Lib.hid hp3; clear hp3; have HO7 := Lib.hid ho; have HB7 := Lib.hid (below_app0 HB6.out HB6.out.size hc (fun k hk => (own_row HO6.out hk).1)); clear ho hc hA; have hd4 : decide ((1048576 : Int) < (p3.length : Int)) = false := (by have q1 := HP2L.out; have q2 := HP3L.out; simp; omega)))
          go_roundg (gk - 1)
          case measure => have := HGK.out; omega
          case rel => exact ⟨k + 1, A7, cap7, p3, rfl, by go_num, by omega, by have q1 := HP2L.out; have q2 := HP3L.out; omega, by have := HGK.out; omega, by rw [HP3.out, HP2.out, HNEW.out], HO7.out, HB7.out⟩
      · have hd2 : decide ((k : Int) < (l.length : Int)) = false := by simp; omega
        have hst := own_to_string HO.out
        have HPP := Lib.hid (show p = putRecs l by rw [HP.out, List.take_of_length_le (by omega)]; rfl)
        have hge := HE.out
        rw [← HPP.out, if_neg (by omega)] at hge
        have HGE := Lib.hid hge
        clear hge
        go_wp2
        go_ret2
        rw [HGE.out]
        exact ⟨rfl, HB.out⟩
  · obtain ⟨n, hn⟩ : ∃ n, n = riseE l := ⟨_, rfl⟩
    have HE := Lib.hid (show recsE l = (⟨#[]⟩, n) by unfold recsE; rw [if_neg hr, hn])
    have hd : (n == 0) = false := by rw [hn]; simpa using hr
    rw [← hn] at HR
    clear hr hn
    go_enter Try.func49, Try.ntmps49
    go_wp2_with fail
    refine HR.out.mono ?_
    rintro e w1 ⟨rfl, hb1⟩
    go_wp2
    go_ret2
    rw [HE.out]
    exact ⟨rfl, hb1⟩
end Go.Proofs.Ytehbpjkeflcanaa
