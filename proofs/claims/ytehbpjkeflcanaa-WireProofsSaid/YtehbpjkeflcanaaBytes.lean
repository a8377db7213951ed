/- A body is laid: the walk through Bytes. -/
import Derived.Test.YtehbpjkeflcanaaRight
import Derived.Test.YtehbpjkeflcanaaPut
namespace Go.Proofs.Ytehbpjkeflcanaa
set_option linter.unusedSimpArgs false
set_option linter.unusedVariables false
open Go.RowKit

def putBody (b : Bd) : List UInt8 :=
  putNum b.kind.toNat ++ (putNum b.view.toNat ++ (putNum b.seq.toNat ++ (putNum b.client.toNat ++ (putNum b.stamp.toNat ++ (putText b.digest ++ (putText b.text ++ (putNum b.list.length ++ b.list.flatMap putSg)))))))
theorem putBody_eq (b : Bd) : putBody b = putNum b.kind.toNat ++ (putNum b.view.toNat ++ (putNum b.seq.toNat ++ (putNum b.client.toNat ++ (putNum b.stamp.toNat ++ (putText b.digest ++ (putText b.text ++ (putNum b.list.length ++ b.list.flatMap putSg))))))) := rfl
def bytesE (b : Bd) : ByteArray × Int := if rightE b = 0 then (if 1048576 < (putBody b).length then (⟨#[]⟩, 4) else (bs (putBody b), 0)) else (⟨#[]⟩, rightE b)

theorem rules_text (k : Int) : (rules k).text ≤ 1048576 ∧ (rules k).list ≤ 64 := by
  unfold rules
  repeat' split
  all_goals decide
theorem right_ok {b : Bd} (h : rightE b = 0) : 1 ≤ b.kind ∧ b.kind ≤ 13 ∧ 0 ≤ b.view ∧ b.view ≤ 1048576 ∧ 0 ≤ b.seq ∧ b.seq ≤ 1073741824 ∧ 0 ≤ b.client ∧ b.client ≤ 15 ∧ 0 ≤ b.stamp ∧ b.stamp ≤ 1099511627776 ∧
    b.digest.size ≤ 32 ∧ b.text.size ≤ 1048576 ∧ b.list.length ≤ 64 ∧ fitAllB b.list = true := by
  unfold rightE at h
  split at h
  · cases h
  · rename_i hk
    split at h
    · rename_i hp
      simp only [Bool.and_eq_true] at hp
      obtain ⟨⟨ha, hb⟩, _⟩ := hp
      simp only [partA, partB, partBr, Bool.and_eq_true, decide_eq_true_eq] at ha hb
      have := rules_text b.kind
      obtain ⟨h1, h2, h3, _, _, hf⟩ := hb
      refine ⟨by omega, by omega, ha.1.1, ha.1.2, ha.2.1.1, ha.2.1.2, ha.2.2.1.1, ha.2.2.1.2, ha.2.2.2.1, ha.2.2.2.2, h1, by omega, by omega, hf⟩
    · cases h

def sizes (l : List Sg) : Nat := (l.map fun m => m.body.size).foldr (· + ·) 0
theorem sizes_append (l m : List Sg) : sizes (l ++ m) = sizes l + sizes m := by
  induction l with
  | nil => simp [sizes]
  | cons x l ih => simp only [List.cons_append, sizes, List.map_cons, List.foldr_cons] at *; omega
theorem sizes_le_flat (l : List Sg) : sizes l ≤ (l.flatMap putSg).length := by
  induction l with
  | nil => simp [sizes]
  | cons x l ih =>
    simp only [List.flatMap_cons, List.length_append, sizes, List.map_cons, List.foldr_cons] at *
    have : x.body.size ≤ (putSg x).length := by simp only [putSg, List.length_append, putText_length]; omega
    omega
theorem sizes_take_le (l : List Sg) (k : Nat) : sizes (l.take k) ≤ sizes l := by
  have h := congrArg sizes (List.take_append_drop k l)
  rw [sizes_append] at h
  omega
theorem flat_le {l : List Sg} (h : fitAllB l = true) : (l.flatMap putSg).length ≤ l.length * 1048700 := by
  induction l with
  | nil => simp
  | cons x l ih =>
    simp only [fitAllB, List.all_cons, Bool.and_eq_true] at h
    have h1 := putSg_len h.1
    have h2 := ((fitsB_iff x).1 h.1).2.2.1
    have := ih h.2
    simp only [List.flatMap_cons, List.length_append, List.length_cons]
    omega

set_option maxRecDepth 100000 in
theorem bytes_no (b : Bd) (A : Option Addr) (c : Nat) (w : World) (hs : SgS w A c b.list) (h : rightE b ≠ 0) : Calls Try.prog 20 #[b.val A c] w (StrErr (bytesE b).1 (bytesE b).2 w) := by
  have HE := Lib.hid (show bytesE b = (⟨#[]⟩, rightE b) by unfold bytesE; rw [if_neg h])
  have HR := Lib.hid (right_calls b A c (w.alloc (.cells (b.cells A c) 24)) (hs.below ((Below.refl _ _).alloc (Nat.le_refl _) _)))
  obtain ⟨re, hre⟩ : ∃ re, re = rightE b := ⟨_, rfl⟩
  rw [← hre] at h HE HR
  have hne : (re != 0) = true := by simp [h]
  clear h hre
  obtain ⟨kind, view, seq, client, stamp, digest, tx, list⟩ := b
  unfold Bd.val Bd.cells at *
  simp only at *
  go_enter Try.func20, Try.ntmps20
  go_wp2_with fail
  refine HR.out.mono ?_
  rintro e w1 ⟨rfl, hb⟩
  go_wp2
  go_ret2
  rw [HE.out]
  exact ⟨rfl, ((Below.refl _ _).alloc (Nat.le_refl _) _).trans (hb.mono (by simp))⟩

set_option maxHeartbeats 2000000 in
set_option maxRecDepth 100000 in
theorem bytes_yes (b : Bd) (A : Option Addr) (c : Nat) (w : World) (hs : SgS w A c b.list) (h : rightE b = 0) : Calls Try.prog 20 #[b.val A c] w (StrErr (bytesE b).1 (bytesE b).2 w) := by
  have HE := Lib.hid (show bytesE b = if 1048576 < (putBody b).length then (⟨#[]⟩, 4) else (bs (putBody b), 0) by unfold bytesE; rw [if_pos h])
  have HR := Lib.hid (right_calls b A c (w.alloc (.cells (b.cells A c) 24)) (hs.below ((Below.refl _ _).alloc (Nat.le_refl _) _)))
  rw [h] at HR
  have hok := right_ok h
  have HP := Lib.hid (putBody_eq b)
  have HBX := Lib.hid (Box.new w (b.cells A c) 24)
  have HS := Lib.hid hs
  have hfit := hs.fits
  have HZ := Lib.hid (sizes_le_flat b.list)
  have HT := Lib.hid (sizes_take_le b.list)
  have hflat := flat_le hok.2.2.2.2.2.2.2.2.2.2.2.2.2
  have HFA := Lib.hid hok.2.2.2.2.2.2.2.2.2.2.2.2.2
  clear h hs
  obtain ⟨kind, view, seq, client, stamp, digest, tx, list⟩ := b
  unfold Bd.val Bd.cells at *
  simp only at *
  obtain ⟨k1, k2, v1, v2, s1, s2, cl1, cl2, st1, st2, hdg, htx, hll, _⟩ := hok
  go_enter Try.func20, Try.ntmps20
  go_wp2_with fail
  refine HR.out.mono ?_
  rintro e w1 ⟨rfl, hb⟩
  have hb1 := HBX.out.call hb
  have HB1 := Lib.hid hb1
  have HC1 := Lib.hid (((Below.refl w.heap.size w).alloc (Nat.le_refl _) (.cells #[.int .i64 kind, .int .i64 view, .int .i64 seq, .int .i64 client, .int .i64 stamp, .string digest, .string tx, .slice A list.length c] 24)).trans (hb.mono (by simp)))
  have hlt1 := hb1.lt
  obtain ⟨_, _, _, _, _, _, _, c7, _⟩ := hb1.facts8
  clear hb hb1
  go_wp2_with fail
  go_loopg [5, 19] list.length (fun g vn vi wr => ∃ k : Nat, vi = .int .i64 k ∧ vn = .int .i64 (sizes (list.take k) : Nat) ∧ k ≤ list.length ∧ sizes (list.take k) ≤ 1048576 ∧ Hid (g + k = list.length ∧ Below w1.heap.size w1 wr))
  case atStart => exact ⟨0, rfl, rfl, Nat.zero_le _, by simp [sizes], rfl, Below.refl _ _⟩
  case round =>
    obtain ⟨k, rfl, rfl, hk, hsk, HH⟩ := hrel
    obtain ⟨hg, hbl⟩ := HH.out
    have HG := Lib.hid hg
    have HB := Lib.hid hbl
    have hsz := hbl.size
    clear HH hg hbl
    by_cases hlt : k < list.length
    · have hd : decide ((k : Int) < (list.length : Int)) = true := by simp; omega
      obtain ⟨a, rfl, h0, h1, h2⟩ := ((HS.out.below HC1.out).below HB.out).elem k hlt
      have hst : sizes (list.take (k + 1)) = sizes (list.take k) + list[k].body.size := by rw [List.take_succ_eq_append_getElem hlt, sizes_append]; simp [sizes]
      have hle := HT.out (k + 1)
      obtain ⟨m, hm⟩ : ∃ m, m = list[k] := ⟨_, rfl⟩
      rw [← hm] at h0 h1 h2 hst
      clear hm
      obtain ⟨who, body, sig⟩ := m
      simp only at h0 h1 h2 hst
      obtain ⟨s0, hs0⟩ : ∃ s0, s0 = sizes (list.take k) := ⟨_, rfl⟩
      obtain ⟨s1', hs1⟩ : ∃ s1, s1 = sizes (list.take (k + 1)) := ⟨_, rfl⟩
      rw [← hs0, ← hs1] at hst
      rw [← hs0] at hsk
      rw [← hs0]
      rw [← hs1] at hle
      have hsum : (s0 : Int) + (body.size : Int) = (s1' : Int) := by omega
      have hsb : s1' ≤ 67116800 := by have := HZ.out; omega
      have HST := Lib.hid hst
      have HS1 := Lib.hid hs1
      clear hst hs1 hs0
      by_cases hbig : 1048576 < s1'
      · have hd2 : decide ((1048576 : Int) < (s1' : Int)) = true := by simp; omega
        have HE2 := Lib.hid (show bytesE ⟨kind, view, seq, client, stamp, digest, tx, list⟩ = (⟨#[]⟩, 4) by rw [HE.out, if_pos (by rw [HP.out]; simp only [List.length_append]; have := HZ.out; omega)])
        clear HE hle
        go_wp2
        go_ret2
        rw [HE2.out]
        exact ⟨rfl, HC1.out.trans ((HB.out.alloc hsz _).mono (by omega))⟩
      · have hd2 : decide ((1048576 : Int) < (s1' : Int)) = false := by simp; omega
        go_wp2
        go_roundg (list.length - (k + 1))
        case measure => have := HG.out; omega
        case rel => exact ⟨k + 1, by go_num, by rw [HS1.out], by omega, by rw [← HS1.out]; omega, by omega, HB.out.alloc hsz _⟩
    · have hd : decide ((k : Int) < (list.length : Int)) = false := by simp; omega
      have HC2 := Lib.hid (HC1.out.trans (HB.out.mono (by omega)))
      have HB2 := Lib.hid (HB1.out.call HB.out)
      have hlt2 := HB2.out.lt
      obtain ⟨W, hW⟩ : ∃ W, W = wr.alloc (.cells #[.slice none 0 0] 91) := ⟨_, rfl⟩
      have HW := Lib.hid (Wr.new wr)
      have HB3 := Lib.hid (HB2.out.alloc (.cells #[.slice none 0 0] 91))
      have hWs : W.heap.size = wr.heap.size + 1 := by rw [hW]; simp
      rw [← hW] at HW HB3
      have HWW := Lib.hid hW
      clear hW HG hsk
      have HL1 := Lib.hid (putNum_len 8 kind.toNat (by omega))
      have HL2 := Lib.hid (putNum_len 8 view.toNat (by omega))
      have HL3 := Lib.hid (putNum_len 8 seq.toNat (by omega))
      have HL4 := Lib.hid (putNum_len 8 client.toNat (by omega))
      have HL5 := Lib.hid (putNum_len 8 stamp.toNat (by omega))
      have HL6 := Lib.hid (show (putText digest).length ≤ 41 by rw [putText_length]; have := putNum_len 8 digest.size (by omega); omega)
      have HL7 := Lib.hid (show (putText tx).length ≤ 1048585 by rw [putText_length]; have := putNum_len 8 tx.size (by omega); omega)
      have HL8 := Lib.hid (putNum_len 8 list.length (by omega))
      have HS4 := Lib.hid (HS.out.below HC2.out)
      go_wp2_with fail
      rw [← HWW.out]
      have hw := HW.out.drew
      have hbx := HB3.out.drew
      have HCh := Lib.hid (WrCh.refl wr.heap.size none W.drew)
      have hWl : w.heap.size < W.drew.heap.size := by show w.heap.size < W.heap.size; omega
      go_region_held3 (fun w' => w'.cell? ⟨w.heap.size, 0, none⟩ = some (.int .i64 kind) ∧ w'.cell? ⟨w.heap.size, 1, none⟩ = some (.int .i64 view) ∧ w'.cell? ⟨w.heap.size, 2, none⟩ = some (.int .i64 seq) ∧ w'.cell? ⟨w.heap.size, 3, none⟩ = some (.int .i64 client) ∧ w'.cell? ⟨w.heap.size, 4, none⟩ = some (.int .i64 stamp) ∧ w'.cell? ⟨w.heap.size, 5, none⟩ = some (.string digest) ∧ w'.cell? ⟨w.heap.size, 6, none⟩ = some (.string tx) ∧ w'.cell? ⟨w.heap.size, 7, none⟩ = some (.slice A list.length c)) (exact boxS hbx) (first | (go_at_call 64; refine (wnumber_calls wr.heap.size _ _ _ _ _ ?h0 ?h1 ?hl hw).mono ?_; (case h0 => omega); (case h1 => omega); (case hl => (have a1 := HL1.out; have a2 := HL2.out; have a3 := HL3.out; have a4 := HL4.out; have a5 := HL5.out; have a6 := HL6.out; have a7 := HL7.out; have a8 := HL8.out; simp only [List.length_append, List.length_nil, Int.toNat_natCast]; omega)); rintro e wn ⟨rfl, An, capn, hcn, hwn⟩; have hbn := hbx.ch hcn.ch hbx.lt (by exact wr_ne HCh.out hWl (by omega) (by intro hh; cases hh)); have HChn := Lib.hid (HCh.out.trans hcn); clear hcn hbx HCh hw; have hw := hwn; have hbx := hbn; have HCh := Lib.hid HChn.out; clear hwn hbn HChn) | (go_at_call 65; refine (wtext_calls wr.heap.size _ _ _ _ _ ?h1 ?hl hw).mono ?_; (case h1 => omega); (case hl => (have a1 := HL1.out; have a2 := HL2.out; have a3 := HL3.out; have a4 := HL4.out; have a5 := HL5.out; have a6 := HL6.out; have a7 := HL7.out; have a8 := HL8.out; simp only [List.length_append, List.length_nil, Int.toNat_natCast]; omega)); rintro e wn ⟨rfl, An, capn, hcn, hwn⟩; have hbn := hbx.ch hcn.ch hbx.lt (by exact wr_ne HCh.out hWl (by omega) (by intro hh; cases hh)); have HChn := Lib.hid (HCh.out.trans hcn); clear hcn hbx HCh hw; have hw := hwn; have hbx := hbn; have HCh := Lib.hid HChn.out; clear hwn hbn HChn))
      have HW9 := Lib.hid hw
      have HB9 := Lib.hid hbx
      clear hw hbx
      obtain ⟨_, _, _, _, _, _, _, c7b, _⟩ := HB9.out.facts8
      obtain ⟨l0, hl0⟩ : ∃ l0, l0 = putNum kind.toNat ++ (putNum view.toNat ++ (putNum seq.toNat ++ (putNum client.toNat ++ (putNum stamp.toNat ++ (putText digest ++ (putText tx ++ putNum list.length)))))) := ⟨_, rfl⟩
      have HL0 := Lib.hid hl0
      have hl0b : l0.length ≤ 1048680 := by
        rw [hl0]
        have a1 := HL1.out; have a2 := HL2.out; have a3 := HL3.out; have a4 := HL4.out; have a5 := HL5.out; have a6 := HL6.out; have a7 := HL7.out; have a8 := HL8.out
        simp only [List.length_append]; omega
      clear hl0
      have HBLW := Lib.hid (fun (A2 : Option Addr) (w2 : World) (hh : WrCh wr.heap.size none A2 W.drew w2) => (show Below wr.heap.size wr w2 by have h1 := (WrCh.drewN wr.heap.size none W 1).trans hh; rw [HWW.out] at h1; exact h1.below))
      have hlo := HS4.out
      obtain ⟨wo, rfl⟩ : ∃ wo : World, wo = wr := ⟨_, rfl⟩
      go_wp2_with fail
      go_loopg [59] list.length (fun g vi w2 => ∃ (k : Nat) (A2 : Option Addr) (cap2 : Nat), vi = .int .i64 k ∧ k ≤ list.length ∧ Hid (g + k = list.length ∧ WrCh wo.heap.size none A2 W.drew w2 ∧ Wr w2 wo.heap.size A2 cap2 (l0 ++ (list.take k).flatMap putSg)))
      case atStart =>
        refine ⟨0, An, capn, rfl, Nat.zero_le _, rfl, HCh.out, ?_⟩
        have hh := HW9.out
        simp only [Int.toNat_natCast, List.nil_append, List.append_assoc] at hh
        simp only [List.take_zero, List.flatMap_nil, List.append_nil]
        rw [HL0.out]
        exact hh
      case round =>
        obtain ⟨k, A2, cap2, rfl, hk, HH⟩ := hrel
        obtain ⟨hg, hch, hw⟩ := HH.out
        have HG := Lib.hid hg
        have HCH := Lib.hid hch
        have HW2 := Lib.hid hw
        have HBL := Lib.hid (HBLW.out A2 wr hch)
        have hWr := hch.ch.size
        have hbx := HB9.out
        clear HH hg hch hw
        by_cases hlt : k < list.length
        · have hd3 : decide ((k : Int) < (list.length : Int)) = true := by simp; omega
          obtain ⟨a, rfl, h0, h1, h2⟩ := (HS4.out.below HBL.out).elem k hlt
          have hft : fitsB list[k] = true := by
            have := HFA.out
            unfold fitAllB at this
            rw [List.all_eq_true] at this
            exact this _ (List.getElem_mem hlt)
          have hstep : (list.take (k + 1)).flatMap putSg = (list.take k).flatMap putSg ++ putSg list[k] := by rw [List.take_succ_eq_append_getElem hlt, List.flatMap_append, List.flatMap_singleton]
          have htk : ((list.take k).flatMap putSg).length + (putSg list[k]).length ≤ (list.flatMap putSg).length := by
            have e := congrArg (fun l => (l.flatMap putSg).length) (List.take_append_drop (k + 1) list)
            simp only [List.flatMap_append, List.length_append] at e
            have e2 := congrArg List.length hstep
            simp only [List.length_append] at e2
            omega
          obtain ⟨m, hm⟩ : ∃ m, m = list[k] := ⟨_, rfl⟩
          rw [← hm] at h0 h1 h2 hft hstep htk
          have hfi := (fitsB_iff m).1 hft
          clear hm hft
          have HSTEP := Lib.hid hstep
          have HTK := Lib.hid htk
          clear hstep htk
          obtain ⟨who, body, sig⟩ := m
          simp only at h0 h1 h2 hfi
          have hwl := HW2.out.lt
          have HCALL := Lib.hid (wsigned_calls wo.heap.size A2 cap2 (l0 ++ (list.take k).flatMap putSg) ⟨who, body, sig⟩ (wr.alloc (.cells #[.int .i64 who, .string body, .string sig] 36)) hfi.1 (by simp only; omega) (by simp only; omega) (by simp only; omega) (by have := HTK.out; simp only [List.length_append]; omega) (HW2.out.alloc _))
          unfold Sg.val at HCALL
          go_wp2_with fail
          refine HCALL.out.mono ?_
          rintro e w3 ⟨rfl, A3, cap3, hc3, hw3⟩
          have HC3 := Lib.hid (HCH.out.trans ((WrCh.alloc wo.heap.size A2 wr (.cells #[.int .i64 who, .string body, .string sig] 36)).trans hc3))
          have HW3 := Lib.hid hw3
          clear hc3 hw3
          go_wp2
          go_roundg (list.length - (k + 1))
          case measure => have := HG.out; omega
          case rel => exact ⟨k + 1, A3, cap3, by go_num, by omega, by omega, HC3.out, by rw [HSTEP.out, ← List.append_assoc]; exact HW3.out⟩
        · have hd3 : decide ((k : Int) < (list.length : Int)) = false := by simp; omega
          have HE3 := Lib.hid (show l0 ++ (list.take k).flatMap putSg = putBody ⟨kind, view, seq, client, stamp, digest, tx, list⟩ by rw [List.take_of_length_le (by omega), HP.out, HL0.out]; simp only [List.append_assoc])
          obtain ⟨pb, hpb⟩ : ∃ pb, pb = l0 ++ (list.take k).flatMap putSg := ⟨_, rfl⟩
          rw [← hpb] at HE3 HW2
          rw [← HE3.out] at HE
          clear hpb HE3
          have hcell := HW2.out.cell
          have hst := own_to_string HW2.out.own
          have HFIN := Lib.hid (HC2.out.trans (HBL.out.mono (by omega)))
          by_cases hbig : 1048576 < pb.length
          · have hd4 : decide ((1048576 : Int) < (pb.length : Int)) = true := by simp; omega
            have hge := HE.out
            rw [if_pos hbig] at hge
            have HGE := Lib.hid hge
            clear hge
            go_wp2
            go_ret2
            rw [HGE.out]
            exact ⟨rfl, HFIN.out⟩
          · have hd4 : decide ((1048576 : Int) < (pb.length : Int)) = false := by simp; omega
            have hge := HE.out
            rw [if_neg hbig] at hge
            have HGE := Lib.hid hge
            clear hge
            go_wp2
            go_ret2
            rw [HGE.out]
            exact ⟨rfl, HFIN.out⟩

theorem body_calls (b : Bd) (A : Option Addr) (c : Nat) (w : World) (hs : SgS w A c b.list) : Calls Try.prog 20 #[b.val A c] w (StrErr (bytesE b).1 (bytesE b).2 w) := by
  by_cases h : rightE b = 0
  · exact bytes_yes b A c w hs h
  · exact bytes_no b A c w hs h
end Go.Proofs.Ytehbpjkeflcanaa
