/- A batch is laid: the walk through the code's Batch. -/
import Derived.Test.YtehbpjkeflcanaaBatch
namespace Go.Proofs.Ytehbpjkeflcanaa
set_option linter.unusedSimpArgs false
set_option linter.unusedVariables false
open Go.RowKit

set_option maxRecDepth 100000 in
theorem wbatch_fit (A : Option Addr) (c : Nat) (l : List Sg) (w : World) (hs : SgS w A c l) (h4 : ¬ 4 < l.length) (hf : fitAllB l = true) : Calls Try.prog 38 #[.slice A l.length c] w (StrErr (batchE l).1 (batchE l).2 w) := by
  have hfit := hs.fits
  have HS := Lib.hid hs
  have HFA := Lib.hid (fun w hs => fitAll_calls A c l w hs)
  have HE := Lib.hid (batch_fit h4 hf)
  have HF := Lib.hid hf
  rw [hf] at HFA
  have hd : decide ((4 : Int) < (l.length : Int)) = false := by simp; omega
  have HL0 := Lib.hid (putNum_len 8 l.length (by omega))
  clear hs hf
  go_enter Try.func38, Try.ntmps38
  go_wp2_with fail
  refine (HFA.out _ HS.out).mono ?_
  rintro e wo ⟨rfl, hbo⟩
  have HB := Lib.hid hbo
  have HS4 := Lib.hid (HS.out.below hbo)
  clear hbo
  obtain ⟨W, hW⟩ : ∃ W, W = wo.alloc (.cells #[.slice none 0 0] 91) := ⟨_, rfl⟩
  have HW := Lib.hid (Wr.new wo)
  rw [← hW] at HW
  have HWW := Lib.hid hW
  clear hW
  go_wp2_with fail
  rw [← HWW.out]
  refine (wnumber_calls wo.heap.size none 0 [] (l.length : Nat) W (by omega) (by omega) (by rw [Int.toNat_natCast]; have := HL0.out; simp; omega) HW.out).mono ?_
  rw [Int.toNat_natCast]
  rintro e w2 ⟨rfl, An, capn, hcn, hwn⟩
  have HCh := Lib.hid hcn
  have HW9 := Lib.hid hwn
  clear hcn hwn
  have HBLW := Lib.hid (fun (A2 : Option Addr) (w2 : World) (hh : WrCh wo.heap.size none A2 W w2) => (show Below wo.heap.size wo w2 by rw [HWW.out] at hh; exact hh.below))
  go_wp2_with fail
  go_loopg [18] l.length (fun g vi w2 => ∃ (k : Nat) (A2 : Option Addr) (cap2 : Nat), vi = .int .i64 k ∧ k ≤ l.length ∧ Hid (g + k = l.length ∧ WrCh wo.heap.size none A2 W w2 ∧ Wr w2 wo.heap.size A2 cap2 (putNum l.length ++ (l.take k).flatMap putSg)))
  case atStart =>
    refine ⟨0, An, capn, rfl, Nat.zero_le _, rfl, HCh.out, ?_⟩
    have hh := HW9.out
    simpa using hh
  case round =>
    obtain ⟨k, A2, cap2, rfl, hk, HH⟩ := hrel
    obtain ⟨hg, hch, hw⟩ := HH.out
    have HG := Lib.hid hg
    have HCH := Lib.hid hch
    have HW2 := Lib.hid hw
    have HBL := Lib.hid (HBLW.out A2 wr hch)
    clear HH hg hch hw
    by_cases hlt : k < l.length
    · have hd3 : decide ((k : Int) < (l.length : Int)) = true := by simp; omega
      obtain ⟨a, rfl, h0, h1, h2⟩ := (HS4.out.below HBL.out).elem k hlt
      have hfi := (fitsB_iff _).1 (fitAll_get HF.out hlt)
      have hml := putSg_len (fitAll_get HF.out hlt)
      have hstep : (l.take (k + 1)).flatMap putSg = (l.take k).flatMap putSg ++ putSg l[k] := by rw [List.take_succ_eq_append_getElem hlt, List.flatMap_append, List.flatMap_singleton]
      have hle := flat_le4 HF.out k (by omega)
      obtain ⟨m, hm⟩ : ∃ m, m = l[k] := ⟨_, rfl⟩
      rw [← hm] at h0 h1 h2 hfi hstep hml
      clear hm
      have HSTEP := Lib.hid hstep
      have HLE := Lib.hid hle
      have HML := Lib.hid hml
      clear hstep hle hml
      obtain ⟨who, body, sig⟩ := m
      simp only at h0 h1 h2 hfi
      have hwl := HW2.out.lt
      have HA2 := Lib.hid ((Wr.alloc HW2.out (.cells #[.int .i64 who, .string body, .string sig] 36)))
      have HCALL := Lib.hid (wsigned_calls wo.heap.size A2 cap2 (putNum l.length ++ (l.take k).flatMap putSg) ⟨who, body, sig⟩ (wr.alloc (.cells #[.int .i64 who, .string body, .string sig] 36)) hfi.1 (by simp only; omega) (by simp only; omega) (by simp only; omega) (by have := HLE.out; have := HML.out; have := HL0.out; simp only [List.length_append] at *; omega) HA2.out)
      unfold Sg.val at HCALL
      go_wp2_with fail
      refine HCALL.out.mono ?_
      rintro e w3 ⟨rfl, A3, cap3, hc3, hw3⟩
      have HC3 := Lib.hid (HCH.out.trans ((WrCh.alloc wo.heap.size A2 wr (.cells #[.int .i64 who, .string body, .string sig] 36)).trans hc3))
      have HW3 := Lib.hid hw3
      clear hc3 hw3
      go_wp2
      go_roundg (gk - 1)
      case measure => have := HG.out; omega
      case rel => exact ⟨k + 1, A3, cap3, by go_num, by omega, by have := HG.out; omega, HC3.out, by rw [HSTEP.out, ← List.append_assoc]; exact HW3.out⟩
    · have hd3 : decide ((k : Int) < (l.length : Int)) = false := by simp; omega
      have HE3 := Lib.hid (show putNum l.length ++ (l.take k).flatMap putSg = putBatch l by rw [List.take_of_length_le (by omega)]; rfl)
      obtain ⟨pb, hpb⟩ : ∃ pb, pb = putNum l.length ++ (l.take k).flatMap putSg := ⟨_, rfl⟩
      rw [← hpb] at HE3 HW2
      rw [← HE3.out] at HE
      clear hpb HE3
      have hcell := HW2.out.cell
      have hst := own_to_string HW2.out.own
      have HFIN := Lib.hid (HB.out.trans (HBL.out.mono HB.out.size))
      by_cases hbig : 1048576 < pb.length
      · have hd4 : decide ((1048576 : Int) < (pb.length : Int)) = true := by simp; omega
        have hge := HE.out
        rw [if_pos hbig] at hge
        have HGE := Lib.hid hge
        clear hge
        go_wp2
        go_ret2
        rw [HGE.out]
        exact ⟨rfl, HFIN.out⟩
      · have hd4 : decide ((1048576 : Int) < (pb.length : Int)) = false := by simp; omega
        have hge := HE.out
        rw [if_neg hbig] at hge
        have HGE := Lib.hid hge
        clear hge
        go_wp2
        go_ret2
        rw [HGE.out]
        exact ⟨rfl, HFIN.out⟩

set_option maxRecDepth 100000 in
theorem wbatch_calls (A : Option Addr) (c : Nat) (l : List Sg) (w : World) (hs : SgS w A c l) : Calls Try.prog 38 #[.slice A l.length c] w (StrErr (batchE l).1 (batchE l).2 w) := by
  by_cases h4 : 4 < l.length
  · have hfit := hs.fits
    have hd : decide ((4 : Int) < (l.length : Int)) = true := by simp; omega
    have HE := Lib.hid (batch_many h4)
    clear hs
    go_enter Try.func38, Try.ntmps38
    go_wp2
    go_ret2
    rw [HE.out]
    exact ⟨rfl, Below.refl _ _⟩
  · by_cases hf : fitAllB l = true
    · exact wbatch_fit A c l w hs h4 hf
    · have hf' : fitAllB l = false := by simpa using hf
      have hfit := hs.fits
      have hd : decide ((4 : Int) < (l.length : Int)) = false := by simp; omega
      have HE := Lib.hid (batch_unfit h4 hf')
      have HFA := Lib.hid (fitAll_calls A c l w hs)
      rw [hf'] at HFA
      clear hf hf' hs
      go_enter Try.func38, Try.ntmps38
      go_wp2_with fail
      refine HFA.out.mono ?_
      rintro e w1 ⟨rfl, hb⟩
      go_wp2
      go_ret2
      rw [HE.out]
      exact ⟨rfl, hb⟩
end Go.Proofs.Ytehbpjkeflcanaa
