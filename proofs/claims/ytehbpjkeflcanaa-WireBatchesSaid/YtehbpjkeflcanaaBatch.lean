/- A batch is laid: the walks through Batch, the code's and the document's. -/
import Derived.Test.YtehbpjkeflcanaaRefBytes
namespace Go.Proofs.Ytehbpjkeflcanaa
set_option linter.unusedSimpArgs false
set_option linter.unusedVariables false
open Go.RowKit

def putBatch (l : List Sg) : List UInt8 := putNum l.length ++ l.flatMap putSg
def batchE (l : List Sg) : ByteArray × Int := if 4 < l.length then (⟨#[]⟩, 2) else if fitAllB l = true then (if 1048576 < (putBatch l).length then (⟨#[]⟩, 4) else (bs (putBatch l), 0)) else (⟨#[]⟩, 14)
theorem batch_many {l : List Sg} (h : 4 < l.length) : batchE l = (⟨#[]⟩, 2) := by unfold batchE; rw [if_pos h]
theorem batch_unfit {l : List Sg} (h : ¬ 4 < l.length) (hf : fitAllB l = false) : batchE l = (⟨#[]⟩, 14) := by unfold batchE; rw [if_neg h, if_neg (by rw [hf]; decide)]
theorem batch_fit {l : List Sg} (h : ¬ 4 < l.length) (hf : fitAllB l = true) : batchE l = (if 1048576 < (putBatch l).length then (⟨#[]⟩, 4) else (bs (putBatch l), 0)) := by unfold batchE; rw [if_neg h, if_pos hf]

theorem flat_le4 {l : List Sg} (hf : fitAllB l = true) : ∀ k, k ≤ l.length → ((l.take k).flatMap putSg).length ≤ k * 1048700 := by
  intro k
  induction k with
  | zero => intro _; simp
  | succ k ih =>
    intro hk
    have h1 := ih (by omega)
    have h2 := putSg_len (fitAll_get hf (show k < l.length by omega))
    have h3 := (fitsB_iff _).1 (fitAll_get hf (show k < l.length by omega))
    rw [List.take_succ_eq_append_getElem (by omega), List.flatMap_append, List.flatMap_singleton, List.length_append]
    omega

set_option maxRecDepth 100000 in
theorem rbatch_calls (A : Option Addr) (c : Nat) (l : List Sg) (w : World) (hs : SgS w A c l) : Calls Try.prog 39 #[.slice A l.length c] w (StrErr (batchE l).1 (batchE l).2 w) := by
  have hfit := hs.fits
  have HS := Lib.hid hs
  have HFA := Lib.hid (fun w hs => rfitAll_calls A c l w hs)
  have HB := Lib.hid (Below.refl w.heap.size w)
  by_cases h4 : 4 < l.length
  · have hd : decide ((4 : Int) < (l.length : Int)) = true := by simp; omega
    have HE := Lib.hid (batch_many h4)
    go_enter Try.func39, Try.ntmps39
    go_wp2
    go_ret2
    rw [HE.out]
    exact ⟨rfl, HB.out⟩
  · have hd : decide ((4 : Int) < (l.length : Int)) = false := by simp; omega
    by_cases hf : fitAllB l = true
    · have HE := Lib.hid (batch_fit h4 hf)
      have HF := Lib.hid hf
      have HN := Lib.hid (fun w => rNumber_calls (l.length : Nat) w (by omega) (by omega))
      rw [hf] at HFA
      rw [Int.toNat_natCast] at HN
      obtain ⟨v0, hv0⟩ : ∃ v, v = bs (putNum l.length) := ⟨_, rfl⟩
      have hv0s : v0.size ≤ 9 := by rw [hv0, bs_size]; exact putNum_len 8 l.length (by omega)
      rw [← hv0] at HN
      have HV0 := Lib.hid hv0
      clear hv0 hs hf
      go_enter Try.func39, Try.ntmps39
      go_wp2_with (first | (go_at_call 62; refine (HFA.out _ (HS.out.below HB.out)).mono ?_; rintro e wn ⟨rfl, hbn⟩; have HBn := Lib.hid (HB.out.trans (hbn.mono HB.out.size)); clear HB hbn; have HB := HBn; clear HBn) | (go_at_call 27; refine (HN.out _).mono ?_; rintro e wn ⟨rfl, hbn⟩; have HBn := Lib.hid (HB.out.trans (hbn.mono HB.out.size)); clear HB hbn; have HB := HBn; clear HBn))
      go_loopg [4, 5] l.length (fun g v4 v5 wr => ∃ (k : Nat) (v : ByteArray), v4 = .string v ∧ v5 = .int .i64 k ∧ k ≤ l.length ∧ v.size ≤ 9 + k * 1048700 ∧ Hid (g + k = l.length ∧ v = bs (putNum l.length ++ (l.take k).flatMap putSg) ∧ Below w.heap.size w wr))
      case atStart => exact ⟨0, v0, rfl, rfl, by omega, by omega, rfl, by rw [HV0.out]; simp, HB.out⟩
      case round =>
        clear HB
        obtain ⟨k, v, rfl, rfl, hk, hvs, HH⟩ := hrel
        obtain ⟨hg, hv, hb⟩ := HH.out
        have HG := Lib.hid hg
        have HV := Lib.hid hv
        have HB := Lib.hid hb
        clear HH hg hv hb
        by_cases hlt : k < l.length
        · have hd3 : decide ((k : Int) < (l.length : Int)) = true := by simp; omega
          obtain ⟨a, rfl, e0, e1, e2⟩ := (HS.out.below HB.out).elem k hlt
          have hfi := (fitsB_iff _).1 (fitAll_get HF.out hlt)
          have hstep : (l.take (k + 1)).flatMap putSg = (l.take k).flatMap putSg ++ putSg l[k] := by rw [List.take_succ_eq_append_getElem hlt, List.flatMap_append, List.flatMap_singleton]
          have hml := putSg_len (fitAll_get HF.out hlt)
          obtain ⟨m, hm⟩ : ∃ m, m = l[k] := ⟨_, rfl⟩
          rw [← hm] at e0 e1 e2 hfi hstep hml
          clear hm
          have HC := Lib.hid (fun w => rOne_calls m w (by omega) (by omega) (by omega) (by omega))
          obtain ⟨y, hy⟩ : ∃ y, y = bs (putSg m) := ⟨_, rfl⟩
          rw [← hy] at HC
          have hys : y.size ≤ 1048700 := by rw [hy, bs_size]; omega
          have hq : ¬ 9223372036854775807 < v.size + y.size := by omega
          have HNEW := Lib.hid (show v ++ y = bs (putNum l.length ++ (l.take (k + 1)).flatMap putSg) by rw [HV.out, hy, hstep, ← bs_append, List.append_assoc])
          clear hy hstep hfi hml
          obtain ⟨who, body, sig⟩ := m
          unfold Sg.val at HC
          simp only at e0 e1 e2 HC
          go_wp2_with fail
          refine (HC.out _).mono ?_
          rintro e w3 ⟨rfl, hb⟩
          have HB3 := Lib.hid (HB.out.trans (hb.mono HB.out.size))
          clear hb
          go_wp2_with fail
          go_roundg (gk - 1)
          case measure => have := HG.out; omega
          case rel => exact ⟨k + 1, v ++ y, rfl, by go_num, by omega, by rw [ByteArray.size_append]; omega, by have := HG.out; omega, HNEW.out, HB3.out⟩
        · have hd3 : decide ((k : Int) < (l.length : Int)) = false := by simp; omega
          have HE3 := Lib.hid (show v = bs (putBatch l) by rw [HV.out, List.take_of_length_le (by omega)]; rfl)
          have hsz : v.size = (putBatch l).length := by rw [HE3.out, bs_size]
          by_cases hbig : 1048576 < v.size
          · have hd4 : decide ((1048576 : Int) < (v.size : Int)) = true := by simp; omega
            have hge := HE.out
            rw [if_pos (by rw [← hsz]; exact hbig)] at hge
            have HGE := Lib.hid hge
            clear hge hsz
            go_wp2_with fail
            go_ret2
            rw [HGE.out]
            exact ⟨rfl, HB.out⟩
          · have hd4 : decide ((1048576 : Int) < (v.size : Int)) = false := by simp; omega
            have hge := HE.out
            rw [if_neg (by rw [← hsz]; exact hbig), ← HE3.out] at hge
            have HGE := Lib.hid hge
            clear hge hsz
            go_wp2_with fail
            go_ret2
            rw [HGE.out]
            exact ⟨rfl, HB.out⟩
    · have hf' : fitAllB l = false := by simpa using hf
      have HE := Lib.hid (batch_unfit h4 hf')
      rw [hf'] at HFA
      clear hf hf' hs
      go_enter Try.func39, Try.ntmps39
      go_wp2_with (first | (go_at_call 62; refine (HFA.out _ (HS.out.below HB.out)).mono ?_; rintro e wn ⟨rfl, hbn⟩; have HBn := Lib.hid (HB.out.trans (hbn.mono HB.out.size)); clear HB hbn; have HB := HBn; clear HBn))
      go_ret2
      rw [HE.out]
      exact ⟨rfl, HB.out⟩
end Go.Proofs.Ytehbpjkeflcanaa
