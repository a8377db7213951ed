/- The document's own reading of bytes as a message. -/
import Derived.Test.YtfgpchffkpomoaaPk09
namespace Go.Proofs.Ytfgpchffkpomoaa
set_option linter.unusedSimpArgs false
set_option linter.unusedVariables false
open Go.RowKit

set_option maxRecDepth 100000 in
theorem rofSg_calls (s : ByteArray) (w : World) (hs : s.size ≤ maxLen) : Calls Try.prog 88 #[.string s] w (OfSgPost (ofSg s) w) := by
  have HS := Lib.hid hs
  have HST := Lib.hid (St.mk ((Below.refl w.heap.size w).alloc (Nat.le_refl _) _) (Box.new w #[.int .i64 0, .string ⟨#[]⟩, .string ⟨#[]⟩] 61))
  by_cases h : 2097152 < s.size
  · unfold maxLen at hs
    have HG := Lib.hid (show ofSg s = (zeroSg, 4) by unfold ofSg; rw [if_pos h])
    have hd : decide ((2097152 : Int) < (s.size : Int)) = true := by simp; omega
    go_enter Try.func88, Try.ntmps88
    go_wp2_with fail
    obtain ⟨d0, d1, d2, _⟩ := (Box.new w #[.int .i64 0, .string ⟨#[]⟩, .string ⟨#[]⟩] 61).facts3
    refine bodyPost_ret (v := .tuple #[.agg #[.int .i64 0, .string ⟨#[]⟩, .string ⟨#[]⟩], .int .i64 4]) (by simp [results, Try.results88, go_sem]) rfl ?_
    unfold OfSgPost
    rw [HG.out]
    exact ⟨rfl, HST.out.b⟩
  · have HG := Lib.hid (ofSg_short_eq h)
    have hd : decide ((2097152 : Int) < (s.size : Int)) = false := by simp; omega
    have HSG := Lib.hid (fun w => rSigned_calls s 0 w hs (Nat.zero_le _))
    unfold SgnPost at HSG
    clear hs
    cases hx : signed s 0 with
    | error c =>
      rw [hx] at HG HSG
      simp only at HG HSG
      have hd3 : ((c : Int) == 0) = false := by rcases signed_err hx with rfl | rfl | rfl <;> rfl
      clear hx
      go_enter Try.func88, Try.ntmps88
      go_wp2_with fail
      refine (HSG.out _).mono ?_
      rintro e w1 ⟨hb, ⟨who, body, sig⟩, rfl⟩
      have HST1 := Lib.hid ((HST.out.call (Nat.le_refl _) hb).alloc (Nat.le_refl _) (.cells #[.int .i64 who, .string body, .string sig] 61))
      clear hb HST
      have HST := HST1
      clear HST1
      obtain ⟨_, _, _, f0, f1, f2⟩ := HST.out.x.facts3
      simp only [Sg.val]
      go_wp2_with fail
      have hst := HST.out.fill3 (Nat.le_refl _) (x := .int .i64 0) (y := .string ⟨#[]⟩) (z := .string ⟨#[]⟩)
      obtain ⟨d0, d1, d2, _⟩ := hst.x.facts3
      refine bodyPost_ret (v := .tuple #[.agg #[.int .i64 0, .string ⟨#[]⟩, .string ⟨#[]⟩], .int .i64 c]) (by simp [results, Try.results88, go_sem, d0, d1, d2]) rfl ?_
      unfold OfSgPost
      rw [HG.out]
      exact ⟨rfl, hst.b⟩
    | ok r =>
      obtain ⟨⟨who, body, sig⟩, p⟩ := r
      have hb := (signed_bd hx).2
      rw [hx] at HG HSG
      simp only [Sg.val] at HG HSG
      have HFIT := Lib.hid (rfits_calls ⟨who, body, sig⟩)
      unfold Sg.val at HFIT
      simp only at HFIT
      clear hx
      go_enter Try.func88, Try.ntmps88
      go_wp2_with fail
      refine (HSG.out _).mono ?_
      rintro e w1 ⟨hb1, rfl⟩
      have HBX := Lib.hid (Box.new w1 #[.int .i64 who, .string body, .string sig] 61)
      have HST1 := Lib.hid ((HST.out.call (Nat.le_refl _) hb1).alloc (Nat.le_refl _) (.cells #[.int .i64 who, .string body, .string sig] 61))
      clear hb1 HST
      have HST := HST1
      clear HST1
      obtain ⟨_, _, _, f0, f1, f2⟩ := HST.out.x.facts3
      by_cases hend : p < s.size
      · have hd4 : decide ((p : Int) < (s.size : Int)) = true := by simp; omega
        rw [if_pos hend] at HG
        go_wp2_with fail
        have hst := HST.out.fill3 (Nat.le_refl _) (x := .int .i64 0) (y := .string ⟨#[]⟩) (z := .string ⟨#[]⟩)
        obtain ⟨d0, d1, d2, _⟩ := hst.x.facts3
        refine bodyPost_ret (v := .tuple #[.agg #[.int .i64 0, .string ⟨#[]⟩, .string ⟨#[]⟩], .int .i64 12]) (by simp [results, Try.results88, go_sem, d0, d1, d2]) rfl ?_
        unfold OfSgPost
        rw [HG.out]
        exact ⟨rfl, hst.b⟩
      · have hd4 : decide ((p : Int) < (s.size : Int)) = false := by simp; omega
        rw [if_neg hend] at HG
        go_wp2_with fail
        refine (HFIT.out _).mono ?_
        rintro e w2 ⟨rfl, hb2⟩
        have HBX2 := Lib.hid (HBX.out.call hb2)
        have HST2 := Lib.hid (HST.out.call (Nat.le_refl _) hb2)
        clear hb2 HST HBX f0 f1 f2
        have HST := HST2
        clear HST2
        obtain ⟨_, _, _, f0, f1, f2⟩ := HST.out.x.facts3
        obtain ⟨b0, b1, b2, _⟩ := HBX2.out.facts3
        cases hft : fitsB ⟨who, body, sig⟩ with
        | true =>
          rw [hft] at HG
          simp only [if_true] at HG
          clear hft
          go_wp2_with fail
          have hst := HST.out.fill3 (Nat.le_refl _) (x := .int .i64 who) (y := .string body) (z := .string sig)
          obtain ⟨d0, d1, d2, _⟩ := hst.x.facts3
          refine bodyPost_ret (v := .tuple #[.agg #[.int .i64 who, .string body, .string sig], .int .i64 0]) (by simp [results, Try.results88, go_sem, d0, d1, d2]) rfl ?_
          unfold OfSgPost
          rw [HG.out]
          exact ⟨rfl, hst.b⟩
        | false =>
          rw [hft] at HG
          simp only [Bool.false_eq_true, if_false] at HG
          clear hft
          go_wp2_with fail
          have hst := HST.out.fill3 (Nat.le_refl _) (x := .int .i64 0) (y := .string ⟨#[]⟩) (z := .string ⟨#[]⟩)
          obtain ⟨d0, d1, d2, _⟩ := hst.x.facts3
          refine bodyPost_ret (v := .tuple #[.agg #[.int .i64 0, .string ⟨#[]⟩, .string ⟨#[]⟩], .int .i64 14]) (by simp [results, Try.results88, go_sem, d0, d1, d2]) rfl ?_
          unfold OfSgPost
          rw [HG.out]
          exact ⟨rfl, hst.b⟩
end Go.Proofs.Ytfgpchffkpomoaa
