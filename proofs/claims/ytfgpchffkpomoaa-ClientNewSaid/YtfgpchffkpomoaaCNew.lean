/- There are just the clients that the document says: the walk. -/
import Derived.Test.YtfgpchffkpomoaaVer
import Derived.Test.YtfgpchffkpomoaaRowCfg
namespace Go.Proofs.Ytfgpchffkpomoaa
set_option linter.unusedSimpArgs false
set_option linter.unusedVariables false
open Go.RowKit

theorem open_none' (m : Sg) : openE [] m = (zeroBd, 30) := by
  unfold openE
  rw [if_neg]
  unfold checkE checkS place
  simp
theorem ver_none' (F : Int) (s : ByteArray) : verE [] F s = if (ofSg s).2 ≠ 0 then (ofSg s).2 else 30 := by
  unfold verE
  simp only [open_none']
  split
  · rfl
  · rw [if_pos (by decide)]
/-- Three ways: no consortium; none with that number; a client. -/
theorem new_ways (F C G P id : Int) : fitsC F C G P = false ∨ (fitsC F C G P = true ∧ (decide (0 ≤ id) && decide (id < C)) = false) ∨ (fitsC F C G P = true ∧ (decide (0 ≤ id) && decide (id < C)) = true) := by
  cases fitsC F C G P <;> cases (decide (0 ≤ id) && decide (id < C)) <;> simp
theorem fits_nat {F C G P : Int} (h : fitsC F C G P = true) : ∃ f : Nat, F = (f : Int) ∧ f ≤ 4 := by
  unfold fitsC at h
  simp only [Bool.and_eq_true, decide_eq_true_eq] at h
  exact ⟨F.toNat, by omega, by omega⟩

set_option maxHeartbeats 16000000 in
set_option maxRecDepth 100000 in
theorem clientNew_calls (cg : Cg) (id : Int) (s : ByteArray) (W : World) (hok : cg.Ok) (hs : s.size ≤ maxLen) : Calls Try.prog 30 #[cg.val, .int .i64 id, .string s] W (fun e w' => e = .returned (.bool true) ∧ Below W.heap.size W w') := by
  obtain ⟨F, C, G, P⟩ := cg
  unfold Cg.val
  simp only
  have HN := Lib.hid (fun w => newBook_calls w)
  unfold NewPost at HN
  have HAW := Lib.hid (fun w => awake12_calls w)
  have HNW := Lib.hid (fun b t m n w hb => cnew_calls F C G P id b t m n [] [] w hb (by decide))
  have HNN := Lib.hid (fun w => newNil_calls F C G P id w)
  have HVA := Lib.hid (fun B w h => verifyArg_calls F C G P B ⟨#[107]⟩ s w h)
  have HRQ := Lib.hid (fun w => requestNil_calls s w)
  have HAK := Lib.hid (fun w => askNil_calls s w)
  have HRC := Lib.hid (fun w => receiveNil_calls s w)
  have HWT := Lib.hid (fun w => waitsNil_calls w)
  have HAN := Lib.hid (fun w => answersNil_calls w)
  have HTK := Lib.hid (fun w => tickNil_calls w)
  have hA0 := (Below.refl W.heap.size W).alloc (Nat.le_refl _) (.cells #[.int .i64 F, .int .i64 C, .int .i64 G, .int .i64 P] 104)
  obtain ⟨W0, hW0⟩ : ∃ W0, W0 = W.alloc (.cells #[.int .i64 F, .int .i64 C, .int .i64 G, .int .i64 P] 104) := ⟨_, rfl⟩
  have HB0 := Lib.hid (show Below W.heap.size W W0 by rw [hW0]; exact hA0)
  have HX0 := Lib.hid (show Box W0 W.heap.size #[.int .i64 F, .int .i64 C, .int .i64 G, .int .i64 P] 104 by rw [hW0]; exact Box.new W _ _)
  have HWW := Lib.hid hW0
  have hz0 := HB0.out.size
  have hW0z : W.heap.size < W0.heap.size := HX0.out.lt
  clear hA0 hW0 hok
  go_enter Try.func30, Try.ntmps30
  go_wp2_with fail
  rw [← HWW.out]
  refine (HN.out _).mono ?_
  rintro e w1 ⟨b, t, m, n, rfl, hb1, hk1, hb, ht, hm, hn⟩
  have HB1 := Lib.hid (HB0.out.trans (hb1.mono hz0))
  have hz1 := HB1.out.size
  have HK1 := Lib.hid hk1
  have HX1 := Lib.hid (HX0.out.call hb1)
  clear hb1
  obtain ⟨k0, k1, k2, k3, -⟩ := Box.facts4 HX1.out
  have HNW1 := Lib.hid (HNW.out b t m n w1 hk1)
  have hWm : W.heap.size ≠ m := by omega
  have hW1 : W.heap.size < w1.heap.size := HX1.out.lt
  clear hk1
  have HCF := Lib.hid (fun e => (show fitsC F C G P = false ∨ fitsC F C G P = true from e))
  have HVN := Lib.hid (fun (T : List ByteArray) w hb hT (h : fitsC F C G P = true) => by
    obtain ⟨f, hf, hf4⟩ := fits_nat h
    have := verifyNo_calls f C G P b t m n T [] ⟨#[107]⟩ s (if (ofSg s).2 ≠ 0 then (ofSg s).2 else 30) w hb hT (by decide) hs (by rw [← hf]; exact h) hf4 (ver_none' _ _) (by by_cases h : (ofSg s).2 = 0 <;> simp [h])
    rw [← hf] at this
    exact this)
  obtain ⟨cdv, hcdv⟩ : ∃ c, c = (if (ofSg s).2 ≠ 0 then (ofSg s).2 else 30) := ⟨_, rfl⟩
  rw [← hcdv] at HVN
  have HF := Lib.hid (show fitsC F C G P = (decide (1 ≤ F) && (decide (F ≤ 4) && (decide (1 ≤ C) && (decide (C ≤ 16) && (decide (1 ≤ G) && (decide (G ≤ 4) && (decide (1 ≤ P) && decide (P ≤ 64)))))))) from rfl)
  obtain ⟨d1, h1⟩ : ∃ d, d = decide (1 ≤ F) := ⟨_, rfl⟩
  obtain ⟨d2, h2⟩ : ∃ d, d = decide (F ≤ 4) := ⟨_, rfl⟩
  obtain ⟨d3, h3⟩ : ∃ d, d = decide (1 ≤ C) := ⟨_, rfl⟩
  obtain ⟨d4, h4⟩ : ∃ d, d = decide (C ≤ 16) := ⟨_, rfl⟩
  obtain ⟨d5, h5⟩ : ∃ d, d = decide (1 ≤ G) := ⟨_, rfl⟩
  obtain ⟨d6, h6⟩ : ∃ d, d = decide (G ≤ 4) := ⟨_, rfl⟩
  obtain ⟨d7, h7⟩ : ∃ d, d = decide (1 ≤ P) := ⟨_, rfl⟩
  obtain ⟨d8, h8⟩ : ∃ d, d = decide (P ≤ 64) := ⟨_, rfl⟩
  rw [← h1, ← h2, ← h3, ← h4, ← h5, ← h6, ← h7, ← h8] at HF
  have g1 := h1.symm
  have g2 := h2.symm
  have g3 := h3.symm
  have g4 := h4.symm
  have g5 := h5.symm
  have g6 := h6.symm
  have g7 := h7.symm
  have g8 := h8.symm
  obtain ⟨d9, h9⟩ : ∃ d, d = decide (0 ≤ id) := ⟨_, rfl⟩
  obtain ⟨d10, h10⟩ : ∃ d, d = decide (id < C) := ⟨_, rfl⟩
  have g9 := h9.symm
  have g10 := h10.symm
  rw [← h9, ← h10, HF.out] at HNW1
  clear h1 h2 h3 h4 h5 h6 h7 h8 h9 h10 hcdv HNW
  cases d1
  case' true => cases d2
  case' true.true => cases d3
  case' true.true.true => cases d4
  case' true.true.true.true => cases d5
  case' true.true.true.true.true => cases d6
  case' true.true.true.true.true.true => cases d7
  case' true.true.true.true.true.true.true => cases d8
  case' true.true.true.true.true.true.true.true => cases d9
  case' true.true.true.true.true.true.true.true.true => cases d10
  all_goals simp only [Bool.and_true, Bool.and_false, Bool.false_and, Bool.true_and] at HF HNW1
  all_goals
    go_wp2_with fail
    refine HNW1.out.mono ?_
    rintro e w2 ⟨T2, e2, l2, ch2, hor⟩
    have hc2 : ∃ (B : Option Addr) (ec : Int), e = .returned (.tuple #[.pointer B, .int .i64 ec]) ∧ Bk w2 b t m n T2 [] := by
      rcases hor with ⟨-, x, g, rfl, -, -, hcs⟩ | ⟨-, rfl, hk⟩
      · exact ⟨some ⟨x, 0, none⟩, 0, rfl, hcs.bk⟩
      · exact ⟨none, 1, rfl, hk⟩
    have HK2 := Lib.hid hc2.choose_spec.choose_spec.2
    have HC2 := Lib.hid ((Ch.of_below (S := fun _ => False) HB1.out).step ch2 hz1 (fun i hi e => by omega))
    have HX2 := Lib.hid (Box.ch HX1.out ch2 hW1 hWm)
    have hz2 := HC2.out.size
    have hT2 : T2.length ≤ 100000000 := by simp at l2; omega
    clear hc2 ch2 e2
    rcases hor with ⟨hq, x, g, rfl, -⟩ | ⟨hq, rfl, -⟩
    all_goals cases hq
    all_goals
      clear k0 k1 k2 k3
      obtain ⟨k0, k1, k2, k3, -⟩ := Box.facts4 HX2.out
  all_goals go_wp2_with fail
  all_goals
    first
      | (refine (HVA.out (some ⟨b, 0, none⟩) w2 (.inl HF.out)).mono ?_
         rintro e w3 ⟨rfl, hb3⟩
         have hc3 := Ch.of_below (S := (· = m)) hb3
         clear hb3)
      | (refine (HVN.out T2 w2 HK2.out hT2 HF.out).mono ?_
         rintro e w3 ⟨rfl, T3, e3, l3, hc3, hk3⟩
         clear e3 hk3)
    obtain ⟨W3, hW3⟩ : ∃ W3, W3 = w3.alloc (.cells #[.int .i64 0, .string ⟨#[]⟩, .bool false] 149) := ⟨_, rfl⟩
    have HC3 := Lib.hid (show Ch W.heap.size (fun _ => False) W W3 by rw [hW3]; exact (HC2.out.step hc3 hz2 (fun i hi e => by omega)).alloc (by have := hc3.size; omega) _)
    have HX3 := Lib.hid (show Box W3 W.heap.size #[.int .i64 F, .int .i64 C, .int .i64 G, .int .i64 P] 104 by rw [hW3]; exact (Box.ch HX2.out hc3 HX2.out.lt hWm).alloc _)
    have hz3 := HC3.out.size
    have hWW3 := Lib.hid hW3
    clear hc3 k0 k1 k2 k3
    obtain ⟨k0, k1, k2, k3, -⟩ := Box.facts4 HX3.out
    rw [hW3] at k0 k1 k2 k3
    clear hW3
    go_wp2_with fail
    rw [← hWW3.out] at *
    refine (HNN.out _).mono ?_
    rintro e w4 ⟨rfl, hb4⟩
    have HC4 := Lib.hid (HC3.out.step (Ch.of_below (S := fun _ => False) hb4) hz3 (fun _ _ e => e))
    have HX4 := Lib.hid (HX3.out.call hb4)
    have hz4 := HC4.out.size
    clear hb4 k0 k1 k2 k3
    obtain ⟨k0, k1, k2, k3, -⟩ := Box.facts4 HX4.out
    go_wp2_with fail
    refine (HVA.out none _ (.inr rfl)).mono ?_
    rintro e w5 ⟨rfl, hb5⟩
    have HC5 := Lib.hid ((HC4.out.step (Ch.of_below (S := fun _ => False) hb5) hz4 (fun _ _ e => e)).alloc (by have := hb5.size; omega) (.cells #[.int .i64 0, .string ⟨#[]⟩, .bool false] 149))
    have hz5 := HC5.out.size
    clear hb5 k0 k1 k2 k3
    go_wp2_with fail
    refine (HRQ.out _).mono ?_
    rintro e wx ⟨rfl, hwx⟩
    obtain rfl := hwx.symm
    go_wp2_with fail
    refine (HAK.out _).mono ?_
    rintro e wx ⟨rfl, hwx⟩
    obtain rfl := hwx.symm
    go_wp2_with fail
    refine (HRC.out _).mono ?_
    rintro e wx ⟨rfl, hwx⟩
    obtain rfl := hwx.symm
    go_wp2_with fail
    refine (HWT.out _).mono ?_
    rintro e wx ⟨rfl, hwx⟩
    obtain rfl := hwx.symm
    go_wp2_with fail
    refine (HAN.out _).mono ?_
    rintro e wx ⟨rfl, hwx⟩
    obtain rfl := hwx.symm
    go_wp2_with fail
    refine (HTK.out _).mono ?_
    rintro e wx ⟨rfl, hwx⟩
    obtain rfl := hwx.symm
    go_wp2_with fail
    refine (HAW.out _).mono ?_
    rintro e wb ⟨rfl, hbb⟩
    go_wp2
    go_ret
    exact ⟨rfl, (HC5.out.step (Ch.of_below (S := fun _ => False) hbb) hz5 (fun _ _ e => e)).below (fun _ _ e => e)⟩
end Go.Proofs.Ytfgpchffkpomoaa
