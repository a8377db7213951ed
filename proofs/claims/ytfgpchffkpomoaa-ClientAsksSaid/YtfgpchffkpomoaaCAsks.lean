/- A key is asked for by a signed message to all, if it may be one: the walk. -/
import Derived.Test.YtfgpchffkpomoaaAsk
import Derived.Test.YtfgpchffkpomoaaPk28
namespace Go.Proofs.Ytfgpchffkpomoaa
set_option linter.unusedSimpArgs false
set_option linter.unusedVariables false
open Go.RowKit

set_option maxHeartbeats 8000000 in
set_option maxRecDepth 100000 in
theorem clientAsks_calls (id : Int) (key : ByteArray) (W : World) : Calls Try.prog 24 #[.int .i64 id, .string key] W (fun e w' => e = .returned (.bool true) ∧ Below W.heap.size W w') := by
  have HN := Lib.hid (newBook_calls W)
  have HC := Lib.hid (fun w => config_calls 0 w)
  rw [faults0] at HC
  have HAW := Lib.hid (fun w => awake12_calls w)
  have HAR := Lib.hid (fun w => around12_calls id 3 w (by decide) (by decide))
  unfold RndPost at HAR
  have hr := rnd_lt id (m := 3) (by decide)
  obtain ⟨k, hk⟩ : ∃ k, k = rnd id 3 := ⟨_, rfl⟩
  rw [← hk] at HAR hr
  have HF := Lib.hid (fun w => rfits4_calls key w)
  have hwr : IntKind.i64.wrap (100 + (k : Int)) = 100 + (k : Int) := wrap_near _ (by omega) (by omega)
  clear hk
  go_enter Try.func24, Try.ntmps24
  go_wp2_with fail
  refine HN.out.mono ?_
  rintro e w1 ⟨b, t, m, n, rfl, hb1, hk1, hb, ht, hm, hn⟩
  have hz1 := hb1.size
  have HB1 := Lib.hid hb1
  have HK1 := Lib.hid hk1
  clear hb1 hk1
  go_wp2_with fail
  refine (HC.out _).mono ?_
  rintro e w2 ⟨rfl, hb2⟩
  have hal := (Below.refl w2.heap.size w2).alloc (Nat.le_refl _) (.cells #[.int .i64 ((1 : Nat) : Int), .int .i64 3, .int .i64 2, .int .i64 5] 104)
  have HB2 := Lib.hid ((HB1.out.trans (hb2.mono hz1)).trans (hal.mono (by have := hb2.size; omega)))
  have HK2 := Lib.hid ((HK1.out.below hb2).below hal)
  have hz2 := HB2.out.size
  have HX2 := Lib.hid (Box.new w2 #[.int .i64 ((1 : Nat) : Int), .int .i64 3, .int .i64 2, .int .i64 5] 104)
  obtain ⟨k0, k1, k2, k3, -⟩ := Box.facts4 HX2.out
  have HNW := Lib.hid (cnew_calls 1 3 2 5 (k : Int) b t m n [] [] _ HK2.out (by decide))
  rw [show (fitsC 1 3 2 5 && (decide ((0 : Int) ≤ (k : Int)) && decide ((k : Int) < 3))) = true by simp [fitsC]; omega] at HNW
  have hml := HK2.out.tm.lt
  clear hb2 hal
  go_wp2_with fail
  refine (HAR.out _).mono ?_
  rintro e wx ⟨rfl, hwx⟩
  subst hwx
  go_wp2_with fail
  refine HNW.out.mono ?_
  rintro e w3 ⟨T3, e3, l3, ch3, hor⟩
  rcases hor with ⟨-, x, g, rfl, hx, hg, hc3⟩ | ⟨hbad, -⟩
  · have HC3 := Lib.hid hc3
    have HCH3 := Lib.hid ((Ch.of_below (S := fun _ => False) HB2.out).step ch3 hz2 (fun i hi e => by omega))
    have hz3 := HCH3.out.size
    clear ch3 hc3 e3 k0 k1 k2 k3
    obtain ⟨fv, hfv⟩ : ∃ fv, fv = fitK key := ⟨_, rfl⟩
    rw [← hfv] at HF
    cases fv with
    | false =>
      have hno : ¬ (1 ≤ key.size ∧ key.size ≤ 64) := fun e => by
        unfold fitK at hfv
        rw [decide_eq_true (show 0 < key.size ∧ key.size ≤ 64 from e)] at hfv
        cases hfv
      have HASK := Lib.hid (askNo_calls x g w3.heap.size b t m n T3 [] (NewCl 1 3 2 5 (k : Int)) none 0 key w3 HC3.out hno)
      have HWT := Lib.hid (cwaits_calls x g w3.heap.size b t m n T3 [] (NewCl 1 3 2 5 (k : Int)) none 0 w3 HC3.out)
      rw [show (NewCl 1 3 2 5 (k : Int)).waits = false from rfl] at HWT
      clear hno hfv
      go_wp2_with fail
      refine HASK.out.mono ?_
      rintro e wx ⟨rfl, hwx⟩
      obtain rfl := hwx.symm
      go_wp2_with fail
      refine (HF.out _).mono ?_
      rintro e wx ⟨rfl, hwx⟩
      obtain rfl := hwx.symm
      go_wp2_with fail
      refine HWT.out.mono ?_
      rintro e wx ⟨rfl, hwx⟩
      obtain rfl := hwx.symm
      go_wp2_with fail
      refine (HAW.out _).mono ?_
      rintro e w6 ⟨rfl, hb6⟩
      go_wp2
      go_ret
      exact ⟨rfl, (HCH3.out.step (Ch.of_below (S := fun _ => False) hb6) hz3 (fun _ _ e => e)).below (fun _ _ e => e)⟩
    | true =>
      have hyes : 1 ≤ key.size ∧ key.size ≤ 64 := by unfold fitK at hfv; exact of_decide_eq_true hfv.symm
      obtain ⟨sg, S4, he4, hsd4, hl4⟩ := ask_said (S := []) (who := 100 + (k : Int)) (client := (k : Int)) (text := key) (by omega) (by omega) hyes.2
      have HASK := Lib.hid (ask_calls x g w3.heap.size b t m n T3 [] (NewCl 1 3 2 5 (k : Int)) none 0 key sg S4 1 w3 HC3.out (by decide) (by show 0 ≤ (k : Int) ∧ (k : Int) ≤ 15; omega) hyes rfl (by decide) he4 hsd4.fits)
      unfold AskPost at HASK
      simp only [toAll_len] at HASK
      have HSL := Lib.hid (fun w hb => seal_calls b t m n T3 S4 (100 + (k : Int)) (askB (k : Int) key) none 0 w hb (by simp at hl4; omega) (sgs_nil w))
      unfold SealPost at HSL
      rw [seal_again (by omega) he4] at HSL
      simp only at HSL
      have hfb := (fitsB_iff sg).1 hsd4.fits
      have HO := Lib.hid (fun w => rOne_calls sg w hfb.1 (by omega) (by omega) (by omega))
      unfold StrPost at HO
      obtain ⟨who2, body, sig⟩ := sg
      unfold Sg.val at *
      unfold askB Bd.val Bd.cells at HSL
      simp only [List.length_nil] at *
      obtain ⟨out, hout⟩ : ∃ o, o = bs (putSg ⟨who2, body, sig⟩) := ⟨_, rfl⟩
      rw [← hout] at HO HASK
      clear he4 hsd4 hfb hout hfv hyes
      go_wp2_with fail
      refine HASK.out.mono ?_
      rintro e w4 ⟨LA, lc, rfl, hc4, ch4, ho4⟩
      have HC4 := Lib.hid hc4
      have HO4 := Lib.hid ho4
      have HCH4 := Lib.hid (HCH3.out.step ch4 hz3 (fun i hi e => by omega))
      have hz4 := HCH4.out.size
      have hn4 := hc4.bk.wm.lt
      have hlt4 := hc4.lt
      clear hc4 ch4 ho4
      go_wp2_with fail
      refine (HF.out _).mono ?_
      rintro e wx ⟨rfl, hwx⟩
      obtain rfl := hwx.symm
      go_wp2_with fail
      refine (HSL.out _ HC4.out.bk).mono ?_
      rintro e w5 ⟨rfl, hc5, hk5⟩
      have hal5 := (Below.refl w5.heap.size w5).alloc (Nat.le_refl _) (.cells #[.int .i64 who2, .string body, .string sig] 61)
      have hne := HC4.out.ne
      have HC5 := Lib.hid ((HC4.out.sign hc5 (Nat.le_refl _) ⟨by omega, by omega, fun k h1 h2 => by omega⟩ hk5).below hal5)
      have HO5 := Lib.hid (own_ch (own_ch HO4.out hc5 (fun k hk => ⟨(own_row HO4.out hk).2, by have := (own_row HO4.out hk).1; omega⟩)) (Ch.of_below (S := fun _ => False) hal5) (fun k hk => ⟨by have := (own_row HO4.out hk).2; have := hc5.size; omega, fun e => e⟩))
      have HCH5 := Lib.hid ((HCH4.out.step hc5 hz4 (fun i hi e => by omega)).step (Ch.of_below (S := fun _ => False) hal5) (by have := hc5.size; omega) (fun _ _ e => e))
      have hz5 := HCH5.out.size
      clear hc5 hk5 hal5
      go_wp2_with fail
      refine (HO.out _).mono ?_
      rintro e w6 ⟨rfl, hb6⟩
      have HC6 := Lib.hid (HC5.out.below hb6)
      have HO6 := Lib.hid (own_ch HO5.out (Ch.of_below (S := fun _ => False) hb6) (fun k hk => ⟨(own_row HO5.out hk).2, fun e => e⟩))
      have HCH6 := Lib.hid (HCH5.out.step (Ch.of_below (S := fun _ => False) hb6) hz5 (fun _ _ e => e))
      have hz6 := HCH6.out.size
      have HSN := Lib.hid (sent_calls LA lc _ 1 out w6 HO6.out (by decide))
      have HWT := Lib.hid (cwaits_calls x g w3.heap.size b t m n T3 S4 (NewCl 1 3 2 5 (k : Int)) none 0 w6 HC6.out)
      rw [show (NewCl 1 3 2 5 (k : Int)).waits = false from rfl] at HWT
      clear hb6
      go_wp2_with fail
      refine HSN.out.mono ?_
      rintro e wx ⟨rfl, hwx⟩
      obtain rfl := hwx.symm
      go_wp2_with fail
      refine HWT.out.mono ?_
      rintro e wx ⟨rfl, hwx⟩
      obtain rfl := hwx.symm
      go_wp2_with fail
      refine (HAW.out _).mono ?_
      rintro e w7 ⟨rfl, hb7⟩
      go_wp2
      go_ret
      exact ⟨rfl, (HCH6.out.step (Ch.of_below (S := fun _ => False) hb7) hz6 (fun _ _ e => e)).below (fun _ _ e => e)⟩
  · cases hbad
end Go.Proofs.Ytfgpchffkpomoaa
