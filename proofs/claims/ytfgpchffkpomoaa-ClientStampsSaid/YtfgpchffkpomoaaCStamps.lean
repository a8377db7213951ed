/- Stamps rise one by one, answer by answer: the walk. -/
import Derived.Test.YtfgpchffkpomoaaAwake12
import Derived.Test.YtfgpchffkpomoaaPk19
namespace Go.Proofs.Ytfgpchffkpomoaa
set_option linter.unusedSimpArgs false
set_option linter.unusedVariables false
open Go.RowKit

def st3 (y : Cl) (s : ByteArray) : Cl := { askedCl y s with told := [(0, txR)] }
def st4 (y : Cl) (s : ByteArray) : Cl := { askedCl y s with told := [(0, txR), (3, txR)], waits := false, ans := y.ans ++ [⟨y.stamp + 1, txR⟩] }
section
variable {y : Cl} {s : ByteArray} {k : Int}
theorem stamps1 (hF : y.F = 1) (hk : y.stamp = k) : hears (askedCl y s) 0 2 (k + 1 + 1) txR = (false, askedCl y s) := by
  have h : ¬ (k + 1 + 1 = k + 1) := by omega
  unfold hears hearE askedCl cliB
  simp [hF, hk, h]
theorem stamps2 (hF : y.F = 1) (hi : y.id = 2) : hears (askedCl y s) 0 1 (k + 1) txR = (false, askedCl y s) := by
  unfold hears hearE askedCl cliB
  simp [hF, hi]
theorem stamps3 (hF : y.F = 1) (hi : y.id = 2) (hk : y.stamp = k) : hears (askedCl y s) 0 2 (k + 1) txR = (true, st3 y s) := by
  unfold hears hearE st3 askedCl cliB
  simp [hF, hi, hk, alike]
theorem stamps4 (hF : y.F = 1) (hi : y.id = 2) (hk : y.stamp = k) : hears (st3 y s) 3 2 (k + 1) txR = (true, st4 y s) := by
  unfold hears hearE st3 st4 askedCl cliB
  simp [hF, hi, hk, alike]
theorem stamps5 : hears (st4 y s) 1 2 (k + 1) txR = (false, st4 y s) := by
  unfold hears st4
  simp
end
/-- So many answers, each to its stamp. -/
def ansR (k : Nat) : List An := (List.range k).map (fun (i : Nat) => ⟨(i : Int) + 1, txR⟩)
theorem ansR_len (k : Nat) : (ansR k).length = k := by simp [ansR]
theorem ansR_snoc (k : Nat) : ansR (k + 1) = ansR k ++ [⟨(k : Int) + 1, txR⟩] := by
  unfold ansR; rw [List.range_succ, List.map_append]; rfl
theorem ansR_last (k : Nat) : ((ansR (k + 1)).flatMap An.cells)[k * 2]? = some (.int .i64 ((k : Int) + 1)) := by
  have e : (ansR (k + 1))[k]? = some ⟨(k : Int) + 1, txR⟩ := by unfold ansR; rw [List.getElem?_map, List.getElem?_range (by omega)]; rfl
  obtain ⟨hl, e2⟩ := List.getElem?_eq_some_iff.1 e
  have h0 := flat_get An.cells 2 An.cells_len (ansR (k + 1)) k 0 hl (by decide)
  rw [e2] at h0
  exact h0

set_option maxHeartbeats 16000000 in
set_option maxRecDepth 100000 in
theorem clientStamps_calls (Z : Option Addr) (zc : Nat) (l : List ByteArray) (W : World) (hs : TxS W Z zc l) : Calls Try.prog 22 #[.slice Z l.length zc] W (fun e w' => e = .returned (.bool true) ∧ Below W.heap.size W w') := by
  have HN := Lib.hid (newBook_calls W)
  have HCF := Lib.hid (fun w => config_calls 0 w)
  rw [faults0] at HCF
  have HAW := Lib.hid (fun w => awake12_calls w)
  have HS := Lib.hid hs
  have hfit := Sl.fits hs
  clear hs
  go_enter Try.func22, Try.ntmps22
  go_wp2_with fail
  refine HN.out.mono ?_
  rintro e w1 ⟨b, t, m, n, rfl, hb1, hk1, hb, ht, hm, hn⟩
  have hz1 := hb1.size
  have HB1 := Lib.hid hb1
  have HK1 := Lib.hid hk1
  clear hb1 hk1
  go_wp2_with fail
  refine (HCF.out _).mono ?_
  rintro e w2 ⟨rfl, hb2⟩
  have HB2 := Lib.hid (HB1.out.trans (hb2.mono hz1))
  have HK2 := Lib.hid (HK1.out.below hb2)
  have hz2 := HB2.out.size
  have HNW := Lib.hid (cnew_calls 1 3 2 5 2 b t m n [] [] w2 HK2.out (by decide))
  rw [show (fitsC 1 3 2 5 && (decide ((0 : Int) ≤ 2) && decide ((2 : Int) < 3))) = true by decide] at HNW
  have hml := HK2.out.tm.lt
  clear hb2
  go_wp2_with fail
  refine HNW.out.mono ?_
  rintro e w3 ⟨T, e3, l3, ch3, hor⟩
  rcases hor with ⟨-, x, g, rfl, hx, hg, hc3⟩ | ⟨hbad, -⟩
  rotate_left
  · cases hbad
  have HCH3 := Lib.hid ((Ch.of_below (S := fun _ => False) HB2.out).step ch3 hz2 (fun i hi e => by omega))
  have hz3 := HCH3.out.size
  have HC3 := Lib.hid hc3
  obtain ⟨K, hK⟩ : ∃ K, K = w3.heap.size := ⟨_, rfl⟩
  rw [← hK] at HC3
  have hKW : W.heap.size ≤ K := by omega
  clear ch3 hc3 e3 hK
  go_wp2_with fail
  go_loopg [6, 7] 40 (fun gk v6 v7 wr => ∃ (i k : Nat) (S : List Wd) (y : Cl) (A : Option Addr) (c : Nat), v6 = .int .i64 k ∧ v7 = .int .i64 i ∧ i ≤ 40 ∧ i ≤ l.length ∧ Hid (gk + i = 40 ∧ k ≤ i ∧ S.length ≤ 6 * i ∧ y.F = 1 ∧ y.id = 2 ∧ y.stamp = (k : Int) ∧ y.waits = false ∧ y.ans = ansR k ∧ CS wr x g K b t m n T S y A c ∧ Ch W.heap.size (fun _ => False) W wr))
  case atStart => exact ⟨0, 0, [], NewCl 1 3 2 5 2, none, 0, rfl, rfl, by omega, by omega, by omega, by omega, by simp, rfl, rfl, rfl, rfl, rfl, HC3.out, HCH3.out⟩
  case round =>
    obtain ⟨i, k, S, y, A, c, rfl, rfl, hi40, hil, HH⟩ := hrel
    obtain ⟨hgk, hki, hSl, hF, hid, hst, hwt, han, hcs, hch⟩ := HH.out
    have HGK := Lib.hid hgk
    have HFF := Lib.hid hF
    have HID := Lib.hid hid
    have HST := Lib.hid hst
    have HAN := Lib.hid han
    have HWT := Lib.hid hwt
    have HCr := Lib.hid hcs
    have HCHr := Lib.hid hch
    have hzr := hch.size
    clear HH hgk hF hid hst hwt han hcs hch HC3 HCH3
    by_cases hlt : i < l.length ∧ i < 40
    · obtain ⟨hlt1, hlt2⟩ := hlt
      have hd1 : decide ((i : Int) < (l.length : Int)) = true := by simp; omega
      have hd2 : decide ((i : Int) < 40) = true := by simp; omega
      obtain ⟨a, rfl, e0⟩ := (HS.out.below (HCHr.out.below (fun _ _ e => e))).elem i hlt1
      obtain ⟨op, hop⟩ : ∃ o, o = l[i] := ⟨_, rfl⟩
      rw [← hop] at e0
      clear hop
      by_cases hbig : 256 < op.size
      · have hd3 : decide ((256 : Int) < (op.size : Int)) = true := by simp; omega
        go_wp2_with fail
        go_roundg (gk - 1)
        case measure => have := HGK.out; omega
        case rel => exact ⟨i + 1, k, S, y, A, c, rfl, by go_num, by omega, by omega, by have := HGK.out; omega, by omega, by omega, HFF.out, HID.out, HST.out, HWT.out, HAN.out, HCr.out, HCHr.out⟩
      have hd3 : decide ((256 : Int) < (op.size : Int)) = false := by simp; omega
      have hwr : IntKind.i64.wrap ((k : Int) + 1) = (k : Int) + 1 := wrap_near _ (by omega) (by omega)
      have hwr2 : IntKind.i64.wrap ((k : Int) + 1 + 1) = (k : Int) + 1 + 1 := wrap_near _ (by omega) (by omega)
      obtain ⟨sg, S4, he4, hsd4, hl4⟩ := request_said (S := S) (who := 102) (client := 2) (stamp := (k : Int) + 1) (text := op) (by decide) (by decide) (by omega) (by omega)
      have HRQ := Lib.hid (request_calls x g K b t m n T S y A c op sg S4 1 wr HCr.out (by omega) (by rw [HID.out]; decide) (by rw [HST.out]; omega) (by omega) HWT.out HFF.out (by decide) (by rw [HID.out, HST.out]; exact he4) hsd4.fits)
      unfold ReqPost at HRQ
      simp only [toAll_len] at HRQ
      obtain ⟨out, hout⟩ : ∃ o, o = bs (putSg sg) := ⟨_, rfl⟩
      rw [← hout] at HRQ
      clear he4 hsd4 hout
      go_wp2_with fail
      refine HRQ.out.mono ?_
      rintro e w4 ⟨LA, lc, rfl, hc4, ch4, -⟩
      obtain ⟨A4, hA4⟩ : ∃ A4, A4 = A := ⟨_, rfl⟩
      obtain ⟨c4, hcc⟩ : ∃ c4, c4 = c := ⟨_, rfl⟩
      have HC4 := Lib.hid (show CS w4 x g K b t m n T S4 (askedCl y out) A4 c4 by rw [hA4, hcc]; exact hc4)
      have HCH4 := Lib.hid (HCHr.out.step ch4 hzr (fun i hi e => by omega))
      have hz4 := HCH4.out.size
      have hal : y.ans.length = k := by rw [HAN.out, ansR_len]
      have hF1 : y.F = ((1 : Nat) : Int) := HFF.out
      clear hc4 ch4 hA4 hcc
      obtain ⟨s1, S5, hl5, hR1, hV1⟩ := hear_both x g K b t m n T S4 (askedCl y out) A4 c4 0 2 ((k : Int) + 1 + 1) txR 1 w4 HC4.out (by omega) (by omega) (by omega) (by omega) (by decide) hF1 (by decide) (show (0 : Nat) ≤ 1000 by omega) (show y.ans.length ≤ 100000 by omega)
      rw [stamps1 HFF.out HST.out] at hV1
      have HR1 := Lib.hid hR1
      have HV1 := Lib.hid hV1
      clear hR1 hV1
      go_wp2_with fail
      refine HR1.out.mono ?_
      rintro e w5 ⟨rfl, hc5, ch5⟩
      have HC5 := Lib.hid hc5
      have HCH5 := Lib.hid (HCH4.out.step ch5 hz4 (fun i hi e => by omega))
      have hz5 := HCH5.out.size
      clear hc5 ch5
      go_wp2_with fail
      refine (HV1.out _ HC5.out).mono ?_
      rintro e w6 ⟨A6, c6, rfl, hc6, ch6, -⟩
      have HC6 := Lib.hid hc6
      have HCH6 := Lib.hid (HCH5.out.step ch6 hz5 (fun i hi e => by
        rcases e with e | e | e
        · omega
        · omega
        · have := (HC5.out.row e).1; omega))
      have hz6 := HCH6.out.size
      clear hc6 ch6
      obtain ⟨s2, S6, hl6, hR2, hV2⟩ := hear_both x g K b t m n T S5 (askedCl y out) A6 c6 0 1 ((k : Int) + 1) txR 1 w6 HC6.out (by omega) (by omega) (by omega) (by omega) (by decide) hF1 (by decide) (show (0 : Nat) ≤ 1000 by omega) (show y.ans.length ≤ 100000 by omega)
      rw [stamps2 HFF.out HID.out] at hV2
      have HR2 := Lib.hid hR2
      have HV2 := Lib.hid hV2
      clear hR2 hV2
      go_wp2_with fail
      refine HR2.out.mono ?_
      rintro e w7 ⟨rfl, hc7, ch7⟩
      have HC7 := Lib.hid hc7
      have HCH7 := Lib.hid (HCH6.out.step ch7 hz6 (fun i hi e => by omega))
      have hz7 := HCH7.out.size
      clear hc7 ch7
      go_wp2_with fail
      refine (HV2.out _ HC7.out).mono ?_
      rintro e w8 ⟨A8, c8, rfl, hc8, ch8, -⟩
      have HC8 := Lib.hid hc8
      have HCH8 := Lib.hid (HCH7.out.step ch8 hz7 (fun i hi e => by
        rcases e with e | e | e
        · omega
        · omega
        · have := (HC7.out.row e).1; omega))
      have hz8 := HCH8.out.size
      clear hc8 ch8
      obtain ⟨s3, S7, hl7, hR3, hV3⟩ := hear_both x g K b t m n T S6 (askedCl y out) A8 c8 0 2 ((k : Int) + 1) txR 1 w8 HC8.out (by omega) (by omega) (by omega) (by omega) (by decide) hF1 (by decide) (show (0 : Nat) ≤ 1000 by omega) (show y.ans.length ≤ 100000 by omega)
      rw [stamps3 HFF.out HID.out HST.out] at hV3
      have HR3 := Lib.hid hR3
      have HV3 := Lib.hid hV3
      clear hR3 hV3
      go_wp2_with fail
      refine HR3.out.mono ?_
      rintro e w9 ⟨rfl, hc9, ch9⟩
      have HC9 := Lib.hid hc9
      have HCH9 := Lib.hid (HCH8.out.step ch9 hz8 (fun i hi e => by omega))
      have hz9 := HCH9.out.size
      clear hc9 ch9
      go_wp2_with fail
      refine (HV3.out _ HC9.out).mono ?_
      rintro e w10 ⟨A10, c10, rfl, hc10, ch10, -⟩
      have HC10 := Lib.hid hc10
      have HCH10 := Lib.hid (HCH9.out.step ch10 hz9 (fun i hi e => by
        rcases e with e | e | e
        · omega
        · omega
        · have := (HC9.out.row e).1; omega))
      have hz10 := HCH10.out.size
      clear hc10 ch10
      obtain ⟨s4, S8, hl8, hR4, hV4⟩ := hear_both x g K b t m n T S7 (st3 y out) A10 c10 3 2 ((k : Int) + 1) txR 1 w10 HC10.out (by omega) (by omega) (by omega) (by omega) (by decide) hF1 (by decide) (show (1 : Nat) ≤ 1000 by omega) (show y.ans.length ≤ 100000 by omega)
      rw [stamps4 HFF.out HID.out HST.out] at hV4
      have HR4 := Lib.hid hR4
      have HV4 := Lib.hid hV4
      clear hR4 hV4
      go_wp2_with fail
      refine HR4.out.mono ?_
      rintro e w11 ⟨rfl, hc11, ch11⟩
      have HC11 := Lib.hid hc11
      have HCH11 := Lib.hid (HCH10.out.step ch11 hz10 (fun i hi e => by omega))
      have hz11 := HCH11.out.size
      clear hc11 ch11
      go_wp2_with fail
      refine (HV4.out _ HC11.out).mono ?_
      rintro e w12 ⟨A12, c12, rfl, hc12, ch12, -⟩
      have HC12 := Lib.hid hc12
      have HCH12 := Lib.hid (HCH11.out.step ch12 hz11 (fun i hi e => by
        rcases e with e | e | e
        · omega
        · omega
        · have := (HC11.out.row e).1; omega))
      have hz12 := HCH12.out.size
      clear hc12 ch12
      obtain ⟨s5, S9, hl9, hR5, hV5⟩ := hear_both x g K b t m n T S8 (st4 y out) A12 c12 1 2 ((k : Int) + 1) txR 1 w12 HC12.out (by omega) (by omega) (by omega) (by omega) (by decide) hF1 (by decide) (show (2 : Nat) ≤ 1000 by omega) (show (y.ans ++ [(⟨y.stamp + 1, txR⟩ : An)]).length ≤ 100000 by rw [List.length_append, hal]; simp; omega)
      rw [stamps5] at hV5
      have HR5 := Lib.hid hR5
      have HV5 := Lib.hid hV5
      clear hR5 hV5
      go_wp2_with fail
      refine HR5.out.mono ?_
      rintro e w13 ⟨rfl, hc13, ch13⟩
      have HC13 := Lib.hid hc13
      have HCH13 := Lib.hid (HCH12.out.step ch13 hz12 (fun i hi e => by omega))
      have hz13 := HCH13.out.size
      clear hc13 ch13
      go_wp2_with fail
      refine (HV5.out _ HC13.out).mono ?_
      rintro e w14 ⟨A14, c14, rfl, hc14, ch14, -⟩
      have HC14 := Lib.hid hc14
      have HCH14 := Lib.hid (HCH13.out.step ch14 hz13 (fun i hi e => by
        rcases e with e | e | e
        · omega
        · omega
        · have := (HC13.out.row e).1; omega))
      have hz14 := HCH14.out.size
      clear hc14 ch14
      have hans : (st4 y out).ans = ansR (k + 1) := by show y.ans ++ [⟨y.stamp + 1, txR⟩] = _; rw [HAN.out, HST.out, ansR_snoc]
      have HANS := Lib.hid (answers_calls x g K b t m n T S9 (st4 y out) A14 c14 w14 HC14.out (by rw [hans, ansR_len]; omega))
      unfold AnsPost at HANS
      rw [hans] at HANS
      simp only [ansR_len] at HANS
      go_wp2_with fail
      refine HANS.out.mono ?_
      rintro e w15 ⟨A15, c15, rfl, hb15, ho15⟩
      obtain ⟨ga, rfl⟩ := own_some ho15 (by omega)
      have a0 : w15.cell? ⟨ga, k * 2, none⟩ = some (.int .i64 ((k : Int) + 1)) := by rw [ho15.cellAt (k * 2) (by omega), ansR_last]
      have HC15 := Lib.hid (HC14.out.below hb15)
      have HCH15 := Lib.hid (HCH14.out.step (Ch.of_below (S := fun _ => False) hb15) hz14 (fun _ _ e => e))
      have HANS2 := Lib.hid hans
      have hwm : IntKind.i64.wrap ((k : Int) + 1 - 1) = (k : Int) := by rw [Int.add_sub_cancel]; exact wrap_near _ (by omega) (by omega)
      have hk0 : (0 : Int) ≤ (k : Int) := by omega
      have hk1 : (k : Int) < (k : Int) + 1 := by omega
      clear hb15 ho15 hans hal hF1
      go_wp2_with fail
      go_roundg (gk - 1)
      case measure => have := HGK.out; omega
      case rel => exact ⟨i + 1, k + 1, S9, st4 y out, A14, c14, by simp, by go_num, by omega, by omega, by have := HGK.out; omega, by omega, by omega, HFF.out, HID.out, by show y.stamp + 1 = _; rw [HST.out]; omega, rfl, HANS2.out, HC15.out, HCH15.out⟩
    · have hend : ¬ i < l.length ∨ (i < l.length ∧ ¬ i < 40) := by omega
      rcases hend with h1 | ⟨h1, h2⟩
      all_goals first
        | (have hd1 : decide ((i : Int) < (l.length : Int)) = false := by simp; omega)
        | (have hd1 : decide ((i : Int) < (l.length : Int)) = true := by simp; omega
           have hd2 : decide ((i : Int) < 40) = false := by simp; omega)
      all_goals
        go_wp2_with fail
        refine (HAW.out _).mono ?_
        rintro e wb ⟨rfl, hbb⟩
        go_wp2
        go_ret
        exact ⟨rfl, (HCHr.out.step (Ch.of_below (S := fun _ => False) hbb) hzr (fun _ _ e => e)).below (fun _ _ e => e)⟩
end Go.Proofs.Ytfgpchffkpomoaa
