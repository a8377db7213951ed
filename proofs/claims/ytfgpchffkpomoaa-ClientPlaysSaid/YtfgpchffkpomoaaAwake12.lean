/- Chapter 12's example: the walk through awake. -/
import Derived.Test.YtfgpchffkpomoaaHear
namespace Go.Proofs.Ytfgpchffkpomoaa
set_option linter.unusedSimpArgs false
set_option linter.unusedVariables false
open Go.RowKit

theorem rnd0 : rnd 0 4 = 0 := by decide
theorem faults0 : faultsN 0 = 1 := by unfold faultsN; rw [rnd0]
def txR : ByteArray := ⟨#[114]⟩
def txLie : ByteArray := ⟨#[108, 105, 101]⟩
/-- The client of the example behind its request, and behind each reply. -/
def aw0 (s : ByteArray) : Cl := askedCl (NewCl 1 3 2 5 1) s
def aw1 (s : ByteArray) : Cl := { aw0 s with told := [(0, txR)] }
def aw2 (s : ByteArray) : Cl := { aw0 s with told := [(0, txR), (1, txLie)] }
def aw3 (s : ByteArray) : Cl := { aw0 s with told := [(0, txR), (1, txLie), (2, txR)], waits := false, ans := [⟨1, txR⟩] }
theorem hears1 (s : ByteArray) : hears (aw0 s) 0 1 1 txR = (true, aw1 s) := by
  unfold hears hearE aw0 askedCl NewCl aw1 cliB
  simp [alike, aw0, askedCl, NewCl]
theorem hears2 (s : ByteArray) : hears (aw1 s) 0 1 1 txR = (false, aw1 s) := by
  unfold hears hearE aw1 aw0 askedCl NewCl cliB
  simp
theorem hears3 (s : ByteArray) : hears (aw1 s) 1 1 1 txLie = (true, aw2 s) := by
  unfold hears hearE aw1 aw2 aw0 askedCl NewCl cliB
  have h : txR ≠ txLie := by decide
  simp [alike, h]
theorem hears4 (s : ByteArray) : hears (aw2 s) 2 1 1 txR = (true, aw3 s) := by
  unfold hears hearE aw2 aw3 aw0 askedCl NewCl cliB
  have h : txLie ≠ txR := by decide
  simp [alike, h]

set_option maxHeartbeats 8000000 in
set_option maxRecDepth 100000 in
theorem awake12_calls (W : World) : Calls Try.prog 67 #[] W (fun e w' => e = .returned (.bool true) ∧ Below W.heap.size W w') := by
  have HN := Lib.hid (newBook_calls W)
  have HC := Lib.hid (fun w => config_calls 0 w)
  rw [faults0] at HC
  have hR : (⟨#[114]⟩ : ByteArray) = txR := rfl
  go_enter Try.func67, Try.ntmps67
  go_wp2_with fail
  refine HN.out.mono ?_
  rintro e w1 ⟨b, t, m, n, rfl, hb1, hk1, hb, ht, hm, hn⟩
  have hz1 := hb1.size
  have HB1 := Lib.hid hb1
  have HK1 := Lib.hid hk1
  clear hb1 hk1
  go_wp2_with fail
  refine (HC.out _).mono ?_
  rintro e w2 ⟨rfl, hb2⟩
  have HB2 := Lib.hid (HB1.out.trans (hb2.mono hz1))
  have HK2 := Lib.hid (HK1.out.below hb2)
  have hz2 := HB2.out.size
  have HNW := Lib.hid (cnew_calls 1 3 2 5 1 b t m n [] [] w2 HK2.out (by decide))
  rw [show (fitsC 1 3 2 5 && (decide ((0 : Int) ≤ 1) && decide ((1 : Int) < 3))) = true by decide] at HNW
  have hml := HK2.out.tm.lt
  clear hb2
  go_wp2_with fail
  refine HNW.out.mono ?_
  rintro e w3 ⟨T3, e3, l3, ch3, hor⟩
  rcases hor with ⟨-, x, g, rfl, hx, hg, hc3⟩ | ⟨hbad, -⟩
  · have HC3 := Lib.hid hc3
    have HCH3 := Lib.hid ((Ch.of_below (S := fun _ => False) HB2.out).step ch3 hz2 (fun i hi e => by omega))
    have hz3 := HCH3.out.size
    clear ch3 hc3 e3
    obtain ⟨sg, S4, he4, hsd4, hl4⟩ := request_said (S := []) (who := 101) (client := 1) (stamp := 1) (text := ⟨#[111, 112]⟩) (by decide) (by decide) (by decide) (by decide)
    have HRQ := Lib.hid (request_calls x g w3.heap.size b t m n T3 [] (NewCl 1 3 2 5 1) none 0 ⟨#[111, 112]⟩ sg S4 1 w3 HC3.out (by decide) (by decide) (by decide) (by decide) rfl rfl (by decide) he4 hsd4.fits)
    obtain ⟨out, hout⟩ : ∃ o, o = bs (putSg sg) := ⟨_, rfl⟩
    rw [← hout] at HRQ
    simp only [List.length_nil] at hl4
    clear he4 hsd4 hout
    unfold ReqPost at HRQ
    simp only [toAll_len] at HRQ
    go_wp2_with fail
    refine HRQ.out.mono ?_
    rintro e w4 ⟨LA, lc, rfl, hc4, ch4, ho4⟩
    obtain ⟨gl, rfl⟩ := own_some ho4 (by decide)
    have hcell : w4.cell? ⟨gl, 6, none⟩ = some (.int .i64 3) := by rw [ho4.cellAt 6 (by decide)]; rfl
    obtain ⟨A4, hA4⟩ : ∃ A : Option Addr, A = none := ⟨_, rfl⟩
    obtain ⟨c4, hc40⟩ : ∃ c : Nat, c = 0 := ⟨_, rfl⟩
    have HC4 := Lib.hid (show CS w4 x g w3.heap.size b t m n T3 S4 (aw0 out) A4 c4 by rw [hA4, hc40]; exact hc4)
    have HCH4 := Lib.hid (HCH3.out.step ch4 hz3 (fun i hi e => by omega))
    have hz4 := HCH4.out.size
    have HWT4 := Lib.hid (cwaits_calls x g w3.heap.size b t m n T3 S4 (aw0 out) A4 c4 w4 HC4.out)
    clear hc4 ch4 ho4 hA4 hc40
    go_wp2_with fail
    refine HWT4.out.mono ?_
    rintro e wx ⟨rfl, hwx⟩
    obtain rfl := hwx.symm
    rw [show (aw0 out).waits = true from rfl]
    obtain ⟨s1, S5, hl5, hR1, hV1⟩ := hear_both x g w3.heap.size b t m n T3 S4 (aw0 out) A4 c4 0 1 1 txR 1 w4 HC4.out (by omega) (by decide) (by decide) (by decide) (by decide) rfl (by decide) (by show List.length _ ≤ 1000; simp [aw0, aw0, askedCl]) (by show List.length _ ≤ 100000; simp [aw0, aw0, askedCl, NewCl])
    rw [hears1] at hV1
    have HR1 := Lib.hid hR1
    have HV1 := Lib.hid hV1
    clear hR1 hV1
    go_wp2_with fail
    refine HR1.out.mono ?_
    rintro e w5 ⟨rfl, hc5, ch5⟩
    have HC5 := Lib.hid hc5
    have HCH5 := Lib.hid (HCH4.out.step ch5 hz4 (fun i hi e => by omega))
    have hz5 := HCH5.out.size
    clear hc5 ch5
    go_wp2_with fail
    refine (HV1.out _ HC5.out).mono ?_
    rintro e w6 ⟨A6, c6, rfl, hc6, ch6, -⟩
    have HC6 := Lib.hid hc6
    have HCH6 := Lib.hid (HCH5.out.step ch6 hz5 (fun i hi e => by
      rcases e with e | e | e
      · omega
      · omega
      · have := (HC5.out.row e).1; omega))
    have hz6 := HCH6.out.size
    clear hc6 ch6
    obtain ⟨s2, S6, hl6, hR2, hV2⟩ := hear_both x g w3.heap.size b t m n T3 S5 (aw1 out) A6 c6 0 1 1 txR 1 w6 HC6.out (by omega) (by decide) (by decide) (by decide) (by decide) rfl (by decide) (by show List.length _ ≤ 1000; simp [aw1, aw0, askedCl]) (by show List.length _ ≤ 100000; simp [aw1, aw0, askedCl, NewCl])
    rw [hears2] at hV2
    have HR2 := Lib.hid hR2
    have HV2 := Lib.hid hV2
    clear hR2 hV2
    go_wp2_with fail
    refine HR2.out.mono ?_
    rintro e w7 ⟨rfl, hc7, ch7⟩
    have HC7 := Lib.hid hc7
    have HCH7 := Lib.hid (HCH6.out.step ch7 hz6 (fun i hi e => by omega))
    have hz7 := HCH7.out.size
    clear hc7 ch7
    go_wp2_with fail
    refine (HV2.out _ HC7.out).mono ?_
    rintro e w8 ⟨A8, c8, rfl, hc8, ch8, -⟩
    have HC8 := Lib.hid hc8
    have HCH8 := Lib.hid (HCH7.out.step ch8 hz7 (fun i hi e => by
      rcases e with e | e | e
      · omega
      · omega
      · have := (HC7.out.row e).1; omega))
    have hz8 := HCH8.out.size
    clear hc8 ch8
    obtain ⟨s3, S7, hl7, hR3, hV3⟩ := hear_both x g w3.heap.size b t m n T3 S6 (aw1 out) A8 c8 1 1 1 txLie 1 w8 HC8.out (by omega) (by decide) (by decide) (by decide) (by decide) rfl (by decide) (by show List.length _ ≤ 1000; simp [aw1, aw0, askedCl]) (by show List.length _ ≤ 100000; simp [aw1, aw0, askedCl, NewCl])
    rw [hears3] at hV3
    have HR3 := Lib.hid hR3
    have HV3 := Lib.hid hV3
    clear hR3 hV3
    go_wp2_with fail
    refine HR3.out.mono ?_
    rintro e w9 ⟨rfl, hc9, ch9⟩
    have HC9 := Lib.hid hc9
    have HCH9 := Lib.hid (HCH8.out.step ch9 hz8 (fun i hi e => by omega))
    have hz9 := HCH9.out.size
    clear hc9 ch9
    go_wp2_with fail
    refine (HV3.out _ HC9.out).mono ?_
    rintro e w10 ⟨A10, c10, rfl, hc10, ch10, -⟩
    have HC10 := Lib.hid hc10
    have HCH10 := Lib.hid (HCH9.out.step ch10 hz9 (fun i hi e => by
      rcases e with e | e | e
      · omega
      · omega
      · have := (HC9.out.row e).1; omega))
    have hz10 := HCH10.out.size
    clear hc10 ch10
    have HWT10 := Lib.hid (cwaits_calls x g w3.heap.size b t m n T3 S7 (aw2 out) A10 c10 w10 HC10.out)
    go_wp2_with fail
    refine HWT10.out.mono ?_
    rintro e wx ⟨rfl, hwx⟩
    obtain rfl := hwx.symm
    rw [show (aw2 out).waits = true from rfl]
    obtain ⟨s4, S8, hl8, hR4, hV4⟩ := hear_both x g w3.heap.size b t m n T3 S7 (aw2 out) A10 c10 2 1 1 txR 1 w10 HC10.out (by omega) (by decide) (by decide) (by decide) (by decide) rfl (by decide) (by show List.length _ ≤ 1000; simp [aw2, aw0, askedCl]) (by show List.length _ ≤ 100000; simp [aw2, aw0, askedCl, NewCl])
    rw [hears4] at hV4
    have HR4 := Lib.hid hR4
    have HV4 := Lib.hid hV4
    clear hR4 hV4
    go_wp2_with fail
    refine HR4.out.mono ?_
    rintro e w11 ⟨rfl, hc11, ch11⟩
    have HC11 := Lib.hid hc11
    have HCH11 := Lib.hid (HCH10.out.step ch11 hz10 (fun i hi e => by omega))
    have hz11 := HCH11.out.size
    clear hc11 ch11
    go_wp2_with fail
    refine (HV4.out _ HC11.out).mono ?_
    rintro e w12 ⟨A12, c12, rfl, hc12, ch12, -⟩
    have HC12 := Lib.hid hc12
    have HCH12 := Lib.hid (HCH11.out.step ch12 hz11 (fun i hi e => by
      rcases e with e | e | e
      · omega
      · omega
      · have := (HC11.out.row e).1; omega))
    have hz12 := HCH12.out.size
    clear hc12 ch12
    have HAN := Lib.hid (answers_calls x g w3.heap.size b t m n T3 S8 (aw3 out) A12 c12 w12 HC12.out (by show (1 : Nat) ≤ 100000; decide))
    go_wp2_with fail
    refine HAN.out.mono ?_
    rintro e w13 ⟨A13, c13, rfl, hb13, ho13⟩
    have ho : w13.ownsRow w12.heap.size 118 2 (.slice A13 1 c13) 1 [.int .i64 1, .string ⟨#[114]⟩] := ho13
    obtain ⟨ga, rfl⟩ := own_some ho (by decide)
    have a0 : w13.cell? ⟨ga, 0, none⟩ = some (.int .i64 1) := by rw [ho.cellAt 0 (by decide)]; rfl
    have a1 : w13.cell? ⟨ga, 1, none⟩ = some (.string ⟨#[114]⟩) := by rw [ho.cellAt 1 (by decide)]; rfl
    have heq : ∀ w, (Op.equalIn 10000 118 (.agg #[.int .i64 1, .string ⟨#[114]⟩]) (.agg #[.int .i64 1, .string ⟨#[114]⟩])).run Try.prog w = .ok true w := fun w => by rw [eqAn]; simp
    have HC13 := Lib.hid (HC12.out.below hb13)
    have HCH13 := Lib.hid (HCH12.out.step (Ch.of_below (S := fun _ => False) hb13) hz12 (fun _ _ e => e))
    have HWT13 := Lib.hid (cwaits_calls x g w3.heap.size b t m n T3 S8 (aw3 out) A12 c12 w13 HC13.out)
    rw [show (aw3 out).waits = false from rfl] at HWT13
    rw [show (aw3 out).ans.length = 1 from rfl]
    clear ho ho13 hb13
    go_wp2_with fail
    refine HWT13.out.mono ?_
    rintro e wx ⟨rfl, hwx⟩
    obtain rfl := hwx.symm
    go_wp2
    go_ret
    exact ⟨rfl, HCH13.out.below (fun _ _ e => e)⟩
  · cases hbad
end Go.Proofs.Ytfgpchffkpomoaa
