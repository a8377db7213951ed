/- A client asks, asks again, and takes as an answer just what the document says, step by step: the walk. -/
import Derived.Test.YtfgpchffkpomoaaModS
import Derived.Test.YtfgpchffkpomoaaRowAct12
import Derived.Test.YtfgpchffkpomoaaPast2
namespace Go.Proofs.Ytfgpchffkpomoaa
set_option linter.unusedSimpArgs false
set_option linter.unusedVariables false
open Go.RowKit

theorem an_get (l : List An) (k : Nat) (h : k < l.length) : (l.flatMap An.cells)[k * 2]? = some (.int .i64 l[k].stamp) ∧ (l.flatMap An.cells)[k * 2 + 1]? = some (.string l[k].text) :=
  ⟨flat_get An.cells 2 An.cells_len l k 0 h (by decide), flat_get An.cells 2 An.cells_len l k 1 h (by decide)⟩

set_option maxHeartbeats 16000000 in
set_option maxRecDepth 100000 in
theorem clientPlays_calls (faults idn : Int) (Z : Option Addr) (zc : Nat) (l : List Ac12) (W : World) (hs : Ac12S W Z zc l) (htx : ∀ a ∈ l, a.text.size ≤ maxLen) : Calls Try.prog 23 #[.int .i64 faults, .int .i64 idn, .slice Z l.length zc] W (fun e w' => e = .returned (.bool true) ∧ Below W.heap.size W w') := by
  have HN := Lib.hid (newBook_calls W)
  have HCF := Lib.hid (fun w => config_calls faults w)
  have hf := faultsN_le faults
  have hr := rnd_lt idn (m := 3) (by decide)
  have HAR := Lib.hid (fun w => around12_calls idn 3 w (by decide) (by decide))
  unfold RndPost at HAR
  obtain ⟨k, hk⟩ : ∃ k, k = rnd idn 3 := ⟨_, rfl⟩
  rw [← hk] at HAR hr
  have HFC := fits_config faults (id := (k : Int)) (by omega)
  obtain ⟨f, hff⟩ : ∃ f, f = faultsN faults := ⟨_, rfl⟩
  rw [← hff] at HCF HFC hf
  have HFC := Lib.hid HFC
  have HAW := Lib.hid (fun w => awake12_calls w)
  have HS := Lib.hid hs
  have hfit := Sl.fits hs
  clear hs hff hk
  go_enter Try.func23, Try.ntmps23
  go_wp2_with fail
  refine HN.out.mono ?_
  rintro e w1 ⟨b, t, m, n, rfl, hb1, hk1, hb, ht, hm, hn⟩
  have hz1 := hb1.size
  have HB1 := Lib.hid hb1
  have HK1 := Lib.hid hk1
  clear hb1 hk1
  go_wp2_with fail
  refine (HCF.out _).mono ?_
  rintro e w2 ⟨rfl, hb2⟩
  have hal := (Below.refl w2.heap.size w2).alloc (Nat.le_refl _) (.cells #[.int .i64 (f : Int), .int .i64 3, .int .i64 2, .int .i64 5] 104)
  have HB2 := Lib.hid ((HB1.out.trans (hb2.mono hz1)).trans (hal.mono (by have := hb2.size; omega)))
  have HK2 := Lib.hid ((HK1.out.below hb2).below hal)
  have hz2 := HB2.out.size
  have hz12 : W.heap.size ≤ w2.heap.size := by have := hb2.size; omega
  have HX2 := Lib.hid (Box.new w2 #[.int .i64 (f : Int), .int .i64 3, .int .i64 2, .int .i64 5] 104)
  obtain ⟨k0, k1, k2, k3, -⟩ := Box.facts4 HX2.out
  have HNW := Lib.hid (cnew_calls (f : Int) 3 2 5 (k : Int) b t m n [] [] _ HK2.out (by decide))
  rw [HFC.out] at HNW
  have hm2 := (HK1.out.below hb2).tm.lt
  clear hb2 hal
  go_wp2_with fail
  refine (HAR.out _).mono ?_
  rintro e wx ⟨rfl, hwx⟩
  subst hwx
  go_wp2_with fail
  refine HNW.out.mono ?_
  rintro e w3 ⟨T, e3, l3, ch3, hor⟩
  rcases hor with ⟨-, x, g, rfl, hx, hg, hc3⟩ | ⟨hbad, -⟩
  rotate_left
  · cases hbad
  have HCH3 := Lib.hid ((Ch.of_below (S := fun _ => False) HB2.out).step ch3 hz2 (fun i hi e => by omega))
  have hz3 := HCH3.out.size
  have HX3 := Lib.hid (Box.ch HX2.out ch3 (by simp) (by omega))
  have HC3 := Lib.hid hc3
  have hx2 : w2.heap.size + 1 ≤ x := by simpa using hx
  have hg2 : w2.heap.size + 1 ≤ g := by simpa using hg
  clear ch3 hc3 e3 k0 k1 k2 k3 hx hg
  obtain ⟨k0, k1, k2, k3, -⟩ := Box.facts4 HX3.out
  have hal3 := (Below.refl w3.heap.size w3).alloc (Nat.le_refl _) (.cells (mdCells (NewCl f 3 2 5 k) none 0 none 0) 123)
  have HJ3 := Lib.hid (show JS (w3.alloc (.cells (mdCells (NewCl f 3 2 5 k) none 0 none 0) 123)) x g w3.heap.size b t m n T [] (NewCl f 3 2 5 k) none 0 w3.heap.size (w3.heap.size + 1) (NewCl f 3 2 5 k) none 0 none 0 from
    ⟨HC3.out.below hal3, ⟨Box.new w3 _ _, ⟨rfl, .inl ⟨rfl, rfl⟩⟩, ⟨rfl, .inl ⟨rfl, rfl⟩⟩, by simp, (fun k hk => (by cases hk))⟩, (fun k hk => (by cases hk)), Nat.le_refl _⟩)
  have HCH4 := Lib.hid (HCH3.out.alloc hz3 (.cells (mdCells (NewCl f 3 2 5 k) none 0 none 0) 123))
  have hlt3 := HC3.out.lt
  clear hal3
  unfold mdCells NewCl at HJ3 HCH4
  simp only [List.length_nil] at HJ3 HCH4
  go_wp2_with fail
  have hKW : W.heap.size ≤ w3.heap.size := by omega
  have hKx : W.heap.size ≤ x ∧ W.heap.size ≤ g := by omega
  clear k0 k1 k2 k3 HC3 HX3
  go_loopg [13] 100 (fun gk v13 wr => ∃ (i : Nat) (S : List Wd) (y : Cl) (AA : Option Addr) (ac : Nat) (HA : Option Addr) (hc : Nat) (MA : Option Addr) (mc : Nat), v13 = .int .i64 i ∧ i ≤ 100 ∧ i ≤ l.length ∧ Hid (gk + i = 100 ∧ S.length ≤ i ∧ y.F = (f : Int) ∧ y.id = (k : Int) ∧ 0 ≤ y.stamp ∧ y.stamp ≤ i ∧ 0 ≤ y.ticks ∧ y.ticks ≤ i ∧ y.told.length ≤ i ∧ y.ans.length ≤ i ∧ JS wr x g w3.heap.size b t m n T S y AA ac w3.heap.size (w3.heap.size + 1) y HA hc MA mc ∧ Ch W.heap.size (fun _ => False) W wr))
  case atStart => exact ⟨0, [], _, none, 0, none, 0, none, 0, rfl, by omega, by omega, by omega, by simp, rfl, rfl, Int.le_refl _, Int.le_refl _, Int.le_refl _, Int.le_refl _, Nat.le_refl _, Nat.le_refl _, HJ3.out, HCH4.out⟩
  case round =>
    obtain ⟨i, S, y, AA, ac, HA, hc, MA, mc, rfl, hi, hil, HH⟩ := hrel
    obtain ⟨hgk, hSl, hF, hid, hs0, hs1, ht0, ht1, hto, han, hjs, hch⟩ := HH.out
    have HGK := Lib.hid hgk
    have HF := Lib.hid hF
    have HID := Lib.hid hid
    have HJ := Lib.hid hjs
    have HCH := Lib.hid hch
    have hzr := hch.size
    clear HH hgk hF hid hjs hch HJ3 HCH4
    by_cases hlt : i < l.length ∧ i < 100
    · obtain ⟨hlt1, hlt2⟩ := hlt
      have hd1 : decide ((i : Int) < (l.length : Int)) = true := by simp; omega
      have hd2 : decide ((i : Int) < 100) = true := by simp; omega
      obtain ⟨a, rfl, e0, e1, e2, e3⟩ := (Ac12S.below HS.out (HCH.out.below (fun _ _ e => e))).elem i hlt1
      have hax := htx l[i] (List.getElem_mem hlt1)
      obtain ⟨act, hact⟩ : ∃ z, z = l[i] := ⟨_, rfl⟩
      rw [← hact] at e0 e1 e2 e3 hax
      clear hact
      obtain ⟨kind, who, stp, text⟩ := act
      simp only at e0 e1 e2 e3 hax
      go_wp2_with fail
      have HST := Lib.hid (step_calls' x g w3.heap.size b t m n T S y AA ac w3.heap.size (w3.heap.size + 1) HA hc MA mc kind who stp text f wr.drew HJ.out.drew (by omega) hax (by rw [HID.out]; omega) (by omega) (by omega) HF.out hf.2 (by omega) (by omega))
      have d0 : wr.drew.cell? (a.add (i * 4)) = some (.int .i64 kind) := e0
      have d1 : wr.drew.cell? ⟨(a.add (i * 4)).block, (a.add (i * 4)).off + 1, none⟩ = some (.int .i64 who) := e1
      have d2 : wr.drew.cell? ⟨(a.add (i * 4)).block, (a.add (i * 4)).off + 2, none⟩ = some (.int .i64 stp) := e2
      have d3 : wr.drew.cell? ⟨(a.add (i * 4)).block, (a.add (i * 4)).off + 3, none⟩ = some (.string text) := e3
      refine AnyP.start [7, 11, 15] (fun w' => w'.cell? (a.add (i * 4)) = some (.int .i64 kind) ∧ w'.cell? ⟨(a.add (i * 4)).block, (a.add (i * 4)).off + 1, none⟩ = some (.int .i64 who) ∧ w'.cell? ⟨(a.add (i * 4)).block, (a.add (i * 4)).off + 2, none⟩ = some (.int .i64 stp) ∧ w'.cell? ⟨(a.add (i * 4)).block, (a.add (i * 4)).off + 3, none⟩ = some (.string text)) (by kernel_rfl) ⟨d0, d1, d2, d3⟩ (n := 18) (listed := #[false, false, false, false, false, false, false, false, false, false, false, false, false, false, false, false, false, false]) (by kernel_rfl) (by kernel_rfl) (fun hHeld => ?_)
      refine AnyP.take (i := 0) (fuel := 17) (d := some 49) (listed' := #[true, false, false, false, false, false, false, false, false, false, false, false, false, false, false, false, false, false]) (oi := _) (v := ?v0) rfl (by kernel_rfl) (by kernel_rfl) (by kernel_rfl) (fun _ _ _ h => h) (Or.inl ⟨by rfl, ?hy0⟩) (by rfl) (by rfl) ?rest0
      case hy0 => intro w; go_simp; try with_reducible rfl
      try simp only [Act.put, List.setIfInBounds_toArray, List.set_cons_zero, List.set_cons_succ]
      refine AnyP.take (i := 1) (fuel := 16) (d := some 50) (listed' := #[true, true, false, false, false, false, false, false, false, false, false, false, false, false, false, false, false, false]) (oi := _) (v := ?v1) rfl (by kernel_rfl) (by kernel_rfl) (by kernel_rfl) (fun _ _ _ h => h) (Or.inl ⟨by rfl, ?hy1⟩) (by rfl) (by rfl) ?rest1
      case hy1 => intro w; go_simp; try with_reducible rfl
      try simp only [Act.put, List.setIfInBounds_toArray, List.set_cons_zero, List.set_cons_succ]
      refine AnyP.take (i := 2) (fuel := 15) (d := some 51) (listed' := #[true, true, true, false, false, false, false, false, false, false, false, false, false, false, false, false, false, false]) (oi := _) (v := ?v2) rfl (by kernel_rfl) (by kernel_rfl) (by kernel_rfl) (fun _ _ _ h => h) (Or.inl ⟨by rfl, ?hy2⟩) (by rfl) (by rfl) ?rest2
      case hy2 => intro w; go_simp; try with_reducible rfl
      try simp only [Act.put, List.setIfInBounds_toArray, List.set_cons_zero, List.set_cons_succ]
      refine AnyP.take (i := 3) (fuel := 14) (d := some 52) (listed' := #[true, true, true, true, false, false, false, false, false, false, false, false, false, false, false, false, false, false]) (oi := _) (v := ?v3) rfl (by kernel_rfl) (by kernel_rfl) (by kernel_rfl) (fun _ _ _ h => h) (Or.inl ⟨by rfl, ?hy3⟩) (by rfl) (by rfl) ?rest3
      case hy3 => intro w; go_simp; try with_reducible rfl
      try simp only [Act.put, List.setIfInBounds_toArray, List.set_cons_zero, List.set_cons_succ]
      refine AnyP.take (i := 4) (fuel := 13) (d := some 53) (listed' := #[true, true, true, true, true, false, false, false, false, false, false, false, false, false, false, false, false, false]) (oi := _) (v := ?v4) rfl (by kernel_rfl) (by kernel_rfl) (by kernel_rfl) (fun _ _ _ h => h) (Or.inl ⟨by rfl, ?hy4⟩) (by rfl) (by rfl) ?rest4
      case hy4 => intro w; go_simp; try with_reducible rfl
      try simp only [Act.put, List.setIfInBounds_toArray, List.set_cons_zero, List.set_cons_succ]
      refine AnyP.take (i := 5) (fuel := 12) (d := some 54) (listed' := #[true, true, true, true, true, true, false, false, false, false, false, false, false, false, false, false, false, false]) (oi := _) (v := ?v5) rfl (by kernel_rfl) (by kernel_rfl) (by kernel_rfl) (fun _ _ _ h => h) (Or.inl ⟨by rfl, ?hy5⟩) (by rfl) (by rfl) ?rest5
      case hy5 => intro w; go_simp; try with_reducible rfl
      try simp only [Act.put, List.setIfInBounds_toArray, List.set_cons_zero, List.set_cons_succ]
      refine AnyP.load (i := 6) (fuel := 11) (d := some 55) (listed' := #[true, true, true, true, true, true, true, false, false, false, false, false, false, false, false, false, false, false]) (oi := _) (v := ?v6) [7, 8, 9, 10, 11, 12, 13, 14, 15, 16, 17] rfl (by kernel_rfl) (by kernel_rfl) (by kernel_rfl) (by kernel_rfl) (by kernel_rfl) (by kernel_rfl) (fun _ _ _ h => h) (Or.inl ⟨by rfl, ?hy6⟩) hHeld (by rfl) (by rfl) ?rest6
      case hy6 => intro w hSw; (try dsimp only at hSw); go_simp; try with_reducible rfl
      try simp only [Act.put, List.setIfInBounds_toArray, List.set_cons_zero, List.set_cons_succ]
      refine AnyP.one (i := 7) (o := ?o7) (fuel := 10) (listed' := #[true, true, true, true, true, true, true, true, false, false, false, false, false, false, false, false, false, false]) (by kernel_rfl) ?ho7 (by rfl) (fun K' hK' => ?step7)
      case ho7 => simp only [List.getElem?_toArray, List.getElem?_cons_succ, List.getElem?_cons_zero]; rfl
      go_simp
      refine HST.out.mono ?_
      rintro e w5 ⟨v5, S5, y5, A5, a5, H5, h5, M5, m5, rfl, hv5, hS5, hj5, hb5, hc5⟩
      obtain rfl : v5 = true := hv5.out
      have HJ5 := Lib.hid hj5
      have HB5 := Lib.hid hb5
      have HC5 := Lib.hid hc5
      have j4 := (show w5.cell? ⟨w3.heap.size, 4, none⟩ = some (.bool y5.waits) from hj5.ms.box.cell 4)
      have HW5 := Lib.hid (cwaits_calls x g w3.heap.size b t m n T S5 y5 A5 a5 w5 hj5.cs)
      clear hj5 hb5 hc5 hv5
      go_wp2_with fail
      refine hK'.out _ _ (fun h => absurd (by decide) h) (fun _ => ?_)
      clear hK' K'
      try simp only [Act.put, List.setIfInBounds_toArray, List.set_cons_zero, List.set_cons_succ]
      refine AnyP.take (i := 8) (fuel := 9) (d := some 57) (listed' := #[true, true, true, true, true, true, true, true, true, false, false, false, false, false, false, false, false, false]) (oi := _) (v := ?v8) rfl (by kernel_rfl) (by kernel_rfl) (by kernel_rfl) (fun _ _ _ h => h) (Or.inl ⟨by rfl, ?hy8⟩) (by rfl) (by rfl) ?rest8
      case hy8 => intro w; go_simp; try with_reducible rfl
      try simp only [Act.put, List.setIfInBounds_toArray, List.set_cons_zero, List.set_cons_succ]
      refine AnyP.take (i := 9) (fuel := 8) (d := some 58) (listed' := #[true, true, true, true, true, true, true, true, true, true, false, false, false, false, false, false, false, false]) (oi := _) (v := ?v9) rfl (by kernel_rfl) (by kernel_rfl) (by kernel_rfl) (fun _ _ _ h => h) (Or.inl ⟨by rfl, ?hy9⟩) (by rfl) (by rfl) ?rest9
      case hy9 => intro w; go_simp; try with_reducible rfl
      try simp only [Act.put, List.setIfInBounds_toArray, List.set_cons_zero, List.set_cons_succ]
      refine AnyP.take (i := 10) (fuel := 7) (d := some 59) (listed' := #[true, true, true, true, true, true, true, true, true, true, true, false, false, false, false, false, false, false]) (oi := _) (v := ?v10) rfl (by kernel_rfl) (by kernel_rfl) (by kernel_rfl) (fun _ _ _ h => h) (Or.inl ⟨by rfl, ?hy10⟩) (by rfl) (by rfl) ?rest10
      case hy10 => intro w; go_simp; try with_reducible rfl
      try simp only [Act.put, List.setIfInBounds_toArray, List.set_cons_zero, List.set_cons_succ]
      refine AnyP.take (i := 12) (fuel := 6) (d := some 61) (listed' := #[true, true, true, true, true, true, true, true, true, true, true, false, true, false, false, false, false, false]) (oi := _) (v := ?v12) rfl (by kernel_rfl) (by kernel_rfl) (by kernel_rfl) (fun _ _ _ h => h) (Or.inl ⟨by rfl, ?hy12⟩) (by rfl) (by rfl) ?rest12
      case hy12 => intro w; go_simp; try with_reducible rfl
      try simp only [Act.put, List.setIfInBounds_toArray, List.set_cons_zero, List.set_cons_succ]
      refine AnyP.take (i := 13) (fuel := 5) (d := some 62) (listed' := #[true, true, true, true, true, true, true, true, true, true, true, false, true, true, false, false, false, false]) (oi := _) (v := ?v13) rfl (by kernel_rfl) (by kernel_rfl) (by kernel_rfl) (fun _ _ _ h => h) (Or.inl ⟨by rfl, ?hy13⟩) (by rfl) (by rfl) ?rest13
      case hy13 => intro w; go_simp; try with_reducible rfl
      try simp only [Act.put, List.setIfInBounds_toArray, List.set_cons_zero, List.set_cons_succ]
      refine AnyP.take (i := 14) (fuel := 4) (d := some 63) (listed' := #[true, true, true, true, true, true, true, true, true, true, true, false, true, true, true, false, false, false]) (oi := _) (v := ?v14) rfl (by kernel_rfl) (by kernel_rfl) (by kernel_rfl) (fun _ _ _ h => h) (Or.inl ⟨by rfl, ?hy14⟩) (by rfl) (by rfl) ?rest14
      case hy14 => intro w; go_simp; try with_reducible rfl
      try simp only [Act.put, List.setIfInBounds_toArray, List.set_cons_zero, List.set_cons_succ]
      refine AnyP.two (i := 11) (j := 15) (oi := ?oa) (oj := ?ob) (fuel := 3) (listed1 := #[true, true, true, true, true, true, true, true, true, true, true, true, true, true, true, false, false, false]) (listed2 := #[true, true, true, true, true, true, true, true, true, true, true, false, true, true, true, true, false, false]) (by kernel_rfl) ?hoa ?hob (by rfl) (by rfl) (fun K' hK' => ?sa) (fun K' hK' => ?sb)
      case hoa => simp only [List.getElem?_toArray, List.getElem?_cons_succ, List.getElem?_cons_zero]; rfl
      case hob => simp only [List.getElem?_toArray, List.getElem?_cons_succ, List.getElem?_cons_zero]; rfl
      case' sa =>
        go_simp
        refine HW5.out.mono ?_
        rintro e wx ⟨rfl, hwx⟩
        obtain rfl := hwx.symm
        go_wp2_with fail
        refine hK'.out _ _ (fun h => absurd (by decide) h) (fun _ => ?_)
        clear hK' K'
        try simp only [Act.put, List.setIfInBounds_toArray, List.set_cons_zero, List.set_cons_succ]
        refine AnyP.one (i := 15) (o := ?o15a) (fuel := 2) (listed' := #[true, true, true, true, true, true, true, true, true, true, true, true, true, true, true, true, false, false]) (by kernel_rfl) ?ho15a (by rfl) (fun K' hK' => ?step15a)
        case ho15a => simp only [List.getElem?_toArray, List.getElem?_cons_succ, List.getElem?_cons_zero]; rfl
        go_simp
        refine hK'.out _ _ (fun h => absurd (by decide) h) (fun _ => ?_)
        clear hK' K'
        try simp only [Act.put, List.setIfInBounds_toArray, List.set_cons_zero, List.set_cons_succ]
        refine AnyP.take (i := 16) (fuel := 1) (d := some 65) (listed' := #[true, true, true, true, true, true, true, true, true, true, true, true, true, true, true, true, true, false]) (oi := _) (v := ?v16a) rfl (by kernel_rfl) (by kernel_rfl) (by kernel_rfl) (fun _ _ _ h => h) (Or.inl ⟨by rfl, ?hy16a⟩) (by rfl) (by rfl) ?rest16a
        case hy16a => intro w; go_simp; try with_reducible rfl
        try simp only [Act.put, List.setIfInBounds_toArray, List.set_cons_zero, List.set_cons_succ]
        refine AnyP.take (i := 17) (fuel := 0) (d := some 66) (listed' := #[true, true, true, true, true, true, true, true, true, true, true, true, true, true, true, true, true, true]) (oi := _) (v := ?v17a) rfl (by kernel_rfl) (by kernel_rfl) (by kernel_rfl) (fun _ _ _ h => h) (Or.inl ⟨by rfl, ?hy17a⟩) (by rfl) (by rfl) ?rest17a
        case hy17a => intro w; go_simp; try with_reducible rfl
        try simp only [Act.put, List.setIfInBounds_toArray, List.set_cons_zero, List.set_cons_succ]
        refine AnyP.done (by kernel_rfl) ?_ _
      case' sb =>
        go_simp
        refine hK'.out _ _ (fun h => absurd (by decide) h) (fun _ => ?_)
        clear hK' K'
        try simp only [Act.put, List.setIfInBounds_toArray, List.set_cons_zero, List.set_cons_succ]
        refine AnyP.one (i := 11) (o := ?o11b) (fuel := 2) (listed' := #[true, true, true, true, true, true, true, true, true, true, true, true, true, true, true, true, false, false]) (by kernel_rfl) ?ho11b (by rfl) (fun K' hK' => ?step11b)
        case ho11b => simp only [List.getElem?_toArray, List.getElem?_cons_succ, List.getElem?_cons_zero]; rfl
        go_simp
        refine HW5.out.mono ?_
        rintro e wx ⟨rfl, hwx⟩
        obtain rfl := hwx.symm
        go_wp2_with fail
        refine hK'.out _ _ (fun h => absurd (by decide) h) (fun _ => ?_)
        clear hK' K'
        try simp only [Act.put, List.setIfInBounds_toArray, List.set_cons_zero, List.set_cons_succ]
        refine AnyP.take (i := 16) (fuel := 1) (d := some 65) (listed' := #[true, true, true, true, true, true, true, true, true, true, true, true, true, true, true, true, true, false]) (oi := _) (v := ?v16b) rfl (by kernel_rfl) (by kernel_rfl) (by kernel_rfl) (fun _ _ _ h => h) (Or.inl ⟨by rfl, ?hy16b⟩) (by rfl) (by rfl) ?rest16b
        case hy16b => intro w; go_simp; try with_reducible rfl
        try simp only [Act.put, List.setIfInBounds_toArray, List.set_cons_zero, List.set_cons_succ]
        refine AnyP.take (i := 17) (fuel := 0) (d := some 66) (listed' := #[true, true, true, true, true, true, true, true, true, true, true, true, true, true, true, true, true, true]) (oi := _) (v := ?v17b) rfl (by kernel_rfl) (by kernel_rfl) (by kernel_rfl) (fun _ _ _ h => h) (Or.inl ⟨by rfl, ?hy17b⟩) (by rfl) (by rfl) ?rest17b
        case hy17b => intro w; go_simp; try with_reducible rfl
        try simp only [Act.put, List.setIfInBounds_toArray, List.set_cons_zero, List.set_cons_succ]
        refine AnyP.done (by kernel_rfl) ?_ _
      all_goals
        obtain ⟨b1, b2, b3, b4, b5, b6, b7, b8⟩ := HB5.out
        have hlt5 := HJ.out.cs.lt
        have HCH5 := Lib.hid (HCH.out.drew.step HC5.out (by simpa using hzr) (fun z hz e => by
          rcases e with e | e | e | e | e | e | e
          · omega
          · omega
          · omega
          · omega
          · have := (HJ.out.cs.row e).1; omega
          · have := (own_row HJ.out.ms.heard e).1; omega
          · have := (own_row HJ.out.ms.ans e).1; omega))
        have hz5 := HCH5.out.size
        have HANS := Lib.hid (answers_calls x g w3.heap.size b t m n T S5 y5 A5 a5 w5 HJ5.out.cs (by omega))
        unfold AnsPost at HANS
        have b3' := b3
        clear e0 e1 e2 e3 d0 d1 d2 d3 hHeld HST HC5 j4 HW5
        go_wp2_with fail
        refine HANS.out.mono ?_
        rintro e w6 ⟨A9, c9, rfl, hb6, ho6⟩
        have HJ6 := Lib.hid (HJ5.out.below hb6)
        have HO6 := Lib.hid ho6
        have HCH6 := Lib.hid (HCH5.out.step (Ch.of_below (S := fun _ => False) hb6) hz5 (fun _ _ e => e))
        have HR6 := Lib.hid (fun z hz => (own_row ho6 (k := z) hz))
        have hz56 := hb6.size
        have j7 : w6.cell? ⟨w3.heap.size, 7, none⟩ = some (.slice M5 y5.ans.length m5) := HJ6.out.ms.box.cell 7
        have HROWS := Lib.hid (show ∀ z, (Row A5 z ∨ Row H5 z ∨ Row M5 z ∨ z < w3.heap.size + 1) → z < w5.heap.size from fun z hz => by
          have hq5 := HJ5.out.ms.ql
          rcases hz with e | e | e | e
          · exact (HJ5.out.cs.row e).2
          · exact (own_row HJ5.out.ms.heard e).2
          · exact (own_row HJ5.out.ms.ans e).2
          · omega)
        clear hb6 ho6 HANS
        go_wp2_with fail
        go_loopg [15] y5.ans.length (fun gj v15 v => ∃ (j : Nat) (xs : List Value), v15 = .int .i64 j ∧ j ≤ y5.ans.length ∧ Hid (gj + j = y5.ans.length ∧ v.ownsRow w5.heap.size 118 2 (.slice A9 y5.ans.length c9) y5.ans.length xs ∧ (∀ z, j ≤ z → xs[z * 2]? = (y5.ans.flatMap An.cells)[z * 2]? ∧ xs[z * 2 + 1]? = (y5.ans.flatMap An.cells)[z * 2 + 1]?) ∧ JS v x g w3.heap.size b t m n T S5 y5 A5 a5 w3.heap.size (w3.heap.size + 1) y5 H5 h5 M5 m5 ∧ Ch W.heap.size (fun _ => False) W v))
        case atStart => exact ⟨0, _, rfl, by omega, by omega, HO6.out, fun _ _ => ⟨rfl, rfl⟩, HJ6.out, HCH6.out⟩
        case round =>
          obtain ⟨j, xs, rfl, hjl, HH⟩ := hrel
          obtain ⟨hgj, hoj, hxs, hjj, hcj⟩ := HH.out
          have HGJ := Lib.hid hgj
          have HOJ := Lib.hid hoj
          have HXS := Lib.hid hxs
          have HJJ := Lib.hid hjj
          have HCJ := Lib.hid hcj
          have hzj := hcj.size
          clear HH hgj hoj hxs hjj hcj j7
          have j7 : wr.cell? ⟨w3.heap.size, 7, none⟩ = some (.slice M5 y5.ans.length m5) := HJJ.out.ms.box.cell 7
          by_cases hj : j < y5.ans.length
          · have hdj : decide ((j : Int) < (y5.ans.length : Int)) = true := by simp; omega
            obtain ⟨ga, rfl⟩ := own_some HOJ.out (by omega)
            obtain ⟨gm, rfl⟩ := own_some HJJ.out.ms.ans (by omega)
            obtain ⟨t0, t1⟩ := an_get y5.ans j hj
            obtain ⟨an, han2⟩ : ∃ an, an = y5.ans[j] := ⟨_, rfl⟩
            rw [← han2] at t0 t1
            have c0 : wr.cell? ⟨ga, j * 2, none⟩ = some (.int .i64 an.stamp) := by rw [HOJ.out.cellAt (j * 2) (by omega), (HXS.out j (Nat.le_refl _)).1, t0]
            have c1 : wr.cell? ⟨ga, j * 2 + 1, none⟩ = some (.string an.text) := by rw [HOJ.out.cellAt (j * 2 + 1) (by omega), (HXS.out j (Nat.le_refl _)).2, t1]
            have c2 : wr.cell? ⟨gm, j * 2, none⟩ = some (.int .i64 an.stamp) := by rw [HJJ.out.ms.ans.cellAt (j * 2) (by omega), t0]
            have c3 : wr.cell? ⟨gm, j * 2 + 1, none⟩ = some (.string an.text) := by rw [HJJ.out.ms.ans.cellAt (j * 2 + 1) (by omega), t1]
            have fz := HOJ.out.frozenAt (j * 2 + 1)
            have hga := HR6.out ga rfl
            have heq : ∀ w, (Op.equalIn 10000 118 (.agg #[.int .i64 an.stamp, .string an.text]) (.agg #[.int .i64 an.stamp, .string an.text])).run Try.prog w = .ok true w := fun w => by rw [eqAn]; simp
            clear t0 t1 han2
            go_wp2_with fail
            go_quiet (fail)
            go_wp2_with fail
            go_roundg (y5.ans.length - (j + 1))
            case measure => have := HGJ.out; omega
            case rel => exact ⟨j + 1, _, by go_num, by omega, by omega, ((own_drewN HOJ.out nq).stored (j * 2 + 1) _).1, fun z hz => by
              rw [List.getElem?_set_ne (by omega), List.getElem?_set_ne (by omega)]
              exact HXS.out z (by omega),
              (HJJ.out.below (below_dN (Below.refl _ _) nq)).off (R := ga) ((Ch.refl (wr.drewN nq).heap.size (· = ga) (wr.drewN nq)).setCell (p := ⟨ga, j * 2 + 1, none⟩) (.inr rfl) _) (by have := HROWS.out (w3.heap.size) (.inr (.inr (.inr (Nat.lt_succ_self _)))); omega) (by have := HROWS.out (w3.heap.size) (.inr (.inr (.inr (Nat.lt_succ_self _)))); omega) (fun z hz => by have := HROWS.out z (.inl hz); omega) (fun z hz => by have := HROWS.out z (.inr (.inl hz)); omega) (fun z hz => by have := HROWS.out z (.inr (.inr (.inl hz))); omega),
              (HCJ.out.drewN nq).setCell (p := ⟨ga, j * 2 + 1, none⟩) (.inl (by simp only; omega)) _⟩
          · obtain rfl : j = y5.ans.length := by omega
            have hdj : decide ((y5.ans.length : Int) < (y5.ans.length : Int)) = false := by simp
            have HF5 := Lib.hid b1
            have HI5 := Lib.hid b2
            clear b1 b2
            go_wp2_with fail
            go_roundg (100 - (i + 1))
            case measure => have := HGK.out; omega
            case rel => exact ⟨i + 1, S5, y5, A5, a5, H5, h5, _, m5, by go_num, by omega, by omega, by omega, by omega, HF5.out.trans HF.out, HI5.out.trans HID.out, by omega, by omega, b5, by omega, by omega, by omega, HJJ.out, HCJ.out⟩
    · have hend : ¬ i < l.length ∨ (i < l.length ∧ ¬ i < 100) := by omega
      rcases hend with h1 | ⟨h1, h2⟩
      all_goals first
        | (have hd1 : decide ((i : Int) < (l.length : Int)) = false := by simp; omega)
        | (have hd1 : decide ((i : Int) < (l.length : Int)) = true := by simp; omega
           have hd2 : decide ((i : Int) < 100) = false := by simp; omega)
      all_goals
        go_wp2_with fail
        refine (HAW.out _).mono ?_
        rintro e wb ⟨rfl, hbb⟩
        go_wp2
        go_ret
        exact ⟨rfl, (HCH.out.step (Ch.of_below (S := fun _ => False) hbb) hzr (fun _ _ e => e)).below (fun _ _ e => e)⟩
end Go.Proofs.Ytfgpchffkpomoaa
