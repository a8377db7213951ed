/- What few say is no answer: in plain words, and the walk. -/
import Derived.Test.YtfgpchffkpomoaaAwake12
import Derived.Test.YtfgpchffkpomoaaRowAct12
namespace Go.Proofs.Ytfgpchffkpomoaa
set_option linter.unusedSimpArgs false
set_option linter.unusedVariables false
open Go.RowKit

theorem few_ints : ∀ (f : Nat) (l : List Int), (∀ x ∈ l, 0 ≤ x ∧ x < (f : Int)) → l.Nodup → l.length ≤ f
  | 0, [], _, _ => Nat.le_refl _
  | 0, x :: l, h, _ => by have := h x (by simp); omega
  | f + 1, l, h, hn => by
    have h1 := few_ints f (l.erase (f : Int)) (fun x hx => by
      have h2 := (hn.mem_erase_iff).1 hx
      have h3 := h x h2.2
      have h4 := h2.1
      omega) (hn.erase _)
    have h5 := List.length_erase (a := (f : Int)) (l := l)
    split at h5 <;> omega
/-- What a client is while only some of f lie. -/
structure Lied (f : Nat) (y : Cl) : Prop where
  F : y.F = (f : Int)
  id : y.id = 0
  stamp : y.stamp = 1
  waits : y.waits = true
  ans : y.ans = []
  small : ∀ td ∈ y.told, 0 ≤ td.1 ∧ td.1 < (f : Int)
  apart : (y.told.map (·.1)).Nodup
theorem Lied.len {f : Nat} {y : Cl} (h : Lied f y) : y.told.length ≤ f := by
  have := few_ints f (y.told.map (·.1)) (fun x hx => by
    obtain ⟨td, htd, rfl⟩ := List.mem_map.1 hx
    exact h.small td htd) h.apart
  simpa using this
theorem alike_le (t : ByteArray) (l : List Td) : alike t l ≤ l.length := List.length_filter_le _ _
theorem Lied.hear {f : Nat} {y : Cl} (h : Lied f y) {r : Nat} (hr : r < f) (text : ByteArray) : Lied f (hears y (r : Int) 0 1 text).2 := by
  unfold hears
  rw [if_neg (by rw [h.waits, h.F]; simp; omega)]
  unfold hearE
  rw [if_neg (by simp [cliB, h.id, h.stamp])]
  by_cases ha : y.told.any (fun x => decide (x.1 = (r : Int))) = true
  · rw [if_pos ha]; exact h
  · rw [if_neg ha]
    have hno : ∀ td ∈ y.told, td.1 ≠ (r : Int) := fun td htd e => ha (List.any_eq_true.2 ⟨td, htd, by simpa using e⟩)
    have hk : Lied f { y with told := y.told ++ [((r : Int), text)] } := by
      refine ⟨h.F, h.id, h.stamp, h.waits, h.ans, fun td htd => ?_, ?_⟩
      · rcases List.mem_append.1 htd with h1 | h1
        · exact h.small td h1
        · obtain rfl := List.mem_singleton.1 h1
          simp; omega
      · show ((y.told ++ [((r : Int), text)]).map (·.1)).Nodup
        rw [List.map_append, List.nodup_append]
        refine ⟨h.apart, by simp, fun a ha b hb => ?_⟩
        obtain rfl : b = (r : Int) := by simpa using hb
        obtain ⟨td, htd, rfl⟩ := List.mem_map.1 ha
        exact hno td htd
    have hl := hk.len
    have h2 := alike_le text (y.told ++ [((r : Int), text)])
    have hl' : (y.told ++ [((r : Int), text)]).length ≤ f := hl
    rw [if_neg (by show ¬ y.F < (alike text (y.told ++ [((r : Int), text)]) : Int); rw [h.F]; omega)]
    exact hk
/-- What a client is when j of the others have said t. -/
structure Truly (f j : Nat) (t : ByteArray) (y : Cl) : Prop where
  F : y.F = (f : Int)
  id : y.id = 0
  len : y.told.length ≤ f + j
  is : (y.waits = true ∧ y.stamp = 1 ∧ y.ans = [] ∧ (∀ td ∈ y.told, 0 ≤ td.1 ∧ td.1 < ((f + j : Nat) : Int)) ∧ j ≤ alike t y.told ∧ alike t y.told ≤ f) ∨ (y.waits = false ∧ y.ans = [⟨1, t⟩])
theorem Lied.truly {f : Nat} {y : Cl} (h : Lied f y) (t : ByteArray) : Truly f 0 t y :=
  ⟨h.F, h.id, h.len, .inl ⟨h.waits, h.stamp, h.ans, h.small, Nat.zero_le _, Nat.le_trans (alike_le _ _) h.len⟩⟩
theorem alike_snoc (t : ByteArray) (l : List Td) (k : Int) : alike t (l ++ [(k, t)]) = alike t l + 1 := by
  unfold alike
  rw [List.filter_append]
  simp
theorem Truly.ans_len {f j : Nat} {t : ByteArray} {y : Cl} (h : Truly f j t y) : y.ans.length ≤ 1 := by
  rcases h.is with h | h
  · rw [h.2.2.1]; simp
  · rw [h.2]; simp
theorem Truly.hear {f j : Nat} {t : ByteArray} {y : Cl} (h : Truly f j t y) (hj : j ≤ f) : Truly f (j + 1) t (hears y ((f + j : Nat) : Int) 0 1 t).2 := by
  have hl := h.len
  rcases h.is with ⟨h1, h2, h3, h4, h5, h6⟩ | ⟨h1, h2⟩
  · unfold hears
    rw [if_neg (by rw [h1, h.F]; simp; omega)]
    unfold hearE
    rw [if_neg (by simp [cliB, h.id, h2])]
    rw [if_neg (by
      intro ha
      obtain ⟨td, htd, he⟩ := List.any_eq_true.1 ha
      have := h4 td htd
      have he : td.1 = ((f + j : Nat) : Int) := by simpa using he
      omega)]
    have e : alike (cliB 10 0 1 t).text (y.told ++ [(((f + j : Nat) : Int), (cliB 10 0 1 t).text)]) = alike t y.told + 1 := alike_snoc t y.told _
    have hlen : (y.told ++ [(((f + j : Nat) : Int), t)]).length ≤ f + (j + 1) := by simp; omega
    rw [e, h.F]
    by_cases hq : (f : Int) < ((alike t y.told + 1 : Nat) : Int)
    · rw [if_pos hq]
      exact ⟨rfl, h.id, hlen, .inr ⟨rfl, by show y.ans ++ [⟨y.stamp, t⟩] = _; rw [h3, h2]; rfl⟩⟩
    · rw [if_neg hq]
      refine ⟨rfl, h.id, hlen, .inl ⟨h1, h2, h3, fun td htd => ?_, ?_, ?_⟩⟩
      · rcases List.mem_append.1 htd with h7 | h7
        · have := h4 td h7; omega
        · obtain rfl := List.mem_singleton.1 h7
          simp only; omega
      · show j + 1 ≤ alike t (y.told ++ [(((f + j : Nat) : Int), t)])
        rw [alike_snoc]; omega
      · show alike t (y.told ++ [(((f + j : Nat) : Int), t)]) ≤ f
        rw [alike_snoc]; omega
  · unfold hears
    rw [if_pos (.inl h1)]
    exact ⟨h.F, h.id, (show y.told.length ≤ f + (j + 1) by omega), .inr ⟨h1, h2⟩⟩
theorem Truly.hear' {f j : Nat} {t : ByteArray} {y : Cl} (h : Truly f j t y) (hj : j ≤ f) : Truly f (j + 1) t (hears y ((f : Int) + (j : Int)) 0 1 t).2 := by
  have := h.hear hj
  rw [show ((f + j : Nat) : Int) = (f : Int) + (j : Int) by omega] at this
  exact this
theorem Truly.done {f : Nat} {t : ByteArray} {y : Cl} (h : Truly f (f + 1) t y) : y.waits = false ∧ y.ans = [⟨1, t⟩] := by
  rcases h.is with ⟨_, _, _, _, h5, h6⟩ | h
  · omega
  · exact h

set_option maxHeartbeats 16000000 in
set_option maxRecDepth 100000 in
theorem clientLies_calls (faults : Int) (Z : Option Addr) (zc : Nat) (l : List Ac12) (truth : ByteArray) (W : World) (hs : Ac12S W Z zc l) (hok : ∀ a ∈ l, a.Ok) : Calls Try.prog 21 #[.int .i64 faults, .slice Z l.length zc, .string truth] W (fun e w' => e = .returned (.bool true) ∧ Below W.heap.size W w') := by
  have HN := Lib.hid (newBook_calls W)
  have HCF := Lib.hid (fun w => config_calls faults w)
  have HFC := fits_config faults (id := 0) (by decide)
  have hf := faultsN_le faults
  obtain ⟨f, hff⟩ : ∃ f, f = faultsN faults := ⟨_, rfl⟩
  rw [← hff] at HCF HFC hf
  have HFC := Lib.hid HFC
  have HAW := Lib.hid (fun w => awake12_calls w)
  have HS := Lib.hid hs
  have hfit := Sl.fits hs
  clear hs hff
  go_enter Try.func21, Try.ntmps21
  go_wp2_with fail
  refine HN.out.mono ?_
  rintro e w1 ⟨b, t, m, n, rfl, hb1, hk1, hb, ht, hm, hn⟩
  have hz1 := hb1.size
  have HB1 := Lib.hid hb1
  have HK1 := Lib.hid hk1
  clear hb1 hk1
  go_wp2_with fail
  refine (HCF.out _).mono ?_
  rintro e w2 ⟨rfl, hb2⟩
  have hal := (Below.refl w2.heap.size w2).alloc (Nat.le_refl _) (.cells #[.int .i64 (f : Int), .int .i64 3, .int .i64 2, .int .i64 5] 104)
  have HB2 := Lib.hid ((HB1.out.trans (hb2.mono hz1)).trans (hal.mono (by have := hb2.size; omega)))
  have HK2 := Lib.hid ((HK1.out.below hb2).below hal)
  have hz2 := HB2.out.size
  have hz12 : W.heap.size ≤ w2.heap.size := by have := hb2.size; omega
  have HX2 := Lib.hid (Box.new w2 #[.int .i64 (f : Int), .int .i64 3, .int .i64 2, .int .i64 5] 104)
  obtain ⟨k0, k1, k2, k3, -⟩ := Box.facts4 HX2.out
  have HNW := Lib.hid (cnew_calls (f : Int) 3 2 5 0 b t m n [] [] _ HK2.out (by decide))
  rw [HFC.out] at HNW
  have hm2 := (HK1.out.below hb2).tm.lt
  have hn2 := (HK1.out.below hb2).wm.lt
  clear hb2 hal
  go_wp2_with fail
  refine HNW.out.mono ?_
  rintro e w3 ⟨T, e3, l3, ch3, hor⟩
  rcases hor with ⟨-, x, g, rfl, hx, hg, hc3⟩ | ⟨hbad, -⟩
  rotate_left
  · cases hbad
  simp only [World.size_alloc] at hx hg
  have HCH3 := Lib.hid ((Ch.of_below (S := fun _ => False) HB2.out).step ch3 hz2 (fun i hi e => by omega))
  have hz3 := HCH3.out.size
  have HX3 := Lib.hid (Box.ch HX2.out ch3 (by simp) (by omega))
  have HC3 := Lib.hid hc3
  have hK3 : w2.heap.size + 1 ≤ w3.heap.size := by have := ch3.size; simpa using this
  clear ch3 hc3 e3 k0 k1 k2 k3
  obtain ⟨k0, k1, k2, k3, -⟩ := Box.facts4 HX3.out
  by_cases hbig : 256 < truth.size
  · have hd : decide ((256 : Int) < (truth.size : Int)) = true := by simp; omega
    go_wp2_with fail
    refine (HAW.out _).mono ?_
    rintro e wb ⟨rfl, hbb⟩
    go_wp2
    go_ret
    exact ⟨rfl, (HCH3.out.step (Ch.of_below (S := fun _ => False) hbb) hz3 (fun _ _ e => e)).below (fun _ _ e => e)⟩
  have hd : decide ((256 : Int) < (truth.size : Int)) = false := by simp; omega
  obtain ⟨sg, S4, he4, hsd4, hl4⟩ := request_said (S := []) (who := 100) (client := 0) (stamp := 1) (text := ⟨#[111, 112]⟩) (by decide) (by decide) (by decide) (by decide)
  have HRQ := Lib.hid (request_calls x g w3.heap.size b t m n T [] (NewCl f 3 2 5 0) none 0 ⟨#[111, 112]⟩ sg S4 f w3 HC3.out (by decide) (show 0 ≤ (0 : Int) ∧ (0 : Int) ≤ 15 by decide) (show 0 ≤ (0 : Int) ∧ (0 : Int) < 1099511627776 by decide) (by decide) rfl rfl hf.2 he4 hsd4.fits)
  obtain ⟨out, hout⟩ : ∃ o, o = bs (putSg sg) := ⟨_, rfl⟩
  rw [← hout] at HRQ
  unfold ReqPost at HRQ
  simp only [List.length_nil] at hl4
  clear he4 hsd4 hout
  go_wp2_with fail
  refine HRQ.out.mono ?_
  rintro e w4 ⟨LA, lc, rfl, hc4, ch4, -⟩
  obtain ⟨K, hK⟩ : ∃ K, K = w3.heap.size := ⟨_, rfl⟩
  have HC4 := Lib.hid (show CS w4 x g K b t m n T S4 (askedCl (NewCl f 3 2 5 0) out) none 0 by rw [hK]; exact hc4)
  have HLI := Lib.hid (show Lied f (askedCl (NewCl f 3 2 5 0) out) from ⟨rfl, rfl, rfl, rfl, rfl, (fun td h => (by cases h)), (by show List.Nodup []; simp)⟩)
  have HCH4 := Lib.hid (HCH3.out.step ch4 hz3 (fun i hi e => by omega))
  have HX4 := Lib.hid (Box.ch HX3.out ch4 HX3.out.lt (by omega))
  rw [← hK] at hK3
  clear hc4 ch4 hK k0 k1 k2 k3
  go_wp2_with fail
  go_loopg [11] 60 (fun gk v11 wr => ∃ (i : Nat) (S : List Wd) (y : Cl) (A : Option Addr) (c : Nat), v11 = .int .i64 i ∧ i ≤ 60 ∧ i ≤ l.length ∧ Hid (gk + i = 60 ∧ S.length ≤ 1 + i ∧ Lied f y ∧ CS wr x g K b t m n T S y A c ∧ Box wr w2.heap.size #[.int .i64 (f : Int), .int .i64 3, .int .i64 2, .int .i64 5] 104 ∧ Ch W.heap.size (fun _ => False) W wr))
  case atStart => exact ⟨0, S4, _, none, 0, rfl, by omega, by omega, by omega, by omega, HLI.out, HC4.out, HX4.out, HCH4.out⟩
  case round =>
    obtain ⟨i, S, y, A, c, rfl, hi60, hil, HH⟩ := hrel
    obtain ⟨hgk, hSl, hli, hcs, hxr, hch⟩ := HH.out
    have HGK := Lib.hid hgk
    have HL := Lib.hid hli
    have HCr := Lib.hid hcs
    have HXr := Lib.hid hxr
    have HCHr := Lib.hid hch
    have hzr := hch.size
    have htl := hli.len
    have hal : y.ans.length = 0 := by rw [hli.ans]; rfl
    have hxl := hxr.lt
    clear HH hgk hli hcs hxr hch HC4 HLI HCH4 HX4
    obtain ⟨k0, k1, k2, k3, -⟩ := Box.facts4 HXr.out
    by_cases hlt : i < l.length ∧ i < 60
    · obtain ⟨hlt1, hlt2⟩ := hlt
      have hd1 : decide ((i : Int) < (l.length : Int)) = true := by simp; omega
      have hd2 : decide ((i : Int) < 60) = true := by simp; omega
      obtain ⟨a, rfl, e0, e1, e2, e3⟩ := (Ac12S.below HS.out (HCHr.out.below (fun _ _ e => e))).elem i hlt1
      have hao := (hok l[i] (List.getElem_mem hlt1)).who
      obtain ⟨act, hact⟩ : ∃ x, x = l[i] := ⟨_, rfl⟩
      have HACT := Lib.hid hact
      rw [← hact] at e0 e1 e2 e3 hao
      clear hact
      obtain ⟨kind, who, stp, text⟩ := act
      simp only at e0 e1 e2 e3 hao
      by_cases hbt : text.size ≤ 256
      · have hd3 : decide ((text.size : Int) ≤ 256) = true := by simp; omega
        have HAR := Lib.hid (fun w => around12_calls who f w (by omega) (by omega))
        unfold RndPost at HAR
        have hr := rnd_lt who (m := f) (by omega)
        obtain ⟨r, hrr⟩ : ∃ r, r = rnd who f := ⟨_, rfl⟩
        rw [← hrr] at HAR hr
        clear hrr
        go_wp2_with fail
        have HCD := Lib.hid (show CS wr.drew x g K b t m n T S y A c from HCr.out.drewN 1)
        obtain ⟨s1, S1, hl1, hR, hV⟩ := hear_both x g K b t m n T S y A c (r : Int) 0 1 text f wr.drew HCD.out (by omega) (by omega) (by decide) (by decide) hbt HL.out.F hf.2 (by omega) (by omega)
        have HR := Lib.hid hR
        have HV := Lib.hid hV
        have HLY := Lib.hid (HL.out.hear hr text)
        obtain ⟨⟨v, y2⟩, hy2⟩ : ∃ q, q = hears y (r : Int) 0 1 text := ⟨_, rfl⟩
        rw [← hy2] at HV HLY
        simp only at HLY
        clear hR hV hy2
        have d0 : wr.drew.cell? ⟨w2.heap.size, 0, none⟩ = some (.int .i64 (f : Int)) := k0
        have d1 : wr.drew.cell? ⟨(a.add (i * 4)).block, (a.add (i * 4)).off + 1, none⟩ = some (.int .i64 who) := e1
        have d3 : wr.drew.cell? ⟨(a.add (i * 4)).block, (a.add (i * 4)).off + 3, none⟩ = some (.string text) := e3
        go_region_held3 (fun w' => w'.cell? ⟨w2.heap.size, 0, none⟩ = some (.int .i64 (f : Int)) ∧ w'.cell? ⟨(a.add (i * 4)).block, (a.add (i * 4)).off + 1, none⟩ = some (.int .i64 who) ∧ w'.cell? ⟨(a.add (i * 4)).block, (a.add (i * 4)).off + 3, none⟩ = some (.string text)) (with_reducible first | exact ⟨d0, d1, d3⟩ | exact ⟨p0, p1, p3⟩ | exact ⟨q0, q1, q3⟩) (first | (go_at_call 71; refine (HAR.out _).mono ?_; rintro e wx ⟨rfl, hwx⟩; obtain rfl := hwx.symm) | (go_at_call 70; refine HR.out.mono ?_; rintro e w5 ⟨rfl, hc5, ch5⟩; have HC5 := Lib.hid hc5; have HCH5 := Lib.hid (HCHr.out.drew.step ch5 (by simpa using hzr) (fun i hi e => by omega)); have HX5 := Lib.hid (Box.ch HXr.out.drew ch5 HXr.out.drew.lt (by omega)); have hz5 := HCH5.out.size; have p0 := (Box.facts4 HX5.out).1; obtain ⟨a5, ha5, -, p1, -, p3⟩ := (Ac12S.below HS.out (HCH5.out.below (fun _ _ e => e))).elem i hlt1; cases ha5; rw [← HACT.out] at p1 p3; simp only at p1 p3; clear hc5 ch5) | (go_at_call 69; refine (HV.out _ HC5.out).mono ?_; rintro e w6 ⟨A6, c6, rfl, hc6, ch6, -⟩; have HC6 := Lib.hid hc6; have HROW := Lib.hid (fun k hk => HC5.out.row (k := k) hk); have HCH6 := Lib.hid (HCH5.out.step ch6 hz5 (fun i hi e => (by rcases e with e | e | e <;> first | omega | (have := (HROW.out _ e).1; omega)))); have HX6 := Lib.hid (Box.ch HX5.out ch6 HX5.out.lt (fun e => (by rcases e with e | e | e <;> first | omega | (have := (HROW.out _ e).1; omega)))); have hz6 := HCH6.out.size; have q0 := (Box.facts4 HX6.out).1; obtain ⟨a6, ha6, -, q1, -, q3⟩ := (Ac12S.below HS.out (HCH6.out.below (fun _ _ e => e))).elem i hlt1; cases ha6; rw [← HACT.out] at q1 q3; simp only at q1 q3; clear hc6 ch6))
        all_goals
          go_wp2_with fail
          go_roundg (gk - 1)
          case measure => have := HGK.out; omega
          case rel => exact ⟨i + 1, S1, y2, A6, c6, by go_num, by omega, by omega, by have := HGK.out; omega, by omega, HLY.out, HC6.out, HX6.out, HCH6.out⟩
      · have hd3 : decide ((text.size : Int) ≤ 256) = false := by simp; omega
        go_wp2_with fail
        go_roundg (gk - 1)
        case measure => have := HGK.out; omega
        case rel => exact ⟨i + 1, S, y, A, c, by go_num, by omega, by omega, by have := HGK.out; omega, by omega, HL.out, HCr.out, HXr.out, HCHr.out⟩
    · have hend : ¬ i < l.length ∨ (i < l.length ∧ ¬ i < 60) := by omega
      have hyw := HL.out.waits
      have HANS := Lib.hid (answers_calls x g K b t m n T S y A c wr HCr.out (by omega))
      unfold AnsPost at HANS
      rw [HL.out.ans] at HANS
      have hw1 : IntKind.i64.wrap (2 * (f : Int)) = 2 * (f : Int) := wrap_near _ (by omega) (by omega)
      rcases hend with h1 | ⟨h1, h2⟩
      all_goals first
        | (have hd1 : decide ((i : Int) < (l.length : Int)) = false := by simp; omega)
        | (have hd1 : decide ((i : Int) < (l.length : Int)) = true := by simp; omega
           have hd2 : decide ((i : Int) < 60) = false := by simp; omega)
      all_goals
        go_wp2_with fail
        refine HANS.out.mono ?_
        rintro e wa ⟨A9, c9, rfl, hba, -⟩
        have HCa := Lib.hid (HCr.out.below hba)
        have HXa := Lib.hid (HXr.out.call hba)
        have HCHa := Lib.hid (HCHr.out.step (Ch.of_below (S := fun _ => False) hba) hzr (fun _ _ e => e))
        have hza := HCHa.out.size
        have HWT := Lib.hid (cwaits_calls x g K b t m n T S y A c wa HCa.out)
        rw [hyw] at HWT
        clear hba k0 k1 k2 k3 hyw
        obtain ⟨k0, k1, k2, k3, -⟩ := Box.facts4 HXa.out
        go_wp2_with fail
        refine HWT.out.mono ?_
        rintro e wx ⟨rfl, hwx⟩
        obtain rfl := hwx.symm
        go_wp2_with fail
        go_loopg [12] (f + 1) (fun gk v12 wr => ∃ (j : Nat) (S : List Wd) (y : Cl) (A : Option Addr) (c : Nat), v12 = .int .i64 ((f : Int) + (j : Int)) ∧ j ≤ f + 1 ∧ Hid (gk + j = f + 1 ∧ S.length ≤ 61 + j ∧ Truly f j truth y ∧ CS wr x g K b t m n T S y A c ∧ Box wr w2.heap.size #[.int .i64 (f : Int), .int .i64 3, .int .i64 2, .int .i64 5] 104 ∧ Ch W.heap.size (fun _ => False) W wr))
        case atStart => exact ⟨0, S, y, A, c, by simp, by omega, by omega, by omega, HL.out.truly truth, HCa.out, HXa.out, HCHa.out⟩
        case round =>
          clear htl hal hSl hil hi60 HGK HL HCr HXr HCHr HCa HXa HCHa HWT HANS hza
          obtain ⟨j, S, y, A, c, rfl, hjf, HH⟩ := hrel
          obtain ⟨hgk, hSl, htr, hcs, hxr, hch⟩ := HH.out
          have HGK := Lib.hid hgk
          have HL := Lib.hid htr
          have HCr := Lib.hid hcs
          have HXr := Lib.hid hxr
          have HCHr := Lib.hid hch
          have hzr := hch.size
          have htl := htr.len
          have hal := htr.ans_len
          have hxl := hxr.lt
          clear HH hgk htr hcs hxr hch k0 k1 k2 k3
          obtain ⟨k0, k1, k2, k3, -⟩ := Box.facts4 HXr.out
          by_cases hj : j ≤ f
          · have hdj : decide ((f : Int) + (j : Int) ≤ 2 * (f : Int)) = true := by simp; omega
            obtain ⟨s1, S1, hl1, hR, hV⟩ := hear_both x g K b t m n T S y A c ((f : Int) + (j : Int)) 0 1 truth f wr HCr.out (by omega) (by omega) (by decide) (by decide) (by omega) HL.out.F hf.2 (by omega) (by omega)
            have HR := Lib.hid hR
            have HV := Lib.hid hV
            have HLY := Lib.hid (HL.out.hear' hj)
            obtain ⟨⟨v, y2⟩, hy2⟩ : ∃ q, q = hears y ((f : Int) + (j : Int)) 0 1 truth := ⟨_, rfl⟩
            rw [← hy2] at HV HLY
            simp only at HLY
            clear hR hV hy2
            go_wp2_with fail
            refine HR.out.mono ?_
            rintro e w5 ⟨rfl, hc5, ch5⟩
            have HC5 := Lib.hid hc5
            have HCH5 := Lib.hid (HCHr.out.step ch5 hzr (fun i hi e => by omega))
            have HX5 := Lib.hid (Box.ch HXr.out ch5 HXr.out.lt (by omega))
            have hz5 := HCH5.out.size
            clear hc5 ch5
            go_wp2_with fail
            refine (HV.out _ HC5.out).mono ?_
            rintro e w6 ⟨A6, c6, rfl, hc6, ch6, -⟩
            have HC6 := Lib.hid hc6
            have HROW := Lib.hid (fun k hk => HC5.out.row (k := k) hk)
            have HCH6 := Lib.hid (HCH5.out.step ch6 hz5 (fun i hi e => by
              rcases e with e | e | e
              · omega
              · omega
              · have := (HROW.out _ e).1; omega))
            have HX6 := Lib.hid (Box.ch HX5.out ch6 HX5.out.lt (fun e => by
              rcases e with e | e | e
              · omega
              · omega
              · have := (HROW.out _ e).1; omega))
            clear hc6 ch6
            go_wp2_with fail
            go_roundg (gk - 1)
            case measure => have := HGK.out; omega
            case rel => exact ⟨j + 1, S1, y2, A6, c6, by go_num, by omega, by have := HGK.out; omega, by omega, HLY.out, HC6.out, HX6.out, HCH6.out⟩
          · have hdj : decide ((f : Int) + (j : Int) ≤ 2 * (f : Int)) = false := by simp; omega
            obtain rfl : j = f + 1 := by omega
            obtain ⟨hyw, hya⟩ := HL.out.done
            have HANS := Lib.hid (answers_calls x g K b t m n T S y A c wr HCr.out (by omega))
            unfold AnsPost at HANS
            rw [hya] at HANS
            go_wp2_with fail
            refine HANS.out.mono ?_
            rintro e w13 ⟨A13, c13, rfl, hb13, ho13⟩
            have ho : w13.ownsRow wr.heap.size 118 2 (.slice A13 1 c13) 1 [.int .i64 1, .string truth] := ho13
            obtain ⟨ga, rfl⟩ := own_some ho (by decide)
            have a0 : w13.cell? ⟨ga, 0, none⟩ = some (.int .i64 1) := by rw [ho.cellAt 0 (by decide)]; rfl
            have a1 : w13.cell? ⟨ga, 1, none⟩ = some (.string truth) := by rw [ho.cellAt 1 (by decide)]; rfl
            have hbq := beq_list truth truth
            rw [decide_eq_true rfl] at hbq
            have HC13 := Lib.hid (HCr.out.below hb13)
            have HCH13 := Lib.hid (HCHr.out.step (Ch.of_below (S := fun _ => False) hb13) hzr (fun _ _ e => e))
            have hz13 := HCH13.out.size
            have HWT := Lib.hid (cwaits_calls x g K b t m n T S y A c w13 HC13.out)
            rw [hyw] at HWT
            rw [show List.length [(⟨1, truth⟩ : An)] = 1 from rfl]
            clear ho ho13 hb13 hyw hya
            go_wp2_with fail
            refine HWT.out.mono ?_
            rintro e wx ⟨rfl, hwx⟩
            obtain rfl := hwx.symm
            go_wp2_with fail
            refine (HAW.out _).mono ?_
            rintro e wb ⟨rfl, hbb⟩
            go_wp2
            go_ret
            exact ⟨rfl, (HCH13.out.step (Ch.of_below (S := fun _ => False) hbb) hz13 (fun _ _ e => e)).below (fun _ _ e => e)⟩
end Go.Proofs.Ytfgpchffkpomoaa
