/- A key that is put and dropped again leaves the root sc it was: the walk. -/
import Derived.Test.YtfgpchffkpomoaaPlay4
import Derived.Test.YtfgpchffkpomoaaPk27
import Derived.Test.YtfgpchffkpomoaaMSound
namespace Go.Proofs.Ytfgpchffkpomoaa
set_option linter.unusedSimpArgs false
set_option linter.unusedVariables false
open Go.RowKit

theorem TrS.new {w w' : World} {q b t m n : Nat} {T T' : List ByteArray} {S : List Wd} (hb : Bk w b t m n T S) (hk : Bk w' b t m n T' S) (hq : w.heap.size ≤ q) (hx : TreeBox w' q b none 0 0 none 0 0) : TrS w' q b t m n T' S [] none 0 none 0 := by
  have := hb.all_lt
  exact ⟨hk, hx, ⟨rfl, .inl ⟨rfl, rfl⟩⟩, ⟨rfl, .inl ⟨rfl, rfl⟩⟩, fun x hx => (by cases hx), by omega⟩
theorem Tch.ge {w : World} {q b t m n k B : Nat} {T : List ByteArray} {S : List Wd} {l : List Rc} {A : Option Addr} {c : Nat} {D : Option Addr} {d : Nat} (h : TrS w q b t m n T S l A c D d) (hm : B ≤ m) (hq : B ≤ q) (hk : Tch q m A D k) : B ≤ k := by
  rcases hk with e | e | e | e
  · omega
  · omega
  · have := (own_row h.recs e).1
    omega
  · have := (own_row h.digs e).1
    omega
theorem root_eq {T2 T3 : List ByteArray} {l : List Rc} {x y : ByteArray} (h2 : x = rootP (hh T2) l ∧ RootIn T2 l) (he : Ext T2 T3) (h3 : y = rootP (hh T3) l) : y = x := by
  rw [h3, h2.1, (h2.2.ext he).2]
theorem root_ne {T2 T3 : List ByteArray} {l m : List Rc} {x y : ByteArray} (h2 : x = rootP (hh T2) l ∧ RootIn T2 l) (he : Ext T2 T3) (h3 : y = rootP (hh T3) m ∧ RootIn T3 m) (hT : T3.length ≤ 1000000000) (sl : Short l) (sm : Short m) (nl : l.length ≤ 1000) (nm : m.length ≤ 1000) (hne : l ≠ m) : y ≠ x := by
  intro e
  have h4 := h2.2.ext he
  refine hne (root_inj hT h4.1 h3.2 sl sm (by omega) (by omega) ?_)
  rw [h4.2, ← h2.1, ← h3.1, e]

set_option maxHeartbeats 8000000 in
set_option maxRecDepth 100000 in
theorem merkleBack_calls (B : Option Addr) (bc : Nat) (sc : List Act4) (key val : ByteArray) (W : World) (hs : Act4S W B bc sc) (hok : ∀ a ∈ sc, a.Ok) :
    Calls Try.prog 26 #[.slice B sc.length bc, .string key, .string val] W fun e w' => e = .returned (.bool true) ∧ Below W.heap.size W w' := by
  have hfit := Sl.fits hs
  have HN := Lib.hid (newBook_calls W)
  have HS := Lib.hid hs
  have HOK := Lib.hid hok
  have HAW := Lib.hid (fun w => awake4_calls w)
  clear hs hok
  go_enter Try.func26, Try.ntmps26
  go_wp2_with fail
  refine HN.out.mono ?_
  rintro e w1 ⟨b, t, m, n, rfl, hb1, hk1, hb, ht, hm, hn⟩
  have hz1 := hb1.size
  have HB1 := Lib.hid hb1
  have HK1 := Lib.hid hk1
  have HNW := Lib.hid (mNew_calls b t m n [] [] w1 hk1 (by decide))
  have hml := hk1.all_lt.2.2.1
  clear hk1 hb1 hb ht hn
  go_wp2_with fail
  refine HNW.out.mono ?_
  rintro e w2 ⟨T1, q, rfl, e1, l1, ch2, k2, hq, hx2⟩
  have HC2 := Lib.hid ((Ch.of_below (S := fun _ => False) HB1.out).step ch2 hz1 (fun i hi e => by omega))
  have HT2 := Lib.hid (TrS.new HK1.out k2 hq hx2)
  have hz2 := HC2.out.size
  have hT1 : T1.length ≤ 1 := by simpa using l1
  have hWq : W.heap.size ≤ q := by omega
  clear ch2 k2 hx2 e1 l1
  go_wp2_with fail
  go_loopg [9] 60 (fun g v9 wr => ∃ (k : Nat) (T : List ByteArray) (l : List Rc) (A : Option Addr) (c : Nat) (D : Option Addr) (d : Nat), v9 = .int .i64 k ∧ k ≤ 60 ∧ k ≤ sc.length ∧ Hid (g + k = 60 ∧ TrS wr q b t m n T [] l A c D d ∧ Rising l ∧ Held l ∧ l.length ≤ k ∧ T.length ≤ 1 + k ∧ Ch W.heap.size (fun _ => False) W wr))
  case atStart => exact ⟨0, T1, [], none, 0, none, 0, rfl, by omega, by omega, by omega, HT2.out, Rising.nil, Held.nil, by simp, by omega, HC2.out⟩
  case round =>
    obtain ⟨k, T, l, A, c, D, d, rfl, hk60, hka, HH⟩ := hrel
    obtain ⟨hg, htr, hri, hhe, hll, hTl, hc⟩ := HH.out
    have HG := Lib.hid hg
    have HT := Lib.hid htr
    have HR := Lib.hid hri
    have HE := Lib.hid hhe
    have HC := Lib.hid hc
    have hzc := hc.size
    clear HH hg htr hri hhe hc HT2 HC2
    by_cases hlt : k < sc.length ∧ k < 60
    · obtain ⟨hlt1, hlt2⟩ := hlt
      have hd1 : decide ((k : Int) < (sc.length : Int)) = true := by simp; omega
      have hd2 : decide ((k : Int) < 60) = true := by simp; omega
      obtain ⟨a, rfl, e0, e1, e2⟩ := (Act4S.below HS.out (HC.out.below (fun _ _ e => e))).elem k hlt1
      have hok := HOK.out sc[k] (List.getElem_mem hlt1)
      obtain ⟨act, hact⟩ : ∃ x, x = sc[k] := ⟨_, rfl⟩
      rw [← hact] at e0 e1 e2 hok
      clear hact
      obtain ⟨kind, ak, av⟩ := act
      simp only at e0 e1 e2
      have HP := Lib.hid (playNil_calls q b t m n T [] l A c D d kind ak av wr HT.out (by omega) (by omega) HR.out hok.kind (by have hkey : ak.size ≤ 140737488351232 := hok.key; simp only [maxLen]; omega))
      clear hok
      go_wp2_with fail
      refine HP.out.mono ?_
      rintro e w5 ⟨v, l', T', A', c', D', d', rfl, hl', e5, l5, ht5, ch5⟩
      have HC5 := Lib.hid (HC.out.step ch5 hzc (fun i hi e => by have := Tch.ge HT.out hm hWq e; omega))
      have HT5 := Lib.hid ht5
      have hlen : l'.length ≤ l.length + 1 := by
        rcases hl'.out with rfl | rfl | ⟨rfl, _⟩
        · have := dropD_le l ak; omega
        · omega
        · exact putD_le l ak av
      have HR5 := Lib.hid (show Rising l' by
        rcases hl'.out with rfl | rfl | ⟨rfl, _⟩
        · exact dropD_rising HR.out ak
        · exact HR.out
        · exact putD_rising HR.out ak av)
      have HE5 := Lib.hid (show Held l' by
        rcases hl'.out with rfl | rfl | ⟨rfl, ho⟩
        · exact HE.out.drop ak
        · exact HE.out
        · unfold okP at ho
          simp only [Bool.and_eq_true, decide_eq_true_eq] at ho
          exact HE.out.put ho.1 ho.2)
      clear ht5 ch5 hl' e5
      go_wp2_with fail
      go_roundg (gk - 1)
      case measure => have := HG.out; omega
      case rel => exact ⟨k + 1, T', l', A', c', D', d', by go_num, by omega, by omega, by have := HG.out; omega, HT5.out, HR5.out, HE5.out, by omega, by omega, HC5.out⟩
    · have hRT := tRoot_calls q b t m n T [] l A c D d wr HT.out (by omega) (by omega)
      have HRT := Lib.hid hRT
      clear hRT
      have hend : ¬ k < sc.length ∨ (k < sc.length ∧ ¬ k < 60) := by omega
      rcases hend with h1 | ⟨h1, h2⟩
      all_goals first
        | (have hd1 : decide ((k : Int) < (sc.length : Int)) = false := by simp; omega)
        | (have hd1 : decide ((k : Int) < (sc.length : Int)) = true := by simp; omega
           have hd2 : decide ((k : Int) < 60) = false := by simp; omega)
      all_goals go_wp2_with fail
      all_goals refine HRT.out.mono ?_
      all_goals rintro e w3 ⟨T3, x3, rfl, hx3, e3, l3, ch3, k3⟩
      all_goals have HC3 := Lib.hid (HC.out.step ch3 hzc (fun i hi e => by omega))
      all_goals have HT3 := Lib.hid (HT.out.grow ch3 e3 k3)
      all_goals have hz3 := HC3.out.size
      all_goals clear ch3 k3 e3
      all_goals have HG3 := Lib.hid (tGet_calls q b t m n T3 [] l A c D d key w3 HT3.out HR.out (by omega))
      all_goals unfold GetPost at HG3
      all_goals obtain ⟨iv, hiv⟩ : ∃ iv, iv = isP l key := ⟨_, rfl⟩
      all_goals rw [← hiv] at HG3
      all_goals have HIV := Lib.hid hiv
      all_goals clear hiv
      all_goals go_wp2_with fail
      all_goals refine HG3.out.mono ?_
      all_goals rintro e w4 ⟨gv, rfl, -, hb4⟩
      all_goals have HC4 := Lib.hid (HC3.out.step (Ch.of_below (S := fun _ => False) hb4) hz3 (fun _ _ e => e))
      all_goals have HT4 := Lib.hid (HT3.out.below hb4)
      all_goals have hz4 := HC4.out.size
      all_goals clear hb4
      all_goals cases iv
      · have hiv : isP l key = false := HIV.out.symm
        cases ho : okP key val with
        | false =>
          have HPN := Lib.hid (tPut_no q b t m n T3 [] l A c D d key val w4 HT4.out ho)
          have HF := Lib.hid (fun w => rfits4_calls key w)
          obtain ⟨fv, hfv⟩ : ∃ fv, fv = fitK key := ⟨_, rfl⟩
          have hov : fv = true → 4096 < val.size := fun h => by
            unfold okP at ho
            rw [← hfv, h] at ho
            simp at ho
            omega
          rw [← hfv] at HF
          clear hfv ho hiv
          go_wp2_with fail
          refine HPN.out.mono ?_
          rintro e w5 ⟨rfl, hw5⟩
          subst hw5
          cases fv with
          | false =>
            have HR6 := Lib.hid (tRoot_calls q b t m n T3 [] l A c D d w5 HT4.out (by omega) (by omega))
            go_wp2_with fail
            refine (HF.out _).mono ?_
            rintro e w6 ⟨rfl, hw6⟩
            obtain rfl := hw6.symm
            go_wp2_with fail
            refine HR6.out.mono ?_
            rintro e w7 ⟨T7, x7, rfl, hx7, e7, l7, ch7, k7⟩
            have hxe := beq_list x7 x3
            rw [decide_eq_true (root_eq hx3.out e7 hx7.out.1)] at hxe
            have HC7 := Lib.hid (HC4.out.step ch7 hz4 (fun i hi e => by omega))
            have hz7 := HC7.out.size
            clear ch7 k7 hx7 e7
            go_wp2_with fail
            refine (HAW.out _).mono ?_
            rintro e w9 ⟨rfl, hb9⟩
            go_wp2
            go_ret
            exact ⟨rfl, (HC7.out.step (Ch.of_below (S := fun _ => False) hb9) hz7 (fun _ _ e => e)).below (fun _ _ e => e)⟩
          | true =>
            have hvs : decide ((4096 : Int) < (val.size : Int)) = true := by have := hov (by trivial); simp; omega
            have HR6 := Lib.hid (tRoot_calls q b t m n T3 [] l A c D d w5 HT4.out (by omega) (by omega))
            go_wp2_with fail
            refine (HF.out _).mono ?_
            rintro e w6 ⟨rfl, hw6⟩
            obtain rfl := hw6.symm
            go_wp2_with fail
            refine HR6.out.mono ?_
            rintro e w7 ⟨T7, x7, rfl, hx7, e7, l7, ch7, k7⟩
            have hxe := beq_list x7 x3
            rw [decide_eq_true (root_eq hx3.out e7 hx7.out.1)] at hxe
            have HC7 := Lib.hid (HC4.out.step ch7 hz4 (fun i hi e => by omega))
            have hz7 := HC7.out.size
            clear ch7 k7 hx7 e7
            go_wp2_with fail
            refine (HAW.out _).mono ?_
            rintro e w9 ⟨rfl, hb9⟩
            go_wp2
            go_ret
            exact ⟨rfl, (HC7.out.step (Ch.of_below (S := fun _ => False) hb9) hz7 (fun _ _ e => e)).below (fun _ _ e => e)⟩
        | true =>
          have HPY := tPut_calls q b t m n T3 [] l A c D d key val w4 HT4.out (by omega) (by omega) HR.out
          unfold PutAll at HPY
          rw [if_pos ho, if_pos ho] at HPY
          have HPY := Lib.hid HPY
          have hpl := putD_len HR.out val hiv
          have HRP := Lib.hid (putD_rising HR.out key val)
          have hok2 := ho
          unfold okP at hok2
          simp only [Bool.and_eq_true, decide_eq_true_eq] at hok2
          have HEP := Lib.hid (HE.out.put hok2.1 hok2.2)
          have HDP := Lib.hid (drop_put HR.out val hiv)
          have HIP := Lib.hid (isP_put HR.out key val)
          have HDD := Lib.hid (show dropD l key = l from filter_none HR.out hiv)
          have HIVF := Lib.hid hiv
          obtain ⟨P, hP⟩ : ∃ P, P = putD l key val := ⟨_, rfl⟩
          rw [← hP] at HPY hpl HRP HEP HDP HIP
          clear hP ho hok2 hiv
          go_wp2_with fail
          refine HPY.out.mono ?_
          rintro e w5 ⟨T5, A5, c5, D5, d5, rfl, e5, l5, ht5, ch5, -, -⟩
          have HC5 := Lib.hid (HC4.out.step ch5 hz4 (fun i hi e => by have := Tch.ge HT4.out hm hWq e; omega))
          have HT5 := Lib.hid ht5
          have HE35 := Lib.hid e5
          have hz5 := HC5.out.size
          have HR5 := Lib.hid (tRoot_calls q b t m n T5 [] P A5 c5 D5 d5 w5 ht5 (by omega) (by omega))
          clear ht5 ch5 e5
          go_wp2_with fail
          refine HR5.out.mono ?_
          rintro e w6 ⟨T6, x6, rfl, hx6, e6, l6, ch6, k6⟩
          have hxe := beq_list x6 x3
          rw [decide_eq_false (root_ne hx3.out (HE35.out.trans e6) hx6.out (by omega) HE.out.short HEP.out.short (by omega) (by omega) (fun e => by rw [← e] at hpl; omega))] at hxe
          have HC6 := Lib.hid (HC5.out.step ch6 hz5 (fun i hi e => by omega))
          have HT6 := Lib.hid (HT5.out.grow ch6 e6 k6)
          have HE36 := Lib.hid (HE35.out.trans e6)
          have hz6 := HC6.out.size
          have HD6 := tDrop_calls q b t m n T6 [] P A5 c5 D5 d5 key w6 HT6.out (by omega) HRP.out
          rw [HDP.out, HIP.out] at HD6
          have HD6 := Lib.hid HD6
          clear ch6 k6 hx6 e6
          go_wp2_with fail
          refine HD6.out.mono ?_
          rintro e w7 ⟨rfl, ht7, ch7⟩
          have HC7 := Lib.hid (HC6.out.step ch7 hz6 (fun i hi e => by have := Tch.ge HT6.out hm hWq e; omega))
          have HT7 := Lib.hid ht7
          have hz7 := HC7.out.size
          have HD7 := tDrop_calls q b t m n T6 [] l A5 c5 D5 d5 key w7 ht7 (by omega) HR.out
          rw [HDD.out, HIVF.out] at HD7
          have HD7 := Lib.hid HD7
          clear ht7 ch7
          go_wp2_with fail
          refine HD7.out.mono ?_
          rintro e w8 ⟨rfl, ht8, ch8⟩
          have HC8 := Lib.hid (HC7.out.step ch8 hz7 (fun i hi e => by have := Tch.ge HT7.out hm hWq e; omega))
          have hz8 := HC8.out.size
          have HR8 := Lib.hid (tRoot_calls q b t m n T6 [] l A5 c5 D5 d5 w8 ht8 (by omega) (by omega))
          clear ht8 ch8
          go_wp2_with fail
          refine HR8.out.mono ?_
          rintro e wa ⟨Ta, xa, rfl, hxa, ea, la, cha, ka⟩
          have hxe2 := beq_list xa x3
          rw [decide_eq_true (root_eq hx3.out (HE36.out.trans ea) hxa.out.1)] at hxe2
          have HCa := Lib.hid (HC8.out.step cha hz8 (fun i hi e => by omega))
          have hza := HCa.out.size
          clear cha ka hxa ea
          go_wp2_with fail
          refine (HAW.out _).mono ?_
          rintro e w9 ⟨rfl, hb9⟩
          go_wp2
          go_ret
          exact ⟨rfl, (HCa.out.step (Ch.of_below (S := fun _ => False) hb9) hza (fun _ _ e => e)).below (fun _ _ e => e)⟩
      · go_wp2_with fail
        refine (HAW.out _).mono ?_
        rintro e w9 ⟨rfl, hb9⟩
        go_wp2
        go_ret
        exact ⟨rfl, (HC4.out.step (Ch.of_below (S := fun _ => False) hb9) hz4 (fun _ _ e => e)).below (fun _ _ e => e)⟩
      · have hiv : isP l key = false := HIV.out.symm
        cases ho : okP key val with
        | false =>
          have HPN := Lib.hid (tPut_no q b t m n T3 [] l A c D d key val w4 HT4.out ho)
          have HF := Lib.hid (fun w => rfits4_calls key w)
          obtain ⟨fv, hfv⟩ : ∃ fv, fv = fitK key := ⟨_, rfl⟩
          have hov : fv = true → 4096 < val.size := fun h => by
            unfold okP at ho
            rw [← hfv, h] at ho
            simp at ho
            omega
          rw [← hfv] at HF
          clear hfv ho hiv
          go_wp2_with fail
          refine HPN.out.mono ?_
          rintro e w5 ⟨rfl, hw5⟩
          subst hw5
          cases fv with
          | false =>
            have HR6 := Lib.hid (tRoot_calls q b t m n T3 [] l A c D d w5 HT4.out (by omega) (by omega))
            go_wp2_with fail
            refine (HF.out _).mono ?_
            rintro e w6 ⟨rfl, hw6⟩
            obtain rfl := hw6.symm
            go_wp2_with fail
            refine HR6.out.mono ?_
            rintro e w7 ⟨T7, x7, rfl, hx7, e7, l7, ch7, k7⟩
            have hxe := beq_list x7 x3
            rw [decide_eq_true (root_eq hx3.out e7 hx7.out.1)] at hxe
            have HC7 := Lib.hid (HC4.out.step ch7 hz4 (fun i hi e => by omega))
            have hz7 := HC7.out.size
            clear ch7 k7 hx7 e7
            go_wp2_with fail
            refine (HAW.out _).mono ?_
            rintro e w9 ⟨rfl, hb9⟩
            go_wp2
            go_ret
            exact ⟨rfl, (HC7.out.step (Ch.of_below (S := fun _ => False) hb9) hz7 (fun _ _ e => e)).below (fun _ _ e => e)⟩
          | true =>
            have hvs : decide ((4096 : Int) < (val.size : Int)) = true := by have := hov (by trivial); simp; omega
            have HR6 := Lib.hid (tRoot_calls q b t m n T3 [] l A c D d w5 HT4.out (by omega) (by omega))
            go_wp2_with fail
            refine (HF.out _).mono ?_
            rintro e w6 ⟨rfl, hw6⟩
            obtain rfl := hw6.symm
            go_wp2_with fail
            refine HR6.out.mono ?_
            rintro e w7 ⟨T7, x7, rfl, hx7, e7, l7, ch7, k7⟩
            have hxe := beq_list x7 x3
            rw [decide_eq_true (root_eq hx3.out e7 hx7.out.1)] at hxe
            have HC7 := Lib.hid (HC4.out.step ch7 hz4 (fun i hi e => by omega))
            have hz7 := HC7.out.size
            clear ch7 k7 hx7 e7
            go_wp2_with fail
            refine (HAW.out _).mono ?_
            rintro e w9 ⟨rfl, hb9⟩
            go_wp2
            go_ret
            exact ⟨rfl, (HC7.out.step (Ch.of_below (S := fun _ => False) hb9) hz7 (fun _ _ e => e)).below (fun _ _ e => e)⟩
        | true =>
          have HPY := tPut_calls q b t m n T3 [] l A c D d key val w4 HT4.out (by omega) (by omega) HR.out
          unfold PutAll at HPY
          rw [if_pos ho, if_pos ho] at HPY
          have HPY := Lib.hid HPY
          have hpl := putD_len HR.out val hiv
          have HRP := Lib.hid (putD_rising HR.out key val)
          have hok2 := ho
          unfold okP at hok2
          simp only [Bool.and_eq_true, decide_eq_true_eq] at hok2
          have HEP := Lib.hid (HE.out.put hok2.1 hok2.2)
          have HDP := Lib.hid (drop_put HR.out val hiv)
          have HIP := Lib.hid (isP_put HR.out key val)
          have HDD := Lib.hid (show dropD l key = l from filter_none HR.out hiv)
          have HIVF := Lib.hid hiv
          obtain ⟨P, hP⟩ : ∃ P, P = putD l key val := ⟨_, rfl⟩
          rw [← hP] at HPY hpl HRP HEP HDP HIP
          clear hP ho hok2 hiv
          go_wp2_with fail
          refine HPY.out.mono ?_
          rintro e w5 ⟨T5, A5, c5, D5, d5, rfl, e5, l5, ht5, ch5, -, -⟩
          have HC5 := Lib.hid (HC4.out.step ch5 hz4 (fun i hi e => by have := Tch.ge HT4.out hm hWq e; omega))
          have HT5 := Lib.hid ht5
          have HE35 := Lib.hid e5
          have hz5 := HC5.out.size
          have HR5 := Lib.hid (tRoot_calls q b t m n T5 [] P A5 c5 D5 d5 w5 ht5 (by omega) (by omega))
          clear ht5 ch5 e5
          go_wp2_with fail
          refine HR5.out.mono ?_
          rintro e w6 ⟨T6, x6, rfl, hx6, e6, l6, ch6, k6⟩
          have hxe := beq_list x6 x3
          rw [decide_eq_false (root_ne hx3.out (HE35.out.trans e6) hx6.out (by omega) HE.out.short HEP.out.short (by omega) (by omega) (fun e => by rw [← e] at hpl; omega))] at hxe
          have HC6 := Lib.hid (HC5.out.step ch6 hz5 (fun i hi e => by omega))
          have HT6 := Lib.hid (HT5.out.grow ch6 e6 k6)
          have HE36 := Lib.hid (HE35.out.trans e6)
          have hz6 := HC6.out.size
          have HD6 := tDrop_calls q b t m n T6 [] P A5 c5 D5 d5 key w6 HT6.out (by omega) HRP.out
          rw [HDP.out, HIP.out] at HD6
          have HD6 := Lib.hid HD6
          clear ch6 k6 hx6 e6
          go_wp2_with fail
          refine HD6.out.mono ?_
          rintro e w7 ⟨rfl, ht7, ch7⟩
          have HC7 := Lib.hid (HC6.out.step ch7 hz6 (fun i hi e => by have := Tch.ge HT6.out hm hWq e; omega))
          have HT7 := Lib.hid ht7
          have hz7 := HC7.out.size
          have HD7 := tDrop_calls q b t m n T6 [] l A5 c5 D5 d5 key w7 ht7 (by omega) HR.out
          rw [HDD.out, HIVF.out] at HD7
          have HD7 := Lib.hid HD7
          clear ht7 ch7
          go_wp2_with fail
          refine HD7.out.mono ?_
          rintro e w8 ⟨rfl, ht8, ch8⟩
          have HC8 := Lib.hid (HC7.out.step ch8 hz7 (fun i hi e => by have := Tch.ge HT7.out hm hWq e; omega))
          have hz8 := HC8.out.size
          have HR8 := Lib.hid (tRoot_calls q b t m n T6 [] l A5 c5 D5 d5 w8 ht8 (by omega) (by omega))
          clear ht8 ch8
          go_wp2_with fail
          refine HR8.out.mono ?_
          rintro e wa ⟨Ta, xa, rfl, hxa, ea, la, cha, ka⟩
          have hxe2 := beq_list xa x3
          rw [decide_eq_true (root_eq hx3.out (HE36.out.trans ea) hxa.out.1)] at hxe2
          have HCa := Lib.hid (HC8.out.step cha hz8 (fun i hi e => by omega))
          have hza := HCa.out.size
          clear cha ka hxa ea
          go_wp2_with fail
          refine (HAW.out _).mono ?_
          rintro e w9 ⟨rfl, hb9⟩
          go_wp2
          go_ret
          exact ⟨rfl, (HCa.out.step (Ch.of_below (S := fun _ => False) hb9) hza (fun _ _ e => e)).below (fun _ _ e => e)⟩
      · go_wp2_with fail
        refine (HAW.out _).mono ?_
        rintro e w9 ⟨rfl, hb9⟩
        go_wp2
        go_ret
        exact ⟨rfl, (HC4.out.step (Ch.of_below (S := fun _ => False) hb9) hz4 (fun _ _ e => e)).below (fun _ _ e => e)⟩
end Go.Proofs.Ytfgpchffkpomoaa
