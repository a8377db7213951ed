/- A tree whose records come and go has the records, root and proofs of those that are there: the walk. -/
import Derived.Test.YtfgpchffkpomoaaMOrder
import Derived.Test.YtfgpchffkpomoaaPlay5
import Derived.Test.YtfgpchffkpomoaaMProves
namespace Go.Proofs.Ytfgpchffkpomoaa
set_option linter.unusedSimpArgs false
set_option linter.unusedVariables false
open Go.RowKit

theorem trProve_calls (q b t m n : Nat) (T : List ByteArray) (S : List Wd) (l : List Rc) (A : Option Addr) (c : Nat) (D : Option Addr) (d : Nat) (key : ByteArray) (w : World) (h : TrS w q b t m n T S l A c D d) (hT : T.length ≤ 400000000) (hl : l.length ≤ 4096) (hr : Rising l) :
    Calls Try.prog 85 #[.pointer (some ⟨q, 0, none⟩), .string key] w (MProvePost w b t m n T S l key) := by
  have hll := leavesH_len (hh T) l
  have hlt := h.lt
  exact tProve_calls q b t m n T S A c D d l (leavesH (hh T) l) key w h.bk hT (by rw [hll]; exact h.box) (by omega) h.rcs hl h.txs rfl h.leaves hr (by rw [hll]; exact own_cap h.digs) (h.offA _) (by rw [hll]; exact h.offD _)
set_option maxHeartbeats 8000000 in
set_option maxRecDepth 100000 in
theorem merkleGrows_calls (Z : Option Addr) (zc : Nat) (sc : List Act4) (key : ByteArray) (W : World) (hs : Act4S W Z zc sc) (hok : ∀ a ∈ sc, a.Ok) :
    Calls Try.prog 27 #[.slice Z sc.length zc, .string key] W fun e w' => e = .returned (.bool true) ∧ Below W.heap.size W w' := by
  have hfit := Sl.fits hs
  have HN := Lib.hid (newBook_calls W)
  have HS := Lib.hid hs
  have HOK := Lib.hid hok
  have HAW := Lib.hid (fun w => awake4_calls w)
  clear hs hok
  go_enter Try.func27, Try.ntmps27
  go_wp2_with fail
  refine HN.out.mono ?_
  rintro e w1 ⟨b, t, m, n, rfl, hb1, hk1, hb, ht, hm, hn⟩
  have hz1 := hb1.size
  have HB1 := Lib.hid hb1
  have HK1 := Lib.hid hk1
  have HNW := Lib.hid (mNew_calls b t m n [] [] w1 hk1 (by decide))
  have hml := hk1.all_lt.2.2.1
  clear hk1 hb1 hb ht hn
  go_wp2_with fail
  refine HNW.out.mono ?_
  rintro e w2 ⟨T1, q, rfl, e1, l1, ch2, k2, hq, hx2⟩
  have HC2 := Lib.hid ((Ch.of_below (S := fun _ => False) HB1.out).step ch2 hz1 (fun i hi e => by omega))
  have HT2 := Lib.hid (TrS.new HK1.out k2 hq hx2)
  have hz2 := HC2.out.size
  have hT1 : T1.length ≤ 1 := by simpa using l1
  have hWq : W.heap.size ≤ q := by omega
  have hmq : m < q := by omega
  clear ch2 k2 hx2 e1 l1
  go_wp2_with fail
  go_loopg [7, 8] 80 (fun g v6 v7 wr => ∃ (k : Nat) (T : List ByteArray) (l : List Rc) (B : Option Addr) (bc : Nat) (A : Option Addr) (c : Nat) (D : Option Addr) (d : Nat), v6 = .slice B l.length bc ∧ v7 = .int .i64 k ∧ k ≤ 80 ∧ k ≤ sc.length ∧
    Hid (g + k = 80 ∧ TrS wr q b t m n T [] l A c D d ∧ RcS wr B bc l ∧ (∀ j, Row B j → q < j ∧ j < wr.heap.size ∧ ¬ Row A j ∧ ¬ Row D j) ∧ Rising l ∧ Held l ∧ l.length ≤ k ∧ T.length ≤ 1 + 20001 * k ∧ Ch W.heap.size (fun _ => False) W wr))
  case atStart => exact ⟨0, T1, [], none, 0, none, 0, none, 0, rfl, rfl, by omega, by omega, by omega, HT2.out, RcS.nil _, fun j h => (by cases h), Rising.nil, Held.nil, by simp, by omega, HC2.out⟩
  case round =>
    obtain ⟨k, T, l, B, bc, A, c, D, d, rfl, rfl, hk80, hka, HH⟩ := hrel
    obtain ⟨hg, htr, hrb, hsb, hri, hhe, hll, hTl, hc⟩ := HH.out
    have HG := Lib.hid hg
    have HT := Lib.hid htr
    have HRB := Lib.hid hrb
    have HSB := Lib.hid hsb
    have HR := Lib.hid hri
    have HE := Lib.hid hhe
    have HC := Lib.hid hc
    have hzc := hc.size
    have hql := htr.ql
    clear HH hg htr hrb hsb hri hhe hc HT2 HC2
    have HTA := Lib.hid (show ∀ j, Row B j → j < wr.heap.size ∧ ¬ Tch q m A D j from fun j hj => by
      have h1 := HSB.out j hj
      refine ⟨h1.2.1, fun e => ?_⟩
      rcases e with e | e | e | e
      · omega
      · omega
      · exact h1.2.2.1 e
      · exact h1.2.2.2 e)
    by_cases hlt : k < sc.length ∧ k < 80
    · obtain ⟨hlt1, hlt2⟩ := hlt
      have hd1 : decide ((k : Int) < (sc.length : Int)) = true := by simp; omega
      have hd2 : decide ((k : Int) < 80) = true := by simp; omega
      obtain ⟨a, rfl, e0, e1, e2⟩ := (Act4S.below HS.out (HC.out.below (fun _ _ e => e))).elem k hlt1
      have hok := HOK.out sc[k] (List.getElem_mem hlt1)
      obtain ⟨act, hact⟩ : ∃ x, x = sc[k] := ⟨_, rfl⟩
      rw [← hact] at e0 e1 e2 hok
      clear hact
      obtain ⟨kind, ak, av⟩ := act
      simp only at e0 e1 e2
      have HP := Lib.hid (play5_calls q b t m n T [] l A c D d B bc kind ak av wr HT.out HRB.out HTA.out (by omega) (by omega) HR.out hok.kind (by have hkey : ak.size ≤ 140737488351232 := hok.key; simp only [maxLen]; omega))
      clear hok
      go_wp2_with fail
      refine HP.out.mono ?_
      rintro e w5 ⟨v, l', B', bc', T', A', c', D', d', rfl, hv, hl', e5, l5, ht5, hb5, hn5, ch5⟩
      obtain rfl : v = true := hv.out
      have HC5 := Lib.hid (HC.out.step ch5 hzc (fun i hi e => by have := Tch.ge HT.out hm hWq e; omega))
      have HT5 := Lib.hid ht5
      have hz5 := ch5.size
      have HB5 := Lib.hid hb5
      have hq5 : ∀ j, Row B' j → q < j ∧ j < w5.heap.size ∧ ¬ Row A' j ∧ ¬ Row D' j := fun j hj => by
        have h1 := hn5 j hj
        refine ⟨?_, h1.2⟩
        rcases h1.1 with e | e
        · exact (HSB.out j e).1
        · omega
      have HQ5 := Lib.hid hq5
      have hlen : l'.length ≤ l.length + 1 := by
        rcases hl'.out with rfl | rfl | ⟨rfl, _⟩
        · have := dropD_le l ak; omega
        · omega
        · exact putD_le l ak av
      have HR5 := Lib.hid (show Rising l' by
        rcases hl'.out with rfl | rfl | ⟨rfl, _⟩
        · exact dropD_rising HR.out ak
        · exact HR.out
        · exact putD_rising HR.out ak av)
      have HE5 := Lib.hid (show Held l' by
        rcases hl'.out with rfl | rfl | ⟨rfl, ho⟩
        · exact HE.out.drop ak
        · exact HE.out
        · unfold okP at ho
          simp only [Bool.and_eq_true, decide_eq_true_eq] at ho
          exact HE.out.put ho.1 ho.2)
      have hzc5 := HC5.out.size
      have HRT := Lib.hid (tRoot_calls q b t m n T' [] l' A' c' D' d' w5 ht5 (by omega) (by omega))
      clear ht5 ch5 hl' e5 hb5 hn5 hq5 hv
      go_wp2_with fail
      refine HRT.out.mono ?_
      rintro e w6 ⟨T6, x6, rfl, hx6, e6, l6, ch6, k6⟩
      have HC6 := Lib.hid (HC5.out.step ch6 hzc5 (fun i hi e => by omega))
      have HT6 := Lib.hid (HT5.out.grow ch6 e6 k6)
      have HB6 := Lib.hid (HB5.out.off ch6 (fun _ i hi => by have := HQ5.out i hi; omega))
      have hz6 := HC6.out.size
      have hz56 := ch6.size
      have HR4 := Lib.hid (root4_calls b t m n T6 [] B' bc' l' w6 k6 (by omega) HB6.out (by omega) HE5.out.short (fun _ i hi => by have := HQ5.out i hi; omega))
      clear ch6 k6 e6
      go_wp2_with fail
      refine HR4.out.mono ?_
      rintro e w7 ⟨T7, x7, rfl, hx7, e7, l7, ch7, k7⟩
      have hxe := beq_list x6 x7
      rw [decide_eq_true (root_eq hx6.out e7 hx7.out.1).symm] at hxe
      have HC7 := Lib.hid (HC6.out.step ch7 hz6 (fun i hi e => by omega))
      have HT7 := Lib.hid (HT6.out.grow ch7 e7 k7)
      have HB7 := Lib.hid (HB6.out.off ch7 (fun _ i hi => by have := HQ5.out i hi; omega))
      have hz67 := ch7.size
      clear ch7 k7 e7 hx6 hx7
      go_wp2_with fail
      go_roundg (gk - 1)
      case measure => have := HG.out; omega
      case rel => exact ⟨k + 1, T7, l', B', bc', A', c', D', d', rfl, by go_num, by omega, by omega, by have := HG.out; omega, HT7.out, HB7.out, fun i hi => by have := HQ5.out i hi; exact ⟨this.1, by omega, this.2.2⟩, HR5.out, HE5.out, by omega, by omega, HC7.out⟩
    · have HPV := Lib.hid (trProve_calls q b t m n T [] l A c D d key wr HT.out (by omega) (by omega) HR.out)
      have hend : ¬ k < sc.length ∨ (k < sc.length ∧ ¬ k < 80) := by omega
      rcases hend with h1 | ⟨h1, h2⟩
      all_goals first
        | (have hd1 : decide ((k : Int) < (sc.length : Int)) = false := by simp; omega)
        | (have hd1 : decide ((k : Int) < (sc.length : Int)) = true := by simp; omega
           have hd2 : decide ((k : Int) < 80) = false := by simp; omega)
      all_goals
        go_wp2_with fail
        refine HPV.out.mono ?_
        rintro e w3 ⟨T3, A3, c3, ps, cnt, cd, rfl, hpv, e3, l3, ch3, k3, p3, r3⟩
        have hz3 := ch3.size
        have HC3 := Lib.hid (HC.out.step ch3 hzc (fun i hi e => by omega))
        have HT3 := Lib.hid (HT.out.grow ch3 e3 k3)
        have HB3 := Lib.hid (HRB.out.off ch3 (fun _ i hi => by have := HSB.out i hi; omega))
        have hal := (Below.refl w3.heap.size w3).alloc (Nat.le_refl _) (.cells #[.int .i64 cnt, .slice A3 ps.length c3] 35)
        have HBX3 := Lib.hid (Box.new w3 #[.int .i64 cnt, .slice A3 ps.length c3] 35)
        have HC4 := Lib.hid (HC3.out.alloc (by omega) (.cells #[.int .i64 cnt, .slice A3 ps.length c3] 35))
        have HT4 := Lib.hid (HT3.out.below hal)
        have HB4 := Lib.hid (HB3.out.below hal)
        have HPM4 := Lib.hid (p3.below hal)
        have HOP := Lib.hid (show Off A3 ps.length m from fun _ k hk => by have := r3.1 k hk; omega)
        have HOX := Lib.hid (show ∀ x ∈ ps, Off x.A x.sides.length m from fun x hx _ k hk => by have := r3.2.1 x hx k hk; omega)
        have hpfit := p3.1.fits
        have HPVV := Lib.hid hpv.out
        have HFT := Lib.hid (fun w => rfits4_calls key w)
        clear ch3 k3 p3 r3 hal hpv e3
        obtain ⟨x0, x1, y0, y1⟩ := HBX3.out.facts2
        obtain ⟨fv, hfv⟩ : ∃ fv, fv = fitK key := ⟨_, rfl⟩
        rw [← hfv] at HFT HPVV
        clear hfv
        cases fv with
        | false =>
          obtain ⟨rfl, rfl, rfl⟩ := HPVV.out.2 rfl
          go_wp2_with fail
          refine (HFT.out _).mono ?_
          rintro e wx ⟨rfl, hw⟩
          obtain rfl := hw.symm
          go_wp2_with fail
          refine (HAW.out _).mono ?_
          rintro e w6 ⟨rfl, hb6⟩
          go_wp2
          go_ret
          exact ⟨rfl, (HC4.out.step (Ch.of_below (S := fun _ => False) hb6) HC4.out.size (fun _ _ e => e)).below (fun _ _ e => e)⟩
        | true =>
          obtain ⟨rfl, rfl, hps, hsi⟩ := HPVV.out.1 rfl
          have HPX := Lib.hid (fun T' (he : Ext T3 T') => (hps.trans (proof_ext he HT3.out.leaves hsi).symm : ps.map Pm.pt = proofP (hh T') l key))
          have HRC := Lib.hid (tRecords_calls q b t m n T3 [] l A c D d _ HT4.out (by omega))
          clear hps hsi
          go_wp2_with fail
          refine (HFT.out _).mono ?_
          rintro e wx ⟨rfl, hw⟩
          obtain rfl := hw.symm
          go_wp2_with fail
          refine HRC.out.mono ?_
          rintro e w5 ⟨Aq, cq, rfl, hst⟩
          have HST := Lib.hid hst
          have HC5 := Lib.hid (HC4.out.step (Ch.of_below (S := fun _ => False) hst.1) HC4.out.size (fun _ _ e => e))
          have HT5 := Lib.hid (HT4.out.below hst.1)
          have HB5 := Lib.hid (HB4.out.below hst.1)
          have HPM5 := Lib.hid (HPM4.out.below hst.1)
          have HBX5 := Lib.hid (HBX3.out.call hst.1)
          have HQ5 := Lib.hid (show RcS w5 Aq cq l from Sl.of_own hst.2)
          have hz5 : w3.heap.size + 1 ≤ w5.heap.size := by have := hst.1.size; simpa using this
          have hroq : ∀ j, Row Aq j → w3.heap.size + 1 ≤ j ∧ j < w5.heap.size := fun j hj => by
            have := own_row hst.2 hj
            exact ⟨by simpa using this.1, this.2⟩
          have HROQ := Lib.hid hroq
          have hmw : m < w3.heap.size := by omega
          clear hst x0 x1 y0 y1 hroq
          obtain ⟨x0, x1, y0, y1⟩ := HBX5.out.facts2
          have HP4 := Lib.hid (fun w hb hs => proof4_calls b t m n T3 [] B bc l key w hb (by omega) hs (by omega) HE.out.short HR.out (fun _ i hi => by have := HSB.out i hi; omega))
          go_wp2_with fail
          have hbk := HT5.out.bk.drew
          have ht5d : TrS w5.drew q b t m n T3 [] l A c D d := HT5.out.below ((Below.refl _ _).drew)
          have hrs : RcS w5.drew B bc l := HB5.out.drewN 1
          have hqs : RcS w5.drew Aq cq l := HQ5.out.drewN 1
          have hoq := own_drewN HST.out.2 1
          have hbx := HBX5.out.drew
          have hpm : PmS w5.drew A3 c3 ps := ⟨⟨HPM5.out.1.len, HPM5.out.1.fits, HPM5.out.1.at_⟩, fun x hx => (HPM5.out.2 x hx).drew⟩
          have hcc := HC5.out.drew
          have hob : Off B l.length m := fun _ i hi => by have := HSB.out i hi; omega
          have hofq : Off Aq l.length m := fun _ i hi => by have := HROQ.out i hi; omega
          go_region_held3 (fun w' => w'.cell? ⟨w3.heap.size, 0, none⟩ = some (.int .i64 l.length) ∧ w'.cell? ⟨w3.heap.size, 1, none⟩ = some (.slice A3 ps.length c3)) (first | exact ⟨hbx8.cell 0, hbx8.cell 1⟩ | exact ⟨hbx7.cell 0, hbx7.cell 1⟩ | exact ⟨hbx6.cell 0, hbx6.cell 1⟩ | exact ⟨hbx.cell 0, hbx.cell 1⟩) (first | (go_at_call 43; refine (HP4.out _ hbk hrs).mono ?_; rintro e w6 ⟨T6, B6, c6, ps6, rfl, q6, e6, l6, ch6, k6, p6, r6⟩; have hbx6 := hbx.ch ch6 hbx.lt (by omega); have hpm6 := hpm.off ch6 HOP.out HOX.out; have hc6 := hcc.step ch6 hcc.size (fun i hi e => by omega); have hrs6 := hrs.off ch6 hob; have hqs6 := hqs.off ch6 hofq; have hoq6 := own_ch hoq ch6 (fun j hj => by have := HROQ.out j hj; exact ⟨this.2, by omega⟩); have ht6 := ht5d.grow ch6 e6 k6) | (go_at_call 42; refine (sameProof_calls _ _ _ _ _ _ _ _ _ hpm6 p6).mono ?_; rintro e w7 ⟨he7, hb7⟩; rw [show samePf (l.length : Int) (ps.map Pm.pt) (l.length : Int) (ps6.map Pm.pt) = true by rw [q6.out, HPX.out T6 e6]; simp [samePf]] at he7; subst he7; have hbx7 := hbx6.ch (Ch.of_below (S := fun _ => False) hb7) hbx6.lt (fun e => e); have hc7 := hc6.step (Ch.of_below (S := fun _ => False) hb7) hc6.size (fun i hi e => e); have hrs7 := hrs6.below hb7; have hqs7 := hqs6.below hb7; have hoq7 := own_ch hoq6 (Ch.of_below (S := fun _ => False) hb7) (fun j hj => ⟨(own_row hoq6 hj).2, fun e => e⟩); have ht7 := ht6.below hb7) | (go_at_call 47; refine (sameRecs_calls _ _ _ _ _ _ _ hqs7 hrs7).mono ?_; rintro e w8 ⟨he8, hb8⟩; rw [sameR_iff.2 rfl] at he8; subst he8; have hbx8 := hbx7.ch (Ch.of_below (S := fun _ => False) hb8) hbx7.lt (fun e => e); have hc8 := hc7.step (Ch.of_below (S := fun _ => False) hb8) hc7.size (fun i hi e => e); have hrs8 := hrs7.below hb8; have hoq8 := own_ch hoq7 (Ch.of_below (S := fun _ => False) hb8) (fun j hj => ⟨(own_row hoq7 hj).2, fun e => e⟩); have ht8 := ht7.below hb8))
          all_goals
            have HC8 := Lib.hid hc8
            have HT8 := Lib.hid ht8
            have HRS8 := Lib.hid hrs8
            have HOQ8 := Lib.hid (own_base (base' := 0) hoq8 (Nat.zero_le _))
            have HRA := Lib.hid (show ∀ k, Row A k → k < w3.heap.size from fun k hk => by have := (own_row HT.out.recs hk).2; omega)
            have HRD := Lib.hid (show ∀ k, Row D k → k < w3.heap.size from fun k hk => by have := (own_row HT.out.digs hk).2; omega)
            have HRB9 := Lib.hid (show ∀ k, Row B k → k < w3.heap.size from fun k hk => by have := HSB.out k hk; omega)
            have hml3 : b < w3.heap.size ∧ t < w3.heap.size ∧ m < w3.heap.size ∧ n < w3.heap.size ∧ q < w3.heap.size := by have := HT.out.lt; have := HT.out.ql; omega
            have HML := Lib.hid hml3
            clear hbx hbx6 hbx7 hbx8 hpm hpm6 hcc hc6 hc7 hc8 hrs hrs6 hrs7 hrs8 hqs hqs6 hqs7 hoq hoq6 hoq7 hoq8 ht5d ht6 ht7 ht8 hbk ch6 k6 p6 r6 hb7 hb8 hml3 x0 x1 y0 y1
            go_wp2_with fail
            go_loopg [14] l.length (fun g v14 v => ∃ (j : Nat) (xs : List Value), v14 = .int .i64 j ∧ j ≤ l.length ∧ Hid (g + j = l.length ∧ v.ownsRow 0 131 2 (.slice Aq l.length cq) l.length xs ∧ TrS v q b t m n T6 [] l A c D d ∧ RcS v B bc l ∧ Ch W.heap.size (fun _ => False) W v))
            case atStart => exact ⟨0, _, rfl, by omega, by omega, HOQ8.out, HT8.out, HRS8.out, HC8.out⟩
            case round =>
              obtain ⟨j, xs, rfl, hjl, HJ⟩ := hrel
              obtain ⟨hgj, hoj, htj, hrj, hcj⟩ := HJ.out
              have HGJ := Lib.hid hgj
              have HOJ := Lib.hid hoj
              have HTJ := Lib.hid htj
              have HRJ := Lib.hid hrj
              have HCJ := Lib.hid hcj
              have hzj := hcj.size
              clear HJ hgj hoj htj hrj hcj
              by_cases hj : j < l.length
              · have hdj : decide ((j : Int) < (l.length : Int)) = true := by simp; omega
                obtain ⟨ga, rfl⟩ := rw_some HOJ.out (by omega)
                have hga := HROQ.out ga rfl
                obtain ⟨v0, hv0⟩ : ∃ v0, wr.cell? ⟨ga, j * 2 + 1, none⟩ = some v0 := ⟨_, by rw [HOJ.out.cellAt (j * 2 + 1) (by omega)]; exact List.getElem?_eq_getElem (by rw [HOJ.out.1]; omega)⟩
                have hf0 := HOJ.out.frozenAt (j * 2 + 1)
                go_wp2_with fail
                go_roundg (gk - 1)
                case measure => have := HGJ.out; omega
                case rel => exact ⟨j + 1, _, by go_num, by omega, by have := HGJ.out; omega, (HOJ.out.stored (j * 2 + 1) _).1,
                  HTJ.out.keep (X := (· = ga)) ((Ch.refl wr.heap.size (· = ga) wr).setCell (p := ⟨ga, j * 2 + 1, none⟩) (.inr rfl) _) (by have := HML.out; omega) (fun k hk => by have := HRA.out k hk; omega) (fun k hk => by have := HRD.out k hk; omega) (Ext.refl _) (HTJ.out.bk.setCell (p := ⟨ga, j * 2 + 1, none⟩) (by have := HML.out; simp only; omega) _),
                  HRJ.out.ch (S := (· = ga)) ((Ch.refl wr.heap.size (· = ga) wr).setCell (p := ⟨ga, j * 2 + 1, none⟩) (.inr rfl) _) (fun k hk hl => ⟨hl, by have := HRB9.out k hk; omega⟩),
                  HCJ.out.setCell (p := ⟨ga, j * 2 + 1, none⟩) (.inl (by simp only; omega)) _⟩
              · obtain rfl : j = l.length := by omega
                have hdj : decide ((l.length : Int) < (l.length : Int)) = false := by simp
                have HRC9 := Lib.hid (tRecords_calls q b t m n T6 [] l A c D d wr HTJ.out (by omega))
                go_wp2_with fail
                refine HRC9.out.mono ?_
                rintro e w9 ⟨A9, c9, rfl, hst9⟩
                have hbj := hst9.1
                have HC9 := Lib.hid (HCJ.out.step (Ch.of_below (S := fun _ => False) hbj) hzj (fun _ _ e => e))
                have HR9 := Lib.hid (HRJ.out.below hbj)
                have HS9 := Lib.hid (show RcS w9 A9 c9 l from Sl.of_own hst9.2)
                have HSM := Lib.hid (sameRecs_calls A9 B c9 bc l l w9 HS9.out HR9.out)
                rw [sameR_iff.2 rfl] at HSM
                have hz9 := HC9.out.size
                clear hst9 hbj
                go_wp2_with fail
                refine HSM.out.mono ?_
                rintro e wa ⟨rfl, hba⟩
                have HCa := Lib.hid (HC9.out.step (Ch.of_below (S := fun _ => False) hba) hz9 (fun _ _ e => e))
                have hza := HCa.out.size
                clear hba
                go_wp2_with fail
                refine (HAW.out _).mono ?_
                rintro e wb ⟨rfl, hbb⟩
                go_wp2
                go_ret
                exact ⟨rfl, (HCa.out.step (Ch.of_below (S := fun _ => False) hbb) hza (fun _ _ e => e)).below (fun _ _ e => e)⟩
end Go.Proofs.Ytfgpchffkpomoaa
