/- The order in which records come is not seen: the walk. -/
import Derived.Test.YtfgpchffkpomoaaMBack
import Derived.Deep.RegionHeld3
namespace Go.Proofs.Ytfgpchffkpomoaa
set_option linter.unusedSimpArgs false
set_option linter.unusedVariables false
open Go.RowKit

/-- A tree stays while others change. -/
theorem TrS.keep {w w' : World} {q b t m n : Nat} {T T' : List ByteArray} {S S' : List Wd} {l : List Rc} {A : Option Addr} {c : Nat} {D : Option Addr} {d : Nat} {X : Nat → Prop} (h : TrS w q b t m n T S l A c D d) (hc : Ch w.heap.size X w w') (hq : ¬ X q) (hA : ∀ k, Row A k → ¬ X k) (hD : ∀ k, Row D k → ¬ X k) (he : Ext T T') (hk : Bk w' b t m n T' S') : TrS w' q b t m n T' S' l A c D d := by
  have hl := h.lt
  obtain ⟨h1, h2⟩ := h.leaves.ext he
  refine ⟨hk, Box.ch h.box hc h.ql hq, own_ch h.recs hc (fun k hk => ⟨(own_row h.recs hk).2, hA k hk⟩), ?_, h1, hl⟩
  rw [h2]
  exact own_ch h.digs hc (fun k hk => ⟨(own_row h.digs hk).2, hD k hk⟩)
theorem okP_held {L : List Rc} (h : Held L) {x : Rc} (hx : x ∈ L) : okP x.key x.val = true := by
  have := h x hx
  unfold okP
  rw [this.1, decide_eq_true this.2]
  rfl
theorem drop_one {L : List Rc} {i : Nat} (hi : i < L.length) (hr : Rising L) : putD (L.drop (i + 1)) L[i].key L[i].val = L.drop i := by
  have e : L.drop i = L[i] :: L.drop (i + 1) := List.drop_eq_getElem_cons hi
  rw [e]
  exact put_front (by rw [← e]; exact hr.sub (List.drop_sublist _ _))

set_option maxHeartbeats 8000000 in
set_option maxRecDepth 100000 in
theorem merkleOrder_calls (A : Option Addr) (c : Nat) (l : List Rc) (W : World) (hs : RcS W A c l) :
    Calls Try.prog 25 #[.slice A l.length c] W fun e w' => e = .returned (.bool true) ∧ Below W.heap.size W w' := by
  have hfit := hs.fits
  have HN := Lib.hid (newBook_calls W)
  have HS := Lib.hid hs
  have HAW := Lib.hid (fun w => awake4_calls w)
  clear hs
  go_enter Try.func25, Try.ntmps25
  go_wp2_with fail
  refine HN.out.mono ?_
  rintro e w1 ⟨b, t, m, n, rfl, hb1, hk1, hb, ht, hm, hn⟩
  have hz1 := hb1.size
  have HB1 := Lib.hid hb1
  have HK1 := Lib.hid hk1
  have HNW := Lib.hid (mNew_calls b t m n [] [] w1 hk1 (by decide))
  have hml := hk1.all_lt
  clear hk1 hb1 hb ht hn
  go_wp2_with fail
  refine HNW.out.mono ?_
  rintro e w2 ⟨T1, q1, rfl, e1, l1, ch2, k2, hq1, hx2⟩
  have HC2 := Lib.hid ((Ch.of_below (S := fun _ => False) HB1.out).step ch2 hz1 (fun i hi e => by omega))
  have HT2 := Lib.hid (TrS.new HK1.out k2 hq1 hx2)
  have hz2 := HC2.out.size
  have hT1 : T1.length ≤ 1 := by simpa using l1
  have HK2 := Lib.hid k2
  have HNW2 := Lib.hid (mNew_calls b t m n T1 [] w2 k2 (by omega))
  have hq1l := HT2.out.ql
  have hz12 := ch2.size
  clear ch2 k2 hx2 e1 l1
  go_wp2_with fail
  refine HNW2.out.mono ?_
  rintro e w3 ⟨T2, q2, rfl, e2, l2, ch3, k3, hq2, hx3⟩
  have HC3 := Lib.hid (HC2.out.step ch3 hz2 (fun i hi e => by omega))
  have HTX := Lib.hid (HT2.out.grow ch3 e2 k3)
  have HTY := Lib.hid (TrS.new HK2.out k3 hq2 hx3)
  have hz3 := HC3.out.size
  have hT2 : T2.length ≤ 2 := by omega
  have hWm : W.heap.size ≤ m := hm
  have hW1 : W.heap.size ≤ q1 := by omega
  have hW2 : W.heap.size ≤ q2 := by omega
  have hq12 : q1 < q2 := by omega
  have hmq : m < q1 := by omega
  clear ch3 k3 hx3 e2 l2 HT2 HC2
  go_wp2_with fail
  go_loopg [6, 7] 80 (fun g v6 v7 wr => ∃ (k : Nat) (T : List ByteArray) (L : List Rc) (B : Option Addr) (bc : Nat) (A1 : Option Addr) (c1 : Nat) (D1 : Option Addr) (d1 : Nat), v6 = .slice B L.length bc ∧ v7 = .int .i64 k ∧ k ≤ 80 ∧ k ≤ l.length ∧
    Hid (g + k = 80 ∧ TrS wr q1 b t m n T [] L A1 c1 D1 d1 ∧ TrS wr q2 b t m n T [] [] none 0 none 0 ∧ RcS wr B bc L ∧ (∀ j, Row B j → q2 < j ∧ j < wr.heap.size ∧ ¬ Row A1 j ∧ ¬ Row D1 j) ∧ (∀ j, Row A1 j → q2 < j) ∧ (∀ j, Row D1 j → q2 < j) ∧ Rising L ∧ Held L ∧ L.length ≤ k ∧ T.length ≤ 2 + k ∧ Ch W.heap.size (fun _ => False) W wr))
  case atStart => exact ⟨0, T2, [], none, 0, none, 0, none, 0, rfl, rfl, by omega, by omega, by omega, HTX.out, HTY.out, RcS.nil _, fun j h => (by cases h), fun j h => (by cases h), fun j h => (by cases h), Rising.nil, Held.nil, by simp, by omega, HC3.out⟩
  case round =>
    obtain ⟨k, T, L, B, bc, A1, c1, D1, d1, rfl, rfl, hk80, hkl, HH⟩ := hrel
    obtain ⟨hg, htx, hty, hrb, hsb, hsa, hsd, hri, hhe, hll, hTl, hc⟩ := HH.out
    have HG := Lib.hid hg
    have HX := Lib.hid htx
    have HY := Lib.hid hty
    have HRB := Lib.hid hrb
    have HSB := Lib.hid hsb
    have HSA := Lib.hid hsa
    have HSD := Lib.hid hsd
    have HR := Lib.hid hri
    have HE := Lib.hid hhe
    have HC := Lib.hid hc
    have hzc := hc.size
    have hq2l := hty.ql
    clear HH hg htx hty hrb hsb hsa hsd hri hhe hc HTX HTY HC3
    by_cases hlt : k < l.length ∧ k < 80
    · obtain ⟨hlt1, hlt2⟩ := hlt
      have hd1 : decide ((k : Int) < (l.length : Int)) = true := by simp; omega
      have hd2 : decide ((k : Int) < 80) = true := by simp; omega
      obtain ⟨a, rfl, e0, e1⟩ := (HS.out.below (HC.out.below (fun _ _ e => e))).elem k hlt1
      obtain ⟨x, hx⟩ : ∃ x, x = l[k] := ⟨_, rfl⟩
      have HXE := Lib.hid hx
      rw [← hx] at e0 e1
      clear hx
      obtain ⟨xk, xv⟩ := x
      simp only at e0 e1
      have HF := Lib.hid (fun w => rfits4_calls xk w)
      obtain ⟨fv, hfv⟩ : ∃ fv, fv = fitK xk := ⟨_, rfl⟩
      rw [← hfv] at HF
      have HFV := Lib.hid hfv
      clear hfv
      have HRP := Lib.hid (rPut_calls B bc L xk xv wr.drew (HRB.out.below ((Below.refl _ _).drew)) (by omega) HR.out)
      cases fv with
      | false =>
        go_wp2_with fail
        refine (HF.out _).mono ?_
        rintro e w4 ⟨rfl, hw4⟩
        obtain rfl := hw4.symm
        go_wp2_with fail
        go_roundg (gk - 1)
        case measure => have := HG.out; omega
        case rel => exact ⟨k + 1, T, L, B, bc, A1, c1, D1, d1, rfl, by go_num, by omega, by omega, by have := HG.out; omega, HX.out, HY.out, HRB.out, HSB.out, HSA.out, HSD.out, HR.out, HE.out, by omega, by omega, HC.out⟩
      | true =>
        by_cases hvs : xv.size ≤ 4096
        · have hdv : decide ((xv.size : Int) ≤ 4096) = true := by simp; omega
          have hok : okP xk xv = true := by unfold okP; rw [← HFV.out, decide_eq_true hvs]; rfl
          have HOK := Lib.hid hok
          go_wp2_with fail
          refine (HF.out _).mono ?_
          rintro e w4 ⟨rfl, hw4⟩
          obtain rfl := hw4.symm
          go_wp2_with fail
          have e0d : wr.drew.cell? (a.add (k * 2)) = some (.string xk) := e0
          have e1d : wr.drew.cell? ⟨(a.add (k * 2)).block, (a.add (k * 2)).off + 1, none⟩ = some (.string xv) := e1
          go_region_held3 (fun w' => w'.cell? (a.add (k * 2)) = some (.string xk) ∧ w'.cell? ⟨(a.add (k * 2)).block, (a.add (k * 2)).off + 1, none⟩ = some (.string xv)) (first | exact ⟨e0d, e1d⟩ | exact ⟨g0, g1⟩) (first | (go_at_call 79; refine HRP.out.mono ?_; rintro e w5 ⟨B5, bc5, rfl, hst⟩; have HST5 := Lib.hid hst; have HB5 := Lib.hid ((Below.refl wr.heap.size wr).drew.trans hst.1); have HC5 := Lib.hid (HC.out.step (Ch.of_below (S := fun _ => False) HB5.out) hzc (fun _ _ e => e)); have hel := (HS.out.below (HC5.out.below (fun _ _ e => e))).elem k hlt1; rw [← HXE.out] at hel; obtain ⟨a', ha', g0, g1⟩ := hel; cases ha'; simp only at g0 g1; clear hst))
          all_goals
            have HX5 := Lib.hid (HX.out.below HB5.out)
            have HY5 := Lib.hid (HY.out.below HB5.out)
            have hz5 : wr.heap.size ≤ w5.heap.size := HB5.out.size
            have hB5 : ∀ j, Row B5 j → wr.heap.size ≤ j ∧ j < w5.heap.size := fun j hj => own_row HST5.out.2 hj
            have HBR := Lib.hid hB5
            have hzc5 := HC5.out.size
            have HPY := tPut_calls q1 b t m n T [] L A1 c1 D1 d1 xk xv w5.drew (HX5.out.below ((Below.refl w5.heap.size w5).drew)) (by omega) (by omega) HR.out
            unfold PutAll at HPY
            rw [if_pos HOK.out, if_pos HOK.out] at HPY
            have HPY := Lib.hid HPY
            obtain ⟨P, hP⟩ : ∃ P, P = putD L xk xv := ⟨_, rfl⟩
            have HPE := Lib.hid hP
            have hPl : P.length ≤ L.length + 1 := by rw [hP]; exact putD_le L xk xv
            have HRP2 := Lib.hid (show Rising P by rw [hP]; exact putD_rising HR.out xk xv)
            have HEP2 := Lib.hid (show Held P by rw [hP]; exact HE.out.put HFV.out.symm hvs)
            rw [← hP] at HPY HST5
            have HAX := Lib.hid (fun j (hj : Row A1 j) => own_row HX.out.recs hj)
            have HDX := Lib.hid (fun j (hj : Row D1 j) => own_row HX.out.digs hj)
            clear hP HRP e0d e1d hB5 hok e0 e1
            go_wp2_with fail
            have e0d : w5.drew.cell? (a.add (k * 2)) = some (.string xk) := g0
            have e1d : w5.drew.cell? ⟨(a.add (k * 2)).block, (a.add (k * 2)).off + 1, none⟩ = some (.string xv) := g1
            clear g0 g1
            go_region_held3 (fun w' => w'.cell? (a.add (k * 2)) = some (.string xk) ∧ w'.cell? ⟨(a.add (k * 2)).block, (a.add (k * 2)).off + 1, none⟩ = some (.string xv)) (first | exact ⟨e0d, e1d⟩ | exact ⟨g0, g1⟩) (first | (go_at_call 80; refine HPY.out.mono ?_; rintro e w6 ⟨T6, A6, c6, D6, d6, rfl, e6, l6, ht6, ch6, ra6, rd6⟩; have HX6 := Lib.hid ht6; have HE6 := Lib.hid e6; have HCH6 := Lib.hid (((Ch.refl w5.heap.size (Tch q1 m A1 D1) w5).drew).step ch6 (Nat.le_refl _) (fun _ _ e => e)); have HRA6 := Lib.hid ra6; have HRD6 := Lib.hid rd6; have HC6 := Lib.hid (HC5.out.drew.step ch6 hzc5 (fun i hi e => by have := Tch.ge HX5.out hWm hW1 e; omega)); have hel := (HS.out.below (HC6.out.below (fun _ _ e => e))).elem k hlt1; rw [← HXE.out] at hel; obtain ⟨a', ha', g0, g1⟩ := hel; cases ha'; simp only at g0 g1; clear ht6 e6 ch6 ra6 rd6))
            all_goals
              have hz6 : w5.heap.size ≤ w6.heap.size := HCH6.out.size
              have hq1n : ¬ Tch q1 m A1 D1 q2 := fun e => by
                rcases e with e | e | e | e
                · omega
                · omega
                · have := HSA.out _ e; omega
                · have := HSD.out _ e; omega
              have HY6 := Lib.hid (HY5.out.keep HCH6.out hq1n (fun j hj => (by cases hj)) (fun j hj => (by cases hj)) HE6.out HX6.out.bk)
              have hBn : ∀ j, Row B5 j → ¬ Tch q1 m A1 D1 j := fun j hj e => by
                have h1 := HBR.out j hj
                rcases e with e | e | e | e
                · omega
                · omega
                · have := HAX.out _ e; omega
                · have := HDX.out _ e; omega
              have HRB6 := Lib.hid (show RcS w6 B5 bc5 P from RcS.ch (Sl.of_own HST5.out.2) HCH6.out (fun j hj hl => ⟨hl, hBn j hj⟩))
              go_wp2_with fail
              go_roundg (gk - 1)
              case measure => have := HG.out; omega
              case rel => exact ⟨k + 1, T6, P, B5, bc5, A6, c6, D6, d6, by rw [HPE.out], by go_num, by omega, by omega, by have := HG.out; omega, HX6.out, HY6.out, HRB6.out, fun j hj => ⟨by have := HBR.out j hj; omega, by have := HBR.out j hj; omega, fun e => by
                have h1 := HBR.out j hj
                rcases HRA6.out j e with h | h
                · have := HAX.out _ h; omega
                · have h2 : w5.heap.size ≤ j := h
                  omega, fun e => by
                have h1 := HBR.out j hj
                rcases HRD6.out j e with h | h
                · have := HDX.out _ h; omega
                · have h2 : w5.heap.size ≤ j := h
                  omega⟩, fun j hj => by
                rcases HRA6.out j hj with h | h
                · exact HSA.out _ h
                · have h2 : w5.heap.size ≤ j := h
                  omega, fun j hj => by
                rcases HRD6.out j hj with h | h
                · exact HSD.out _ h
                · have h2 : w5.heap.size ≤ j := h
                  omega, HRP2.out, HEP2.out, by omega, by omega, HC6.out⟩
        · have hdv : decide ((xv.size : Int) ≤ 4096) = false := by simp; omega
          go_wp2_with fail
          refine (HF.out _).mono ?_
          rintro e w4 ⟨rfl, hw4⟩
          obtain rfl := hw4.symm
          go_wp2_with fail
          go_roundg (gk - 1)
          case measure => have := HG.out; omega
          case rel => exact ⟨k + 1, T, L, B, bc, A1, c1, D1, d1, rfl, by go_num, by omega, by omega, by have := HG.out; omega, HX.out, HY.out, HRB.out, HSB.out, HSA.out, HSD.out, HR.out, HE.out, by omega, by omega, HC.out⟩
    · have hend : ¬ k < l.length ∨ (k < l.length ∧ ¬ k < 80) := by omega
      rcases hend with h1 | ⟨h1, h2⟩
      · have hd1 : decide ((k : Int) < (l.length : Int)) = false := by simp; omega
        have hN0 : wr.heap.size ≤ wr.heap.size := Nat.le_refl _
        obtain ⟨N0, hN⟩ : ∃ N0, N0 = wr.heap.size := ⟨_, rfl⟩
        have HSB0 := Lib.hid (show ∀ j, Row B j → q2 < j ∧ j < N0 from fun j hj => by have := HSB.out j hj; omega)
        have HAX := Lib.hid (show ∀ j, Row A1 j → q2 < j ∧ j < N0 from fun j hj => by have := own_row HX.out.recs hj; have := HSA.out j hj; omega)
        have HDX := Lib.hid (show ∀ j, Row D1 j → q2 < j ∧ j < N0 from fun j hj => by have := own_row HX.out.digs hj; have := HSD.out j hj; omega)
        have HNN := Lib.hid hN
        have hq2N : q2 < N0 := by omega
        go_wp2_with fail
        go_loopg [8] L.length (fun g v8 wr => ∃ (j : Nat) (T : List ByteArray) (A2 : Option Addr) (c2 : Nat) (D2 : Option Addr) (d2 : Nat), v8 = .int .i64 ((L.length : Int) - 1 - j) ∧ j ≤ L.length ∧
          Hid (g + j = L.length ∧ TrS wr q1 b t m n T [] L A1 c1 D1 d1 ∧ TrS wr q2 b t m n T [] (L.drop (L.length - j)) A2 c2 D2 d2 ∧ RcS wr B bc L ∧ (∀ i, Row A2 i → N0 ≤ i) ∧ (∀ i, Row D2 i → N0 ≤ i) ∧ T.length ≤ 82 + j ∧ Ch W.heap.size (fun _ => False) W wr ∧ N0 ≤ wr.heap.size))
        case atStart => exact ⟨0, T, none, 0, none, 0, by simp, by omega, by omega, HX.out, by rw [Nat.sub_zero, List.drop_length]; exact HY.out, HRB.out, fun i h => (by cases h), fun i h => (by cases h), by omega, HC.out, by omega⟩
        case round =>
          obtain ⟨j, T4, A2, c2, D2, d2, rfl, hjl, HH⟩ := hrel
          obtain ⟨hg4, htx4, hty4, hrb4, hsa4, hsd4, hT4, hc4, hz4⟩ := HH.out
          have HG4 := Lib.hid hg4
          have HX4 := Lib.hid htx4
          have HY4 := Lib.hid hty4
          have HRB4 := Lib.hid hrb4
          have HSA4 := Lib.hid hsa4
          have HSD4 := Lib.hid hsd4
          have HC4 := Lib.hid hc4
          have hzc4 := hc4.size
          clear HH hg4 htx4 hty4 hrb4 hsa4 hsd4 hc4 HX HY HRB HC
          by_cases hj : j < L.length
          · obtain ⟨i0, hi0⟩ : ∃ i0 : Nat, i0 + j + 1 = L.length := ⟨L.length - 1 - j, by omega⟩
            have hie : (L.length : Int) - 1 - (j : Int) = (i0 : Int) := by omega
            have hdg : decide ((0 : Int) ≤ (i0 : Int)) = true := by simp
            have hiL : i0 < L.length := by omega
            obtain ⟨a, rfl, e0, e1⟩ := HRB4.out.elem i0 hiL
            have hput := drop_one hiL HR.out
            have hok := okP_held HE.out (List.getElem_mem hiL)
            obtain ⟨x, hx⟩ : ∃ x, x = L[i0] := ⟨_, rfl⟩
            have HXE := Lib.hid hx
            rw [← hx] at e0 e1 hput hok
            clear hx
            obtain ⟨xk, xv⟩ := x
            simp only at e0 e1 hput hok
            have hdr : L.drop (L.length - j) = L.drop (i0 + 1) := by congr 1; omega
            rw [hdr] at HY4
            have HPY := tPut_calls q2 b t m n T4 [] (L.drop (i0 + 1)) A2 c2 D2 d2 xk xv wr.drew (HY4.out.below ((Below.refl wr.heap.size wr).drew)) (by omega) (by simp; omega) (HR.out.sub (List.drop_sublist _ _))
            unfold PutAll at HPY
            rw [if_pos hok, if_pos hok, hput] at HPY
            have HPY := Lib.hid HPY
            clear hput hok hdr
            rw [hie]
            go_wp2_with fail
            have e0d : wr.drew.cell? (a.add (i0 * 2)) = some (.string xk) := e0
            have e1d : wr.drew.cell? ⟨(a.add (i0 * 2)).block, (a.add (i0 * 2)).off + 1, none⟩ = some (.string xv) := e1
            have hnB : ∀ i, Row (some a) i → ¬ Tch q2 m A2 D2 i := fun i hi e => by
              have h1 := HSB0.out i hi
              rcases e with e | e | e | e
              · omega
              · omega
              · have := HSA4.out _ e; omega
              · have := HSD4.out _ e; omega
            have HNB := Lib.hid hnB
            clear hnB e0 e1
            go_region_held3 (fun w' => w'.cell? (a.add (i0 * 2)) = some (.string xk) ∧ w'.cell? ⟨(a.add (i0 * 2)).block, (a.add (i0 * 2)).off + 1, none⟩ = some (.string xv)) (first | exact ⟨e0d, e1d⟩ | exact ⟨g0, g1⟩) (first | (go_at_call 80; refine HPY.out.mono ?_; rintro e w6 ⟨T6, A6, c6, D6, d6, rfl, e6, l6, ht6, ch6, ra6, rd6⟩; have HY6 := Lib.hid ht6; have HE6 := Lib.hid e6; have HCH6 := Lib.hid (((Ch.refl wr.heap.size (Tch q2 m A2 D2) wr).drew).step ch6 (Nat.le_refl _) (fun _ _ e => e)); have HRA6 := Lib.hid ra6; have HRD6 := Lib.hid rd6; have HC6 := Lib.hid (HC4.out.drew.step ch6 hzc4 (fun i hi e => by have := Tch.ge HY4.out hWm hW2 e; omega)); have HRB6 := Lib.hid (show RcS w6 (some a) bc L from RcS.ch HRB4.out HCH6.out (fun i hi hl => ⟨hl, HNB.out i hi⟩)); have hel := HRB6.out.elem i0 hiL; rw [← HXE.out] at hel; obtain ⟨a', ha', g0, g1⟩ := hel; cases ha'; simp only at g0 g1; clear ht6 e6 ch6 ra6 rd6))
            all_goals
              have hz6 : wr.heap.size ≤ w6.heap.size := HCH6.out.size
              have hq1n : ¬ Tch q2 m A2 D2 q1 := fun e => by
                rcases e with e | e | e | e
                · omega
                · omega
                · have := HSA4.out _ e; omega
                · have := HSD4.out _ e; omega
              have hin : ∀ i, q2 < i ∧ i < N0 → ¬ Tch q2 m A2 D2 i := fun i h1 e => by
                rcases e with e | e | e | e
                · omega
                · omega
                · have := HSA4.out _ e; omega
                · have := HSD4.out _ e; omega
              have HX6 := Lib.hid (HX4.out.keep HCH6.out hq1n (fun i hi => hin i (HAX.out i hi)) (fun i hi => hin i (HDX.out i hi)) HE6.out HY6.out.bk)
              have hdj : L.drop i0 = L.drop (L.length - (j + 1)) := by congr 1; omega
              rw [hdj] at HY6
              go_wp2_with fail
              go_roundg (gk - 1)
              case measure => have := HG4.out; omega
              case rel => exact ⟨j + 1, T6, A6, c6, D6, d6, by go_num, by omega, by have := HG4.out; omega, HX6.out, HY6.out, HRB6.out, fun i hi => by
                rcases HRA6.out i hi with h | h
                · exact HSA4.out _ h
                · have h2 : wr.heap.size ≤ i := h
                  omega, fun i hi => by
                rcases HRD6.out i hi with h | h
                · exact HSD4.out _ h
                · have h2 : wr.heap.size ≤ i := h
                  omega, by omega, HC6.out, by omega⟩
          · obtain rfl : j = L.length := by omega
            have hdg : decide ((0 : Int) ≤ (L.length : Int) - 1 - (L.length : Int)) = false := by simp; omega
            rw [Nat.sub_self, List.drop_zero] at HY4
            have HRX := Lib.hid (tRoot_calls q1 b t m n T4 [] L A1 c1 D1 d1 wr HX4.out (by omega) (by omega))
            go_wp2_with fail
            refine HRX.out.mono ?_
            rintro e w7 ⟨T7, x7, rfl, hx7, e7, l7, ch7, k7⟩
            have HC7 := Lib.hid (HC4.out.step ch7 hzc4 (fun i hi e => by omega))
            have HX7 := Lib.hid (HX4.out.grow ch7 e7 k7)
            have HY7 := Lib.hid (HY4.out.grow ch7 e7 k7)
            have HRB7 := Lib.hid (HRB4.out.off ch7 (fun _ i hi => by have := HSB0.out i hi; omega))
            have hz7 := HC7.out.size
            have HRY := Lib.hid (tRoot_calls q2 b t m n T7 [] L A2 c2 D2 d2 w7 HY7.out (by omega) (by omega))
            clear ch7 k7 e7
            go_wp2_with fail
            refine HRY.out.mono ?_
            rintro e w8 ⟨T8, x8, rfl, hx8, e8, l8, ch8, k8⟩
            have hxe := beq_list x7 x8
            rw [decide_eq_true (root_eq hx7.out e8 hx8.out.1).symm] at hxe
            have HC8 := Lib.hid (HC7.out.step ch8 hz7 (fun i hi e => by omega))
            have HX8 := Lib.hid (HX7.out.grow ch8 e8 k8)
            have HRB8 := Lib.hid (HRB7.out.off ch8 (fun _ i hi => by have := HSB0.out i hi; omega))
            have hz8 := HC8.out.size
            have HRZ := Lib.hid (tRoot_calls q1 b t m n T8 [] L A1 c1 D1 d1 w8 HX8.out (by omega) (by omega))
            clear ch8 k8 e8 hx7 hx8
            go_wp2_with fail
            refine HRZ.out.mono ?_
            rintro e w9 ⟨T9, x9, rfl, hx9, e9, l9, ch9, k9⟩
            have HC9 := Lib.hid (HC8.out.step ch9 hz8 (fun i hi e => by omega))
            have HRB9 := Lib.hid (HRB8.out.off ch9 (fun _ i hi => by have := HSB0.out i hi; omega))
            have hz9 := HC9.out.size
            have HR4 := Lib.hid (root4_calls b t m n T9 [] B bc L w9 k9 (by omega) HRB9.out (by omega) HE.out.short (fun _ i hi => by have := HSB0.out i hi; omega))
            clear ch9 k9 e9
            go_wp2_with fail
            refine HR4.out.mono ?_
            rintro e wa ⟨Ta, xa, rfl, hxa, ea, la, cha, ka⟩
            have hxe2 := beq_list x9 xa
            rw [decide_eq_true (root_eq hx9.out ea hxa.out.1).symm] at hxe2
            have HCa := Lib.hid (HC9.out.step cha hz9 (fun i hi e => by omega))
            have hza := HCa.out.size
            clear cha ka hxa ea hx9
            go_wp2_with fail
            refine (HAW.out _).mono ?_
            rintro e wb ⟨rfl, hbb⟩
            go_wp2
            go_ret
            exact ⟨rfl, (HCa.out.step (Ch.of_below (S := fun _ => False) hbb) hza (fun _ _ e => e)).below (fun _ _ e => e)⟩
      · have hd1 : decide ((k : Int) < (l.length : Int)) = true := by simp; omega
        have hd2 : decide ((k : Int) < 80) = false := by simp; omega
        have hN0 : wr.heap.size ≤ wr.heap.size := Nat.le_refl _
        obtain ⟨N0, hN⟩ : ∃ N0, N0 = wr.heap.size := ⟨_, rfl⟩
        have HSB0 := Lib.hid (show ∀ j, Row B j → q2 < j ∧ j < N0 from fun j hj => by have := HSB.out j hj; omega)
        have HAX := Lib.hid (show ∀ j, Row A1 j → q2 < j ∧ j < N0 from fun j hj => by have := own_row HX.out.recs hj; have := HSA.out j hj; omega)
        have HDX := Lib.hid (show ∀ j, Row D1 j → q2 < j ∧ j < N0 from fun j hj => by have := own_row HX.out.digs hj; have := HSD.out j hj; omega)
        have HNN := Lib.hid hN
        have hq2N : q2 < N0 := by omega
        go_wp2_with fail
        go_loopg [8] L.length (fun g v8 wr => ∃ (j : Nat) (T : List ByteArray) (A2 : Option Addr) (c2 : Nat) (D2 : Option Addr) (d2 : Nat), v8 = .int .i64 ((L.length : Int) - 1 - j) ∧ j ≤ L.length ∧
          Hid (g + j = L.length ∧ TrS wr q1 b t m n T [] L A1 c1 D1 d1 ∧ TrS wr q2 b t m n T [] (L.drop (L.length - j)) A2 c2 D2 d2 ∧ RcS wr B bc L ∧ (∀ i, Row A2 i → N0 ≤ i) ∧ (∀ i, Row D2 i → N0 ≤ i) ∧ T.length ≤ 82 + j ∧ Ch W.heap.size (fun _ => False) W wr ∧ N0 ≤ wr.heap.size))
        case atStart => exact ⟨0, T, none, 0, none, 0, by simp, by omega, by omega, HX.out, by rw [Nat.sub_zero, List.drop_length]; exact HY.out, HRB.out, fun i h => (by cases h), fun i h => (by cases h), by omega, HC.out, by omega⟩
        case round =>
          obtain ⟨j, T4, A2, c2, D2, d2, rfl, hjl, HH⟩ := hrel
          obtain ⟨hg4, htx4, hty4, hrb4, hsa4, hsd4, hT4, hc4, hz4⟩ := HH.out
          have HG4 := Lib.hid hg4
          have HX4 := Lib.hid htx4
          have HY4 := Lib.hid hty4
          have HRB4 := Lib.hid hrb4
          have HSA4 := Lib.hid hsa4
          have HSD4 := Lib.hid hsd4
          have HC4 := Lib.hid hc4
          have hzc4 := hc4.size
          clear HH hg4 htx4 hty4 hrb4 hsa4 hsd4 hc4 HX HY HRB HC
          by_cases hj : j < L.length
          · obtain ⟨i0, hi0⟩ : ∃ i0 : Nat, i0 + j + 1 = L.length := ⟨L.length - 1 - j, by omega⟩
            have hie : (L.length : Int) - 1 - (j : Int) = (i0 : Int) := by omega
            have hdg : decide ((0 : Int) ≤ (i0 : Int)) = true := by simp
            have hiL : i0 < L.length := by omega
            obtain ⟨a, rfl, e0, e1⟩ := HRB4.out.elem i0 hiL
            have hput := drop_one hiL HR.out
            have hok := okP_held HE.out (List.getElem_mem hiL)
            obtain ⟨x, hx⟩ : ∃ x, x = L[i0] := ⟨_, rfl⟩
            have HXE := Lib.hid hx
            rw [← hx] at e0 e1 hput hok
            clear hx
            obtain ⟨xk, xv⟩ := x
            simp only at e0 e1 hput hok
            have hdr : L.drop (L.length - j) = L.drop (i0 + 1) := by congr 1; omega
            rw [hdr] at HY4
            have HPY := tPut_calls q2 b t m n T4 [] (L.drop (i0 + 1)) A2 c2 D2 d2 xk xv wr.drew (HY4.out.below ((Below.refl wr.heap.size wr).drew)) (by omega) (by simp; omega) (HR.out.sub (List.drop_sublist _ _))
            unfold PutAll at HPY
            rw [if_pos hok, if_pos hok, hput] at HPY
            have HPY := Lib.hid HPY
            clear hput hok hdr
            rw [hie]
            go_wp2_with fail
            have e0d : wr.drew.cell? (a.add (i0 * 2)) = some (.string xk) := e0
            have e1d : wr.drew.cell? ⟨(a.add (i0 * 2)).block, (a.add (i0 * 2)).off + 1, none⟩ = some (.string xv) := e1
            have hnB : ∀ i, Row (some a) i → ¬ Tch q2 m A2 D2 i := fun i hi e => by
              have h1 := HSB0.out i hi
              rcases e with e | e | e | e
              · omega
              · omega
              · have := HSA4.out _ e; omega
              · have := HSD4.out _ e; omega
            have HNB := Lib.hid hnB
            clear hnB e0 e1
            go_region_held3 (fun w' => w'.cell? (a.add (i0 * 2)) = some (.string xk) ∧ w'.cell? ⟨(a.add (i0 * 2)).block, (a.add (i0 * 2)).off + 1, none⟩ = some (.string xv)) (first | exact ⟨e0d, e1d⟩ | exact ⟨g0, g1⟩) (first | (go_at_call 80; refine HPY.out.mono ?_; rintro e w6 ⟨T6, A6, c6, D6, d6, rfl, e6, l6, ht6, ch6, ra6, rd6⟩; have HY6 := Lib.hid ht6; have HE6 := Lib.hid e6; have HCH6 := Lib.hid (((Ch.refl wr.heap.size (Tch q2 m A2 D2) wr).drew).step ch6 (Nat.le_refl _) (fun _ _ e => e)); have HRA6 := Lib.hid ra6; have HRD6 := Lib.hid rd6; have HC6 := Lib.hid (HC4.out.drew.step ch6 hzc4 (fun i hi e => by have := Tch.ge HY4.out hWm hW2 e; omega)); have HRB6 := Lib.hid (show RcS w6 (some a) bc L from RcS.ch HRB4.out HCH6.out (fun i hi hl => ⟨hl, HNB.out i hi⟩)); have hel := HRB6.out.elem i0 hiL; rw [← HXE.out] at hel; obtain ⟨a', ha', g0, g1⟩ := hel; cases ha'; simp only at g0 g1; clear ht6 e6 ch6 ra6 rd6))
            all_goals
              have hz6 : wr.heap.size ≤ w6.heap.size := HCH6.out.size
              have hq1n : ¬ Tch q2 m A2 D2 q1 := fun e => by
                rcases e with e | e | e | e
                · omega
                · omega
                · have := HSA4.out _ e; omega
                · have := HSD4.out _ e; omega
              have hin : ∀ i, q2 < i ∧ i < N0 → ¬ Tch q2 m A2 D2 i := fun i h1 e => by
                rcases e with e | e | e | e
                · omega
                · omega
                · have := HSA4.out _ e; omega
                · have := HSD4.out _ e; omega
              have HX6 := Lib.hid (HX4.out.keep HCH6.out hq1n (fun i hi => hin i (HAX.out i hi)) (fun i hi => hin i (HDX.out i hi)) HE6.out HY6.out.bk)
              have hdj : L.drop i0 = L.drop (L.length - (j + 1)) := by congr 1; omega
              rw [hdj] at HY6
              go_wp2_with fail
              go_roundg (gk - 1)
              case measure => have := HG4.out; omega
              case rel => exact ⟨j + 1, T6, A6, c6, D6, d6, by go_num, by omega, by have := HG4.out; omega, HX6.out, HY6.out, HRB6.out, fun i hi => by
                rcases HRA6.out i hi with h | h
                · exact HSA4.out _ h
                · have h2 : wr.heap.size ≤ i := h
                  omega, fun i hi => by
                rcases HRD6.out i hi with h | h
                · exact HSD4.out _ h
                · have h2 : wr.heap.size ≤ i := h
                  omega, by omega, HC6.out, by omega⟩
          · obtain rfl : j = L.length := by omega
            have hdg : decide ((0 : Int) ≤ (L.length : Int) - 1 - (L.length : Int)) = false := by simp; omega
            rw [Nat.sub_self, List.drop_zero] at HY4
            have HRX := Lib.hid (tRoot_calls q1 b t m n T4 [] L A1 c1 D1 d1 wr HX4.out (by omega) (by omega))
            go_wp2_with fail
            refine HRX.out.mono ?_
            rintro e w7 ⟨T7, x7, rfl, hx7, e7, l7, ch7, k7⟩
            have HC7 := Lib.hid (HC4.out.step ch7 hzc4 (fun i hi e => by omega))
            have HX7 := Lib.hid (HX4.out.grow ch7 e7 k7)
            have HY7 := Lib.hid (HY4.out.grow ch7 e7 k7)
            have HRB7 := Lib.hid (HRB4.out.off ch7 (fun _ i hi => by have := HSB0.out i hi; omega))
            have hz7 := HC7.out.size
            have HRY := Lib.hid (tRoot_calls q2 b t m n T7 [] L A2 c2 D2 d2 w7 HY7.out (by omega) (by omega))
            clear ch7 k7 e7
            go_wp2_with fail
            refine HRY.out.mono ?_
            rintro e w8 ⟨T8, x8, rfl, hx8, e8, l8, ch8, k8⟩
            have hxe := beq_list x7 x8
            rw [decide_eq_true (root_eq hx7.out e8 hx8.out.1).symm] at hxe
            have HC8 := Lib.hid (HC7.out.step ch8 hz7 (fun i hi e => by omega))
            have HX8 := Lib.hid (HX7.out.grow ch8 e8 k8)
            have HRB8 := Lib.hid (HRB7.out.off ch8 (fun _ i hi => by have := HSB0.out i hi; omega))
            have hz8 := HC8.out.size
            have HRZ := Lib.hid (tRoot_calls q1 b t m n T8 [] L A1 c1 D1 d1 w8 HX8.out (by omega) (by omega))
            clear ch8 k8 e8 hx7 hx8
            go_wp2_with fail
            refine HRZ.out.mono ?_
            rintro e w9 ⟨T9, x9, rfl, hx9, e9, l9, ch9, k9⟩
            have HC9 := Lib.hid (HC8.out.step ch9 hz8 (fun i hi e => by omega))
            have HRB9 := Lib.hid (HRB8.out.off ch9 (fun _ i hi => by have := HSB0.out i hi; omega))
            have hz9 := HC9.out.size
            have HR4 := Lib.hid (root4_calls b t m n T9 [] B bc L w9 k9 (by omega) HRB9.out (by omega) HE.out.short (fun _ i hi => by have := HSB0.out i hi; omega))
            clear ch9 k9 e9
            go_wp2_with fail
            refine HR4.out.mono ?_
            rintro e wa ⟨Ta, xa, rfl, hxa, ea, la, cha, ka⟩
            have hxe2 := beq_list x9 xa
            rw [decide_eq_true (root_eq hx9.out ea hxa.out.1).symm] at hxe2
            have HCa := Lib.hid (HC9.out.step cha hz9 (fun i hi e => by omega))
            have hza := HCa.out.size
            clear cha ka hxa ea hx9
            go_wp2_with fail
            refine (HAW.out _).mono ?_
            rintro e wb ⟨rfl, hbb⟩
            go_wp2
            go_ret
            exact ⟨rfl, (HCa.out.step (Ch.of_below (S := fun _ => False) hbb) hza (fun _ _ e => e)).below (fun _ _ e => e)⟩
end Go.Proofs.Ytfgpchffkpomoaa
