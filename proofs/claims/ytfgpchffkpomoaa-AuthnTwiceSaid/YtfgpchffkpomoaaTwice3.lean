/- Messages that stand twice, or in another order, change no count: the walk through AuthnTwice. -/
import Derived.Test.YtfgpchffkpomoaaTwice
namespace Go.Proofs.Ytfgpchffkpomoaa
set_option linter.unusedSimpArgs false
set_option linter.unusedVariables false
open Go.RowKit

set_option maxHeartbeats 4000000 in
set_option maxRecDepth 100000 in
theorem authnTwice_calls (A : Option Addr) (c : Nat) (l : List Vt) (view seq : Int) (digest : ByteArray) (below : Int) (w : World) (hs : VtS w A c l) :
    Calls Try.prog 14 #[.slice A l.length c, .int .i64 view, .int .i64 seq, .string digest, .int .i64 below] w (BoolPost true w) := by
  have HS := Lib.hid hs
  have hlen := hs.2
  clear hs
  obtain ⟨K, hK⟩ : ∃ K, K = (l.take 60).length := ⟨_, rfl⟩
  have HSE := Lib.hid (fun b t m n T w1 hb hb0 hn => sealed_calls b t m n T A c l K hK w w1 hb hb0 hn HS.out)
  have hKl : K ≤ l.length := by rw [hK]; simp; omega
  have hK60 : K ≤ 60 := by rw [hK]; simp; omega
  have HALL := Lib.hid (fun i h => sealsS_all (l.take 60) [] (fun x hx => by cases hx) (by simp; omega) i h)
  have hmore := sealsS_more (l.take 60) [] (fun x hx => by cases hx)
  obtain ⟨⟨MG, Sf⟩, hMG⟩ : ∃ Q, Q = sealsS (l.take 60) [] := ⟨_, rfl⟩
  rw [← hMG] at HSE HALL hmore
  unfold SealedPost at HSE
  simp only at HSE HALL hmore
  rw [← hK] at hmore
  have hSf : Sf.length ≤ 100 := by
    obtain ⟨⟨X, h1, h2⟩, _⟩ := hmore
    simp only [List.nil_append] at h1
    rw [h1]; omega
  have hMl := hmore.2.2
  have HALL := Lib.hid (show ∀ i (h : i < l.length), i < K → ∃ m g, MG[i]? = some (m, g) ∧ VoteOk l[i] m g Sf from fun i h hi => by
    obtain ⟨m, g, h1, h2⟩ := HALL.out i (by omega)
    rw [List.getElem_take] at h2
    exact ⟨m, g, h1, h2⟩)
  clear hMG hK hmore
  have HMS := Lib.hid (show ∀ x ∈ MG.map Prod.fst, x.body.size ≤ maxLen ∧ -9223372036854775808 ≤ x.who ∧ x.who ≤ 9223372036854775807 from fun x hx => by
    obtain ⟨⟨m, g⟩, h1, rfl⟩ := List.mem_map.1 hx
    obtain ⟨i, hi, h2⟩ := List.getElem_of_mem h1
    obtain ⟨m', g', h3, h4⟩ := HALL.out i (by omega) (by omega)
    rw [List.getElem?_eq_getElem hi, h2] at h3
    obtain ⟨rfl, rfl⟩ : m = m' ∧ g = g' := by simpa using h3
    have := h4.body
    have := h4.lo
    have := h4.hi
    simp only [maxLen]
    exact ⟨by omega, by omega, by omega⟩)
  obtain ⟨ml, hml⟩ : ∃ ml, ml = MG.map Prod.fst := ⟨_, rfl⟩
  have hmK : ml.length = K := by rw [hml]; simp [hMl]
  rw [← hml] at HMS
  have HM2 := Lib.hid (show ∀ x ∈ ml ++ ml.reverse, x.body.size ≤ maxLen ∧ -9223372036854775808 ≤ x.who ∧ x.who ≤ 9223372036854775807 from fun x hx => by
    rcases List.mem_append.1 hx with h | h
    · exact HMS.out x h
    · exact HMS.out x (by simpa using h))
  have HMF := Lib.hid (show MG.flatMap msCells = ml.flatMap Sg.cells from by rw [hml]; exact ms_flat MG)
  have HTW := Lib.hid (voters_twice (S := Sf) (kind := 3) (view := view) (seq := seq) (digest := digest) (below := below) ml)
  have HBL := Lib.hid (voters_below (S := Sf) (kind := 3) (view := view) (seq := seq) (digest := digest) (below := below) ml)
  have hq1 := voters_len (S := Sf) (kind := 3) (view := view) (seq := seq) (digest := digest) (below := below) ml []
  have HQ1 := Lib.hid (fun A c b t m n w hb hs => quorum_calls b t m n [] Sf A c ml 3 view seq digest below w hb (by omega) hs HMS.out)
  have HQ2 := Lib.hid (fun A c b t m n w hb hs => quorum_calls b t m n [] Sf A c (ml ++ ml.reverse) 3 view seq digest below w hb (by omega) hs HM2.out)
  rw [HTW.out] at HQ2
  obtain ⟨q, hq⟩ : ∃ q, q = (votersS Sf 3 view seq digest below ml []).length := ⟨_, rfl⟩
  rw [← hq] at HQ1 HQ2 HBL hq1
  have hql : q ≤ K := by simpa [hmK] using hq1
  have hqb : (q : Int) ≤ max 0 below := HBL.out
  clear hq hq1 hml HTW HMS HM2
  have h2K : (ml ++ ml.reverse).length = K + K := by simp [hmK]
  rw [h2K] at HQ2
  rw [hmK] at HQ1
  go_enter Try.func14, Try.ntmps14
  go_wp2_with fail
  refine (newBook_calls w).mono ?_
  rintro e w1 ⟨b, t, m, n, rfl, hb1, hk1, g1, g2, g3, g4⟩
  have HB1 := Lib.hid hb1
  have HK1 := Lib.hid hk1
  clear hb1 hk1
  go_wp2_with fail
  refine (HSE.out b t m n [] w1 HK1.out HB1.out g4).mono ?_
  rintro e w3 ⟨A1, c1, A2, c2, rfl, hb3, hk3, ho1, ho2, hsz⟩
  have HB3 := Lib.hid hb3
  have HK3 := Lib.hid hk3
  rw [HMF.out] at ho1
  have HO1 := Lib.hid ho1
  have hz3 := hb3.size
  have hz1 := HB1.out.size
  clear hb3 hk3 ho1 ho2 HB1 HK1
  have HMM := Lib.hid (show ∀ w', Below w3.heap.size w3 w' → SgS w' A1 c1 ml from fun w' hb => by
    have h := Sl.of_own (own_ch HO1.out (Ch.of_below (S := fun _ => False) hb) (fun j hj => ⟨(own_row HO1.out hj).2, fun h => h⟩))
    unfold SgS
    rw [hmK]
    exact h)
  have HKK := Lib.hid (show ∀ w', Below w3.heap.size w3 w' → Bk w' b t m n [] Sf from fun w' hb => HK3.out.below hb)
  cases A1 with
  | none =>
    have hK0 : K = 0 := by
      rcases HO1.out.2 with ⟨h, h2⟩ | ⟨g, cap, cur, hv, _⟩
      · exact h2
      · cases hv
    have hm0 : ml = [] := by cases ml with | nil => rfl | cons x ml => simp at hmK; omega
    subst hm0
    have HMW := Lib.hid (show ∀ w' : World, SgS w' none 0 [] from fun w' => ⟨by simp, by simp, fun j u hj => by simp at hj⟩)
    have HM1 := Lib.hid (show ∀ w' : World, SgS w' none c1 [] from fun w' => ⟨by simp, by simp, fun j u hj => by simp at hj⟩)
    have HQA := Lib.hid (show ∀ w, Bk w b t m n [] Sf → Calls Try.prog 59 #[.pointer (some ⟨b, 0, none⟩), .slice none 0 c1, .int .i64 3, .int .i64 view, .int .i64 seq, .string digest, .int .i64 below] w (IntAny (q : Nat) w) from fun w hb => by have h := HQ1.out none c1 b t m n w hb (HM1.out w); rw [hK0] at h; exact h)
    have HQB := Lib.hid (show ∀ w, Bk w b t m n [] Sf → Calls Try.prog 59 #[.pointer (some ⟨b, 0, none⟩), .slice none 0 0, .int .i64 3, .int .i64 view, .int .i64 seq, .string digest, .int .i64 below] w (IntAny (q : Nat) w) from fun w hb => by have h := HQ2.out none 0 b t m n w hb (HMW.out w); rw [hK0] at h; exact h)
    subst hK0
    obtain rfl : q = 0 := by omega
    have hmx : decide ((0 : Int) ≤ max 0 below) = true := decide_eq_true (by omega)
    go_wp2_with fail
    go_loopg [14, 15] 0 (fun g v14 v15 wr => v14 = .slice none 0 0 ∧ v15 = .int .i64 (-1) ∧ wr = w3)
    case atStart => exact ⟨rfl, rfl, rfl⟩
    case round =>
      obtain ⟨rfl, rfl, rfl⟩ := hrel
      have hd2 : decide ((0 : Int) ≤ -1) = false := by decide
      go_wp2_with fail
      refine (HQA.out _ HK3.out).mono ?_
      rintro e w5 ⟨rfl, hb5⟩
      have HB5 := Lib.hid (HB3.out.trans (hb5.mono HB3.out.size))
      have HBK5 := Lib.hid (HK3.out.below hb5)
      clear hb5
      go_wp2_with fail
      refine (HQB.out _ HBK5.out).mono ?_
      rintro e w6 ⟨rfl, hb6⟩
      have HB := Lib.hid (HB5.out.trans (hb6.mono HB5.out.size))
      clear hb6 HB5
      go_wp2_with ((go_at_call 50; refine (awake3_calls _).mono ?_; rintro e wn ⟨rfl, hbn⟩; have HBn := Lib.hid (HB.out.trans (hbn.mono HB.out.size)); clear HB hbn; have HB := HBn; clear HBn))
      all_goals (go_ret; exact ⟨rfl, HB.out⟩)
  | some a =>
    have HN := Lib.hid (show ∀ j u, (ml.flatMap Sg.cells)[j]? = some u → w3.cell? (a.add j) = some u from fun j u hj => by
      obtain ⟨b, hb, h⟩ := (HMM.out w3 (Below.refl _ _)).at_ j u hj
      obtain rfl : a = b := by simpa using hb
      exact h)
    have HFL := Lib.hid (flat_len Sg.cells 3 Sg.cells_len ml)
    rw [hmK] at HFL
    obtain ⟨sb, hsb⟩ : ∃ s, s = w3.heap.size := ⟨_, rfl⟩
    have hwb : w.heap.size ≤ sb := by omega
    have HSB := Lib.hid hsb
    clear hsb
    go_wp2_with (at_builtin; refine app_row rfl (.tmp 26) (.tmp 27) 57 rfl w3.heap.size 61 _ 3 40 info_sg Try.underlying57 rfl (by decide) none 0 0 [] rfl ⟨rfl, .inl ⟨rfl, rfl⟩⟩ a K c1 (ml.flatMap Sg.cells) rfl HFL.out HN.out (sgs_one ml) (by omega) (by omega) (Nat.le_refl _) ?_; intro A4 c4 w4 ho hc hA; simp only [Nat.zero_add, List.nil_append] at ho; have HO4 := Lib.hid ho; have HB4 := Lib.hid (hc.below (by intro k _ hk; cases hk)); clear ho hc hA)
    obtain ⟨wo, hwo⟩ : ∃ wo, wo = w4 := ⟨_, rfl⟩
    rw [← hwo] at HO4 HB4 ⊢
    clear hwo
    go_loopg [14, 15] K (fun g v14 v15 wr => ∃ (z p : Nat) (A5 : Option Addr) (c5 : Nat), v14 = .slice A5 p c5 ∧ v15 = .int .i64 ((z : Int) - 1) ∧ z ≤ K ∧ p ≤ 200 ∧ Hid (g = z ∧ p + z = K + K ∧ Below sb w3 wr ∧ wr.ownsRow sb 61 3 (.slice A5 p c5) p ((ml ++ ml.reverse.take (K - z)).flatMap Sg.cells)))
    case atStart => exact ⟨K, K, A4, c4, by simp, by go_num, Nat.le_refl _, by omega, rfl, rfl, by rw [HSB.out]; exact HB4.out, by rw [HSB.out]; simpa using HO4.out⟩
    case round =>
      clear HO4 HB4
      obtain ⟨z, p, A5, c5, rfl, rfl, hz, hp, HH⟩ := hrel
      obtain ⟨hg, hpz, hb, ho⟩ := HH.out
      have HG := Lib.hid hg
      have HB := Lib.hid hb
      have HO := Lib.hid ho
      have HP := Lib.hid hpz
      clear HH hg hb ho hpz
      have HBW := Lib.hid (HB3.out.trans (HB.out.mono (by omega)))
      have HM5 := Lib.hid (HMM.out wr (by rw [← HSB.out]; exact HB.out))
      cases z with
      | zero =>
        have hd2 : decide ((0 : Int) ≤ -1) = false := by decide
        have HBK := Lib.hid (HKK.out wr (by rw [← HSB.out]; exact HB.out))
        have HMW := Lib.hid (show SgS wr A5 c5 (ml ++ ml.reverse) from by
          have h := Sl.of_own HO.out
          unfold SgS
          rw [h2K, show K + K = p by have := HP.out; omega]
          rw [List.take_of_length_le (by simp [hmK])] at h
          exact h)
        have hpp : p = K + K := by have := HP.out; omega
        have HQ2 := Lib.hid (show ∀ w, Bk w b t m n [] Sf → SgS w A5 c5 (ml ++ ml.reverse) → Calls Try.prog 59 #[.pointer (some ⟨b, 0, none⟩), .slice A5 p c5, .int .i64 3, .int .i64 view, .int .i64 seq, .string digest, .int .i64 below] w (IntAny (q : Nat) w) from fun w hb hs => by rw [hpp]; exact HQ2.out A5 c5 b t m n w hb hs)
        clear hpp
        go_wp2_with fail
        refine (HQ1.out _ _ _ _ _ _ _ HBK.out HM5.out).mono ?_
        rintro e w5 ⟨rfl, hb5⟩
        have HB5 := Lib.hid (HBW.out.trans (hb5.mono HBW.out.size))
        have HBK5 := Lib.hid (HBK.out.below hb5)
        have HMW5 := Lib.hid (HMW.out.below hb5)
        clear hb5 HBW HB
        go_wp2_with fail
        refine (HQ2.out _ HBK5.out HMW5.out).mono ?_
        rintro e w6 ⟨rfl, hb6⟩
        have HB := Lib.hid (HB5.out.trans (hb6.mono HB5.out.size))
        clear hb6 HB5
        have hmx : decide ((q : Int) ≤ max 0 below) = true := decide_eq_true hqb
        go_wp2_with ((go_at_call 50; refine (awake3_calls _).mono ?_; rintro e wn ⟨rfl, hbn⟩; have HBn := Lib.hid (HB.out.trans (hbn.mono HB.out.size)); clear HB hbn; have HB := HBn; clear HBn))
        all_goals (go_ret; exact ⟨rfl, HB.out⟩)
      | succ z =>
        have hz0 : ((z + 1 : Nat) : Int) - 1 = (z : Int) := by omega
        rw [hz0]
        have hzm : z < ml.length := by omega
        obtain ⟨a5, ha5, e0, e1, e2⟩ := HM5.out.elem z hzm
        obtain rfl : a = a5 := by simpa using ha5
        have hnx : ml ++ ml.reverse.take (K - z) = (ml ++ ml.reverse.take (K - (z + 1))) ++ [ml[z]] := by
          rw [List.append_assoc, show K - z = K - (z + 1) + 1 by omega, List.take_succ_eq_append_getElem (by simp; omega), List.getElem_reverse]
          congr 4
          omega
        obtain ⟨x, hx⟩ : ∃ x, x = ml[z] := ⟨_, rfl⟩
        rw [← hx] at e0 e1 e2 hnx
        have HNX := Lib.hid hnx
        clear hnx hx hz0 ha5
        have hrow : ∀ k, Row A5 k → sb ≤ k ∧ k < wr.heap.size := fun k hk => own_row HO.out hk
        have hsz5 := HB.out.size
        go_wp2_with (at_builtin; refine app_row rfl (.tmp 36) (.tmp 41) 57 rfl sb 61 _ 3 40 info_sg Try.underlying57 rfl (by decide) A5 c5 p ((ml ++ ml.reverse.take (K - (z + 1))).flatMap Sg.cells) rfl (HO.out.alloc _) _ 1 1 x.cells rfl rfl (news_box (Box.new _ #[.int .i64 x.who, .string x.body, .string x.sig] 61)) (Sg.one x) ?hb1 ?hb2 ?hb3 ?_; (case hb1 => omega); (case hb2 => omega); (case hb3 => have := HSB.out; simp; omega); intro A6 c6 w6 ho hc hA; have HO6 := Lib.hid ho; have HB6 := Lib.hid (below_app HB.out (by have := HSB.out; omega) hc (fun k hk => (hrow k hk).1)); clear ho hc hA)
        go_roundg z
        case measure => have := HG.out; omega
        case rel => exact ⟨z, p + 1, A6, c6, by simp, by go_num, by omega, by have := HP.out; omega, rfl, by have := HP.out; omega, HB6.out, by rw [HNX.out]; simpa using HO6.out⟩
end Go.Proofs.Ytfgpchffkpomoaa
