/- Texts of this proof, several in one file; each says ahead of it what it proves. -/
import Derived.Test.YtfgpchffkpomoaaPk12
import Derived.Test.YtfgpchffkpomoaaPk15
import Derived.Test.YtfgpchffkpomoaaPk18
import Derived.Test.YtfgpchffkpomoaaPk29
import Derived.Test.YtfgpchffkpomoaaPk09
/- Of a book that numbers two signatures are the same just if signer and text are: the walk. -/
namespace Go.Proofs.Ytfgpchffkpomoaa
set_option linter.unusedSimpArgs false
set_option linter.unusedVariables false
open Go.RowKit

/-- The signatures of many texts, and what was signed then. -/
def signsS : List Act3 → List Wd → List ByteArray × List Wd
  | [], S => ([], S)
  | a :: l, S => ((signE S a.who a.text).1.1 :: (signsS l (signE S a.who a.text).2).1, (signsS l (signE S a.who a.text).2).2)
theorem signsS_append : ∀ (l k : List Act3) (S : List Wd), signsS (l ++ k) S = ((signsS l S).1 ++ (signsS k (signsS l S).2).1, (signsS k (signsS l S).2).2)
  | [], _, _ => rfl
  | a :: l, k, S => by simp only [List.cons_append, signsS, signsS_append l k]
theorem signsS_take {l : List Act3} {k : Nat} (hk : k < l.length) (S : List Wd) : signsS (l.take (k + 1)) S = ((signsS (l.take k) S).1 ++ [(signE (signsS (l.take k) S).2 l[k].who l[k].text).1.1], (signE (signsS (l.take k) S).2 l[k].who l[k].text).2) := by
  rw [List.take_succ_eq_append_getElem hk, signsS_append]; rfl
theorem signE_place {S : List Wd} {who : Int} {s : ByteArray} (hn : namedB who = true) : ∃ p, place (who, s) (signE S who s).2 = some p ∧ (signE S who s).1.1 = sigOf p := by
  unfold signE
  rw [if_pos (by simpa [namedB] using hn)]
  unfold signS
  cases h : place (who, s) S with
  | some i => exact ⟨i, h, rfl⟩
  | none => exact ⟨S.length, place_snoc (place_none h), rfl⟩
theorem signE_more (S : List Wd) (who : Int) (s : ByteArray) : ∃ X, (signE S who s).2 = S ++ X ∧ X.length ≤ 1 := by
  unfold signE
  split
  · unfold signS
    split
    · exact ⟨[], by simp, by simp⟩
    · exact ⟨[(who, s)], rfl, by simp⟩
  · exact ⟨[], by simp, by simp⟩
theorem signsS_all : ∀ (l : List Act3) (S : List Wd), (∃ X, (signsS l S).2 = S ++ X ∧ X.length ≤ l.length) ∧ ∀ i (h : i < l.length), (namedB l[i].who = true → ∃ p, place (l[i].who, l[i].text) (signsS l S).2 = some p ∧ (signsS l S).1[i]? = some (sigOf p)) ∧ (namedB l[i].who = false → (signsS l S).1[i]? = some ⟨#[]⟩)
  | [], S => ⟨⟨[], by simp [signsS], by simp⟩, fun i h => by simp at h⟩
  | a :: l, S => by
    obtain ⟨X, h3, h4⟩ := signE_more S a.who a.text
    obtain ⟨⟨Y, h5, h6⟩, h8⟩ := signsS_all l (signE S a.who a.text).2
    refine ⟨⟨X ++ Y, by simp only [signsS]; rw [h5, h3, List.append_assoc], by simp; omega⟩, fun i hi => ?_⟩
    cases i with
    | zero =>
      refine ⟨fun hn => ?_, fun hn => ?_⟩
      · obtain ⟨p, k1, k2⟩ := signE_place (S := S) (s := a.text) hn
        exact ⟨p, by simp only [signsS, List.getElem_cons_zero]; rw [h5]; exact place_app Y k1, by simpa [signsS] using k2⟩
      · have hh : namedB a.who = false := hn
        simp [signsS, signE_not hh]
    | succ i =>
      obtain ⟨k1, k2⟩ := h8 i (by simpa using hi)
      exact ⟨fun hn => by obtain ⟨q, q1, q2⟩ := k1 hn; exact ⟨q, by simpa [signsS] using q1, by simpa [signsS] using q2⟩, fun hn => by simpa [signsS] using k2 hn⟩
theorem signsS_size {l : List Act3} {S : List Wd} : (signsS l S).2.length ≤ S.length + l.length := by
  obtain ⟨⟨X, h1, h2⟩, _⟩ := signsS_all l S
  rw [h1]; simp; omega
theorem sig_same {S : List Wd} (hS : S.length ≤ 1000000) {x y : Wd} {p q : Nat} (hp : place x S = some p) (hq : place y S = some q) : (sigOf p = sigOf q) ↔ x = y := by
  constructor
  · intro h
    obtain rfl := sigOf_inj (by have := place_lt hp; omega) (by have := place_lt hq; omega) h
    exact place_same hp hq
  · rintro rfl
    rw [hp] at hq
    rw [Option.some.inj hq]
theorem A3S.take {w : World} {A : Option Addr} {c : Nat} {l : List Act3} (h : A3S w A c l) (n : Nat) : A3S w A c (l.take n) := by
  refine ⟨flat_len Act3.cells 4 Act3.cells_len (l.take n), by have := h.fits; simp; omega, fun j u hj => h.at_ j u ?_⟩
  have e : l.flatMap Act3.cells = (l.take n).flatMap Act3.cells ++ (l.drop n).flatMap Act3.cells := by rw [← List.flatMap_append, List.take_append_drop]
  rw [e, List.getElem?_append_left (List.getElem?_eq_some_iff.1 hj).1]
  exact hj
theorem signE_facts {S : List Wd} {who : Int} {s : ByteArray} : ((namedB who = true → (signE S who s).1.2 = 0 ∧ (signE S who s).1.1.size = 9)) ∧ (namedB who = false → (signE S who s).1.2 = 1 ∧ (signE S who s).1.1.size = 0) := by
  refine ⟨fun h => ⟨by rw [signE_err, if_pos h], ?_⟩, fun h => ⟨by rw [signE_err, if_neg (by rw [h]; decide)], by rw [signE_not h]; rfl⟩⟩
  obtain ⟨p, _, h2⟩ := signE_place (S := S) (s := s) h
  rw [h2, sigOf_size]

set_option maxHeartbeats 4000000 in
set_option maxRecDepth 100000 in
theorem authnUnlike_calls (A : Option Addr) (c : Nat) (l : List Act3) (w : World) (hs : A3S w A c l) (hok : ∀ s ∈ l, s.text.size ≤ maxLen) (hcap : l.length ≤ c) : Calls Try.prog 15 #[.slice A l.length c] w (BoolPost true w) := by
  have hfit := hs.fits
  have H0 := Lib.hid (fun w => newBook_calls w)
  unfold NewPost at H0
  by_cases hlong : 60 < l.length
  · have hd0 : decide ((60 : Int) < (l.length : Int)) = true := by simp; omega
    have hc60 : ¬ c < 60 := by omega
    have HS := Lib.hid (show A3S w A c (l.take 60) from hs.take 60)
    have HOK := Lib.hid (fun s (h : s ∈ (l.take 60)) => hok s (List.mem_of_mem_take h))
    clear hs hok
    go_enter Try.func15, Try.ntmps15
    go_wp2_with fail
    refine (H0.out _).mono ?_
    rintro e w1 ⟨b, t, m, n, rfl, hb1, hk1, g1, g2, g3, g4⟩
    have HB1 := Lib.hid hb1
    have HK1 := Lib.hid hk1
    clear hb1 hk1
    go_wp2_with fail
    go_loopg [4, 5] 60 (fun g v4 v5 wr => ∃ (k : Nat) (A4 : Option Addr) (c4 : Nat), v4 = .slice A4 k c4 ∧ v5 = .int .i64 k ∧ k ≤ 60 ∧ Hid (g + k = 60 ∧ Below w.heap.size w wr ∧ Bk wr b t m n [] (signsS ((l.take 60).take k) []).2 ∧ wr.ownsRow (w1.heap.size) 9 1 (.slice A4 k c4) k ((signsS ((l.take 60).take k) []).1.flatMap textCells) ∧ w1.heap.size ≤ wr.heap.size))
    case atStart => exact ⟨0, none, 0, rfl, rfl, Nat.zero_le _, rfl, HB1.out, HK1.out, ⟨rfl, .inl ⟨rfl, rfl⟩⟩, Nat.le_refl _⟩
    case round =>
      obtain ⟨k, A4, c4, rfl, rfl, hk, HH⟩ := hrel
      obtain ⟨hg, hb, hbk, ho, hsz⟩ := HH.out
      have HG := Lib.hid hg
      have HB := Lib.hid hb
      have HK := Lib.hid hbk
      have HO := Lib.hid ho
      clear HH hg hb hbk ho
      by_cases hlt : k < 60
      · have hd1 : decide ((k : Int) < 60) = true := by simp; omega
        have hkl : k < (l.take 60).length := by first | omega | (simp; omega)
        have hI : (k : Int) < 60 := by omega
        have hI0 : (0 : Int) ≤ (k : Int) := by omega
        obtain ⟨a, rfl, e0, e1, e2, e3⟩ := (HS.out.below HB.out).elem k hkl
        have hsz0 := HOK.out _ (List.getElem_mem hkl)
        have hst := signsS_take hkl []
        have HEL := Lib.hid (fun w' (hb : Below w.heap.size w w') => (HS.out.below hb).elem k hkl)
        obtain ⟨x, hs⟩ : ∃ s, s = (l.take 60)[k] := ⟨_, rfl⟩
        rw [← hs] at e0 e1 e2 e3 hsz0 hst HEL
        clear hs
        have hTl := signsS_size (l := (l.take 60).take k) (S := [])
        obtain ⟨D, hD⟩ : ∃ D, D = (signsS ((l.take 60).take k) []).1 := ⟨_, rfl⟩
        obtain ⟨S, hT⟩ : ∃ T, T = (signsS ((l.take 60).take k) []).2 := ⟨_, rfl⟩
        rw [← hD] at HO hst
        rw [← hT] at HK hst hTl
        have hT2 : S.length ≤ 1000000 := by simp at hTl; omega
        have HDG := Lib.hid (fun w hb => sign_calls b t m n [] S x.who x.text w hb (by omega) hsz0)
        unfold SignsPost at HDG
        have hfact := signE_facts (S := S) (who := x.who) (s := x.text)
        obtain ⟨⟨⟨g, ge⟩, S'⟩, hr⟩ : ∃ r, signE S x.who x.text = r := ⟨_, rfl⟩
        rw [hr] at HDG hst hfact
        simp only at HDG hst hfact
        have HST := Lib.hid hst
        have hmw := HK1.out.tm.lt
        have hrow : ∀ k, Row A4 k → w1.heap.size ≤ k ∧ k < wr.heap.size := fun k hk => own_row HO.out hk
        have hfar := HK1.out
        have HNE := Lib.hid (show b < w1.heap.size ∧ t < w1.heap.size ∧ m < w1.heap.size ∧ n < w1.heap.size from ⟨hfar.lt.1, hfar.lt.2, hfar.tm.lt, hfar.wm.lt⟩)
        clear hst hr hD hT hTl hT2 hfar
        obtain ⟨kind, awho, atext, asig⟩ := x
        simp only at *
        have HW1 := Lib.hid (show (namedB awho = true ∧ ge = 0 ∧ g.size = 9) ∨ (namedB awho = false ∧ ge = 1 ∧ g.size = 0) by
          cases hn : namedB awho with
          | true => exact .inl ⟨rfl, (hfact.1 hn).1, (hfact.1 hn).2⟩
          | false => exact .inr ⟨rfl, (hfact.2 hn).1, (hfact.2 hn).2⟩)
        clear hfact
        go_wp2_with fail
        go_region_held3 (fun w' => w'.cell? ⟨(a.add (k * 4)).block, (a.add (k * 4)).off + 1, none⟩ = some (.int .i64 awho) ∧ w'.cell? ⟨(a.add (k * 4)).block, (a.add (k * 4)).off + 2, none⟩ = some (.string atext)) (first | exact ⟨f1, f2⟩ | exact ⟨e1, e2⟩) (first | (go_at_call 56; refine (HDG.out _ HK.out.drew).mono ?_; rintro e w5 ⟨rfl, hc5, hk5⟩; have HB5 := Lib.hid (below_ch HB.out.drew hc5 g4 HB.out.size); have HK5 := Lib.hid (hk5.alloc (.cells #[.string g] 9)); have HO5 := Lib.hid (own_ch (w := wr.drew) HO.out hc5 (fun k hk => ⟨(own_row HO.out hk).2, by have := (own_row HO.out hk).1; have := HNE.out; omega⟩)); have hs5 := hc5.size; obtain ⟨a', ha', f0, f1, f2, f3⟩ := HEL.out _ HB5.out; cases ha'; clear hc5 hk5))
        have HB6 := Lib.hid (HB5.out.alloc HB5.out.size (.cells #[.string g] 9))
        have hrow5 : ∀ k, Row A4 k → w1.heap.size ≤ k ∧ k < w5.heap.size := fun k hk => own_row HO5.out hk
        clear hrow e0 e1 e2 e3
        have hs55 : wr.heap.size ≤ w5.heap.size := hs5
        rcases HW1.out with ⟨hn, hge, hgs⟩ | ⟨hn, hge, hgs⟩
        all_goals
          subst hge
          have hx : (decide (0 ≤ awho) = true ∧ decide (awho ≤ 255) = namedB awho) ∨ (decide (0 ≤ awho) = false ∧ namedB awho = false) := by
            unfold namedB
            by_cases h0 : 0 ≤ awho <;> simp [h0]
          rw [hn] at hx
          clear hn
          rcases hx with ⟨hq0, hq1⟩ | ⟨hq0, hq1⟩
          all_goals
            first
            | (cases hq1; done)
            | (have hq9 : ((g.size : Int) == 9) = decide (g.size = 9) := by rw [Bool.eq_iff_iff]; simp; omega
               rw [hgs] at hq9
               go_wp2_with (at_builtin; refine app_row rfl (.tmp 65) (.tmp 67) 54 rfl w1.heap.size 9 _ 1 16 info_str Try.underlying54 rfl (by decide) A4 c4 k (D.flatMap textCells) rfl (HO5.out.alloc _) ⟨w5.heap.size, 0, none⟩ 1 1 (textCells g) rfl rfl (news_box (Box.new w5 #[.string g] 9)) (text_one g) ?hb1 ?hb2 ?hb3 ?_; (case hb1 => omega); (case hb2 => omega); (case hb3 => simp; omega); intro A' c' w6 ho6 hc6 hA6; have HO6 := Lib.hid ho6; have HB7 := Lib.hid (below_app0 HB6.out HB6.out.size hc6 (fun k hk => by have := (hrow5 k hk).1; have := HB1.out.size; omega)); have HK6 := Lib.hid (HK5.out.ch hc6 (Nat.le_refl _) (by refine ⟨fun h => ?_, fun h => ?_, fun h => ?_, fun h => ?_⟩ <;> (have := (hrow5 _ h).1; have := HNE.out; omega))); have hs6 := hc6.size; clear ho6 hc6 hA6)
               go_roundg (60 - (k + 1))
               case measure => have := HG.out; omega
               case rel =>
                 refine ⟨k + 1, A', c', rfl, by go_num, by omega, by omega, HB7.out, by rw [HST.out]; exact HK6.out, ?_, by simp at hs6; omega⟩
                 rw [HST.out]
                 have := HO6.out
                 simpa [textCells, List.flatMap_append] using this)
      · obtain rfl : k = 60 := by omega
        have HALL := Lib.hid (signsS_all (l.take 60) []).2
        have hTl := signsS_size (l := (l.take 60)) (S := [])
        have hlen : (l.take 60).length = 60 := by first | rfl | (simp; omega)
        rw [List.take_of_length_le (by rw [hlen]; exact Nat.le_refl _)] at HK HO
        obtain ⟨D, hD⟩ : ∃ D, D = (signsS (l.take 60) []).1 := ⟨_, rfl⟩
        obtain ⟨S, hT⟩ : ∃ T, T = (signsS (l.take 60) []).2 := ⟨_, rfl⟩
        rw [← hD] at HO HALL
        rw [← hT] at HK HALL hTl
        have hT2 : S.length ≤ 1000000 := by simp at hTl; omega
        have HSAME := Lib.hid (fun (x y : Wd) (p q : Nat) hp hq => sig_same hT2 (x := x) (y := y) (p := p) (q := q) hp hq)
        clear hD hT hTl hlen hT2
        go_wp2_with fail
        go_loopg [9] 60 (fun g v6 wr => ∃ (i : Nat), v6 = .int .i64 i ∧ i ≤ 60 ∧ Hid (g + i = 60 ∧ Below w.heap.size w wr ∧ wr.ownsRow (w1.heap.size) 9 1 (.slice A4 60 c4) 60 (D.flatMap textCells)))
        case atStart => exact ⟨0, rfl, Nat.zero_le _, rfl, HB.out, HO.out⟩
        case round =>
          clear HB HK HO HG
          obtain ⟨i, rfl, hi, HH⟩ := hrel
          obtain ⟨hg, hb, ho⟩ := HH.out
          have HG := Lib.hid hg
          have HB := Lib.hid hb
          have HO := Lib.hid ho
          clear HH hg hb ho
          by_cases hlt2 : i < 60
          · have hd1 : decide ((i : Int) < 60) = true := by simp; omega
            have hil : i < (l.take 60).length := by first | omega | (simp; omega)
            have hI : (i : Int) < 60 := by omega
            have hI0 : (0 : Int) ≤ (i : Int) := by omega
            obtain ⟨a, rfl, e0, e1, e2, e3⟩ := (HS.out.below HB.out).elem i hil
            clear e0 e1 e2 e3
            have hall := HALL.out i hil
            have HEL := Lib.hid (fun w' (hb : Below w.heap.size w w') => (HS.out.below hb).elem i hil)
            obtain ⟨x, hs⟩ : ∃ s, s = (l.take 60)[i] := ⟨_, rfl⟩
            rw [← hs] at HEL hall
            have HALLI := Lib.hid hall
            have HDX := Lib.hid (show ∃ g, D[i]? = some g ∧ ((namedB x.who = true ∧ ∃ p, place (x.who, x.text) S = some p ∧ g = sigOf p) ∨ (namedB x.who = false ∧ g = ⟨#[]⟩)) by
              cases hn : namedB x.who with
              | true => obtain ⟨p, h1, h2⟩ := hall.1 hn; exact ⟨_, h2, .inl ⟨rfl, p, h1, rfl⟩⟩
              | false => exact ⟨_, hall.2 hn, .inr ⟨rfl, rfl⟩⟩)
            clear hs hall
            obtain ⟨g, hgi, hgg⟩ := HDX.out
            have HGG := Lib.hid hgg
            obtain ⟨a4, rfl, e4⟩ := (Sl.of_own HO.out).at_ i _ (texts_get hgi)
            clear e4 hgg
            have HDL := Lib.hid (fun (w' : World) (ho : w'.ownsRow (w1.heap.size) 9 1 (.slice (some a4) 60 c4) 60 (D.flatMap textCells)) => (Sl.of_own ho).at_ i _ (texts_get hgi))
            clear hgi
            go_wp2_with fail
            go_loopg [10] i (fun g v7 wr => ∃ (j : Nat), v7 = .int .i64 j ∧ j ≤ i ∧ Hid (g + j = i ∧ Below w.heap.size w wr ∧ wr.ownsRow (w1.heap.size) 9 1 (.slice (some a4) 60 c4) 60 (D.flatMap textCells)))
            case atStart => exact ⟨0, rfl, Nat.zero_le _, rfl, HB.out, HO.out⟩
            case round =>
              clear HB HO
              obtain ⟨j, rfl, hj, HH⟩ := hrel
              obtain ⟨hg, hb, ho⟩ := HH.out
              have HG2 := Lib.hid hg
              have HB := Lib.hid hb
              have HO := Lib.hid ho
              clear HH hg hb ho
              by_cases hlt3 : j < i
              · have hd2 : decide ((j : Int) < (i : Int)) = true := by simp; omega
                have hjl : j < (l.take 60).length := by first | omega | (simp; omega)
                have hj2 : j < 60 := by omega
                have hJ : (j : Int) < 60 := by omega
                have hJ0 : (0 : Int) ≤ (j : Int) := by omega
                obtain ⟨a', ha', e0, e1, e2, e3⟩ := HEL.out _ HB.out
                cases ha'
                obtain ⟨a', ha', e4⟩ := HDL.out _ HO.out
                cases ha'
                obtain ⟨a', ha', q0, q1, q2, q3⟩ := (HS.out.below HB.out).elem j hjl
                cases ha'
                have hally := HALL.out j hjl
                obtain ⟨y, hy⟩ : ∃ s, s = (l.take 60)[j] := ⟨_, rfl⟩
                rw [← hy] at q0 q1 q2 q3 hally
                have hdy : ∃ g, D[j]? = some g ∧ ((namedB y.who = true ∧ ∃ p, place (y.who, y.text) S = some p ∧ g = sigOf p) ∨ (namedB y.who = false ∧ g = ⟨#[]⟩)) := by
                  cases hn : namedB y.who with
                  | true => obtain ⟨p, h1, h2⟩ := hally.1 hn; exact ⟨_, h2, .inl ⟨rfl, p, h1, rfl⟩⟩
                  | false => exact ⟨_, hally.2 hn, .inr ⟨rfl, rfl⟩⟩
                obtain ⟨g2, hgj, hgg2⟩ := hdy
                obtain ⟨a', ha', q4⟩ := (Sl.of_own HO.out).at_ j _ (texts_get hgj)
                cases ha'
                have hcase : (g.toList = []) ∨ (¬ g.toList = [] ∧ (g.toList == g2.toList) = (decide (x.who = y.who) && decide (x.text = y.text))) := by
                  rcases HGG.out with ⟨hn, p, hp, rfl⟩ | ⟨hn, rfl⟩
                  · right
                    have hz : (sigOf p).size = 9 := sigOf_size p
                    refine ⟨fun h => ?_, ?_⟩
                    · have := toList_length (sigOf p); rw [h, hz] at this; simp at this
                    · rw [beq_list, Bool.eq_iff_iff]
                      simp only [decide_eq_true_eq, Bool.and_eq_true]
                      rcases hgg2 with ⟨hn2, q, hq, rfl⟩ | ⟨hn2, rfl⟩
                      · have := HSAME.out _ _ _ _ hp hq
                        rw [this]
                        simp
                      · constructor
                        · intro h
                          rw [h] at hz
                          simp [ByteArray.size] at hz
                        · rintro ⟨h1, _⟩
                          rw [h1] at hn
                          rw [hn] at hn2
                          cases hn2
                  · left
                    exact List.eq_nil_of_length_eq_zero (by rw [toList_length]; rfl)
                clear hy hally hgj hgg2
                obtain ⟨k1, w1', t1, s1⟩ := x
                obtain ⟨k2, w2', t2, s2⟩ := y
                simp only at *
                have HCASE := Lib.hid hcase
                clear hcase
                rcases HCASE.out with hz | ⟨hz, hq⟩
                · have hz2 : g.toList.isEmpty = true := by rw [hz]; rfl
                  clear hz
                  go_wp2_with fail
                  go_quiet (fail)
                  go_wp2_with fail
                  go_roundg (i - (j + 1))
                  case measure => have := HG2.out; omega
                  case rel => exact ⟨j + 1, by go_num, by omega, by omega, below_dN HB.out _, own_drewN HO.out _⟩
                · have hz2 : g.toList.isEmpty = false := by simpa using hz
                  clear hz
                  by_cases b1 : w1' = w2'
                  · have r1 : (w1' == w2') = true := by simpa using b1
                    by_cases b2 : t1 = t2
                    · have r2 : (t1.toList == t2.toList) = true := by rw [beq_list]; simpa using b2
                      rw [decide_eq_true b1, decide_eq_true b2] at hq
                      clear b1 b2
                      go_wp2_with fail
                      go_quiet (fail)
                      go_wp2_with fail
                      go_roundg (i - (j + 1))
                      case measure => have := HG2.out; omega
                      case rel => exact ⟨j + 1, by go_num, by omega, by omega, below_dN HB.out _, own_drewN HO.out _⟩
                    · have r2 : (t1.toList == t2.toList) = false := by rw [beq_list]; simpa using b2
                      rw [decide_eq_true b1, decide_eq_false b2] at hq
                      clear b1 b2
                      go_wp2_with fail
                      go_quiet (fail)
                      go_wp2_with fail
                      go_roundg (i - (j + 1))
                      case measure => have := HG2.out; omega
                      case rel => exact ⟨j + 1, by go_num, by omega, by omega, below_dN HB.out _, own_drewN HO.out _⟩
                  · have r1 : (w1' == w2') = false := by simpa using b1
                    rw [decide_eq_false b1] at hq
                    clear b1
                    go_wp2_with fail
                    go_quiet (fail)
                    go_wp2_with fail
                    go_roundg (i - (j + 1))
                    case measure => have := HG2.out; omega
                    case rel => exact ⟨j + 1, by go_num, by omega, by omega, below_dN HB.out _, own_drewN HO.out _⟩
              · obtain rfl : j = i := by omega
                have hd2 : decide ((j : Int) < (j : Int)) = false := by simp
                go_wp2_with fail
                go_roundg (60 - (j + 1))
                case measure => have := HG.out; omega
                case rel => exact ⟨j + 1, by go_num, by omega, by omega, HB.out, HO.out⟩
          · obtain rfl : i = 60 := by omega
            go_wp2_with fail
            refine (awake3_calls _).mono ?_
            rintro e w7 ⟨rfl, hb7⟩
            have HB7 := Lib.hid (HB.out.trans (hb7.mono HB.out.size))
            clear hb7
            go_wp2
            go_ret
            exact ⟨rfl, HB7.out⟩
  · have hd0 : decide ((60 : Int) < (l.length : Int)) = false := by simp; omega
    have HS := Lib.hid (show A3S w A c l from hs)
    have HOK := Lib.hid (fun s (h : s ∈ l) => hok s h)
    clear hs hok
    go_enter Try.func15, Try.ntmps15
    go_wp2_with fail
    refine (H0.out _).mono ?_
    rintro e w1 ⟨b, t, m, n, rfl, hb1, hk1, g1, g2, g3, g4⟩
    have HB1 := Lib.hid hb1
    have HK1 := Lib.hid hk1
    clear hb1 hk1
    go_wp2_with fail
    go_loopg [4, 5] l.length (fun g v4 v5 wr => ∃ (k : Nat) (A4 : Option Addr) (c4 : Nat), v4 = .slice A4 k c4 ∧ v5 = .int .i64 k ∧ k ≤ l.length ∧ Hid (g + k = l.length ∧ Below w.heap.size w wr ∧ Bk wr b t m n [] (signsS (l.take k) []).2 ∧ wr.ownsRow (w1.heap.size) 9 1 (.slice A4 k c4) k ((signsS (l.take k) []).1.flatMap textCells) ∧ w1.heap.size ≤ wr.heap.size))
    case atStart => exact ⟨0, none, 0, rfl, rfl, Nat.zero_le _, rfl, HB1.out, HK1.out, ⟨rfl, .inl ⟨rfl, rfl⟩⟩, Nat.le_refl _⟩
    case round =>
      obtain ⟨k, A4, c4, rfl, rfl, hk, HH⟩ := hrel
      obtain ⟨hg, hb, hbk, ho, hsz⟩ := HH.out
      have HG := Lib.hid hg
      have HB := Lib.hid hb
      have HK := Lib.hid hbk
      have HO := Lib.hid ho
      clear HH hg hb hbk ho
      by_cases hlt : k < l.length
      · have hd1 : decide ((k : Int) < (l.length : Int)) = true := by simp; omega
        have hkl : k < l.length := by first | omega | (simp; omega)
        have hI : (k : Int) < (l.length : Int) := by omega
        have hI0 : (0 : Int) ≤ (k : Int) := by omega
        obtain ⟨a, rfl, e0, e1, e2, e3⟩ := (HS.out.below HB.out).elem k hkl
        have hsz0 := HOK.out _ (List.getElem_mem hkl)
        have hst := signsS_take hkl []
        have HEL := Lib.hid (fun w' (hb : Below w.heap.size w w') => (HS.out.below hb).elem k hkl)
        obtain ⟨x, hs⟩ : ∃ s, s = l[k] := ⟨_, rfl⟩
        rw [← hs] at e0 e1 e2 e3 hsz0 hst HEL
        clear hs
        have hTl := signsS_size (l := l.take k) (S := [])
        obtain ⟨D, hD⟩ : ∃ D, D = (signsS (l.take k) []).1 := ⟨_, rfl⟩
        obtain ⟨S, hT⟩ : ∃ T, T = (signsS (l.take k) []).2 := ⟨_, rfl⟩
        rw [← hD] at HO hst
        rw [← hT] at HK hst hTl
        have hT2 : S.length ≤ 1000000 := by simp at hTl; omega
        have HDG := Lib.hid (fun w hb => sign_calls b t m n [] S x.who x.text w hb (by omega) hsz0)
        unfold SignsPost at HDG
        have hfact := signE_facts (S := S) (who := x.who) (s := x.text)
        obtain ⟨⟨⟨g, ge⟩, S'⟩, hr⟩ : ∃ r, signE S x.who x.text = r := ⟨_, rfl⟩
        rw [hr] at HDG hst hfact
        simp only at HDG hst hfact
        have HST := Lib.hid hst
        have hmw := HK1.out.tm.lt
        have hrow : ∀ k, Row A4 k → w1.heap.size ≤ k ∧ k < wr.heap.size := fun k hk => own_row HO.out hk
        have hfar := HK1.out
        have HNE := Lib.hid (show b < w1.heap.size ∧ t < w1.heap.size ∧ m < w1.heap.size ∧ n < w1.heap.size from ⟨hfar.lt.1, hfar.lt.2, hfar.tm.lt, hfar.wm.lt⟩)
        clear hst hr hD hT hTl hT2 hfar
        obtain ⟨kind, awho, atext, asig⟩ := x
        simp only at *
        have HW1 := Lib.hid (show (namedB awho = true ∧ ge = 0 ∧ g.size = 9) ∨ (namedB awho = false ∧ ge = 1 ∧ g.size = 0) by
          cases hn : namedB awho with
          | true => exact .inl ⟨rfl, (hfact.1 hn).1, (hfact.1 hn).2⟩
          | false => exact .inr ⟨rfl, (hfact.2 hn).1, (hfact.2 hn).2⟩)
        clear hfact
        go_wp2_with fail
        go_region_held3 (fun w' => w'.cell? ⟨(a.add (k * 4)).block, (a.add (k * 4)).off + 1, none⟩ = some (.int .i64 awho) ∧ w'.cell? ⟨(a.add (k * 4)).block, (a.add (k * 4)).off + 2, none⟩ = some (.string atext)) (first | exact ⟨f1, f2⟩ | exact ⟨e1, e2⟩) (first | (go_at_call 56; refine (HDG.out _ HK.out.drew).mono ?_; rintro e w5 ⟨rfl, hc5, hk5⟩; have HB5 := Lib.hid (below_ch HB.out.drew hc5 g4 HB.out.size); have HK5 := Lib.hid (hk5.alloc (.cells #[.string g] 9)); have HO5 := Lib.hid (own_ch (w := wr.drew) HO.out hc5 (fun k hk => ⟨(own_row HO.out hk).2, by have := (own_row HO.out hk).1; have := HNE.out; omega⟩)); have hs5 := hc5.size; obtain ⟨a', ha', f0, f1, f2, f3⟩ := HEL.out _ HB5.out; cases ha'; clear hc5 hk5))
        have HB6 := Lib.hid (HB5.out.alloc HB5.out.size (.cells #[.string g] 9))
        have hrow5 : ∀ k, Row A4 k → w1.heap.size ≤ k ∧ k < w5.heap.size := fun k hk => own_row HO5.out hk
        clear hrow e0 e1 e2 e3
        have hs55 : wr.heap.size ≤ w5.heap.size := hs5
        rcases HW1.out with ⟨hn, hge, hgs⟩ | ⟨hn, hge, hgs⟩
        all_goals
          subst hge
          have hx : (decide (0 ≤ awho) = true ∧ decide (awho ≤ 255) = namedB awho) ∨ (decide (0 ≤ awho) = false ∧ namedB awho = false) := by
            unfold namedB
            by_cases h0 : 0 ≤ awho <;> simp [h0]
          rw [hn] at hx
          clear hn
          rcases hx with ⟨hq0, hq1⟩ | ⟨hq0, hq1⟩
          all_goals
            first
            | (cases hq1; done)
            | (have hq9 : ((g.size : Int) == 9) = decide (g.size = 9) := by rw [Bool.eq_iff_iff]; simp; omega
               rw [hgs] at hq9
               go_wp2_with (at_builtin; refine app_row rfl (.tmp 65) (.tmp 67) 54 rfl w1.heap.size 9 _ 1 16 info_str Try.underlying54 rfl (by decide) A4 c4 k (D.flatMap textCells) rfl (HO5.out.alloc _) ⟨w5.heap.size, 0, none⟩ 1 1 (textCells g) rfl rfl (news_box (Box.new w5 #[.string g] 9)) (text_one g) ?hb1 ?hb2 ?hb3 ?_; (case hb1 => omega); (case hb2 => omega); (case hb3 => simp; omega); intro A' c' w6 ho6 hc6 hA6; have HO6 := Lib.hid ho6; have HB7 := Lib.hid (below_app0 HB6.out HB6.out.size hc6 (fun k hk => by have := (hrow5 k hk).1; have := HB1.out.size; omega)); have HK6 := Lib.hid (HK5.out.ch hc6 (Nat.le_refl _) (by refine ⟨fun h => ?_, fun h => ?_, fun h => ?_, fun h => ?_⟩ <;> (have := (hrow5 _ h).1; have := HNE.out; omega))); have hs6 := hc6.size; clear ho6 hc6 hA6)
               go_roundg (l.length - (k + 1))
               case measure => have := HG.out; omega
               case rel =>
                 refine ⟨k + 1, A', c', rfl, by go_num, by omega, by omega, HB7.out, by rw [HST.out]; exact HK6.out, ?_, by simp at hs6; omega⟩
                 rw [HST.out]
                 have := HO6.out
                 simpa [textCells, List.flatMap_append] using this)
      · obtain rfl : k = l.length := by omega
        have HALL := Lib.hid (signsS_all l []).2
        have hTl := signsS_size (l := l) (S := [])
        have hlen : l.length = l.length := by first | rfl | (simp; omega)
        rw [List.take_of_length_le (by rw [hlen]; exact Nat.le_refl _)] at HK HO
        obtain ⟨D, hD⟩ : ∃ D, D = (signsS l []).1 := ⟨_, rfl⟩
        obtain ⟨S, hT⟩ : ∃ T, T = (signsS l []).2 := ⟨_, rfl⟩
        rw [← hD] at HO HALL
        rw [← hT] at HK HALL hTl
        have hT2 : S.length ≤ 1000000 := by simp at hTl; omega
        have HSAME := Lib.hid (fun (x y : Wd) (p q : Nat) hp hq => sig_same hT2 (x := x) (y := y) (p := p) (q := q) hp hq)
        clear hD hT hTl hlen hT2
        go_wp2_with fail
        go_loopg [9] l.length (fun g v6 wr => ∃ (i : Nat), v6 = .int .i64 i ∧ i ≤ l.length ∧ Hid (g + i = l.length ∧ Below w.heap.size w wr ∧ wr.ownsRow (w1.heap.size) 9 1 (.slice A4 l.length c4) l.length (D.flatMap textCells)))
        case atStart => exact ⟨0, rfl, Nat.zero_le _, rfl, HB.out, HO.out⟩
        case round =>
          clear HB HK HO HG
          obtain ⟨i, rfl, hi, HH⟩ := hrel
          obtain ⟨hg, hb, ho⟩ := HH.out
          have HG := Lib.hid hg
          have HB := Lib.hid hb
          have HO := Lib.hid ho
          clear HH hg hb ho
          by_cases hlt2 : i < l.length
          · have hd1 : decide ((i : Int) < (l.length : Int)) = true := by simp; omega
            have hil : i < l.length := by first | omega | (simp; omega)
            have hI : (i : Int) < (l.length : Int) := by omega
            have hI0 : (0 : Int) ≤ (i : Int) := by omega
            obtain ⟨a, rfl, e0, e1, e2, e3⟩ := (HS.out.below HB.out).elem i hil
            clear e0 e1 e2 e3
            have hall := HALL.out i hil
            have HEL := Lib.hid (fun w' (hb : Below w.heap.size w w') => (HS.out.below hb).elem i hil)
            obtain ⟨x, hs⟩ : ∃ s, s = l[i] := ⟨_, rfl⟩
            rw [← hs] at HEL hall
            have HALLI := Lib.hid hall
            have HDX := Lib.hid (show ∃ g, D[i]? = some g ∧ ((namedB x.who = true ∧ ∃ p, place (x.who, x.text) S = some p ∧ g = sigOf p) ∨ (namedB x.who = false ∧ g = ⟨#[]⟩)) by
              cases hn : namedB x.who with
              | true => obtain ⟨p, h1, h2⟩ := hall.1 hn; exact ⟨_, h2, .inl ⟨rfl, p, h1, rfl⟩⟩
              | false => exact ⟨_, hall.2 hn, .inr ⟨rfl, rfl⟩⟩)
            clear hs hall
            obtain ⟨g, hgi, hgg⟩ := HDX.out
            have HGG := Lib.hid hgg
            obtain ⟨a4, rfl, e4⟩ := (Sl.of_own HO.out).at_ i _ (texts_get hgi)
            clear e4 hgg
            have HDL := Lib.hid (fun (w' : World) (ho : w'.ownsRow (w1.heap.size) 9 1 (.slice (some a4) l.length c4) l.length (D.flatMap textCells)) => (Sl.of_own ho).at_ i _ (texts_get hgi))
            clear hgi
            go_wp2_with fail
            go_loopg [10] i (fun g v7 wr => ∃ (j : Nat), v7 = .int .i64 j ∧ j ≤ i ∧ Hid (g + j = i ∧ Below w.heap.size w wr ∧ wr.ownsRow (w1.heap.size) 9 1 (.slice (some a4) l.length c4) l.length (D.flatMap textCells)))
            case atStart => exact ⟨0, rfl, Nat.zero_le _, rfl, HB.out, HO.out⟩
            case round =>
              clear HB HO
              obtain ⟨j, rfl, hj, HH⟩ := hrel
              obtain ⟨hg, hb, ho⟩ := HH.out
              have HG2 := Lib.hid hg
              have HB := Lib.hid hb
              have HO := Lib.hid ho
              clear HH hg hb ho
              by_cases hlt3 : j < i
              · have hd2 : decide ((j : Int) < (i : Int)) = true := by simp; omega
                have hjl : j < l.length := by first | omega | (simp; omega)
                have hj2 : j < l.length := by omega
                have hJ : (j : Int) < (l.length : Int) := by omega
                have hJ0 : (0 : Int) ≤ (j : Int) := by omega
                obtain ⟨a', ha', e0, e1, e2, e3⟩ := HEL.out _ HB.out
                cases ha'
                obtain ⟨a', ha', e4⟩ := HDL.out _ HO.out
                cases ha'
                obtain ⟨a', ha', q0, q1, q2, q3⟩ := (HS.out.below HB.out).elem j hjl
                cases ha'
                have hally := HALL.out j hjl
                obtain ⟨y, hy⟩ : ∃ s, s = l[j] := ⟨_, rfl⟩
                rw [← hy] at q0 q1 q2 q3 hally
                have hdy : ∃ g, D[j]? = some g ∧ ((namedB y.who = true ∧ ∃ p, place (y.who, y.text) S = some p ∧ g = sigOf p) ∨ (namedB y.who = false ∧ g = ⟨#[]⟩)) := by
                  cases hn : namedB y.who with
                  | true => obtain ⟨p, h1, h2⟩ := hally.1 hn; exact ⟨_, h2, .inl ⟨rfl, p, h1, rfl⟩⟩
                  | false => exact ⟨_, hally.2 hn, .inr ⟨rfl, rfl⟩⟩
                obtain ⟨g2, hgj, hgg2⟩ := hdy
                obtain ⟨a', ha', q4⟩ := (Sl.of_own HO.out).at_ j _ (texts_get hgj)
                cases ha'
                have hcase : (g.toList = []) ∨ (¬ g.toList = [] ∧ (g.toList == g2.toList) = (decide (x.who = y.who) && decide (x.text = y.text))) := by
                  rcases HGG.out with ⟨hn, p, hp, rfl⟩ | ⟨hn, rfl⟩
                  · right
                    have hz : (sigOf p).size = 9 := sigOf_size p
                    refine ⟨fun h => ?_, ?_⟩
                    · have := toList_length (sigOf p); rw [h, hz] at this; simp at this
                    · rw [beq_list, Bool.eq_iff_iff]
                      simp only [decide_eq_true_eq, Bool.and_eq_true]
                      rcases hgg2 with ⟨hn2, q, hq, rfl⟩ | ⟨hn2, rfl⟩
                      · have := HSAME.out _ _ _ _ hp hq
                        rw [this]
                        simp
                      · constructor
                        · intro h
                          rw [h] at hz
                          simp [ByteArray.size] at hz
                        · rintro ⟨h1, _⟩
                          rw [h1] at hn
                          rw [hn] at hn2
                          cases hn2
                  · left
                    exact List.eq_nil_of_length_eq_zero (by rw [toList_length]; rfl)
                clear hy hally hgj hgg2
                obtain ⟨k1, w1', t1, s1⟩ := x
                obtain ⟨k2, w2', t2, s2⟩ := y
                simp only at *
                have HCASE := Lib.hid hcase
                clear hcase
                rcases HCASE.out with hz | ⟨hz, hq⟩
                · have hz2 : g.toList.isEmpty = true := by rw [hz]; rfl
                  clear hz
                  go_wp2_with fail
                  go_quiet (fail)
                  go_wp2_with fail
                  go_roundg (i - (j + 1))
                  case measure => have := HG2.out; omega
                  case rel => exact ⟨j + 1, by go_num, by omega, by omega, below_dN HB.out _, own_drewN HO.out _⟩
                · have hz2 : g.toList.isEmpty = false := by simpa using hz
                  clear hz
                  by_cases b1 : w1' = w2'
                  · have r1 : (w1' == w2') = true := by simpa using b1
                    by_cases b2 : t1 = t2
                    · have r2 : (t1.toList == t2.toList) = true := by rw [beq_list]; simpa using b2
                      rw [decide_eq_true b1, decide_eq_true b2] at hq
                      clear b1 b2
                      go_wp2_with fail
                      go_quiet (fail)
                      go_wp2_with fail
                      go_roundg (i - (j + 1))
                      case measure => have := HG2.out; omega
                      case rel => exact ⟨j + 1, by go_num, by omega, by omega, below_dN HB.out _, own_drewN HO.out _⟩
                    · have r2 : (t1.toList == t2.toList) = false := by rw [beq_list]; simpa using b2
                      rw [decide_eq_true b1, decide_eq_false b2] at hq
                      clear b1 b2
                      go_wp2_with fail
                      go_quiet (fail)
                      go_wp2_with fail
                      go_roundg (i - (j + 1))
                      case measure => have := HG2.out; omega
                      case rel => exact ⟨j + 1, by go_num, by omega, by omega, below_dN HB.out _, own_drewN HO.out _⟩
                  · have r1 : (w1' == w2') = false := by simpa using b1
                    rw [decide_eq_false b1] at hq
                    clear b1
                    go_wp2_with fail
                    go_quiet (fail)
                    go_wp2_with fail
                    go_roundg (i - (j + 1))
                    case measure => have := HG2.out; omega
                    case rel => exact ⟨j + 1, by go_num, by omega, by omega, below_dN HB.out _, own_drewN HO.out _⟩
              · obtain rfl : j = i := by omega
                have hd2 : decide ((j : Int) < (j : Int)) = false := by simp
                go_wp2_with fail
                go_roundg (l.length - (j + 1))
                case measure => have := HG.out; omega
                case rel => exact ⟨j + 1, by go_num, by omega, by omega, HB.out, HO.out⟩
          · obtain rfl : i = l.length := by omega
            go_wp2_with fail
            refine (awake3_calls _).mono ?_
            rintro e w7 ⟨rfl, hb7⟩
            have HB7 := Lib.hid (HB.out.trans (hb7.mono HB.out.size))
            clear hb7
            go_wp2
            go_ret
            exact ⟨rfl, HB7.out⟩
end Go.Proofs.Ytfgpchffkpomoaa

/- A body that is read is the body that was written, and the other way round. In plain words. -/
namespace Go.Proofs.Ytfgpchffkpomoaa
set_option linter.unusedSimpArgs false
set_option linter.unusedVariables false

theorem rdBody_all (s : ByteArray) : rdBody s = (match num s 0 with
  | .error e => .error e
  | .ok (a, p) => match num s p with
    | .error e => .error e
    | .ok (b, p) => match num s p with
      | .error e => .error e
      | .ok (c, p) => match num s p with
        | .error e => .error e
        | .ok (d, p) => match num s p with
          | .error e => .error e
          | .ok (e, p) => rdRest s a b c d e p) := by
  rw [rdBody_nums]
  simp only [rdNums]
  cases num s 0 with
  | error _ => rfl
  | ok r =>
    obtain ⟨x0, p0⟩ := r
    simp only
    cases num s p0 with
    | error _ => rfl
    | ok r =>
      obtain ⟨x1, p1⟩ := r
      simp only
      cases num s p1 with
      | error _ => rfl
      | ok r =>
        obtain ⟨x2, p2⟩ := r
        simp only
        cases num s p2 with
        | error _ => rfl
        | ok r =>
          obtain ⟨x3, p3⟩ := r
          simp only
          cases num s p3 with
          | error _ => rfl
          | ok r => rfl

theorem body_put {s : ByteArray} {b : Bd} (hr : rightE b = 0) (h : At s 0 (putBody b)) : rdBody s = if (putBody b).length < s.size then .error 12 else .ok b := by
  obtain ⟨k1, k2, v1, v2, q1, q2, c1, c2, t1, t2, d1, d2, l1, hfa⟩ := right_ok hr
  obtain ⟨kind, view, seq, client, stamp, digest, tx, list⟩ := b
  simp only at k1 k2 v1 v2 q1 q2 c1 c2 t1 t2 d1 d2 l1 hfa
  rw [putBody_eq] at h ⊢
  simp only at h ⊢
  obtain ⟨a1, h⟩ := at_append.1 h
  obtain ⟨a2, h⟩ := at_append.1 h
  obtain ⟨a3, h⟩ := at_append.1 h
  obtain ⟨a4, h⟩ := at_append.1 h
  obtain ⟨a5, h⟩ := at_append.1 h
  obtain ⟨a6, h⟩ := at_append.1 h
  obtain ⟨a7, a8⟩ := at_append.1 h
  rw [rdBody_all, num_put (by omega) a1]
  simp only
  rw [num_put (by omega) a2]
  simp only
  rw [num_put (by omega) a3]
  simp only
  rw [num_put (by omega) a4]
  simp only
  rw [num_put (by omega) a5]
  simp only
  unfold rdRest
  rw [text_put (by omega) a6]
  simp only
  rw [text_put (by omega) a7]
  simp only
  rw [manyAt_put l1 (by decide) hfa a8]
  simp only [List.length_append]
  rw [show (kind.toNat : Int) = kind by omega, show (view.toNat : Int) = view by omega, show (seq.toNat : Int) = seq by omega, show (client.toNat : Int) = client by omega, show (stamp.toNat : Int) = stamp by omega]
  congr 1
  simp only [eq_iff_iff]
  omega

theorem body_get {s : ByteArray} {b : Bd} (h : rdBody s = .ok b) : At s 0 (putBody b) ∧ (putBody b).length = s.size := by
  rw [rdBody_all] at h
  cases hx0 : num s 0 with
  | error e => rw [hx0] at h; cases h
  | ok r =>
    obtain ⟨x0, p0⟩ := r
    obtain ⟨a0, b0⟩ := num_get hx0
    rw [hx0] at h
    simp only at h
    cases hx1 : num s p0 with
    | error e => rw [hx1] at h; cases h
    | ok r =>
      obtain ⟨x1, p1⟩ := r
      obtain ⟨a1, b1⟩ := num_get hx1
      rw [hx1] at h
      simp only at h
      cases hx2 : num s p1 with
      | error e => rw [hx2] at h; cases h
      | ok r =>
        obtain ⟨x2, p2⟩ := r
        obtain ⟨a2, b2⟩ := num_get hx2
        rw [hx2] at h
        simp only at h
        cases hx3 : num s p2 with
        | error e => rw [hx3] at h; cases h
        | ok r =>
          obtain ⟨x3, p3⟩ := r
          obtain ⟨a3, b3⟩ := num_get hx3
          rw [hx3] at h
          simp only at h
          cases hx4 : num s p3 with
          | error e => rw [hx4] at h; cases h
          | ok r =>
            obtain ⟨x4, p4⟩ := r
            obtain ⟨a4, b4⟩ := num_get hx4
            rw [hx4] at h
            simp only at h
            unfold rdRest at h
            cases hx5 : text s p4 with
            | error e => rw [hx5] at h; cases h
            | ok r =>
              obtain ⟨x5, p5⟩ := r
              obtain ⟨a5, b5⟩ := text_get hx5
              rw [hx5] at h
              simp only at h
              cases hx6 : text s p5 with
              | error e => rw [hx6] at h; cases h
              | ok r =>
                obtain ⟨x6, p6⟩ := r
                obtain ⟨a6, b6⟩ := text_get hx6
                rw [hx6] at h
                simp only at h
                cases hx7 : manyAt s 64 p6 with
                | error e => rw [hx7] at h; cases h
                | ok r =>
                  obtain ⟨x7, p7⟩ := r
                  obtain ⟨a7, b7⟩ := manyAt_get hx7
                  rw [hx7] at h
                  simp only at h
                  have hp := manyAt_bd hx7
                  split at h
                  · cases h
                  · simp only [Except.ok.injEq] at h
                    subst h
                    rw [putBody_eq]
                    simp only [Int.toNat_natCast]
                    refine ⟨at_append.2 ⟨a0, ?_⟩, by simp only [List.length_append] at *; omega⟩
                    rw [← b0]
                    refine at_append.2 ⟨a1, ?_⟩
                    rw [← b1]
                    refine at_append.2 ⟨a2, ?_⟩
                    rw [← b2]
                    refine at_append.2 ⟨a3, ?_⟩
                    rw [← b3]
                    refine at_append.2 ⟨a4, ?_⟩
                    rw [← b4]
                    refine at_append.2 ⟨a5, ?_⟩
                    rw [← b5]
                    refine at_append.2 ⟨a6, ?_⟩
                    rw [← b6]
                    exact a7

theorem rdBody_err {s : ByteArray} : rdBody s ≠ .error 0 := by
  rw [rdBody_all]
  intro h
  cases hx : num s 0 with
  | error e => rw [hx] at h; have := num_err hx; simp only [Except.error.injEq] at h; omega
  | ok r =>
    obtain ⟨x0, p0⟩ := r
    rw [hx] at h
    simp only at h
    clear hx
    cases hx : num s p0 with
    | error e => rw [hx] at h; have := num_err hx; simp only [Except.error.injEq] at h; omega
    | ok r =>
      obtain ⟨x1, p1⟩ := r
      rw [hx] at h
      simp only at h
      clear hx
      cases hx : num s p1 with
      | error e => rw [hx] at h; have := num_err hx; simp only [Except.error.injEq] at h; omega
      | ok r =>
        obtain ⟨x2, p2⟩ := r
        rw [hx] at h
        simp only at h
        clear hx
        cases hx : num s p2 with
        | error e => rw [hx] at h; have := num_err hx; simp only [Except.error.injEq] at h; omega
        | ok r =>
          obtain ⟨x3, p3⟩ := r
          rw [hx] at h
          simp only at h
          clear hx
          cases hx : num s p3 with
          | error e => rw [hx] at h; have := num_err hx; simp only [Except.error.injEq] at h; omega
          | ok r =>
            obtain ⟨x4, p4⟩ := r
            rw [hx] at h
            simp only at h
            clear hx
            unfold rdRest at h
            cases hx : text s p4 with
            | error e => rw [hx] at h; have := text_err hx; simp only [Except.error.injEq] at h; omega
            | ok r =>
              obtain ⟨x5, p5⟩ := r
              rw [hx] at h
              simp only at h
              clear hx
              cases hx : text s p5 with
              | error e => rw [hx] at h; have := text_err hx; simp only [Except.error.injEq] at h; omega
              | ok r =>
                obtain ⟨x6, p6⟩ := r
                rw [hx] at h
                simp only at h
                clear hx
                cases hx : manyAt s 64 p6 with
                | error e => rw [hx] at h; have := manyAt_err hx; simp only [Except.error.injEq] at h; omega
                | ok r =>
                  obtain ⟨x7, p7⟩ := r
                  rw [hx] at h
                  simp only at h
                  clear hx
                  split at h
                  · simp at h
                  · cases h

/-- A body that may be, and whose bytes are not too many, is read from its bytes. -/
theorem of_bytes {b : Bd} {s : ByteArray} (h : bytesE b = (s, 0)) : ofBody s = (b, 0) ∧ s = bs (putBody b) ∧ rightE b = 0 ∧ s.size ≤ 1048576 := by
  unfold bytesE at h
  by_cases hr : rightE b = 0
  · rw [if_pos hr] at h
    by_cases hl : 1048576 < (putBody b).length
    · rw [if_pos hl] at h
      simp only [Prod.mk.injEq] at h
      omega
    · rw [if_neg hl] at h
      simp only [Prod.mk.injEq, and_true] at h
      have hs : s.size = (putBody b).length := by rw [← h, bs_size]
      refine ⟨?_, h.symm, hr, by omega⟩
      unfold ofBody
      rw [if_neg (by omega), body_put hr (by rw [← h]; exact at_self _), if_neg (by omega)]
      simp only
      rw [if_pos hr]
  · rw [if_neg hr] at h
    simp only [Prod.mk.injEq] at h
    exact absurd h.2 hr
/-- Bytes that are read as a body are its bytes. -/
theorem bytes_of {b : Bd} {s : ByteArray} (h : ofBody s = (b, 0)) : bytesE b = (s, 0) := by
  unfold ofBody at h
  by_cases hl : 1048576 < s.size
  · rw [if_pos hl] at h
    simp only [Prod.mk.injEq] at h
    omega
  · rw [if_neg hl] at h
    split at h
    · rename_i c hc
      simp only [Prod.mk.injEq] at h
      have hc0 : c = 0 := by omega
      subst hc0
      exact absurd hc rdBody_err
    · rename_i b' hb
      by_cases hr : rightE b' = 0
      · rw [if_pos hr] at h
        simp only [Prod.mk.injEq, and_true] at h
        subst h
        obtain ⟨h1, h2⟩ := body_get hb
        unfold bytesE
        rw [if_pos hr, if_neg (by omega), ← eq_bs h1 h2]
      · rw [if_neg hr] at h
        simp only [Prod.mk.injEq] at h
        exact absurd h.2 hr
end Go.Proofs.Ytfgpchffkpomoaa

/- What a client asks and what it does with bytes; a body that is rightly signed is opened as it was: in plain words. -/
namespace Go.Proofs.Ytfgpchffkpomoaa
set_option linter.unusedSimpArgs false
set_option linter.unusedVariables false
open Go.RowKit

/-- A client's request (1), or a replica's reply (10). -/
def cliB (k client stamp : Int) (text : ByteArray) : Bd := ⟨k, 0, 0, client, stamp, ⟨#[]⟩, text, []⟩
/-- What a client asks at a key. -/
def askB (client : Int) (text : ByteArray) : Bd := ⟨12, 0, 0, client, 0, ⟨#[]⟩, text, []⟩
theorem cli_flags (k client stamp : Int) (text : ByteArray) (hs : stamp ≠ 0) : (cliB k client stamp text).mask = (if client = 0 then 0 else 4) + 8 + (if text.size = 0 then 0 else 32) := by
  have ht := has_text text
  unfold Bd.mask Bd.flags cliB
  rcases Nat.eq_zero_or_pos text.size with h2 | h2
  · rw [decide_eq_false (by omega)] at ht
    have h3 : text.toList.isEmpty = true := by simpa using ht
    simp only [h3, if_pos h2]
    by_cases h1 : client = 0
    · simp [h1, hs, maskOf]
    · simp [h1, hs, maskOf]
  · rw [decide_eq_true h2] at ht
    have h3 : text.toList.isEmpty = false := by simpa using ht
    simp only [h3, if_neg (show ¬ text.size = 0 by omega)]
    by_cases h1 : client = 0
    · simp [h1, hs, maskOf]
    · simp [h1, hs, maskOf]
theorem cli_right {k client stamp : Int} {text : ByteArray} (hk : k = 1 ∨ k = 10) (hc : 0 ≤ client ∧ client ≤ 15) (hs : 1 ≤ stamp ∧ stamp ≤ 1099511627776) (ht : text.size ≤ 256) : rightE (cliB k client stamp text) = 0 := by
  have hm := cli_flags k client stamp text (by omega)
  have ha : partA (cliB k client stamp text) = true := by unfold partA cliB; simp; omega
  have hc : partC (cliB k client stamp text) = true := by unfold partC cliB; rcases hk with rfl | rfl <;> rfl
  have hb : partB (cliB k client stamp text) = true := by
    unfold partB
    rw [hm]
    unfold partBr
    have e1 : (cliB k client stamp text).text = text := rfl
    have e2 : (cliB k client stamp text).digest = ⟨#[]⟩ := rfl
    have e3 : (cliB k client stamp text).list = [] := rfl
    have e4 : (cliB k client stamp text).kind = k := rfl
    rw [e1, e2, e3, e4]
    simp only [Bool.and_eq_true, decide_eq_true_eq]
    rcases hk with rfl | rfl
    · refine ⟨by decide, by show text.size ≤ 256; omega, by decide, ?_, ?_, by decide⟩ <;> (split <;> split <;> decide +kernel)
    · refine ⟨by decide, by show text.size ≤ 256; omega, by decide, ?_, ?_, by decide⟩ <;> (split <;> split <;> decide +kernel)
  unfold rightE
  rw [if_neg (by unfold cliB; rcases hk with rfl | rfl <;> simp), ha, hb, hc]
  rfl
theorem small_bytes {b : Bd} (hr : rightE b = 0) (hl : b.list = []) (ht : b.text.size ≤ 1000) : (bytesE b).2 = 0 := by
  have h := right_ok hr
  unfold bytesE
  rw [if_pos hr, if_neg]
  have n1 := putNum_len 8 b.kind.toNat (by omega)
  have n2 := putNum_len 8 b.view.toNat (by omega)
  have n3 := putNum_len 8 b.seq.toNat (by omega)
  have n4 := putNum_len 8 b.client.toNat (by omega)
  have n5 := putNum_len 8 b.stamp.toNat (by omega)
  have n6 := putNum_len 8 b.digest.size (by omega)
  have n7 := putNum_len 8 b.text.size (by omega)
  have n8 := putNum_len 8 0 (by omega)
  rw [putBody_eq, hl]
  simp only [List.length_append, putText_length, List.flatMap_nil, List.length_nil]
  omega
/-- Sealed by one who may be: the message, and what was signed then. -/
theorem sealE_ok {S : List Wd} {who : Int} {b : Bd} (hw : 0 ≤ who ∧ who ≤ 255) (hb : (bytesE b).2 = 0) :
    ∃ p, sealE S who b = ((⟨who, (bytesE b).1, sigOf p⟩, 0), (signE S who (bytesE b).1).2) ∧ place (who, (bytesE b).1) (signE S who (bytesE b).1).2 = some p := by
  have hn : namedB who = true := by simpa [namedB] using hw
  obtain ⟨p, h1, h2⟩ := signE_place (S := S) (s := (bytesE b).1) hn
  have h3 : (signE S who (bytesE b).1).1.2 = 0 := by unfold signE; rw [if_pos hw]
  refine ⟨p, ?_, h1⟩
  unfold sealE
  rw [if_pos hb, if_pos h3, h2]
theorem ofSg_back {m : Sg} (h : fitsB m = true) : ofSg (bs (putSg m)) = (m, 0) := by
  obtain ⟨f1, f2, f3, f4⟩ := (fitsB_iff m).1 h
  have hl := putSg_len h
  rw [ofSg_short_eq (by rw [bs_size]; omega), signed_put f1 (by omega) f3 (by omega) (at_self _)]
  simp only
  rw [if_neg (by rw [bs_size]; omega), if_pos h]
/-- What was sealed is read and opened as it was. -/
structure Said (S : List Wd) (who : Int) (b : Bd) (m : Sg) : Prop where
  who : m.who = who
  fits : fitsB m = true
  reads : ofSg (bs (putSg m)) = (m, 0)
  opens : openE S m = (b, 0)
theorem seal_said {S : List Wd} {who : Int} {b : Bd} (hw : 0 ≤ who ∧ who ≤ 255) (hb : (bytesE b).2 = 0) : ∃ m S', sealE S who b = ((m, 0), S') ∧ Said S' who b m ∧ S'.length ≤ S.length + 1 := by
  obtain ⟨p, h1, h2⟩ := sealE_ok (S := S) hw hb
  have hsz := bytesE_size b
  have hf : fitsB ⟨who, (bytesE b).1, sigOf p⟩ = true := by
    rw [fitsB_iff]
    have h2 := sigOf_size p
    exact ⟨hw.1, hw.2, hsz, by simp only; omega⟩
  refine ⟨_, _, h1, ⟨rfl, hf, ofSg_back hf, ?_⟩, signE_length⟩
  unfold openE
  rw [if_pos]
  · exact (of_bytes (b := b) (s := (bytesE b).1) (by rw [← hb])).1
  · unfold checkE checkS
    simp only
    rw [h2, decide_eq_true hw]
    simp
theorem reply_said {S : List Wd} {who client stamp : Int} {text : ByteArray} (hw : 0 ≤ who ∧ who ≤ 255) (hc : 0 ≤ client ∧ client ≤ 15) (hs : 1 ≤ stamp ∧ stamp ≤ 1099511627776) (ht : text.size ≤ 256) :
    ∃ m S', sealE S who (cliB 10 client stamp text) = ((m, 0), S') ∧ Said S' who (cliB 10 client stamp text) m ∧ S'.length ≤ S.length + 1 :=
  seal_said hw (small_bytes (cli_right (.inr rfl) hc hs ht) rfl (by show text.size ≤ 1000; omega))
theorem request_said {S : List Wd} {who client stamp : Int} {text : ByteArray} (hw : 0 ≤ who ∧ who ≤ 255) (hc : 0 ≤ client ∧ client ≤ 15) (hs : 1 ≤ stamp ∧ stamp ≤ 1099511627776) (ht : text.size ≤ 256) :
    ∃ m S', sealE S who (cliB 1 client stamp text) = ((m, 0), S') ∧ Said S' who (cliB 1 client stamp text) m ∧ S'.length ≤ S.length + 1 :=
  seal_said hw (small_bytes (cli_right (.inl rfl) hc hs ht) rfl (by show text.size ≤ 1000; omega))

/-- What a client does with a body that was rightly signed. -/
def hearE (y : Cl) (who : Int) (b : Bd) : Bool × Cl :=
  if b.kind ≠ 10 ∨ b.client ≠ y.id ∨ b.stamp ≠ y.stamp then (false, y)
  else if y.told.any (fun x => decide (x.1 = who)) = true then (false, y)
  else if y.F < (alike b.text (y.told ++ [(who, b.text)]) : Int) then (true, { y with told := y.told ++ [(who, b.text)], waits := false, ans := y.ans ++ [⟨y.stamp, b.text⟩] })
  else (true, { y with told := y.told ++ [(who, b.text)] })
/-- What a client does with bytes. -/
def recvE (S : List Wd) (y : Cl) (s : ByteArray) : Bool × Cl :=
  if y.waits = false then (false, y)
  else if (ofSg s).2 ≠ 0 ∨ 3 * y.F < (ofSg s).1.who then (false, y)
  else if (openE S (ofSg s).1).2 ≠ 0 then (false, y)
  else hearE y (ofSg s).1.who (openE S (ofSg s).1).1
theorem recv_said {S : List Wd} {who : Int} {b : Bd} {m : Sg} (h : Said S who b m) (y : Cl) : recvE S y (bs (putSg m)) = if y.waits = false ∨ 3 * y.F < who then (false, y) else hearE y who b := by
  unfold recvE
  rw [h.reads]
  simp only
  rw [h.opens, h.who]
  by_cases h1 : y.waits = false
  · rw [if_pos h1, if_pos (.inl h1)]
  · rw [if_neg h1]
    by_cases h2 : 3 * y.F < who
    · rw [if_pos (.inr h2), if_pos (.inr h2)]
    · rw [if_neg (by simp [h2]), if_neg (by simp), if_neg (by simp [h1, h2])]
end Go.Proofs.Ytfgpchffkpomoaa
