/- Texts of this proof, several in one file; each says ahead of it what it proves. -/
import Derived.Test.YtfgpchffkpomoaaPk10
import Derived.Test.YtfgpchffkpomoaaPk11
import Derived.Deep.RegionHeld3
/- Texts have the same digest just if they are the same, whatever came between: the walk. -/
namespace Go.Proofs.Ytfgpchffkpomoaa
set_option linter.unusedSimpArgs false
set_option linter.unusedVariables false
open Go.RowKit

/-- The digests of many texts, and the texts then. -/
def digsS : List ByteArray → List ByteArray → List ByteArray × List ByteArray
  | [], T => ([], T)
  | s :: l, T => ((digS T s).1 :: (digsS l (digS T s).2).1, (digsS l (digS T s).2).2)
theorem digsS_append : ∀ (l k T : List ByteArray), digsS (l ++ k) T = ((digsS l T).1 ++ (digsS k (digsS l T).2).1, (digsS k (digsS l T).2).2)
  | [], _, _ => rfl
  | s :: l, k, T => by simp only [List.cons_append, digsS, digsS_append l k]
theorem digsS_take {l : List ByteArray} {k : Nat} (hk : k < l.length) (T : List ByteArray) : digsS (l.take (k + 1)) T = ((digsS (l.take k) T).1 ++ [(digS (digsS (l.take k) T).2 l[k]).1], (digS (digsS (l.take k) T).2 l[k]).2) := by
  rw [List.take_succ_eq_append_getElem hk, digsS_append]; rfl
theorem digS_place (T : List ByteArray) (s : ByteArray) : ∃ p, place s (digS T s).2 = some p ∧ (digS T s).1 = eight (p + 1) ∧ ∃ X, (digS T s).2 = T ++ X ∧ X.length ≤ 1 := by
  unfold digS
  cases h : place s T with
  | some i => exact ⟨i, h, rfl, [], by simp, by simp⟩
  | none => exact ⟨T.length, place_snoc (place_none h), rfl, [s], rfl, by simp⟩
theorem digsS_all : ∀ (l T : List ByteArray), (∃ X, (digsS l T).2 = T ++ X ∧ X.length ≤ l.length) ∧ (digsS l T).1.length = l.length ∧ ∀ i (h : i < l.length), ∃ p, place l[i] (digsS l T).2 = some p ∧ (digsS l T).1[i]? = some (eight (p + 1))
  | [], T => ⟨⟨[], by simp [digsS], by simp⟩, rfl, fun i h => by simp at h⟩
  | s :: l, T => by
    obtain ⟨p, h1, h2, X, h3, h4⟩ := digS_place T s
    obtain ⟨⟨Y, h5, h6⟩, h7, h8⟩ := digsS_all l (digS T s).2
    refine ⟨⟨X ++ Y, by simp only [digsS]; rw [h5, h3, List.append_assoc], by simp; omega⟩, by simp [digsS, h7], fun i hi => ?_⟩
    cases i with
    | zero => exact ⟨p, by simp only [digsS, List.getElem_cons_zero]; rw [h5]; exact place_app Y h1, by simp [digsS, h2]⟩
    | succ i =>
      obtain ⟨q, k1, k2⟩ := h8 i (by simpa using hi)
      exact ⟨q, by simpa [digsS] using k1, by simpa [digsS] using k2⟩
theorem digsS_size {l T : List ByteArray} : (digsS l T).2.length ≤ T.length + l.length := by
  obtain ⟨⟨X, h1, h2⟩, _⟩ := digsS_all l T
  rw [h1]; simp; omega
/-- Digesting again: as it was. -/
theorem dig_again {T : List ByteArray} {s : ByteArray} {p : Nat} (h : place s T = some p) : digS T s = (eight (p + 1), T) := by unfold digS; rw [h]
theorem dig_same {l : List ByteArray} (hl : l.length ≤ 1000000) {s t : ByteArray} {p q : Nat} (hp : place s (digsS l []).2 = some p) (hq : place t (digsS l []).2 = some q) : (eight (p + 1) = eight (q + 1)) ↔ s = t := by
  have hz := digsS_size (l := l) (T := [])
  simp at hz
  constructor
  · intro h
    have := eight_inj (by have := place_lt hp; omega) (by have := place_lt hq; omega) h
    obtain rfl : p = q := by omega
    exact place_same hp hq
  · rintro rfl
    rw [hp] at hq
    rw [Option.some.inj hq]
theorem TxS.take {w : World} {A : Option Addr} {c : Nat} {l : List ByteArray} (h : TxS w A c l) (n : Nat) : TxS w A c (l.take n) := by
  refine ⟨by simpa using flat_len textCells 1 textCells_len (l.take n), by have := h.fits; simp; omega, fun j u hj => h.at_ j u ?_⟩
  have e : (l.take n).flatMap textCells = (l.flatMap textCells).take n := by
    have f : ∀ l : List ByteArray, l.flatMap textCells = l.map Value.string := fun l => by induction l with | nil => rfl | cons s l ih => rw [List.flatMap_cons, ih]; rfl
    rw [f, f, List.map_take]
  rw [e, List.getElem?_take] at hj
  split at hj
  · exact hj
  · cases hj
theorem texts_get : ∀ {D : List ByteArray} {i : Nat} {g : ByteArray}, D[i]? = some g → (D.flatMap textCells)[i]? = some (.string g)
  | [], i, g, h => by simp at h
  | s :: D, 0, g, h => by simp at h; subst h; rfl
  | s :: D, i + 1, g, h => by rw [List.flatMap_cons]; exact texts_get (D := D) (by simpa using h)
theorem below_dN {B : Nat} {w0 w : World} (h : Below B w0 w) (n : Nat) : Below B w0 (w.drewN n) := ⟨h.1, h.2, h.3, h.4, h.5⟩
theorem own_drewN {w : World} {base n : Nat} {e : TypeId} {size : Nat} {v : Value} {xs : List Value} (h : w.ownsRow base e size v n xs) (k : Nat) : (w.drewN k).ownsRow base e size v n xs := h
theorem info_str : (Try.prog.info? 9).map (fun i => (i.zero, i.size, i.bytes)) = some (some (.string ⟨#[]⟩), 1, 16) := by kernel_rfl
theorem text_one (s : ByteArray) : ∀ u ∈ textCells s, u.oneCell' = true := by
  intro u hu
  obtain rfl : u = .string s := by simpa [textCells] using hu
  rfl

set_option maxHeartbeats 4000000 in
set_option maxRecDepth 100000 in
theorem authnApart_calls (A : Option Addr) (c : Nat) (l : List ByteArray) (w : World) (hs : TxS w A c l) (hok : ∀ s ∈ l, s.size ≤ maxLen) (hcap : l.length ≤ c) : Calls Try.prog 10 #[.slice A l.length c] w (BoolPost true w) := by
  have hfit := hs.fits
  have H0 := Lib.hid (fun w => newBook_calls w)
  unfold NewPost at H0
  by_cases hlong : 100 < l.length
  · have hd0 : decide ((100 : Int) < (l.length : Int)) = true := by simp; omega
    have hc100 : ¬ c < 100 := by omega
    have HS := Lib.hid (show TxS w A c (l.take 100) from hs.take 100)
    have HOK := Lib.hid (fun s (h : s ∈ (l.take 100)) => hok s (List.mem_of_mem_take h))
    clear hs hok
    go_enter Try.func10, Try.ntmps10
    go_wp2_with fail
    refine (H0.out _).mono ?_
    rintro e w1 ⟨b, t, m, n, rfl, hb1, hk1, g1, g2, g3, g4⟩
    have HB1 := Lib.hid hb1
    have HK1 := Lib.hid hk1
    have hz1 := hb1.size
    clear hb1 hk1
    go_wp2_with fail
    go_loopg [4, 5] 100 (fun g v4 v5 wr => ∃ (k : Nat) (A4 : Option Addr) (c4 : Nat), v4 = .slice A4 k c4 ∧ v5 = .int .i64 k ∧ k ≤ 100 ∧ Hid (g + k = 100 ∧ Below w.heap.size w wr ∧ Bk wr b t m n (digsS (((l.take 100)).take k) []).2 [] ∧ wr.ownsRow (w1.heap.size) 9 1 (.slice A4 k c4) k ((digsS (((l.take 100)).take k) []).1.flatMap textCells) ∧ w1.heap.size ≤ wr.heap.size))
    case atStart => exact ⟨0, none, 0, rfl, rfl, Nat.zero_le _, rfl, HB1.out, HK1.out, ⟨rfl, .inl ⟨rfl, rfl⟩⟩, Nat.le_refl _⟩
    case round =>
      obtain ⟨k, A4, c4, rfl, rfl, hk, HH⟩ := hrel
      obtain ⟨hg, hb, hbk, ho, hsz⟩ := HH.out
      have HG := Lib.hid hg
      have HB := Lib.hid hb
      have HK := Lib.hid hbk
      have HO := Lib.hid ho
      clear HH hg hb hbk ho
      by_cases hlt : k < 100
      · have hd1 : decide ((k : Int) < 100) = true := by simp; omega
        have hkl : k < ((l.take 100)).length := by first | omega | (simp; omega)
        obtain ⟨a, rfl, e0⟩ := (HS.out.below HB.out).elem k hkl
        have hsz0 := HOK.out _ (List.getElem_mem hkl)
        have hst := digsS_take hkl []
        obtain ⟨s, hs⟩ : ∃ s, s = ((l.take 100))[k] := ⟨_, rfl⟩
        rw [← hs] at e0 hsz0 hst
        clear hs
        have hTl := digsS_size (l := ((l.take 100)).take k) (T := [])
        obtain ⟨D, hD⟩ : ∃ D, D = (digsS (((l.take 100)).take k) []).1 := ⟨_, rfl⟩
        obtain ⟨T, hT⟩ : ∃ T, T = (digsS (((l.take 100)).take k) []).2 := ⟨_, rfl⟩
        rw [← hD] at HO hst
        rw [← hT] at HK hst hTl
        have hT2 : T.length ≤ 1000000 := by simp at hTl; omega
        have HDG := Lib.hid (digest_calls b t m n T [] s wr HK.out (by omega) hsz0)
        unfold TextPost at HDG
        obtain ⟨⟨g, T'⟩, hr⟩ : ∃ r, digS T s = r := ⟨_, rfl⟩
        rw [hr] at HDG hst
        simp only at HDG hst
        have HST := Lib.hid hst
        clear hst hr hD hT hTl hT2
        go_wp2_with fail
        refine HDG.out.mono ?_
        rintro e w5 ⟨rfl, hc5, hk5⟩
        have HB5 := Lib.hid (below_ch HB.out hc5 g3 HB.out.size)
        have HK5 := Lib.hid (hk5.alloc (.cells #[.string g] 9))
        have hrow : ∀ k, Row A4 k → w1.heap.size ≤ k ∧ k < wr.heap.size := fun k hk => own_row HO.out hk
        have hmw := HK1.out.tm.lt
        have HO5 := Lib.hid (own_ch HO.out hc5 (fun k hk => ⟨(hrow k hk).2, by have := (hrow k hk).1; omega⟩))
        have HB6 := Lib.hid (HB5.out.alloc HB5.out.size (.cells #[.string g] 9))
        have hs5 := hc5.size
        have hrow5 : ∀ k, Row A4 k → w1.heap.size ≤ k ∧ k < w5.heap.size := fun k hk => own_row HO5.out hk
        have hfar := HK1.out
        have HNE := Lib.hid (show b < w1.heap.size ∧ t < w1.heap.size ∧ m < w1.heap.size ∧ n < w1.heap.size from ⟨hfar.lt.1, hfar.lt.2, hfar.tm.lt, hfar.wm.lt⟩)
        clear hc5 hk5 hfar hrow
        go_wp2_with (at_builtin; refine app_row rfl (.tmp 22) (.tmp 29) 54 rfl w1.heap.size 9 _ 1 16 info_str Try.underlying54 rfl (by decide) A4 c4 k (D.flatMap textCells) rfl (HO5.out.alloc _) ⟨w5.heap.size, 0, none⟩ 1 1 (textCells g) rfl rfl (news_box (Box.new w5 #[.string g] 9)) (text_one g) ?hb1 ?hb2 ?hb3 ?_; (case hb1 => omega); (case hb2 => omega); (case hb3 => simp; omega); intro A' c' w6 ho6 hc6 hA6; have HO6 := Lib.hid ho6; have HB7 := Lib.hid (below_app0 HB6.out HB6.out.size hc6 (fun k hk => by have := (hrow5 k hk).1; omega)); have HK6 := Lib.hid (HK5.out.ch hc6 (Nat.le_refl _) (by refine ⟨fun h => ?_, fun h => ?_, fun h => ?_, fun h => ?_⟩ <;> (have := (hrow5 _ h).1; have := HNE.out; omega))); have hs6 := hc6.size; clear ho6 hc6 hA6)
        go_roundg (100 - (k + 1))
        case measure => have := HG.out; omega
        case rel =>
          refine ⟨k + 1, A', c', rfl, by go_num, by omega, by omega, HB7.out, by rw [HST.out]; exact HK6.out, ?_, by simp at hs6; omega⟩
          rw [HST.out]
          have := HO6.out
          simpa [textCells, List.flatMap_append] using this
      · obtain rfl : k = 100 := by omega
        have HALL := Lib.hid (digsS_all (l.take 100) []).2.2
        have hTl := digsS_size (l := (l.take 100)) (T := [])
        have hlen : ((l.take 100)).length = 100 := by first | rfl | (simp; omega)
        rw [List.take_of_length_le (by rw [hlen]; exact Nat.le_refl _)] at HK HO
        have HSAME := Lib.hid (fun (s t : ByteArray) (p q : Nat) hp hq => dig_same (l := (l.take 100)) (show ((l.take 100)).length ≤ 1000000 by omega) (s := s) (t := t) (p := p) (q := q) hp hq)
        have HLEN := Lib.hid hlen
        obtain ⟨D, hD⟩ : ∃ D, D = (digsS (l.take 100) []).1 := ⟨_, rfl⟩
        obtain ⟨T, hT⟩ : ∃ T, T = (digsS (l.take 100) []).2 := ⟨_, rfl⟩
        rw [← hD] at HO HALL
        rw [← hT] at HK HALL HSAME hTl
        have hT2 : T.length ≤ 1000000 := by simp at hTl; omega
        clear hD hT hTl hlen
        have HNE := Lib.hid (show m < w1.heap.size from HK1.out.tm.lt)
        go_wp2_with fail
        go_loopg [6] 100 (fun g v6 wr => ∃ (i : Nat), v6 = .int .i64 i ∧ i ≤ 100 ∧ Hid (g + i = 100 ∧ Below w.heap.size w wr ∧ Bk wr b t m n T [] ∧ wr.ownsRow (w1.heap.size) 9 1 (.slice A4 100 c4) 100 (D.flatMap textCells)))
        case atStart => exact ⟨0, rfl, Nat.zero_le _, rfl, HB.out, HK.out, HO.out⟩
        case round =>
          clear HB HK HO HG
          obtain ⟨i, rfl, hi, HH⟩ := hrel
          obtain ⟨hg, hb, hbk, ho⟩ := HH.out
          have HG := Lib.hid hg
          have HB := Lib.hid hb
          have HK := Lib.hid hbk
          have HO := Lib.hid ho
          clear HH hg hb hbk ho
          by_cases hlt2 : i < 100
          · have hd1 : decide ((i : Int) < 100) = true := by simp; omega
            have hil : i < ((l.take 100)).length := by first | omega | (simp; omega)
            obtain ⟨a, rfl, e0⟩ := (HS.out.below HB.out).elem i hil
            have hsz0 := HOK.out _ (List.getElem_mem hil)
            obtain ⟨p, hp, hdi⟩ := HALL.out i hil
            obtain ⟨a4, rfl, e4⟩ := (Sl.of_own HO.out).at_ i _ (texts_get hdi)
            have HEL := Lib.hid (fun w' (hb : Below w.heap.size w w') => (HS.out.below hb).elem i hil)
            have HDL := Lib.hid (fun (w' : World) (ho : w'.ownsRow (w1.heap.size) 9 1 (.slice (some a4) 100 c4) 100 (D.flatMap textCells)) => (Sl.of_own ho).at_ i _ (texts_get hdi))
            obtain ⟨s, hs⟩ : ∃ s, s = ((l.take 100))[i] := ⟨_, rfl⟩
            rw [← hs] at e0 hsz0 hp HEL
            have HDG := Lib.hid (fun w hb => digest_calls b t m n T [] s w hb (by omega) hsz0)
            unfold TextPost at HDG
            rw [dig_again hp] at HDG
            have hgs := eight_size (p + 1)
            obtain ⟨g, hg⟩ : ∃ g, g = eight (p + 1) := ⟨_, rfl⟩
            rw [← hg] at HDG e4 hgs HDL
            have hq8 : ((g.size : Int) != 8) = false := by rw [hgs]; rfl
            have HP := Lib.hid hp
            have HGP := Lib.hid hg
            clear hp hg hdi hgs
            have HSS := Lib.hid hs
            clear hs
            have hI : (i : Int) < 100 := by omega
            have hI0 : (0 : Int) ≤ (i : Int) := by omega
            go_wp2_with fail
            go_region_held3 (fun w' => w'.cell? (a.add i) = some (.string s) ∧ w'.cell? (a4.add i) = some (.string g)) (first | exact ⟨f0, f4⟩ | exact ⟨e0, e4⟩) (first | (go_at_call 49; refine (HDG.out _ HK.out.drew).mono ?_; rintro e w5 ⟨rfl, hc5, hk5⟩; have HB5 := Lib.hid (below_ch HB.out.drew hc5 g3 HB.out.size); have HK5 := Lib.hid hk5; have HO5 := Lib.hid (own_ch (w := wr.drew) HO.out hc5 (fun k hk => ⟨(own_row HO.out hk).2, by have := (own_row HO.out hk).1; have := HNE.out; omega⟩)); obtain ⟨a', ha', f0⟩ := HEL.out _ HB5.out; cases ha'; obtain ⟨a'', ha'', f4⟩ := HDL.out _ HO5.out; cases ha''; clear hc5 hk5))
            clear e0 e4
            go_wp2_with fail
            go_loopg [7] i (fun g v7 wr => ∃ (j : Nat), v7 = .int .i64 j ∧ j ≤ i ∧ Hid (g + j = i ∧ Below w.heap.size w wr ∧ Bk wr b t m n T [] ∧ wr.ownsRow (w1.heap.size) 9 1 (.slice (some a4) 100 c4) 100 (D.flatMap textCells)))
            case atStart => exact ⟨0, rfl, Nat.zero_le _, rfl, HB5.out, HK5.out, HO5.out⟩
            case round =>
              clear HB5 HK5 HO5 HB HK HO HDG f0 f4
              obtain ⟨j, rfl, hj, HH⟩ := hrel
              obtain ⟨hg, hb, hbk, ho⟩ := HH.out
              have HG2 := Lib.hid hg
              have HB := Lib.hid hb
              have HK := Lib.hid hbk
              have HO := Lib.hid ho
              clear HH hg hb hbk ho
              by_cases hlt3 : j < i
              · have hd2 : decide ((j : Int) < (i : Int)) = true := by simp; omega
                have hjl : j < ((l.take 100)).length := by first | omega | (simp; omega)
                have hj2 : j < 100 := by omega
                have hJ : (j : Int) < 100 := by omega
                have hJ0 : (0 : Int) ≤ (j : Int) := by omega
                obtain ⟨a', ha', e0⟩ := HEL.out _ HB.out
                cases ha'
                obtain ⟨a', ha', e4⟩ := HDL.out _ HO.out
                cases ha'
                obtain ⟨a', ha', q0⟩ := (HS.out.below HB.out).elem j hjl
                cases ha'
                obtain ⟨p2, hp2, hdj⟩ := HALL.out j hjl
                obtain ⟨a', ha', q4⟩ := (Sl.of_own HO.out).at_ j _ (texts_get hdj)
                cases ha'
                obtain ⟨s2, hs2⟩ : ∃ s, s = ((l.take 100))[j] := ⟨_, rfl⟩
                rw [← hs2] at q0 hp2
                have hsame := HSAME.out s s2 p p2 HP.out hp2
                rw [← HGP.out] at hsame
                obtain ⟨g2, hg2⟩ : ∃ g, g = eight (p2 + 1) := ⟨_, rfl⟩
                rw [← hg2] at q4 hsame
                clear hs2 hp2 hdj hg2
                by_cases hss : s = s2
                · have hgg := hsame.2 hss
                  have r1 : (s.toList == s2.toList) = true := by rw [beq_list]; simpa using hss
                  have r2 : (g.toList == g2.toList) = true := by rw [beq_list]; simpa using hgg
                  clear hss hgg hsame
                  go_wp2_with fail
                  go_quiet (fail)
                  go_wp2_with fail
                  go_roundg (i - (j + 1))
                  case measure => have := HG2.out; omega
                  case rel => exact ⟨j + 1, by go_num, by omega, by omega, below_dN HB.out _, HK.out.drewN _, own_drewN HO.out _⟩
                · have hgg : g ≠ g2 := fun h => hss (hsame.1 h)
                  have r1 : (s.toList == s2.toList) = false := by rw [beq_list]; simpa using hss
                  have r2 : (g.toList == g2.toList) = false := by rw [beq_list]; simpa using hgg
                  clear hss hgg hsame
                  go_wp2_with fail
                  go_quiet (fail)
                  go_wp2_with fail
                  go_roundg (i - (j + 1))
                  case measure => have := HG2.out; omega
                  case rel => exact ⟨j + 1, by go_num, by omega, by omega, below_dN HB.out _, HK.out.drewN _, own_drewN HO.out _⟩
              · obtain rfl : j = i := by omega
                have hd2 : decide ((j : Int) < (j : Int)) = false := by simp
                go_wp2_with fail
                go_roundg (100 - (j + 1))
                case measure => have := HG.out; omega
                case rel => exact ⟨j + 1, by go_num, by omega, by omega, HB.out, HK.out, HO.out⟩
          · obtain rfl : i = 100 := by omega
            go_wp2_with fail
            refine (awake3_calls _).mono ?_
            rintro e w7 ⟨rfl, hb7⟩
            have HB7 := Lib.hid (HB.out.trans (hb7.mono HB.out.size))
            clear hb7
            go_wp2
            go_ret
            exact ⟨rfl, HB7.out⟩
  · have hd0 : decide ((100 : Int) < (l.length : Int)) = false := by simp; omega
    have HS := Lib.hid (show TxS w A c l from hs)
    have HOK := Lib.hid (fun s (h : s ∈ l) => hok s h)
    clear hs hok
    go_enter Try.func10, Try.ntmps10
    go_wp2_with fail
    refine (H0.out _).mono ?_
    rintro e w1 ⟨b, t, m, n, rfl, hb1, hk1, g1, g2, g3, g4⟩
    have HB1 := Lib.hid hb1
    have HK1 := Lib.hid hk1
    have hz1 := hb1.size
    clear hb1 hk1
    go_wp2_with fail
    go_loopg [4, 5] l.length (fun g v4 v5 wr => ∃ (k : Nat) (A4 : Option Addr) (c4 : Nat), v4 = .slice A4 k c4 ∧ v5 = .int .i64 k ∧ k ≤ l.length ∧ Hid (g + k = l.length ∧ Below w.heap.size w wr ∧ Bk wr b t m n (digsS ((l).take k) []).2 [] ∧ wr.ownsRow (w1.heap.size) 9 1 (.slice A4 k c4) k ((digsS ((l).take k) []).1.flatMap textCells) ∧ w1.heap.size ≤ wr.heap.size))
    case atStart => exact ⟨0, none, 0, rfl, rfl, Nat.zero_le _, rfl, HB1.out, HK1.out, ⟨rfl, .inl ⟨rfl, rfl⟩⟩, Nat.le_refl _⟩
    case round =>
      obtain ⟨k, A4, c4, rfl, rfl, hk, HH⟩ := hrel
      obtain ⟨hg, hb, hbk, ho, hsz⟩ := HH.out
      have HG := Lib.hid hg
      have HB := Lib.hid hb
      have HK := Lib.hid hbk
      have HO := Lib.hid ho
      clear HH hg hb hbk ho
      by_cases hlt : k < l.length
      · have hd1 : decide ((k : Int) < (l.length : Int)) = true := by simp; omega
        have hkl : k < (l).length := by first | omega | (simp; omega)
        obtain ⟨a, rfl, e0⟩ := (HS.out.below HB.out).elem k hkl
        have hsz0 := HOK.out _ (List.getElem_mem hkl)
        have hst := digsS_take hkl []
        obtain ⟨s, hs⟩ : ∃ s, s = (l)[k] := ⟨_, rfl⟩
        rw [← hs] at e0 hsz0 hst
        clear hs
        have hTl := digsS_size (l := (l).take k) (T := [])
        obtain ⟨D, hD⟩ : ∃ D, D = (digsS ((l).take k) []).1 := ⟨_, rfl⟩
        obtain ⟨T, hT⟩ : ∃ T, T = (digsS ((l).take k) []).2 := ⟨_, rfl⟩
        rw [← hD] at HO hst
        rw [← hT] at HK hst hTl
        have hT2 : T.length ≤ 1000000 := by simp at hTl; omega
        have HDG := Lib.hid (digest_calls b t m n T [] s wr HK.out (by omega) hsz0)
        unfold TextPost at HDG
        obtain ⟨⟨g, T'⟩, hr⟩ : ∃ r, digS T s = r := ⟨_, rfl⟩
        rw [hr] at HDG hst
        simp only at HDG hst
        have HST := Lib.hid hst
        clear hst hr hD hT hTl hT2
        go_wp2_with fail
        refine HDG.out.mono ?_
        rintro e w5 ⟨rfl, hc5, hk5⟩
        have HB5 := Lib.hid (below_ch HB.out hc5 g3 HB.out.size)
        have HK5 := Lib.hid (hk5.alloc (.cells #[.string g] 9))
        have hrow : ∀ k, Row A4 k → w1.heap.size ≤ k ∧ k < wr.heap.size := fun k hk => own_row HO.out hk
        have hmw := HK1.out.tm.lt
        have HO5 := Lib.hid (own_ch HO.out hc5 (fun k hk => ⟨(hrow k hk).2, by have := (hrow k hk).1; omega⟩))
        have HB6 := Lib.hid (HB5.out.alloc HB5.out.size (.cells #[.string g] 9))
        have hs5 := hc5.size
        have hrow5 : ∀ k, Row A4 k → w1.heap.size ≤ k ∧ k < w5.heap.size := fun k hk => own_row HO5.out hk
        have hfar := HK1.out
        have HNE := Lib.hid (show b < w1.heap.size ∧ t < w1.heap.size ∧ m < w1.heap.size ∧ n < w1.heap.size from ⟨hfar.lt.1, hfar.lt.2, hfar.tm.lt, hfar.wm.lt⟩)
        clear hc5 hk5 hfar hrow
        go_wp2_with (at_builtin; refine app_row rfl (.tmp 22) (.tmp 29) 54 rfl w1.heap.size 9 _ 1 16 info_str Try.underlying54 rfl (by decide) A4 c4 k (D.flatMap textCells) rfl (HO5.out.alloc _) ⟨w5.heap.size, 0, none⟩ 1 1 (textCells g) rfl rfl (news_box (Box.new w5 #[.string g] 9)) (text_one g) ?hb1 ?hb2 ?hb3 ?_; (case hb1 => omega); (case hb2 => omega); (case hb3 => simp; omega); intro A' c' w6 ho6 hc6 hA6; have HO6 := Lib.hid ho6; have HB7 := Lib.hid (below_app0 HB6.out HB6.out.size hc6 (fun k hk => by have := (hrow5 k hk).1; omega)); have HK6 := Lib.hid (HK5.out.ch hc6 (Nat.le_refl _) (by refine ⟨fun h => ?_, fun h => ?_, fun h => ?_, fun h => ?_⟩ <;> (have := (hrow5 _ h).1; have := HNE.out; omega))); have hs6 := hc6.size; clear ho6 hc6 hA6)
        go_roundg (l.length - (k + 1))
        case measure => have := HG.out; omega
        case rel =>
          refine ⟨k + 1, A', c', rfl, by go_num, by omega, by omega, HB7.out, by rw [HST.out]; exact HK6.out, ?_, by simp at hs6; omega⟩
          rw [HST.out]
          have := HO6.out
          simpa [textCells, List.flatMap_append] using this
      · obtain rfl : k = l.length := by omega
        have HALL := Lib.hid (digsS_all l []).2.2
        have hTl := digsS_size (l := l) (T := [])
        have hlen : (l).length = l.length := by first | rfl | (simp; omega)
        rw [List.take_of_length_le (by rw [hlen]; exact Nat.le_refl _)] at HK HO
        have HSAME := Lib.hid (fun (s t : ByteArray) (p q : Nat) hp hq => dig_same (l := l) (show (l).length ≤ 1000000 by omega) (s := s) (t := t) (p := p) (q := q) hp hq)
        have HLEN := Lib.hid hlen
        obtain ⟨D, hD⟩ : ∃ D, D = (digsS l []).1 := ⟨_, rfl⟩
        obtain ⟨T, hT⟩ : ∃ T, T = (digsS l []).2 := ⟨_, rfl⟩
        rw [← hD] at HO HALL
        rw [← hT] at HK HALL HSAME hTl
        have hT2 : T.length ≤ 1000000 := by simp at hTl; omega
        clear hD hT hTl hlen
        have HNE := Lib.hid (show m < w1.heap.size from HK1.out.tm.lt)
        go_wp2_with fail
        go_loopg [6] l.length (fun g v6 wr => ∃ (i : Nat), v6 = .int .i64 i ∧ i ≤ l.length ∧ Hid (g + i = l.length ∧ Below w.heap.size w wr ∧ Bk wr b t m n T [] ∧ wr.ownsRow (w1.heap.size) 9 1 (.slice A4 l.length c4) l.length (D.flatMap textCells)))
        case atStart => exact ⟨0, rfl, Nat.zero_le _, rfl, HB.out, HK.out, HO.out⟩
        case round =>
          clear HB HK HO HG
          obtain ⟨i, rfl, hi, HH⟩ := hrel
          obtain ⟨hg, hb, hbk, ho⟩ := HH.out
          have HG := Lib.hid hg
          have HB := Lib.hid hb
          have HK := Lib.hid hbk
          have HO := Lib.hid ho
          clear HH hg hb hbk ho
          by_cases hlt2 : i < l.length
          · have hd1 : decide ((i : Int) < (l.length : Int)) = true := by simp; omega
            have hil : i < (l).length := by first | omega | (simp; omega)
            obtain ⟨a, rfl, e0⟩ := (HS.out.below HB.out).elem i hil
            have hsz0 := HOK.out _ (List.getElem_mem hil)
            obtain ⟨p, hp, hdi⟩ := HALL.out i hil
            obtain ⟨a4, rfl, e4⟩ := (Sl.of_own HO.out).at_ i _ (texts_get hdi)
            have HEL := Lib.hid (fun w' (hb : Below w.heap.size w w') => (HS.out.below hb).elem i hil)
            have HDL := Lib.hid (fun (w' : World) (ho : w'.ownsRow (w1.heap.size) 9 1 (.slice (some a4) l.length c4) l.length (D.flatMap textCells)) => (Sl.of_own ho).at_ i _ (texts_get hdi))
            obtain ⟨s, hs⟩ : ∃ s, s = (l)[i] := ⟨_, rfl⟩
            rw [← hs] at e0 hsz0 hp HEL
            have HDG := Lib.hid (fun w hb => digest_calls b t m n T [] s w hb (by omega) hsz0)
            unfold TextPost at HDG
            rw [dig_again hp] at HDG
            have hgs := eight_size (p + 1)
            obtain ⟨g, hg⟩ : ∃ g, g = eight (p + 1) := ⟨_, rfl⟩
            rw [← hg] at HDG e4 hgs HDL
            have hq8 : ((g.size : Int) != 8) = false := by rw [hgs]; rfl
            have HP := Lib.hid hp
            have HGP := Lib.hid hg
            clear hp hg hdi hgs
            have HSS := Lib.hid hs
            clear hs
            have hI : (i : Int) < (l.length : Int) := by omega
            have hI0 : (0 : Int) ≤ (i : Int) := by omega
            go_wp2_with fail
            go_region_held3 (fun w' => w'.cell? (a.add i) = some (.string s) ∧ w'.cell? (a4.add i) = some (.string g)) (first | exact ⟨f0, f4⟩ | exact ⟨e0, e4⟩) (first | (go_at_call 49; refine (HDG.out _ HK.out.drew).mono ?_; rintro e w5 ⟨rfl, hc5, hk5⟩; have HB5 := Lib.hid (below_ch HB.out.drew hc5 g3 HB.out.size); have HK5 := Lib.hid hk5; have HO5 := Lib.hid (own_ch (w := wr.drew) HO.out hc5 (fun k hk => ⟨(own_row HO.out hk).2, by have := (own_row HO.out hk).1; have := HNE.out; omega⟩)); obtain ⟨a', ha', f0⟩ := HEL.out _ HB5.out; cases ha'; obtain ⟨a'', ha'', f4⟩ := HDL.out _ HO5.out; cases ha''; clear hc5 hk5))
            clear e0 e4
            go_wp2_with fail
            go_loopg [7] i (fun g v7 wr => ∃ (j : Nat), v7 = .int .i64 j ∧ j ≤ i ∧ Hid (g + j = i ∧ Below w.heap.size w wr ∧ Bk wr b t m n T [] ∧ wr.ownsRow (w1.heap.size) 9 1 (.slice (some a4) l.length c4) l.length (D.flatMap textCells)))
            case atStart => exact ⟨0, rfl, Nat.zero_le _, rfl, HB5.out, HK5.out, HO5.out⟩
            case round =>
              clear HB5 HK5 HO5 HB HK HO HDG f0 f4
              obtain ⟨j, rfl, hj, HH⟩ := hrel
              obtain ⟨hg, hb, hbk, ho⟩ := HH.out
              have HG2 := Lib.hid hg
              have HB := Lib.hid hb
              have HK := Lib.hid hbk
              have HO := Lib.hid ho
              clear HH hg hb hbk ho
              by_cases hlt3 : j < i
              · have hd2 : decide ((j : Int) < (i : Int)) = true := by simp; omega
                have hjl : j < (l).length := by first | omega | (simp; omega)
                have hj2 : j < l.length := by omega
                have hJ : (j : Int) < (l.length : Int) := by omega
                have hJ0 : (0 : Int) ≤ (j : Int) := by omega
                obtain ⟨a', ha', e0⟩ := HEL.out _ HB.out
                cases ha'
                obtain ⟨a', ha', e4⟩ := HDL.out _ HO.out
                cases ha'
                obtain ⟨a', ha', q0⟩ := (HS.out.below HB.out).elem j hjl
                cases ha'
                obtain ⟨p2, hp2, hdj⟩ := HALL.out j hjl
                obtain ⟨a', ha', q4⟩ := (Sl.of_own HO.out).at_ j _ (texts_get hdj)
                cases ha'
                obtain ⟨s2, hs2⟩ : ∃ s, s = (l)[j] := ⟨_, rfl⟩
                rw [← hs2] at q0 hp2
                have hsame := HSAME.out s s2 p p2 HP.out hp2
                rw [← HGP.out] at hsame
                obtain ⟨g2, hg2⟩ : ∃ g, g = eight (p2 + 1) := ⟨_, rfl⟩
                rw [← hg2] at q4 hsame
                clear hs2 hp2 hdj hg2
                by_cases hss : s = s2
                · have hgg := hsame.2 hss
                  have r1 : (s.toList == s2.toList) = true := by rw [beq_list]; simpa using hss
                  have r2 : (g.toList == g2.toList) = true := by rw [beq_list]; simpa using hgg
                  clear hss hgg hsame
                  go_wp2_with fail
                  go_quiet (fail)
                  go_wp2_with fail
                  go_roundg (i - (j + 1))
                  case measure => have := HG2.out; omega
                  case rel => exact ⟨j + 1, by go_num, by omega, by omega, below_dN HB.out _, HK.out.drewN _, own_drewN HO.out _⟩
                · have hgg : g ≠ g2 := fun h => hss (hsame.1 h)
                  have r1 : (s.toList == s2.toList) = false := by rw [beq_list]; simpa using hss
                  have r2 : (g.toList == g2.toList) = false := by rw [beq_list]; simpa using hgg
                  clear hss hgg hsame
                  go_wp2_with fail
                  go_quiet (fail)
                  go_wp2_with fail
                  go_roundg (i - (j + 1))
                  case measure => have := HG2.out; omega
                  case rel => exact ⟨j + 1, by go_num, by omega, by omega, below_dN HB.out _, HK.out.drewN _, own_drewN HO.out _⟩
              · obtain rfl : j = i := by omega
                have hd2 : decide ((j : Int) < (j : Int)) = false := by simp
                go_wp2_with fail
                go_roundg (l.length - (j + 1))
                case measure => have := HG.out; omega
                case rel => exact ⟨j + 1, by go_num, by omega, by omega, HB.out, HK.out, HO.out⟩
          · obtain rfl : i = l.length := by omega
            go_wp2_with fail
            refine (awake3_calls _).mono ?_
            rintro e w7 ⟨rfl, hb7⟩
            have HB7 := Lib.hid (HB.out.trans (hb7.mono HB.out.size))
            clear hb7
            go_wp2
            go_ret
            exact ⟨rfl, HB7.out⟩
end Go.Proofs.Ytfgpchffkpomoaa
