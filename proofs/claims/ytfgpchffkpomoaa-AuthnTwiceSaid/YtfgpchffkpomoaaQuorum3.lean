/- As many are counted as signed just this vote: the walk through AuthnQuorum. -/
import Derived.Test.YtfgpchffkpomoaaSealed
namespace Go.Proofs.Ytfgpchffkpomoaa
set_option linter.unusedSimpArgs false
set_option linter.unusedVariables false
open Go.RowKit

theorem flat_one {α : Type} (f : α → Value) : ∀ l : List α, l.flatMap (fun x => [f x]) = l.map f
  | [] => rfl
  | x :: l => by rw [List.flatMap_cons, flat_one f l]; rfl
theorem gd_get {MG : List (Sg × Bool)} {k : Nat} {m : Sg} {g : Bool} (h : MG[k]? = some (m, g)) : (MG.flatMap gdCells)[k]? = some (.bool g) := by
  rw [show MG.flatMap gdCells = MG.map (fun x => .bool x.2) from flat_one _ _, List.getElem?_map, h]
  rfl
theorem ms_flat (MG : List (Sg × Bool)) : MG.flatMap msCells = (MG.map Prod.fst).flatMap Sg.cells := by
  rw [List.flatMap_map]; rfl
/-- Whom a row of 256 marks names. -/
def Marks (cs : Array Value) (acc : List Int) : Prop := cs.size = 256 ∧ ∀ i, i < 256 → cs[i]? = some (.bool (decide ((i : Int) ∈ acc)))
theorem marks_none : Marks Try.zeroCells77 [] := by
  have h : Try.zeroCells77 = Array.replicate 256 (.bool false) := by kernel_rfl
  rw [h]
  exact ⟨by simp, fun i hi => by simp [hi]⟩
theorem Marks.set {cs : Array Value} {acc : List Int} (h : Marks cs acc) {u : Nat} (hu : u < 256) : Marks (cs.setIfInBounds u (.bool true)) (acc ++ [(u : Int)]) := by
  refine ⟨by simp [h.1], fun i hi => ?_⟩
  by_cases e : i = u
  · subst e
    rw [Array.getElem?_setIfInBounds_self_of_lt (by rw [h.1]; exact hi)]
    simp
  · rw [Array.getElem?_setIfInBounds_ne (fun e2 => e e2.symm), h.2 i hi]
    have : ¬ ((i : Int) = (u : Int)) := by omega
    simp [this]
theorem votersS_step {S : List Wd} {kind view seq : Int} {digest : ByteArray} {below : Int} {l : List Sg} {k : Nat} {m : Sg} (h : l[k]? = some m) (acc : List Int) (hacc : acc = votersS S kind view seq digest below (l.take k) []) :
    votersS S kind view seq digest below (l.take (k + 1)) [] = if (0 ≤ m.who ∧ m.who < below) ∧ m.who ∉ acc ∧ voteB S kind view seq digest m = true then acc ++ [m.who] else acc := by
  obtain ⟨hk, rfl⟩ := List.getElem?_eq_some_iff.1 h
  rw [List.take_succ_eq_append_getElem hk, votersS_append, ← hacc]
  rfl
theorem votersS_new {S : List Wd} {kind view seq : Int} {digest : ByteArray} {below : Int} {v : Vt} {m : Sg} {g : Bool} (h : VoteOk v m g S) (acc : List Int) :
    (if (0 ≤ m.who ∧ m.who < below) ∧ m.who ∉ acc ∧ voteB S kind view seq digest m = true then acc ++ [m.who] else acc) =
    if g = true ∧ v.who < below ∧ 3 + (rnd v.kind 2 : Int) = kind ∧ v.view = view ∧ v.seq = seq ∧ v.digest = digest ∧ v.who ∉ acc then acc ++ [v.who] else acc := by
  have hv := h.votes kind view seq digest
  cases g with
  | false =>
    rw [hv]
    simp
  | true =>
    obtain ⟨h1, h2, h3⟩ := h.who rfl
    rw [hv, h1]
    have e : ((0 ≤ v.who ∧ v.who < below) ∧ v.who ∉ acc ∧ (true && ((3 + (rnd v.kind 2 : Int) == kind) && ((v.view == view) && ((v.seq == seq) && decide (v.digest = digest))))) = true) ↔ (true = true ∧ v.who < below ∧ 3 + (rnd v.kind 2 : Int) = kind ∧ v.view = view ∧ v.seq = seq ∧ v.digest = digest ∧ v.who ∉ acc) := by
      simp only [Bool.true_and, Bool.and_eq_true, beq_iff_eq, decide_eq_true_eq]
      constructor
      · rintro ⟨⟨_, a⟩, b, c, d, e, f⟩; exact ⟨trivial, a, c, d, e, f, b⟩
      · rintro ⟨_, a, c, d, e, f, b⟩; exact ⟨⟨h2, a⟩, b, c, d, e, f⟩
    by_cases hc : (0 ≤ v.who ∧ v.who < below) ∧ v.who ∉ acc ∧ (true && ((3 + (rnd v.kind 2 : Int) == kind) && ((v.view == view) && ((v.seq == seq) && decide (v.digest = digest))))) = true
    · rw [if_pos hc, if_pos (e.1 hc)]
    · rw [if_neg hc, if_neg (fun h => hc (e.2 h))]
theorem voters_len {S : List Wd} {kind view seq : Int} {digest : ByteArray} {below : Int} : ∀ (l : List Sg) (acc : List Int), (votersS S kind view seq digest below l acc).length ≤ acc.length + l.length
  | [], acc => by simp [votersS]
  | m :: l, acc => by
    have h := voters_len (S := S) (kind := kind) (view := view) (seq := seq) (digest := digest) (below := below) l (if (0 ≤ m.who ∧ m.who < below) ∧ m.who ∉ acc ∧ voteB S kind view seq digest m = true then acc ++ [m.who] else acc)
    have h2 : (if (0 ≤ m.who ∧ m.who < below) ∧ m.who ∉ acc ∧ voteB S kind view seq digest m = true then acc ++ [m.who] else acc).length ≤ acc.length + 1 := by split <;> simp
    simp only [votersS, List.length_cons]
    omega

set_option maxHeartbeats 4000000 in
set_option maxRecDepth 100000 in
theorem authnQuorum_calls (A : Option Addr) (c : Nat) (l : List Vt) (kind view seq : Int) (digest : ByteArray) (below : Int) (w : World) (hs : VtS w A c l) :
    Calls Try.prog 13 #[.slice A l.length c, .int .i64 kind, .int .i64 view, .int .i64 seq, .string digest, .int .i64 below] w (BoolPost true w) := by
  have HS := Lib.hid hs
  have hlen := hs.2
  clear hs
  have hrk := rnd_lt kind (m := 2) (by decide)
  have HR := Lib.hid (fun w => round3_calls kind 2 w (by decide) (by decide))
  obtain ⟨rk, hrk2⟩ : ∃ rk, rk = rnd kind 2 := ⟨_, rfl⟩
  rw [← hrk2] at HR hrk
  clear hrk2
  obtain ⟨K, hK⟩ : ∃ K, K = (l.take 60).length := ⟨_, rfl⟩
  have HSE := Lib.hid (fun b t m n T w1 hb hb0 hn => sealed_calls b t m n T A c l K hK w w1 hb hb0 hn HS.out)
  have hKl : K ≤ l.length := by rw [hK]; simp; omega
  have hK60 : K ≤ 60 := by rw [hK]; simp; omega
  have HALL := Lib.hid (fun i h => sealsS_all (l.take 60) [] (fun x hx => by cases hx) (by simp; omega) i h)
  have hmore := sealsS_more (l.take 60) [] (fun x hx => by cases hx)
  obtain ⟨⟨MG, Sf⟩, hMG⟩ : ∃ Q, Q = sealsS (l.take 60) [] := ⟨_, rfl⟩
  rw [← hMG] at HSE HALL hmore
  unfold SealedPost at HSE
  simp only at HSE HALL hmore
  rw [← hK] at hmore
  have hSf : Sf.length ≤ 100 := by
    obtain ⟨⟨X, h1, h2⟩, _⟩ := hmore
    simp only [List.nil_append] at h1
    rw [h1]; omega
  have hMl := hmore.2.2
  have HALL := Lib.hid (show ∀ i (h : i < l.length), i < K → ∃ m g, MG[i]? = some (m, g) ∧ VoteOk l[i] m g Sf from fun i h hi => by
    obtain ⟨m, g, h1, h2⟩ := HALL.out i (by omega)
    rw [List.getElem_take] at h2
    exact ⟨m, g, h1, h2⟩)
  clear hMG hK hmore
  have HMS := Lib.hid (show ∀ x ∈ MG.map Prod.fst, x.body.size ≤ maxLen ∧ -9223372036854775808 ≤ x.who ∧ x.who ≤ 9223372036854775807 from fun x hx => by
    obtain ⟨⟨m, g⟩, h1, rfl⟩ := List.mem_map.1 hx
    obtain ⟨i, hi, h2⟩ := List.getElem_of_mem h1
    obtain ⟨m', g', h3, h4⟩ := HALL.out i (by omega) (by omega)
    rw [List.getElem?_eq_getElem hi, h2] at h3
    obtain ⟨rfl, rfl⟩ : m = m' ∧ g = g' := by simpa using h3
    have := h4.body
    have := h4.lo
    have := h4.hi
    simp only [maxLen]
    exact ⟨by omega, by omega, by omega⟩)
  go_enter Try.func13, Try.ntmps13
  go_wp2_with fail
  refine (newBook_calls w).mono ?_
  rintro e w1 ⟨b, t, m, n, rfl, hb1, hk1, g1, g2, g3, g4⟩
  have HB1 := Lib.hid hb1
  have HK1 := Lib.hid hk1
  clear hb1 hk1
  go_wp2_with fail
  refine (HR.out _).mono ?_
  rintro e w2 ⟨rfl, rfl⟩
  go_wp2_with fail
  refine (HSE.out b t m n [] w1 HK1.out HB1.out g4).mono ?_
  rintro e w3 ⟨A1, c1, A2, c2, rfl, hb3, hk3, ho1, ho2, hsz⟩
  have HB3 := Lib.hid hb3
  have HK3 := Lib.hid hk3
  have HO1 := Lib.hid ho1
  have HO2 := Lib.hid ho2
  have hz3 := hb3.size
  have hz1 := HB1.out.size
  clear hb3 hk3 ho1 ho2 HB1 HK1
  go_wp2_with fail
  have HNEW := Lib.hid (show Below w3.heap.size w3 (w3.alloc (.cells Try.zeroCells77 77)) ∧ Box (w3.alloc (.cells Try.zeroCells77 77)) w3.heap.size Try.zeroCells77 77 from ⟨(Below.refl _ _).alloc (Nat.le_refl _) _, Box.new _ _ _⟩)
  obtain ⟨sb, hsb⟩ : ∃ s, s = w3.heap.size := ⟨_, rfl⟩
  rw [← hsb]
  rw [← hsb] at HNEW
  have hwb : w.heap.size ≤ sb := by omega
  have HSB := Lib.hid hsb
  clear hsb
  go_loopg [18, 19] K (fun g v18 v19 wr => ∃ (k q : Nat) (cs : Array Value) (acc : List Int), v18 = .int .i64 q ∧ v19 = .int .i64 k ∧ k ≤ K ∧ q ≤ k ∧ Hid (g + k = K ∧ q = acc.length ∧ acc = votersS Sf (3 + (rk : Int)) view seq digest below ((MG.map Prod.fst).take k) [] ∧ Below sb w3 wr ∧ Box wr sb cs 77 ∧ Marks cs acc))
  case atStart => exact ⟨0, 0, _, [], rfl, rfl, Nat.zero_le _, Nat.le_refl _, rfl, rfl, rfl, HNEW.out.1, HNEW.out.2, marks_none⟩
  case round =>
    clear HNEW
    obtain ⟨k, q, cs, acc, rfl, rfl, hk, hqk, HH⟩ := hrel
    obtain ⟨hg, hq, hacc, hb, hx, hm⟩ := HH.out
    have HG := Lib.hid hg
    have HQ := Lib.hid hq
    have HACC := Lib.hid hacc
    have HB := Lib.hid hb
    have HX := Lib.hid hx
    have HM := Lib.hid hm
    clear HH hg hq hacc hb hx hm
    have HBW := Lib.hid (HB3.out.trans (HB.out.mono (by omega)))
    by_cases hl : k < K
    · have hkl : k < l.length := by omega
      obtain ⟨ms, g, h1, h2⟩ := HALL.out k hkl hl
      have hx := (VtS.below HS.out HBW.out).elem k hkl
      have hst := votersS_step (S := Sf) (kind := 3 + (rk : Int)) (view := view) (seq := seq) (digest := digest) (below := below) (l := MG.map Prod.fst) (k := k) (m := ms) (by rw [List.getElem?_map, h1]; rfl) acc HACC.out
      rw [votersS_new h2] at hst
      have hgood := (Sl.of_own (own_ch HO2.out (Ch.of_below (S := fun _ => False) (by rw [← HSB.out]; exact HB.out)) (fun j hj => ⟨(own_row HO2.out hj).2, fun h => h⟩))).at_ k _ (gd_get h1)
      obtain ⟨a, rfl, e0, e1, e2, e3, e4, e5⟩ := hx
      have hwho := h2.who
      obtain ⟨x, hx⟩ : ∃ x, x = l[k] := ⟨_, rfl⟩
      rw [← hx] at e0 e1 e2 e3 e4 e5 hst hwho
      clear hx h1 h2
      obtain ⟨vwho, vkind, vview, vseq, vspoilt, vdigest⟩ := x
      simp only at e0 e1 e2 e3 e4 e5 hst hwho
      obtain ⟨ag, rfl, hgc⟩ := hgood
      have hrv := rnd_lt vkind (m := 2) (by decide)
      have HRV := Lib.hid (fun w => round3_calls vkind 2 w (by decide) (by decide))
      obtain ⟨rv, hrv2⟩ : ∃ rv, rv = rnd vkind 2 := ⟨_, rfl⟩
      rw [← hrv2] at hst HRV hrv
      clear hrv2
      have HST := Lib.hid hst
      have HWHO := Lib.hid hwho
      clear hst hwho
      have HV := Lib.hid (Box.new wr #[.int .i64 vwho, .int .i64 vkind, .int .i64 vview, .int .i64 vseq, .int .i64 vspoilt, .string vdigest] 79)
      have HXV := Lib.hid (HX.out.alloc (.cells #[.int .i64 vwho, .int .i64 vkind, .int .i64 vview, .int .i64 vseq, .int .i64 vspoilt, .string vdigest] 79))
      have HBV := Lib.hid (HB.out.alloc (by have := HB.out.size; have := HSB.out; omega) (.cells #[.int .i64 vwho, .int .i64 vkind, .int .i64 vview, .int .i64 vseq, .int .i64 vspoilt, .string vdigest] 79))
      have hgc2 : (wr.alloc (.cells #[.int .i64 vwho, .int .i64 vkind, .int .i64 vview, .int .i64 vseq, .int .i64 vspoilt, .string vdigest] 79)).cell? (ag.add k) = some (.bool g) := (World.cell?_alloc_some _ _ _ (by rw [hgc]; rfl)).trans hgc
      obtain ⟨q0, q1, q2, q3, q4, q5, _⟩ := HV.out.facts6
      clear HX HB
      cases g with
      | false =>
        have HSAME := Lib.hid (show votersS Sf (3 + (rk : Int)) view seq digest below ((MG.map Prod.fst).take (k + 1)) [] = acc from by rw [HST.out]; exact if_neg (fun h => by simp at h))
        go_wp2_with fail
        go_roundg (K - (k + 1))
        case measure => have := HG.out; omega
        case rel => exact ⟨k + 1, q, cs, acc, rfl, by go_num, by omega, by omega, by omega, HQ.out, HSAME.out.symm, HBV.out, HXV.out, HM.out⟩
      | true =>
        obtain ⟨hw1, hw2, hw3⟩ := HWHO.out rfl
        obtain ⟨u, rfl⟩ : ∃ u : Nat, vwho = u := ⟨vwho.toNat, by omega⟩
        have hu : u < 256 := by omega
        clear hw1 hw2 hw3
        by_cases hb1 : (u : Int) < below
        · have Hhb1 := Lib.hid hb1
          have hd1 : decide ((u : Int) < below) = true := by simpa using hb1
          clear hb1
          by_cases hb2 : rv = rk
          · have Hhb2 := Lib.hid hb2
            have hd2 : ((3 + (rv : Int)) == (3 + (rk : Int))) = true := by simp; omega
            clear hb2
            by_cases hb3 : vview = view
            · have Hhb3 := Lib.hid hb3
              have hd3 : (vview == view) = true := by simpa using hb3
              clear hb3
              by_cases hb4 : vseq = seq
              · have Hhb4 := Lib.hid hb4
                have hd4 : (vseq == seq) = true := by simpa using hb4
                clear hb4
                by_cases hb5 : vdigest = digest
                · have Hhb5 := Lib.hid hb5
                  have hd5 : (vdigest.toList == digest.toList) = true := by rw [beq_list]; simpa using hb5
                  clear hb5
                  have hxu := HXV.out.cell u
                  rw [HM.out.2 u hu] at hxu
                  by_cases hb6 : (u : Int) ∈ acc
                  · rw [decide_eq_true hb6] at hxu
                    have HSAME := Lib.hid (show votersS Sf (3 + (rk : Int)) view seq digest below ((MG.map Prod.fst).take (k + 1)) [] = acc from by rw [HST.out]; exact if_neg (fun h => h.2.2.2.2.2.2 hb6))
                    go_wp2_with fail
                    refine (HRV.out _).mono ?_
                    rintro e w9 ⟨rfl, rfl⟩
                    go_wp2_with fail
                    go_roundg (K - (k + 1))
                    case measure => have := HG.out; omega
                    case rel => exact ⟨k + 1, q, cs, acc, rfl, by go_num, by omega, by omega, by omega, HQ.out, HSAME.out.symm, HBV.out, HXV.out, HM.out⟩
                  · rw [decide_eq_false hb6] at hxu
                    have hfr := HXV.out.free u
                    have HNEW := Lib.hid (show votersS Sf (3 + (rk : Int)) view seq digest below ((MG.map Prod.fst).take (k + 1)) [] = acc ++ [(u : Int)] from by rw [HST.out]; exact if_pos ⟨rfl, Hhb1.out, by have := Hhb2.out; omega, Hhb3.out, Hhb4.out, Hhb5.out, hb6⟩)
                    have HX5 := Lib.hid (HXV.out.set u (.bool true))
                    have HB5 := Lib.hid (HBV.out.setCell (p := ⟨sb, u, none⟩) (Nat.le_refl _) (.bool true))
                    go_wp2_with fail
                    refine (HRV.out _).mono ?_
                    rintro e w9 ⟨rfl, rfl⟩
                    go_wp2_with fail
                    go_roundg (K - (k + 1))
                    case measure => have := HG.out; omega
                    case rel => exact ⟨k + 1, q + 1, cs.setIfInBounds u (.bool true), acc ++ [(u : Int)], by go_num, by go_num, by omega, by omega, by omega, by rw [HQ.out]; simp, HNEW.out.symm, HB5.out, HX5.out, HM.out.set hu⟩
                · have hd5 : (vdigest.toList == digest.toList) = false := by rw [beq_list]; simpa using hb5
                  have HSAME := Lib.hid (show votersS Sf (3 + (rk : Int)) view seq digest below ((MG.map Prod.fst).take (k + 1)) [] = acc from by rw [HST.out]; exact if_neg (fun h => hb5 h.2.2.2.2.2.1))
                  go_wp2_with fail
                  refine (HRV.out _).mono ?_
                  rintro e w9 ⟨rfl, rfl⟩
                  go_wp2_with fail
                  go_roundg (K - (k + 1))
                  case measure => have := HG.out; omega
                  case rel => exact ⟨k + 1, q, cs, acc, rfl, by go_num, by omega, by omega, by omega, HQ.out, HSAME.out.symm, HBV.out, HXV.out, HM.out⟩
              · have hd4 : (vseq == seq) = false := by simpa using hb4
                have HSAME := Lib.hid (show votersS Sf (3 + (rk : Int)) view seq digest below ((MG.map Prod.fst).take (k + 1)) [] = acc from by rw [HST.out]; exact if_neg (fun h => hb4 h.2.2.2.2.1))
                go_wp2_with fail
                refine (HRV.out _).mono ?_
                rintro e w9 ⟨rfl, rfl⟩
                go_wp2_with fail
                go_roundg (K - (k + 1))
                case measure => have := HG.out; omega
                case rel => exact ⟨k + 1, q, cs, acc, rfl, by go_num, by omega, by omega, by omega, HQ.out, HSAME.out.symm, HBV.out, HXV.out, HM.out⟩
            · have hd3 : (vview == view) = false := by simpa using hb3
              have HSAME := Lib.hid (show votersS Sf (3 + (rk : Int)) view seq digest below ((MG.map Prod.fst).take (k + 1)) [] = acc from by rw [HST.out]; exact if_neg (fun h => hb3 h.2.2.2.1))
              go_wp2_with fail
              refine (HRV.out _).mono ?_
              rintro e w9 ⟨rfl, rfl⟩
              go_wp2_with fail
              go_roundg (K - (k + 1))
              case measure => have := HG.out; omega
              case rel => exact ⟨k + 1, q, cs, acc, rfl, by go_num, by omega, by omega, by omega, HQ.out, HSAME.out.symm, HBV.out, HXV.out, HM.out⟩
          · have hd2 : ((3 + (rv : Int)) == (3 + (rk : Int))) = false := by simp; omega
            have HSAME := Lib.hid (show votersS Sf (3 + (rk : Int)) view seq digest below ((MG.map Prod.fst).take (k + 1)) [] = acc from by rw [HST.out]; exact if_neg (fun h => hb2 (by have := h.2.2.1; omega)))
            go_wp2_with fail
            refine (HRV.out _).mono ?_
            rintro e w9 ⟨rfl, rfl⟩
            go_wp2_with fail
            go_roundg (K - (k + 1))
            case measure => have := HG.out; omega
            case rel => exact ⟨k + 1, q, cs, acc, rfl, by go_num, by omega, by omega, by omega, HQ.out, HSAME.out.symm, HBV.out, HXV.out, HM.out⟩
        · have hd1 : decide ((u : Int) < below) = false := by simpa using hb1
          have HSAME := Lib.hid (show votersS Sf (3 + (rk : Int)) view seq digest below ((MG.map Prod.fst).take (k + 1)) [] = acc from by rw [HST.out]; exact if_neg (fun h => hb1 h.2.1))
          go_wp2_with fail
          go_roundg (K - (k + 1))
          case measure => have := HG.out; omega
          case rel => exact ⟨k + 1, q, cs, acc, rfl, by go_num, by omega, by omega, by omega, HQ.out, HSAME.out.symm, HBV.out, HXV.out, HM.out⟩
    · have HBK := Lib.hid (HK3.out.below (by rw [← HSB.out]; exact HB.out))
      have HMM := Lib.hid (show SgS wr A1 c1 (MG.map Prod.fst) from by
        have h := Sl.of_own (own_ch HO1.out (Ch.of_below (S := fun _ => False) (by rw [← HSB.out]; exact HB.out)) (fun j hj => ⟨(own_row HO1.out hj).2, fun h => h⟩))
        rw [ms_flat] at h
        unfold SgS
        rw [List.length_map, hMl]
        exact h)
      have hkK : k = K := by omega
      have HEND := Lib.hid (show votersS Sf (3 + (rk : Int)) view seq digest below (MG.map Prod.fst) [] = acc from by rw [HACC.out, hkK, List.take_of_length_le (by simp [hMl])])
      have HQU := Lib.hid (fun w hb hs => quorum_calls b t m n [] Sf A1 c1 (MG.map Prod.fst) (3 + (rk : Int)) view seq digest below w hb (by omega) hs HMS.out)
      rw [HEND.out, ← HQ.out, List.length_map, hMl] at HQU
      clear hkK
      go_wp2_with fail
      refine (HQU.out _ HBK.out HMM.out).mono ?_
      rintro e w5 ⟨rfl, hb5⟩
      have HB5 := Lib.hid (HBW.out.trans (hb5.mono HBW.out.size))
      clear hb5 HB HBW
      have HB := HB5
      clear HB5
      go_wp2_with ((go_at_call 50; refine (awake3_calls _).mono ?_; rintro e wn ⟨rfl, hbn⟩; have HBn := Lib.hid (HB.out.trans (hbn.mono HB.out.size)); clear HB hbn; have HB := HBn; clear HBn))
      go_ret
      exact ⟨rfl, HB.out⟩
end Go.Proofs.Ytfgpchffkpomoaa
