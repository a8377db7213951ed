/- Nobody's signature is taken but for a text that this very signer signed, whatever bytes are shown: the walk. -/
import Derived.Test.YtfgpchffkpomoaaAwake3
import Derived.Test.YtfgpchffkpomoaaSigns
import Derived.StillTailTactics
namespace Go.Proofs.Ytfgpchffkpomoaa
set_option linter.unusedSimpArgs false
set_option linter.unusedVariables false
open Go.RowKit

/-- Did this very signer sign this very text among these? -/
def askedB (who : Int) (text : ByteArray) (a : Act3) : Bool := namedB a.who && (decide (a.who = who) && decide (a.text = text))
theorem asked_iff {who : Int} {text : ByteArray} {l : List Act3} : l.any (askedB who text) = true ↔ (who, text) ∈ signAll l [] := by
  rw [List.any_eq_true]
  constructor
  · rintro ⟨a, ha, h⟩
    simp only [askedB, Bool.and_eq_true, decide_eq_true_eq] at h
    have := signAll_of (S := []) ha h.1
    rw [h.2.1, h.2.2] at this
    exact this
  · intro h
    rcases signAll_mem h with h | ⟨a, ha, hn, e⟩
    · simp at h
    · simp only [Prod.mk.injEq] at e
      exact ⟨a, ha, by simp [askedB, hn, e.1, e.2]⟩
theorem asked_named {who : Int} {text : ByteArray} {l : List Act3} (h : l.any (askedB who text) = true) : namedB who = true := by
  rw [List.any_eq_true] at h
  obtain ⟨a, ha, h⟩ := h
  simp only [askedB, Bool.and_eq_true, decide_eq_true_eq] at h
  rw [← h.2.1]; exact h.1
theorem check_asked {who : Int} {text sig : ByteArray} {l : List Act3} (h : checkE (signAll l []) who text sig = true) : l.any (askedB who text) = true := by
  rw [asked_iff]
  unfold checkE checkS at h
  simp only [Bool.and_eq_true] at h
  cases hp : place (who, text) (signAll l []) with
  | none => rw [hp] at h; simp at h
  | some i => exact place_mem hp
theorem issued_asked {who : Int} {text : ByteArray} {l : List Act3} : issuedE (signAll l []) who text = l.any (askedB who text) := by
  rw [Bool.eq_iff_iff, asked_iff]
  unfold issuedE
  simp only [Bool.and_eq_true, decide_eq_true_eq]
  constructor
  · rintro ⟨_, h⟩
    obtain ⟨i, hi⟩ := Option.isSome_iff_exists.1 h
    exact place_mem hi
  · intro h
    have h2 := asked_named (asked_iff.2 h)
    obtain ⟨i, hi⟩ := place_some h
    exact ⟨by simpa [namedB] using h2, by rw [hi]; rfl⟩
/-- A signature that was made now: it is taken just for its own signer and text. -/
theorem check_made {who : Int} {text : ByteArray} {a : Act3} {l : List Act3} {i : Nat} (hl : l.length ≤ 1000) (hn : namedB a.who = true) (hi : place (a.who, a.text) (signAll l []) = some i) :
    checkE (signAll l []) who text (sigOf i) = (decide (a.who = who) && decide (a.text = text)) := by
  rw [Bool.eq_iff_iff]
  have hlen := signAll_length l []
  unfold checkE checkS
  simp only [Bool.and_eq_true, decide_eq_true_eq]
  constructor
  · rintro ⟨h1, h2⟩
    cases hp : place (who, text) (signAll l []) with
    | none => rw [hp] at h2; simp at h2
    | some j =>
      rw [hp] at h2
      have h3 := sigOf_inj (by have := place_lt hi; simp at hlen; omega) (by have := place_lt hp; simp at hlen; omega) (of_decide_eq_true h2)
      subst h3
      have := place_same hi hp
      simp only [Prod.mk.injEq] at this
      exact this
  · rintro ⟨rfl, rfl⟩
    rw [hi]
    exact ⟨by simpa [namedB] using hn, by simp⟩

set_option maxHeartbeats 2000000 in
set_option maxRecDepth 100000 in
theorem authnForged_calls (A : Option Addr) (c : Nat) (l : List Act3) (who : Int) (text sig : ByteArray) (w : World) (hs : A3S w A c l) (hok : ∀ a ∈ l, a.text.size ≤ maxLen) (ht : text.size ≤ maxLen) :
    Calls Try.prog 17 #[.slice A l.length c, .int .i64 who, .string text, .string sig] w (BoolPost true w) := by
  have hfit := hs.fits
  have HS := Lib.hid hs
  have HOK := Lib.hid hok
  have H0 := Lib.hid (fun w => newBook_calls w)
  unfold NewPost at H0
  have HT := Lib.hid ht
  clear hs hok ht
  go_enter Try.func17, Try.ntmps17
  go_wp2_with fail
  refine (H0.out _).mono ?_
  rintro e w1 ⟨b, t, m, n, rfl, hb1, hk1, g1, g2, g3, g4⟩
  have HB1 := Lib.hid hb1
  have HK1 := Lib.hid hk1
  clear hb1 hk1
  go_wp2_with fail
  go_loopg [10, 11] (min 100 l.length) (fun g v10 v11 wr => ∃ (k : Nat), v10 = .bool ((l.take k).any (askedB who text)) ∧ v11 = .int .i64 k ∧ k ≤ l.length ∧ k ≤ 100 ∧ Hid (g + k = min 100 l.length ∧ Below w.heap.size w wr ∧ Bk wr b t m n [] (signAll (l.take k) [])))
  case atStart => exact ⟨0, rfl, rfl, Nat.zero_le _, by omega, rfl, HB1.out, HK1.out⟩
  case round =>
    obtain ⟨k, rfl, rfl, hk, hk1, HH⟩ := hrel
    obtain ⟨hg, hb, hbk⟩ := HH.out
    have HG := Lib.hid hg
    have HB := Lib.hid hb
    have HK := Lib.hid hbk
    clear HH hg hb hbk
    by_cases hlt : k < l.length ∧ k < 100
    · have hd := hlt.1
      have hd1 : decide ((k : Int) < (l.length : Int)) = true := by simp; omega
      have hd2 : decide ((k : Int) < 100) = true := by simp; omega
      obtain ⟨a, rfl, e0, e1, e2, e3⟩ := (HS.out.below HB.out).elem k hd
      have hsz := HOK.out l[k] (List.getElem_mem hd)
      have hst := signAll_take hd []
      have hany : (l.take (k + 1)).any (askedB who text) = ((l.take k).any (askedB who text) || askedB who text l[k]) := by rw [List.take_succ_eq_append_getElem hd, List.any_append]; simp
      have her := signE_err (S := signAll (l.take k) []) (who := l[k].who) (s := l[k].text)
      have HEL := Lib.hid (fun w' (hb : Below w.heap.size w w') => (HS.out.below hb).elem k hd)
      obtain ⟨x, hx⟩ : ∃ x, x = l[k] := ⟨_, rfl⟩
      rw [← hx] at e0 e1 e2 e3 hsz hst hany her HEL
      clear hx
      have HG2 := Lib.hid (fun w hb => sign_calls b t m n [] (signAll (l.take k) []) x.who x.text w hb (by have h1 := signAll_length (l.take k) []; have h2 := List.length_take_le k l; simp at h1; omega) hsz)
      unfold SignsPost at HG2
      obtain ⟨⟨⟨g, ge⟩, S'⟩, hr⟩ : ∃ r, signE (signAll (l.take k) []) x.who x.text = r := ⟨_, rfl⟩
      rw [hr] at HG2 hst her
      simp only at HG2 hst her
      have HST := Lib.hid hst
      have HANY := Lib.hid hany
      have HER := Lib.hid her
      clear hst hany her hr
      obtain ⟨kind, awho, atext, asig⟩ := x
      simp only at *
      go_wp2_with fail
      go_region_held3 (fun w' => w'.cell? ⟨(a.add (k * 4)).block, (a.add (k * 4)).off + 1, none⟩ = some (.int .i64 awho) ∧ w'.cell? ⟨(a.add (k * 4)).block, (a.add (k * 4)).off + 2, none⟩ = some (.string atext)) (first | exact ⟨f1, f2⟩ | exact ⟨e1, e2⟩) (first | (go_at_call 56; refine (HG2.out _ HK.out.drew).mono ?_; rintro e w5 ⟨rfl, hc5, hk5⟩; have HB5 := Lib.hid (below_ch HB.out.drew hc5 g4 HB.out.size); have HK5 := Lib.hid hk5; obtain ⟨a', ha', f0, f1, f2, f3⟩ := HEL.out _ HB5.out; cases ha'; clear hc5 hk5))
      by_cases hn : namedB awho = true
      · have hge := HER.out
        rw [if_pos hn] at hge
        subst hge
        by_cases h1 : awho = who
        · have hq1 : (awho == who) = true := by simpa using h1
          by_cases h2 : atext = text
          · have hq2 : (atext.toList == text.toList) = true := by rw [beq_list]; simpa using h2
            have HANY2 := Lib.hid (show (l.take (k + 1)).any (askedB who text) = true by rw [HANY.out, show askedB who text ⟨kind, awho, atext, asig⟩ = true from by unfold askedB; simp only; rw [hn]; simp [h1, h2], Bool.or_true])
            clear hn h1 h2
            go_wp2_with fail
            go_roundg (gk - 1)
            case measure => have := HG.out; omega
            case rel => exact ⟨k + 1, by rw [HANY2.out], by go_num, by omega, by omega, by have := HG.out; omega, HB5.out, by rw [HST.out]; exact HK5.out⟩
          · have hq2 : (atext.toList == text.toList) = false := by rw [beq_list]; simpa using h2
            have HANY2 := Lib.hid (show (l.take (k + 1)).any (askedB who text) = (l.take k).any (askedB who text) by rw [HANY.out, show askedB who text ⟨kind, awho, atext, asig⟩ = false from by unfold askedB; simp only; simp [h2], Bool.or_false])
            clear hn h1 h2
            go_wp2_with fail
            go_roundg (gk - 1)
            case measure => have := HG.out; omega
            case rel => exact ⟨k + 1, by rw [HANY2.out], by go_num, by omega, by omega, by have := HG.out; omega, HB5.out, by rw [HST.out]; exact HK5.out⟩
        · have hq1 : (awho == who) = false := by simpa using h1
          have HANY2 := Lib.hid (show (l.take (k + 1)).any (askedB who text) = (l.take k).any (askedB who text) by rw [HANY.out, show askedB who text ⟨kind, awho, atext, asig⟩ = false from by unfold askedB; simp only; simp [h1], Bool.or_false])
          clear hn h1
          go_wp2_with fail
          go_roundg (gk - 1)
          case measure => have := HG.out; omega
          case rel => exact ⟨k + 1, by rw [HANY2.out], by go_num, by omega, by omega, by have := HG.out; omega, HB5.out, by rw [HST.out]; exact HK5.out⟩
      · have hge := HER.out
        rw [if_neg hn] at hge
        subst hge
        have HANY2 := Lib.hid (show (l.take (k + 1)).any (askedB who text) = (l.take k).any (askedB who text) by rw [HANY.out, show askedB who text ⟨kind, awho, atext, asig⟩ = false from by unfold askedB; simp only; simp [hn], Bool.or_false])
        clear hn
        go_wp2_with fail
        go_roundg (gk - 1)
        case measure => have := HG.out; omega
        case rel => exact ⟨k + 1, by rw [HANY2.out], by go_num, by omega, by omega, by have := HG.out; omega, HB5.out, by rw [HST.out]; exact HK5.out⟩
    · have hx : (¬ k < l.length) ∨ (k < l.length ∧ decide ((k : Int) < 100) = false) := by simp; omega
      have hkl : (l.take k).length ≤ 100 := by have := List.length_take_le k l; omega
      have hS : (signAll (l.take k) []).length ≤ 1000 := by have := signAll_length (l.take k) []; simp at this; omega
      have HC := Lib.hid (fun sg w hb => check_calls b t m n [] (signAll (l.take k) []) who text sg w hb (by omega) HT.out)
      have HI := Lib.hid (fun w hb => issued_calls b t m n [] (signAll (l.take k) []) who text w hb HT.out)
      rw [issued_asked] at HI
      obtain ⟨ck, hck⟩ : ∃ r, r = checkE (signAll (l.take k) []) who text sig := ⟨_, rfl⟩
      have HCK := Lib.hid (fun h : ck = true => check_asked (l := l.take k) (who := who) (text := text) (sig := sig) (by rw [← hck]; exact h))
      have HC1 := Lib.hid (HC.out sig)
      rw [← hck] at HC1
      have HSG := Lib.hid (fun (j : Nat) (hj : j < k) (hjl : j < l.length) => (show namedB l[j].who = true → ∃ i, place (l[j].who, l[j].text) (signAll (l.take k) []) = some i from fun hn => place_some (signAll_of (List.mem_take_iff_getElem.2 ⟨j, by omega, rfl⟩) hn)))
      have HCM := Lib.hid (fun (a : Act3) (i : Nat) hn hi => check_made (who := who) (text := text) (a := a) (l := l.take k) (i := i) (by omega) hn hi)
      have HSN := Lib.hid (fun (a : Act3) (ha : a.text.size ≤ maxLen) w hb => sign_calls b t m n [] (signAll (l.take k) []) a.who a.text w hb (by omega) ha)
      unfold SignsPost at HSN
      obtain ⟨S, hS'⟩ : ∃ S, S = signAll (l.take k) [] := ⟨_, rfl⟩
      rw [← hS'] at HSG HCM HSN HC HC1 HI HK
      clear hck hS' hS
      rcases hx with hd1 | ⟨hd1, hd2⟩
      all_goals
        cases hany : (l.take k).any (askedB who text) with
        | true =>
          rw [hany] at HI
          clear hany
          cases ck
          all_goals
            go_wp2_with fail
            refine (HC1.out _ HK.out).mono ?_
            rintro e w5 ⟨rfl, hb5⟩
            have HB5 := Lib.hid (HB.out.trans (hb5.mono HB.out.size))
            have HK5 := Lib.hid (HK.out.below hb5)
            clear hb5
            go_wp2_with fail
            refine (HI.out _ HK5.out).mono ?_
            rintro e w6 ⟨rfl, hb6⟩
            have HB6 := Lib.hid (HB5.out.trans (hb6.mono HB5.out.size))
            have HK6 := Lib.hid (HK5.out.below hb6)
            clear hb6 HB5 HK5
            go_wp2_with fail
            go_loopg [14] k (fun g v14 wr => ∃ (j : Nat), v14 = .int .i64 j ∧ j ≤ k ∧ Hid (g + j = k ∧ Below w.heap.size w wr ∧ Bk wr b t m n [] S))
            case atStart => exact ⟨0, rfl, Nat.zero_le _, rfl, HB6.out, HK6.out⟩
            case round =>
              clear HB6 HK6 HB HK HG
              obtain ⟨j, rfl, hj, HH⟩ := hrel
              obtain ⟨hg, hb, hbk⟩ := HH.out
              have HG := Lib.hid hg
              have HB := Lib.hid hb
              have HK := Lib.hid hbk
              clear HH hg hb hbk
              by_cases hlt2 : j < k
              · have hjl : j < l.length := by omega
                have hd3 : decide ((j : Int) < (l.length : Int)) = true := by simp; omega
                have hd4 : decide ((j : Int) < 100) = true := by simp; omega
                obtain ⟨a, rfl, e0, e1, e2, e3⟩ := (HS.out.below HB.out).elem j hjl
                have hsz := HOK.out l[j] (List.getElem_mem hjl)
                have HEL := Lib.hid (fun w' (hb : Below w.heap.size w w') => (HS.out.below hb).elem j hjl)
                have hpl := HSG.out j hlt2 hjl
                obtain ⟨x, hx⟩ : ∃ x, x = l[j] := ⟨_, rfl⟩
                rw [← hx] at e0 e1 e2 e3 hsz HEL hpl
                clear hx
                have HG2 := Lib.hid (HSN.out x hsz)
                cases hnm : namedB x.who with
                | false =>
                  rw [signE_not hnm] at HG2
                  clear hnm hpl
                  obtain ⟨kind, awho, atext, asig⟩ := x
                  simp only at *
                  go_wp2_with fail
                  go_region_held3 (fun w' => w'.cell? ⟨(a.add (j * 4)).block, (a.add (j * 4)).off + 1, none⟩ = some (.int .i64 awho) ∧ w'.cell? ⟨(a.add (j * 4)).block, (a.add (j * 4)).off + 2, none⟩ = some (.string atext)) (first | exact ⟨f1, f2⟩ | exact ⟨e1, e2⟩) (first | (go_at_call 56; refine (HG2.out _ HK.out.drew).mono ?_; rintro e w5 ⟨rfl, hc5, hk5⟩; have HB5 := Lib.hid (below_ch HB.out.drew hc5 g4 HB.out.size); have HK5 := Lib.hid hk5; obtain ⟨a', ha', f0, f1, f2, f3⟩ := HEL.out _ HB5.out; cases ha'; clear hc5 hk5))
                  go_wp2_with fail
                  go_roundg (k - (j + 1))
                  case measure => have := HG.out; omega
                  case rel => exact ⟨j + 1, by go_num, by omega, by omega, HB5.out, HK5.out⟩
                | true =>
                  obtain ⟨i, hi⟩ := hpl hnm
                  rw [signE_again hnm hi] at HG2
                  have HCX := Lib.hid (HC.out (sigOf i))
                  rw [HCM.out x i hnm hi] at HCX
                  obtain ⟨g, hg⟩ : ∃ g, g = sigOf i := ⟨_, rfl⟩
                  rw [← hg] at HCX HG2
                  clear hg hi hnm hpl
                  obtain ⟨kind, awho, atext, asig⟩ := x
                  simp only at *
                  by_cases h1 : awho = who
                  · have hq1 : (awho == who) = true := by simpa using h1
                    by_cases h2 : atext = text
                    · have hq2 : (atext.toList == text.toList) = true := by rw [beq_list]; simpa using h2
                      rw [decide_eq_true h1, decide_eq_true h2] at HCX
                      clear h1 h2
                      go_wp2_with fail
                      go_region_held3 (fun w' => w'.cell? ⟨(a.add (j * 4)).block, (a.add (j * 4)).off + 1, none⟩ = some (.int .i64 awho) ∧ w'.cell? ⟨(a.add (j * 4)).block, (a.add (j * 4)).off + 2, none⟩ = some (.string atext)) (first | exact ⟨f1, f2⟩ | exact ⟨e1, e2⟩) (first | (go_at_call 56; refine (HG2.out _ HK.out.drew).mono ?_; rintro e w5 ⟨rfl, hc5, hk5⟩; have HB5 := Lib.hid (below_ch HB.out.drew hc5 g4 HB.out.size); have HK5 := Lib.hid hk5; obtain ⟨a', ha', f0, f1, f2, f3⟩ := HEL.out _ HB5.out; cases ha'; clear hc5 hk5))
                      go_wp2_with fail
                      refine (HCX.out _ HK5.out).mono ?_
                      rintro e w6 ⟨rfl, hb6⟩
                      have HB6 := Lib.hid (HB5.out.trans (hb6.mono HB5.out.size))
                      have HK6 := Lib.hid (HK5.out.below hb6)
                      clear hb6
                      go_wp2_with fail
                      go_roundg (k - (j + 1))
                      case measure => have := HG.out; omega
                      case rel => exact ⟨j + 1, by go_num, by omega, by omega, HB6.out, HK6.out⟩
                    · have hq2 : (atext.toList == text.toList) = false := by rw [beq_list]; simpa using h2
                      rw [decide_eq_true h1, decide_eq_false h2] at HCX
                      clear h1 h2
                      go_wp2_with fail
                      go_region_held3 (fun w' => w'.cell? ⟨(a.add (j * 4)).block, (a.add (j * 4)).off + 1, none⟩ = some (.int .i64 awho) ∧ w'.cell? ⟨(a.add (j * 4)).block, (a.add (j * 4)).off + 2, none⟩ = some (.string atext)) (first | exact ⟨f1, f2⟩ | exact ⟨e1, e2⟩) (first | (go_at_call 56; refine (HG2.out _ HK.out.drew).mono ?_; rintro e w5 ⟨rfl, hc5, hk5⟩; have HB5 := Lib.hid (below_ch HB.out.drew hc5 g4 HB.out.size); have HK5 := Lib.hid hk5; obtain ⟨a', ha', f0, f1, f2, f3⟩ := HEL.out _ HB5.out; cases ha'; clear hc5 hk5))
                      go_wp2_with fail
                      refine (HCX.out _ HK5.out).mono ?_
                      rintro e w6 ⟨rfl, hb6⟩
                      have HB6 := Lib.hid (HB5.out.trans (hb6.mono HB5.out.size))
                      have HK6 := Lib.hid (HK5.out.below hb6)
                      clear hb6
                      go_wp2_with fail
                      go_roundg (k - (j + 1))
                      case measure => have := HG.out; omega
                      case rel => exact ⟨j + 1, by go_num, by omega, by omega, HB6.out, HK6.out⟩
                  · have hq1 : (awho == who) = false := by simpa using h1
                    rw [decide_eq_false h1] at HCX
                    clear h1
                    go_wp2_with fail
                    go_region_held3 (fun w' => w'.cell? ⟨(a.add (j * 4)).block, (a.add (j * 4)).off + 1, none⟩ = some (.int .i64 awho) ∧ w'.cell? ⟨(a.add (j * 4)).block, (a.add (j * 4)).off + 2, none⟩ = some (.string atext)) (first | exact ⟨f1, f2⟩ | exact ⟨e1, e2⟩) (first | (go_at_call 56; refine (HG2.out _ HK.out.drew).mono ?_; rintro e w5 ⟨rfl, hc5, hk5⟩; have HB5 := Lib.hid (below_ch HB.out.drew hc5 g4 HB.out.size); have HK5 := Lib.hid hk5; obtain ⟨a', ha', f0, f1, f2, f3⟩ := HEL.out _ HB5.out; cases ha'; clear hc5 hk5))
                    go_wp2_with fail
                    refine (HCX.out _ HK5.out).mono ?_
                    rintro e w6 ⟨rfl, hb6⟩
                    have HB6 := Lib.hid (HB5.out.trans (hb6.mono HB5.out.size))
                    have HK6 := Lib.hid (HK5.out.below hb6)
                    clear hb6
                    go_wp2_with fail
                    go_roundg (k - (j + 1))
                    case measure => have := HG.out; omega
                    case rel => exact ⟨j + 1, by go_num, by omega, by omega, HB6.out, HK6.out⟩
              · obtain rfl : j = k := by omega
                have hx2 : (¬ j < l.length) ∨ (j < l.length ∧ decide ((j : Int) < 100) = false) := by simp; omega
                rcases hx2 with hd3 | ⟨hd3, hd4⟩
                all_goals
                  go_wp2_with fail
                  refine (awake3_calls _).mono ?_
                  rintro e w7 ⟨rfl, hb7⟩
                  have HB7 := Lib.hid (HB.out.trans (hb7.mono HB.out.size))
                  clear hb7
                  go_wp2
                  go_ret
                  exact ⟨rfl, HB7.out⟩
        | false =>
          have hcf : ck = false := by
            cases hc : ck with
            | false => rfl
            | true => have := HCK.out hc; rw [hany] at this; cases this
          subst hcf
          rw [hany] at HI
          clear hany
          go_wp2_with fail
          refine (HC1.out _ HK.out).mono ?_
          rintro e w5 ⟨rfl, hb5⟩
          have HB5 := Lib.hid (HB.out.trans (hb5.mono HB.out.size))
          have HK5 := Lib.hid (HK.out.below hb5)
          clear hb5
          go_wp2_with fail
          refine (HI.out _ HK5.out).mono ?_
          rintro e w6 ⟨rfl, hb6⟩
          have HB6 := Lib.hid (HB5.out.trans (hb6.mono HB5.out.size))
          have HK6 := Lib.hid (HK5.out.below hb6)
          clear hb6 HB5 HK5
          go_wp2_with fail
          go_loopg [14] k (fun g v14 wr => ∃ (j : Nat), v14 = .int .i64 j ∧ j ≤ k ∧ Hid (g + j = k ∧ Below w.heap.size w wr ∧ Bk wr b t m n [] S))
          case atStart => exact ⟨0, rfl, Nat.zero_le _, rfl, HB6.out, HK6.out⟩
          case round =>
            clear HB6 HK6 HB HK HG
            obtain ⟨j, rfl, hj, HH⟩ := hrel
            obtain ⟨hg, hb, hbk⟩ := HH.out
            have HG := Lib.hid hg
            have HB := Lib.hid hb
            have HK := Lib.hid hbk
            clear HH hg hb hbk
            by_cases hlt2 : j < k
            · have hjl : j < l.length := by omega
              have hd3 : decide ((j : Int) < (l.length : Int)) = true := by simp; omega
              have hd4 : decide ((j : Int) < 100) = true := by simp; omega
              obtain ⟨a, rfl, e0, e1, e2, e3⟩ := (HS.out.below HB.out).elem j hjl
              have hsz := HOK.out l[j] (List.getElem_mem hjl)
              have HEL := Lib.hid (fun w' (hb : Below w.heap.size w w') => (HS.out.below hb).elem j hjl)
              have hpl := HSG.out j hlt2 hjl
              obtain ⟨x, hx⟩ : ∃ x, x = l[j] := ⟨_, rfl⟩
              rw [← hx] at e0 e1 e2 e3 hsz HEL hpl
              clear hx
              have HG2 := Lib.hid (HSN.out x hsz)
              cases hnm : namedB x.who with
              | false =>
                rw [signE_not hnm] at HG2
                clear hnm hpl
                obtain ⟨kind, awho, atext, asig⟩ := x
                simp only at *
                go_wp2_with fail
                go_region_held3 (fun w' => w'.cell? ⟨(a.add (j * 4)).block, (a.add (j * 4)).off + 1, none⟩ = some (.int .i64 awho) ∧ w'.cell? ⟨(a.add (j * 4)).block, (a.add (j * 4)).off + 2, none⟩ = some (.string atext)) (first | exact ⟨f1, f2⟩ | exact ⟨e1, e2⟩) (first | (go_at_call 56; refine (HG2.out _ HK.out.drew).mono ?_; rintro e w5 ⟨rfl, hc5, hk5⟩; have HB5 := Lib.hid (below_ch HB.out.drew hc5 g4 HB.out.size); have HK5 := Lib.hid hk5; obtain ⟨a', ha', f0, f1, f2, f3⟩ := HEL.out _ HB5.out; cases ha'; clear hc5 hk5))
                go_wp2_with fail
                go_roundg (k - (j + 1))
                case measure => have := HG.out; omega
                case rel => exact ⟨j + 1, by go_num, by omega, by omega, HB5.out, HK5.out⟩
              | true =>
                obtain ⟨i, hi⟩ := hpl hnm
                rw [signE_again hnm hi] at HG2
                have HCX := Lib.hid (HC.out (sigOf i))
                rw [HCM.out x i hnm hi] at HCX
                obtain ⟨g, hg⟩ : ∃ g, g = sigOf i := ⟨_, rfl⟩
                rw [← hg] at HCX HG2
                clear hg hi hnm hpl
                obtain ⟨kind, awho, atext, asig⟩ := x
                simp only at *
                by_cases h1 : awho = who
                · have hq1 : (awho == who) = true := by simpa using h1
                  by_cases h2 : atext = text
                  · have hq2 : (atext.toList == text.toList) = true := by rw [beq_list]; simpa using h2
                    rw [decide_eq_true h1, decide_eq_true h2] at HCX
                    clear h1 h2
                    go_wp2_with fail
                    go_region_held3 (fun w' => w'.cell? ⟨(a.add (j * 4)).block, (a.add (j * 4)).off + 1, none⟩ = some (.int .i64 awho) ∧ w'.cell? ⟨(a.add (j * 4)).block, (a.add (j * 4)).off + 2, none⟩ = some (.string atext)) (first | exact ⟨f1, f2⟩ | exact ⟨e1, e2⟩) (first | (go_at_call 56; refine (HG2.out _ HK.out.drew).mono ?_; rintro e w5 ⟨rfl, hc5, hk5⟩; have HB5 := Lib.hid (below_ch HB.out.drew hc5 g4 HB.out.size); have HK5 := Lib.hid hk5; obtain ⟨a', ha', f0, f1, f2, f3⟩ := HEL.out _ HB5.out; cases ha'; clear hc5 hk5))
                    go_wp2_with fail
                    refine (HCX.out _ HK5.out).mono ?_
                    rintro e w6 ⟨rfl, hb6⟩
                    have HB6 := Lib.hid (HB5.out.trans (hb6.mono HB5.out.size))
                    have HK6 := Lib.hid (HK5.out.below hb6)
                    clear hb6
                    go_wp2_with fail
                    go_roundg (k - (j + 1))
                    case measure => have := HG.out; omega
                    case rel => exact ⟨j + 1, by go_num, by omega, by omega, HB6.out, HK6.out⟩
                  · have hq2 : (atext.toList == text.toList) = false := by rw [beq_list]; simpa using h2
                    rw [decide_eq_true h1, decide_eq_false h2] at HCX
                    clear h1 h2
                    go_wp2_with fail
                    go_region_held3 (fun w' => w'.cell? ⟨(a.add (j * 4)).block, (a.add (j * 4)).off + 1, none⟩ = some (.int .i64 awho) ∧ w'.cell? ⟨(a.add (j * 4)).block, (a.add (j * 4)).off + 2, none⟩ = some (.string atext)) (first | exact ⟨f1, f2⟩ | exact ⟨e1, e2⟩) (first | (go_at_call 56; refine (HG2.out _ HK.out.drew).mono ?_; rintro e w5 ⟨rfl, hc5, hk5⟩; have HB5 := Lib.hid (below_ch HB.out.drew hc5 g4 HB.out.size); have HK5 := Lib.hid hk5; obtain ⟨a', ha', f0, f1, f2, f3⟩ := HEL.out _ HB5.out; cases ha'; clear hc5 hk5))
                    go_wp2_with fail
                    refine (HCX.out _ HK5.out).mono ?_
                    rintro e w6 ⟨rfl, hb6⟩
                    have HB6 := Lib.hid (HB5.out.trans (hb6.mono HB5.out.size))
                    have HK6 := Lib.hid (HK5.out.below hb6)
                    clear hb6
                    go_wp2_with fail
                    go_roundg (k - (j + 1))
                    case measure => have := HG.out; omega
                    case rel => exact ⟨j + 1, by go_num, by omega, by omega, HB6.out, HK6.out⟩
                · have hq1 : (awho == who) = false := by simpa using h1
                  rw [decide_eq_false h1] at HCX
                  clear h1
                  go_wp2_with fail
                  go_region_held3 (fun w' => w'.cell? ⟨(a.add (j * 4)).block, (a.add (j * 4)).off + 1, none⟩ = some (.int .i64 awho) ∧ w'.cell? ⟨(a.add (j * 4)).block, (a.add (j * 4)).off + 2, none⟩ = some (.string atext)) (first | exact ⟨f1, f2⟩ | exact ⟨e1, e2⟩) (first | (go_at_call 56; refine (HG2.out _ HK.out.drew).mono ?_; rintro e w5 ⟨rfl, hc5, hk5⟩; have HB5 := Lib.hid (below_ch HB.out.drew hc5 g4 HB.out.size); have HK5 := Lib.hid hk5; obtain ⟨a', ha', f0, f1, f2, f3⟩ := HEL.out _ HB5.out; cases ha'; clear hc5 hk5))
                  go_wp2_with fail
                  refine (HCX.out _ HK5.out).mono ?_
                  rintro e w6 ⟨rfl, hb6⟩
                  have HB6 := Lib.hid (HB5.out.trans (hb6.mono HB5.out.size))
                  have HK6 := Lib.hid (HK5.out.below hb6)
                  clear hb6
                  go_wp2_with fail
                  go_roundg (k - (j + 1))
                  case measure => have := HG.out; omega
                  case rel => exact ⟨j + 1, by go_num, by omega, by omega, HB6.out, HK6.out⟩
            · obtain rfl : j = k := by omega
              have hx2 : (¬ j < l.length) ∨ (j < l.length ∧ decide ((j : Int) < 100) = false) := by simp; omega
              rcases hx2 with hd3 | ⟨hd3, hd4⟩
              all_goals
                go_wp2_with fail
                refine (awake3_calls _).mono ?_
                rintro e w7 ⟨rfl, hb7⟩
                have HB7 := Lib.hid (HB.out.trans (hb7.mono HB.out.size))
                clear hb7
                go_wp2
                go_ret
                exact ⟨rfl, HB7.out⟩
end Go.Proofs.Ytfgpchffkpomoaa
