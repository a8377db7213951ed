/- Texts of this proof, several in one file; each says ahead of it what it proves. -/
import Derived.Test.YtfgpchffkpomoaaPk21
import Derived.Test.YtfgpchffkpomoaaPk20
import Derived.Test.YtfgpchffkpomoaaPk23
import Derived.Test.YtfgpchffkpomoaaPk15
import Derived.Test.YtfgpchffkpomoaaPk10
import Derived.Test.YtfgpchffkpomoaaPk19
import Derived.Test.YtfgpchffkpomoaaPk11
/- Words of chapter 4's statements: few records, where a key stands, what is true of it: the walks. -/
namespace Go.Proofs.Ytfgpchffkpomoaa
set_option linter.unusedSimpArgs false
set_option linter.unusedVariables false
open Go.RowKit

theorem RcS.take {w : World} {A : Option Addr} {c : Nat} {l : List Rc} (h : RcS w A c l) (n : Nat) : RcS w A c (l.take n) := by
  refine ⟨flat_len Rc.cells 2 Rc.cells_len (l.take n), by have := h.fits; simp; omega, fun j u hj => h.at_ j u ?_⟩
  have e : ∀ (l : List Rc) (n : Nat), (l.take n).flatMap Rc.cells = (l.flatMap Rc.cells).take (n * 2) := by
    intro l
    induction l with
    | nil => simp
    | cons x l ih =>
      intro n
      cases n with
      | zero => simp
      | succ n =>
        rw [List.take_succ_cons, List.flatMap_cons, List.flatMap_cons, ih, Nat.succ_mul, List.take_append, Rc.cells_len, List.take_of_length_le (l := x.cells) (by rw [Rc.cells_len]; omega), Nat.add_sub_cancel]
  rw [e, List.getElem?_take] at hj
  split at hj
  · exact hj
  · cases hj
def fewP (l : List Rc) : List Rc := l.take 200
set_option maxRecDepth 100000 in
theorem few_calls (A : Option Addr) (c : Nat) (l : List Rc) (w : World) (hs : RcS w A c l) (hc : l.length ≤ c) : Calls Try.prog 39 #[.slice A l.length c] w fun e w' => e = .returned (.slice A (fewP l).length c) ∧ w' = w := by
  by_cases h : 200 < l.length
  · have hd : decide ((200 : Int) < (l.length : Int)) = true := by simp; omega
    have he : (fewP l).length = 200 := by unfold fewP; simp; omega
    rw [he]
    obtain ⟨a, rfl, _⟩ := hs.elem 0 (by omega)
    have h1 : (200 : Int) ≤ (l.length : Int) := by omega
    have h2 : (200 : Int) ≤ (c : Int) := by omega
    have h3 : 200 ≤ c := by omega
    go_enter Try.func39, Try.ntmps39
    go_wp2
    go_ret
    exact ⟨rfl, rfl⟩
  · have hd : decide ((200 : Int) < (l.length : Int)) = false := by simp; omega
    have he : (fewP l).length = l.length := by unfold fewP; simp; omega
    rw [he]
    go_enter Try.func39, Try.ntmps39
    go_wp2
    go_ret
    exact ⟨rfl, rfl⟩
set_option maxRecDepth 100000 in
theorem rfits4_calls (s : ByteArray) (w : World) : Calls Try.prog 41 #[.string s] w fun e w' => e = .returned (.bool (fitK s)) ∧ w' = w := by
  by_cases h0 : 1 ≤ s.size
  · have hd : decide ((1 : Int) ≤ (s.size : Int)) = true := by simp; omega
    go_enter Try.func41, Try.ntmps41
    go_wp2
    go_ret
    exact ⟨ret_bool (by unfold fitK; rw [Bool.eq_iff_iff]; simp; omega), rfl⟩
  · have hd : decide ((1 : Int) ≤ (s.size : Int)) = false := by simp; omega
    have hf : fitK s = false := by unfold fitK; exact decide_eq_false (fun h => h0 h.1)
    rw [hf]
    clear hf
    go_enter Try.func41, Try.ntmps41
    go_wp2
    go_ret
    exact ⟨rfl, rfl⟩
theorem atP_first {key : ByteArray} : ∀ {l : List Rc} {i : Nat} {x : Rc}, l[i]? = some x → x.key = key → (∀ j y, j < i → l[j]? = some y → y.key ≠ key) → atP l key = some x
  | [], i, x, h, _, _ => by simp at h
  | z :: l, 0, x, h, hk, _ => by
    obtain rfl : z = x := by simpa using h
    unfold atP
    rw [List.find?_cons_of_pos (by simpa using hk)]
  | z :: l, i + 1, x, h, hk, hn => by
    have h0 := hn 0 z (by omega) (by simp)
    unfold atP
    rw [List.find?_cons_of_neg (by simpa using h0)]
    exact atP_first (l := l) (by simpa using h) hk (fun j y hj hy => hn (j + 1) y (by omega) (by simpa using hy))
def AtPost (l : List Rc) (key : ByteArray) (w : World) (e : Ending) (w' : World) : Prop := ∃ r : Int, e = .returned (.int .i64 r) ∧ w' = w ∧ Hid ((r = -1 ∧ atP l key = none) ∨ ∃ (i : Nat) (x : Rc), r = (i : Int) ∧ l[i]? = some x ∧ atP l key = some x)
set_option maxHeartbeats 1000000 in
set_option maxRecDepth 100000 in
theorem at_calls (A : Option Addr) (c : Nat) (l : List Rc) (key : ByteArray) (w : World) (hs : RcS w A c l) (hl : l.length ≤ 100000) : Calls Try.prog 91 #[.slice A l.length c, .string key] w (AtPost l key w) := by
  have HS := Lib.hid hs
  have hfit := hs.fits
  clear hs
  go_enter Try.func91, Try.ntmps91
  go_wp2_with fail
  go_loopg [5] l.length (fun g v5 wr => ∃ k : Nat, v5 = .int .i64 k ∧ k ≤ l.length ∧ Hid (g + k = l.length ∧ wr = w ∧ ∀ j y, j < k → l[j]? = some y → y.key ≠ key))
  case atStart => exact ⟨0, rfl, by omega, by omega, rfl, fun j y h => by omega⟩
  case round =>
    obtain ⟨k, rfl, hk, HH⟩ := hrel
    obtain ⟨hg, hw, hn⟩ := HH.out
    subst hw
    have HG := Lib.hid hg
    have HN := Lib.hid hn
    clear HH hg hn
    by_cases hlt : k < l.length
    · have hd2 : decide ((k : Int) < (l.length : Int)) = true := by simp; omega
      obtain ⟨a, rfl, e0, e1⟩ := HS.out.elem k hlt
      obtain ⟨x, hx⟩ : ∃ x, x = l[k] := ⟨_, rfl⟩
      rw [← hx] at e0 e1
      have HX := Lib.hid (show l[k]? = some x by rw [List.getElem?_eq_getElem hlt, hx])
      clear hx
      obtain ⟨xk, xv⟩ := x
      simp only at e0 e1
      have hbq := beq_list xk key
      by_cases he : xk = key
      · rw [decide_eq_true he] at hbq
        have HE := Lib.hid he
        clear he
        go_wp2
        go_ret
        exact ⟨k, rfl, rfl, .inr ⟨k, ⟨xk, xv⟩, rfl, HX.out, atP_first HX.out HE.out HN.out⟩⟩
      · rw [decide_eq_false he] at hbq
        have HE := Lib.hid he
        clear he
        go_wp2
        go_roundg (gk - 1)
        case measure => have := HG.out; omega
        case rel => exact ⟨k + 1, by go_num, by omega, by have := HG.out; omega, rfl, fun j y hj hy => by
          rcases Nat.lt_or_ge j k with h | h
          · exact HN.out j y h hy
          · obtain rfl : j = k := by omega
            obtain rfl := Option.some.inj (hy.symm.trans HX.out)
            exact HE.out⟩
    · have hd2 : decide ((k : Int) < (l.length : Int)) = false := by simp; omega
      obtain rfl : k = l.length := by omega
      go_wp2
      go_ret
      exact ⟨-1, rfl, rfl, .inl ⟨rfl, atP_none (fun i x hx => HN.out i x (List.getElem?_eq_some_iff.1 hx).1 hx)⟩⟩
set_option maxHeartbeats 1000000 in
set_option maxRecDepth 100000 in
theorem truth_calls (A : Option Addr) (c : Nat) (l : List Rc) (key v : ByteArray) (has : Bool) (w : World) (hs : RcS w A c l) (hl : l.length ≤ 100000) : Calls Try.prog 45 #[.slice A l.length c, .string key, .string v, .bool has] w fun e w' => e = .returned (.bool (truthP l key v has)) ∧ w' = w := by
  have HS := Lib.hid hs
  have hfit := hs.fits
  have HA := Lib.hid (at_calls A c l key w hs hl)
  clear hs
  go_enter Try.func45, Try.ntmps45
  go_wp2_with fail
  refine HA.out.mono ?_
  rintro e w1 ⟨r, rfl, hw, hr⟩
  subst hw
  rcases hr.out with ⟨rfl, hn⟩ | ⟨i, x, rfl, hx, hn⟩
  · have HT := Lib.hid (show truthP l key v has = (!has && decide (v = ⟨#[]⟩)) by unfold truthP; rw [hn])
    have hv : decide (v = ⟨#[]⟩) = v.toList.isEmpty := by
      by_cases e : v = ⟨#[]⟩
      · have := has_text v
        rw [decide_eq_false (by rw [e]; simp [ByteArray.size])] at this
        rw [decide_eq_true e]
        simpa using this
      · rw [decide_eq_false e]
        have := has_text v
        rw [decide_eq_true (by
          rcases Nat.eq_zero_or_pos v.size with h | h
          · exact absurd (ByteArray.size_eq_zero_iff.1 h) e
          · exact h)] at this
        simpa using this
    have HV := Lib.hid hv
    clear hr hn hv
    cases has with
    | true =>
      go_wp2
      go_ret
      exact ⟨by rw [HT.out]; rfl, rfl⟩
    | false =>
      go_wp2
      go_ret
      exact ⟨by rw [HT.out, HV.out]; rfl, rfl⟩
  · have hi := (List.getElem?_eq_some_iff.1 hx).1
    obtain ⟨a, rfl, e0, e1⟩ := HS.out.elem i hi
    have hxe := (List.getElem?_eq_some_iff.1 hx).2
    rw [hxe] at e0 e1
    obtain ⟨xk, xv⟩ := x
    simp only at e0 e1
    have HT := Lib.hid (show truthP l key v has = (has && decide (v = xv)) by unfold truthP; rw [hn])
    have HBQ := Lib.hid (beq_list v xv)
    have hneg : decide ((i : Int) < 0) = false := by simp
    clear hr hn hx hxe
    cases has with
    | false =>
      go_wp2
      go_ret
      exact ⟨by rw [HT.out]; rfl, rfl⟩
    | true =>
      go_wp2
      go_ret
      exact ⟨by rw [HT.out, ← HBQ.out]; rfl, rfl⟩
end Go.Proofs.Ytfgpchffkpomoaa

/- Records: whether they may be, by the code and by the document. -/
namespace Go.Proofs.Ytfgpchffkpomoaa
set_option linter.unusedSimpArgs false
set_option linter.unusedVariables false
open Go.RowKit


set_option maxHeartbeats 1000000 in
set_option maxRecDepth 100000 in
theorem rrise_calls (A : Option Addr) (c : Nat) (l : List Rc) (w : World) (hs : RcS w A c l) : Calls Try.prog 35 #[.slice A l.length c] w (IntPost (riseE l) w) := by
  have hfit := hs.fits
  have HS := Lib.hid hs
  clear hs
  by_cases h4 : 4096 < l.length
  · have hd : decide ((4096 : Int) < (l.length : Int)) = true := by simp; omega
    have HE := Lib.hid (show riseE l = 2 by unfold riseE; rw [if_pos h4])
    go_enter Try.func35, Try.ntmps35
    go_wp2
    go_ret
    unfold IntPost
    rw [HE.out]
    exact ⟨rfl, Below.refl _ _⟩
  · have hd : decide ((4096 : Int) < (l.length : Int)) = false := by simp; omega
    have HE := Lib.hid (show riseE l = riseN l l.length by unfold riseE; rw [if_neg h4])
    go_enter Try.func35, Try.ntmps35
    go_wp2
    go_loopg [3] l.length (fun g vi wr => ∃ k : Nat, vi = .int .i64 k ∧ k ≤ l.length ∧ Hid (g + k = l.length ∧ Below w.heap.size w wr ∧ riseN l k = 0))
    case atStart => exact ⟨0, rfl, by omega, rfl, Below.refl _ _, rfl⟩
    case round =>
      obtain ⟨k, rfl, hk, HH⟩ := hrel
      obtain ⟨hg, hb, ht⟩ := HH.out
      have HGK := Lib.hid hg
      have HB := Lib.hid hb
      have HT := Lib.hid ht
      have hsz := hb.size
      clear HH hb ht hg
      by_cases hlt : k < l.length
      · have hd2 : decide ((k : Int) < (l.length : Int)) = true := by simp; omega
        obtain ⟨a, rfl, h0, h1⟩ := (HS.out.below HB.out).elem k hlt
        obtain ⟨m, hm⟩ : ∃ m, m = l[k] := ⟨_, rfl⟩
        rw [← hm] at h0 h1
        have HM := Lib.hid hm
        clear hm
        obtain ⟨key, val⟩ := m
        simp only at h0 h1
        by_cases hb0 : key.size = 0
        · have hd3 : key.toList.isEmpty = true := by have := has_text key; rw [decide_eq_false (by omega)] at this; simpa using this
          have HE2 := Lib.hid (show riseE l = 14 by rw [HE.out]; exact riseN_stop HT.out (codeAt_bad hlt (by rw [← HM.out]; simp [rcBad, hb0])) (by decide) _ hlt)
          clear hb0
          go_wp2
          go_ret
          unfold IntPost
          rw [HE2.out]
          exact ⟨rfl, HB.out⟩
        · have hd3 : key.toList.isEmpty = false := by have := has_text key; rw [decide_eq_true (by omega)] at this; simpa using this
          by_cases hb1 : 64 < key.size
          · have hd4 : decide ((64 : Int) < (key.size : Int)) = true := by simp; omega
            have HE2 := Lib.hid (show riseE l = 14 by rw [HE.out]; exact riseN_stop HT.out (codeAt_bad hlt (by rw [← HM.out]; simp [rcBad, hb1])) (by decide) _ hlt)
            clear hb0
            go_wp2
            go_ret
            unfold IntPost
            rw [HE2.out]
            exact ⟨rfl, HB.out⟩
          · have hd4 : decide ((64 : Int) < (key.size : Int)) = false := by simp; omega
            by_cases hb2 : 4096 < val.size
            · have hd5 : decide ((4096 : Int) < (val.size : Int)) = true := by simp; omega
              have HE2 := Lib.hid (show riseE l = 14 by rw [HE.out]; exact riseN_stop HT.out (codeAt_bad hlt (by rw [← HM.out]; simp [rcBad, hb2])) (by decide) _ hlt)
              clear hb0
              go_wp2
              go_ret
              unfold IntPost
              rw [HE2.out]
              exact ⟨rfl, HB.out⟩
            · have hd5 : decide ((4096 : Int) < (val.size : Int)) = false := by simp; omega
              have hok : rcBad l[k] = false := by rw [← HM.out]; simp [rcBad, hb0]; omega
              clear hb0
              rcases Nat.eq_zero_or_pos k with hz | hz
              · have HE2 := Lib.hid (show riseN l (k + 1) = 0 from riseN_next HT.out (by subst hz; exact codeAt_first hlt hok))
                have hd6 : ¬ 0 < k := by omega
                have hd7 : decide ((0 : Int) < (k : Int)) = false := by simp; omega
                clear hok hz
                go_wp2_with fail
                go_quiet (fail)
                go_wp2
                go_roundg (gk - 1)
                case measure => have := HGK.out; omega
                case rel => exact ⟨k + 1, by go_num, by omega, by have := HGK.out; omega, below_drewN HB.out _, HE2.out⟩
              · obtain ⟨j, hj⟩ : ∃ j, k = j + 1 := ⟨k - 1, by omega⟩
                have hjl : j < l.length := by omega
                obtain ⟨a', ha', g0, hx1⟩ := (HS.out.below HB.out).elem j hjl
                clear hx1
                obtain rfl : a = a' := by simpa using ha'
                have hcd : codeAt l k = if geB l[j].key key = true then 15 else 0 := by subst hj; rw [codeAt_next hlt hok, ← HM.out]
                obtain ⟨pk, hpk⟩ : ∃ pk, pk = l[j].key := ⟨_, rfl⟩
                rw [← hpk] at g0 hcd
                have hjk : (k : Int) - 1 = (j : Int) := by omega
                have hd7 : decide ((0 : Int) < (k : Int)) = true := by simp; omega
                clear hpk hok ha' hj
                by_cases hge : geB pk key = true
                · have HE2 := Lib.hid (show riseE l = 15 by rw [HE.out]; exact riseN_stop HT.out (by rw [hcd, if_pos hge]) (by decide) _ hlt)
                  have hd6 : Op.bytesLess pk.toList key.toList = false := by unfold geB at hge; simpa using hge
                  clear hcd hge
                  go_wp2_with fail
                  go_quiet (fail)
                  go_wp2
                  go_ret
                  unfold IntPost
                  rw [HE2.out]
                  exact ⟨rfl, below_drewN HB.out _⟩
                · have HE2 := Lib.hid (riseN_next HT.out (by rw [hcd, if_neg hge]))
                  have hd6 : Op.bytesLess pk.toList key.toList = true := by unfold geB at hge; simpa using hge
                  clear hcd hge
                  go_wp2_with fail
                  go_quiet (fail)
                  go_wp2
                  go_roundg (gk - 1)
                  case measure => have := HGK.out; omega
                  case rel => exact ⟨k + 1, by go_num, by omega, by have := HGK.out; omega, below_drewN HB.out _, HE2.out⟩
      · have hd2 : decide ((k : Int) < (l.length : Int)) = false := by simp; omega
        obtain rfl : k = l.length := by omega
        go_wp2
        go_ret
        unfold IntPost
        rw [HE.out, HT.out]
        exact ⟨rfl, HB.out⟩
end Go.Proofs.Ytfgpchffkpomoaa

/- Whether two lists of records are the same. -/
namespace Go.Proofs.Ytfgpchffkpomoaa
set_option linter.unusedSimpArgs false
set_option linter.unusedVariables false
open Go.RowKit

def Rc.vals (m : Rc) : Value := .agg #[.string m.key, .string m.val]
def sameRc (a b : Rc) : Bool := decide (a.key = b.key) && decide (a.val = b.val)
theorem sameRc_iff {a b : Rc} : sameRc a b = true ↔ a = b := by
  cases a; cases b
  simp [sameRc]
def sameR : List Rc → List Rc → Bool
  | [], [] => true
  | x :: l, y :: m => sameRc x y && sameR l m
  | _, _ => false
theorem sameR_iff : ∀ {l m : List Rc}, sameR l m = true ↔ l = m
  | [], [] => by simp [sameR]
  | [], _ :: _ => by simp [sameR]
  | _ :: _, [] => by simp [sameR]
  | x :: l, y :: m => by simp [sameR, sameRc_iff, sameR_iff]
theorem sameR_no {l m : List Rc} (h : l ≠ m) : sameR l m = false := by
  rw [← Bool.not_eq_true, sameR_iff]; exact h
theorem eqRc (x1 y1 x2 y2 : ByteArray) (w : World) : (Op.equalIn 10000 131 (.agg #[.string x1, .string x2]) (.agg #[.string y1, .string y2])).run Try.prog w = .ok (x1.toList == y1.toList && x2.toList == y2.toList) w := by
  rw [show (10000 : Nat) = 9999 + 1 from rfl, run_equalIn_struct (P := Try.prog) w 9999 131 _ _ (by kernel_rfl) (by kernel_rfl)]
  simp only [Program.fieldsOf, Try.underlying131]
  simp [Op.eqFields, go_sem]
  by_cases h1 : x1.toList = y1.toList <;> by_cases h2 : x2.toList = y2.toList <;> simp [h1, h2]
theorem eqRc_no {x y : Rc} (h : x ≠ y) (w : World) : (Op.equalIn 10000 131 x.vals y.vals).run Try.prog w = .ok false w := by
  unfold Rc.vals
  rw [eqRc]
  congr 1
  rw [← Bool.not_eq_true]
  intro hc
  simp only [Bool.and_eq_true, beq_iff_eq] at hc
  apply h
  cases x; cases y
  simp only at hc
  rw [toList_eq hc.1, toList_eq hc.2]

set_option maxRecDepth 100000 in
theorem sameRecs_calls (A B : Option Addr) (c d : Nat) (l m : List Rc) (w : World) (hl : RcS w A c l) (hm : RcS w B d m) : Calls Try.prog 47 #[.slice A l.length c, .slice B m.length d] w (BoolPost (sameR l m) w) := by
  have hf1 := hl.fits
  have hf2 := hm.fits
  have HL := Lib.hid hl
  have HM := Lib.hid hm
  clear hl hm
  by_cases hlen : l.length = m.length
  · have hd0 : ((l.length : Int) == (m.length : Int)) = true := by simp; omega
    have hd00 : ((l.length : Int) != (m.length : Int)) = false := by rw [bne, hd0]; rfl
    have HLEN := Lib.hid hlen
    clear hlen
    go_enter Try.func47, Try.ntmps47
    go_wp2
    go_loopg [5] l.length (fun g vi wr => ∃ k : Nat, vi = .int .i64 k ∧ k ≤ l.length ∧ Hid (g + k = l.length ∧ Below w.heap.size w wr ∧ l.take k = m.take k))
    case atStart => exact ⟨0, rfl, by omega, rfl, Below.refl _ _, rfl⟩
    case round =>
      obtain ⟨k, rfl, hk, HH⟩ := hrel
      obtain ⟨hg, hb, ht⟩ := HH.out
      have HGK := Lib.hid hg
      have HB := Lib.hid hb
      have HT := Lib.hid ht
      have hsz := hb.size
      clear HH hb ht hg
      by_cases hlt : k < l.length
      · have hd : decide ((k : Int) < (l.length : Int)) = true := by simp; omega
        have hlt2 : k < m.length := by have := HLEN.out; omega
        obtain ⟨a, rfl, h0, h1⟩ := (HL.out.below HB.out).elem k hlt
        obtain ⟨b, rfl, g0, g1⟩ := (HM.out.below HB.out).elem k hlt2
        obtain ⟨x, hx⟩ : ∃ x, x = l[k] := ⟨_, rfl⟩
        obtain ⟨y, hy⟩ : ∃ y, y = m[k] := ⟨_, rfl⟩
        rw [← hx] at h0 h1
        rw [← hy] at g0 g1
        have HX := Lib.hid hx
        have HY := Lib.hid hy
        clear hx hy
        by_cases hxy : x = y
        · have HXY := Lib.hid hxy
          subst hxy
          obtain ⟨key, val⟩ := x
          simp only at h0 h1 g0 g1
          go_wp2_with fail
          go_quiet (fail)
          go_wp2
          go_roundg (gk - 1)
          case measure => have := HGK.out; omega
          case rel => exact ⟨k + 1, by go_num, by omega, by have := HGK.out; omega, below_drewN HB.out _, by rw [List.take_succ_eq_append_getElem hlt, List.take_succ_eq_append_getElem hlt2, HT.out, ← HX.out, ← HY.out]⟩
        · have HE := Lib.hid (sameR_no (l := l) (m := m) (by rintro rfl; exact hxy (HX.out.trans HY.out.symm)))
          have hq := eqRc_no hxy
          obtain ⟨key, val⟩ := x
          obtain ⟨key', val'⟩ := y
          clear hxy
          simp only at h0 h1 g0 g1
          simp only [Rc.vals] at hq
          go_wp2_with fail
          go_quiet (fail)
          go_wp2
          go_ret
          exact ⟨ret_bool HE.out.symm, below_drewN HB.out _⟩
      · have hd : decide ((k : Int) < (l.length : Int)) = false := by simp; omega
        have HE := Lib.hid (show sameR l m = true by rw [sameR_iff, ← List.take_of_length_le (i := k) (l := l) (by omega), HT.out]; exact List.take_of_length_le (by have := HLEN.out; omega))
        go_wp2
        go_ret
        exact ⟨ret_bool HE.out.symm, HB.out⟩
  · have hd0 : ((l.length : Int) == (m.length : Int)) = false := by simp; omega
    have HE := Lib.hid (sameR_no (l := l) (m := m) (by rintro rfl; exact hlen rfl))
    go_enter Try.func47, Try.ntmps47
    go_wp2
    go_ret
    exact ⟨ret_bool HE.out.symm, Below.refl _ _⟩
end Go.Proofs.Ytfgpchffkpomoaa

/- Arguments, opened: a list of records. -/
namespace Go.Proofs.Ytfgpchffkpomoaa
set_option linter.unusedSimpArgs false
set_option linter.unusedVariables false
open Go.ChangeShapes Go.WideShapes Go.RowKit

section
variable {H : Type} {enc : TypeId × Value → H} {w : World} {base : Nat} {spare : Nat → Bool} {held : Bool}
structure Rc.Ok (m : Rc) : Prop where
  key : m.key.size ≤ 140737488351232
  val : m.val.size ≤ 140737488351232
theorem open_rc {fuel : Nat} {cs : List Value} {x : DataW H × List MemPlace} (h : DataW.trod enc Try.prog w base spare held fuel 131 cs = some x) (hw : Wt Try.prog 131 x.1) (hl : cs.length = 2) : ∃ m : Rc, cs = m.cells ∧ m.Ok := by
  obtain ⟨n, hf⟩ := fields_of Try.underlying131 (by kernel_rfl) h hw
  match cs, hl with
  | [b, c], _ =>
    obtain ⟨y1, h1, w1⟩ := hf 0 _ rfl b rfl
    obtain ⟨y2, h2, w2⟩ := hf 1 _ rfl c rfl
    obtain ⟨s, rfl, b1⟩ := one_text Try.underlying9 h1 w1
    obtain ⟨t, rfl, c1⟩ := one_text Try.underlying9 h2 w2
    exact ⟨⟨s, t⟩, rfl, ⟨b1, c1⟩⟩
theorem open_rcs {fuel : Nat} {v : Value} {x : DataW H × List MemPlace} (h : DataW.trod enc Try.prog w base spare held fuel 22 [v] = some x) (hw : Wt Try.prog 22 x.1) :
    ∃ A c l, v = .slice A l.length c ∧ RcS w A c l ∧ (∀ m ∈ l, m.Ok) ∧ l.length * 32 ≤ 140737488351232 :=
  open_row Rc.cells 2 32 Rc.Ok (by decide) (by decide) Rc.cells_len Try.underlying22 (by kernel_rfl) (by kernel_rfl) (fun _ _ _ h1 h2 h3 => open_rc h1 h2 h3) h hw
set_option maxRecDepth 100000 in
theorem open_rcs1 {r : Reach} {b0 : Nat} {v : Value} {d : DataW H} {p : List MemPlace} (hv : Value.okWide Try.prog w r b0 22 v) (h : DataW.Trod enc Try.prog w base spare held 22 v d p) (hw : Wt Try.prog 22 d) :
    ∃ A c l, v = .slice A l.length c ∧ RcS w A c l ∧ (∀ m ∈ l, m.Ok) ∧ l.length * 32 ≤ 140737488351232 := by
  obtain ⟨a, len, cap, rfl⟩ := okWide_slice Try.underlying22 hv
  obtain ⟨fuel, hf⟩ := h
  exact open_rcs hf hw
end
end Go.Proofs.Ytfgpchffkpomoaa

/- Arguments, opened: a proof, its paths, and their sides. -/
namespace Go.Proofs.Ytfgpchffkpomoaa
set_option linter.unusedSimpArgs false
set_option linter.unusedVariables false
open Go.ChangeShapes Go.WideShapes Go.RowKit

section
variable {H : Type} {enc : TypeId × Value → H} {w : World} {base : Nat} {spare : Nat → Bool} {held : Bool}
theorem open_side {fuel : Nat} {cs : List Value} {x : DataW H × List MemPlace} (h : DataW.trod enc Try.prog w base spare held fuel 9 cs = some x) (hw : Wt Try.prog 9 x.1) (hl : cs.length = 1) : ∃ m : ByteArray, cs = textCells m ∧ m.size ≤ 140737488351232 := by
  match cs, hl with
  | [a], _ =>
    obtain ⟨s, rfl, hs⟩ := one_text Try.underlying9 h hw
    exact ⟨s, rfl, hs⟩
theorem open_sides {fuel : Nat} {v : Value} {x : DataW H × List MemPlace} (h : DataW.trod enc Try.prog w base spare held fuel 54 [v] = some x) (hw : Wt Try.prog 54 x.1) :
    ∃ A c l, v = .slice A l.length c ∧ TxS w A c l ∧ (∀ s ∈ l, s.size ≤ 140737488351232) ∧ l.length * 16 ≤ 140737488351232 :=
  open_row textCells 1 16 (fun s => s.size ≤ 140737488351232) (by decide) (by decide) textCells_len Try.underlying54 (by kernel_rfl) (by kernel_rfl) (fun _ _ _ h1 h2 h3 => open_side h1 h2 h3) h hw
structure Pm.Ok (w : World) (m : Pm) : Prop where
  sd : TxS w m.A m.c m.sides
  key : m.key.size ≤ 140737488351232
  val : m.val.size ≤ 140737488351232
theorem open_path {fuel : Nat} {cs : List Value} {x : DataW H × List MemPlace} (h : DataW.trod enc Try.prog w base spare held fuel 179 cs = some x) (hw : Wt Try.prog 179 x.1) (hl : cs.length = 4) : ∃ m : Pm, cs = m.cells ∧ m.Ok w := by
  obtain ⟨n, hf⟩ := fields_of Try.underlying179 (by kernel_rfl) h hw
  match cs, hl with
  | [a, b, c, d], _ =>
    obtain ⟨y0, h0, w0⟩ := hf 0 _ rfl a rfl
    obtain ⟨y1, h1, w1⟩ := hf 1 _ rfl b rfl
    obtain ⟨y2, h2, w2⟩ := hf 2 _ rfl c rfl
    obtain ⟨y3, h3, w3⟩ := hf 3 _ rfl d rfl
    obtain ⟨n, rfl, a1, a2⟩ := one_int Try.underlying3 h0
    obtain ⟨s, rfl, b1⟩ := one_text Try.underlying9 h1 w1
    obtain ⟨t, rfl, c1⟩ := one_text Try.underlying9 h2 w2
    obtain ⟨A, cc, l, rfl, hs, _, _⟩ := open_sides h3 w3
    exact ⟨⟨n, s, t, l, A, cc⟩, rfl, ⟨hs, b1, c1⟩⟩
theorem open_paths {fuel : Nat} {v : Value} {x : DataW H × List MemPlace} (h : DataW.trod enc Try.prog w base spare held fuel 33 [v] = some x) (hw : Wt Try.prog 33 x.1) :
    ∃ A c l, v = .slice A l.length c ∧ PmS w A c l := by
  obtain ⟨A, c, l, hv, hs, hq, _⟩ := open_row Pm.cells 4 64 (Pm.Ok w) (by decide) (by decide) Pm.cells_len Try.underlying33 (by kernel_rfl) (by kernel_rfl) (fun _ _ _ h1 h2 h3 => open_path h1 h2 h3) h hw
  exact ⟨A, c, l, hv, hs, fun m hm => (hq m hm).sd⟩
set_option maxRecDepth 100000 in
theorem open_proof {r : Reach} {b0 : Nat} {v : Value} {d : DataW H} {p : List MemPlace} (hv : Value.okWide Try.prog w r b0 35 v) (h : DataW.Trod enc Try.prog w base spare held 35 v d p) (hw : Wt Try.prog 35 d) :
    ∃ n A c l, v = .agg #[.int .i64 n, .slice A l.length c] ∧ PmS w A c l := by
  obtain ⟨cs, rfl, hsz⟩ := okWide_struct Try.underlying35 hv
  rw [show Try.prog.cellsOf 35 = 2 by kernel_rfl] at hsz
  obtain ⟨fuel, hf⟩ := h
  obtain ⟨l⟩ := cs
  match l, hsz with
  | [c0, c1], _ =>
    obtain ⟨n, hg⟩ := fields_of Try.underlying35 (by kernel_rfl) hf hw
    obtain ⟨y0, h0, w0⟩ := hg 0 _ rfl c0 rfl
    obtain ⟨y1, h1, w1⟩ := hg 1 _ rfl c1 rfl
    obtain ⟨n0, rfl, a0⟩ := one_int Try.underlying3 h0
    obtain ⟨A, c, l, rfl, hs⟩ := open_paths h1 w1
    exact ⟨n0, A, c, l, rfl, hs⟩
end
end Go.Proofs.Ytfgpchffkpomoaa

/- Arguments of chapter 4's statements, opened: records and proofs, each list within its capacity. -/
namespace Go.Proofs.Ytfgpchffkpomoaa
set_option linter.unusedSimpArgs false
set_option linter.unusedVariables false
open Go.ChangeShapes Go.WideShapes Go.RowKit

section
variable {H : Type} {enc : TypeId × Value → H} {w : World} {base : Nat} {spare : Nat → Bool} {held : Bool}
set_option maxRecDepth 100000 in
theorem open_rcsc {r : Reach} {b0 : Nat} {v : Value} {d : DataW H} {p : List MemPlace} (hv : Value.okWide Try.prog w r b0 22 v) (h : DataW.Trod enc Try.prog w base spare held 22 v d p) (hw : Wt Try.prog 22 d) :
    ∃ A c l, v = .slice A l.length c ∧ RcS w A c l ∧ (∀ m ∈ l, m.Ok) ∧ l.length * 32 ≤ 140737488351232 ∧ l.length ≤ c := by
  obtain ⟨a, len, cap, rfl⟩ := okWide_slice Try.underlying22 hv
  obtain ⟨fuel, hf⟩ := h
  exact open_rowc Rc.cells 2 32 Rc.Ok (by decide) (by decide) Rc.cells_len Try.underlying22 (by kernel_rfl) (by kernel_rfl) (fun _ _ _ h1 h2 h3 => open_rc h1 h2 h3) hf hw
theorem open_sidesc {fuel : Nat} {v : Value} {x : DataW H × List MemPlace} (h : DataW.trod enc Try.prog w base spare held fuel 54 [v] = some x) (hw : Wt Try.prog 54 x.1) :
    ∃ A c l, v = .slice A l.length c ∧ TxS w A c l ∧ (∀ s ∈ l, s.size ≤ 140737488351232) ∧ l.length * 16 ≤ 140737488351232 ∧ l.length ≤ c :=
  open_rowc textCells 1 16 (fun s => s.size ≤ 140737488351232) (by decide) (by decide) textCells_len Try.underlying54 (by kernel_rfl) (by kernel_rfl) (fun _ _ _ h1 h2 h3 => open_side h1 h2 h3) h hw
structure Pm.Okc (w : World) (m : Pm) : Prop where
  sd : TxS w m.A m.c m.sides
  cap : m.sides.length ≤ m.c
theorem open_pathc {fuel : Nat} {cs : List Value} {x : DataW H × List MemPlace} (h : DataW.trod enc Try.prog w base spare held fuel 179 cs = some x) (hw : Wt Try.prog 179 x.1) (hl : cs.length = 4) : ∃ m : Pm, cs = m.cells ∧ m.Okc w := by
  obtain ⟨n, hf⟩ := fields_of Try.underlying179 (by kernel_rfl) h hw
  match cs, hl with
  | [a, b, c, d], _ =>
    obtain ⟨y0, h0, w0⟩ := hf 0 _ rfl a rfl
    obtain ⟨y1, h1, w1⟩ := hf 1 _ rfl b rfl
    obtain ⟨y2, h2, w2⟩ := hf 2 _ rfl c rfl
    obtain ⟨y3, h3, w3⟩ := hf 3 _ rfl d rfl
    obtain ⟨n, rfl, a1, a2⟩ := one_int Try.underlying3 h0
    obtain ⟨s, rfl, b1⟩ := one_text Try.underlying9 h1 w1
    obtain ⟨t, rfl, c1⟩ := one_text Try.underlying9 h2 w2
    obtain ⟨A, cc, l, rfl, hs, _, _, hc⟩ := open_sidesc h3 w3
    exact ⟨⟨n, s, t, l, A, cc⟩, rfl, ⟨hs, hc⟩⟩
theorem open_pathsc {fuel : Nat} {v : Value} {x : DataW H × List MemPlace} (h : DataW.trod enc Try.prog w base spare held fuel 33 [v] = some x) (hw : Wt Try.prog 33 x.1) :
    ∃ A c l, v = .slice A l.length c ∧ PmS w A c l ∧ (∀ m ∈ l, m.sides.length ≤ m.c) ∧ l.length ≤ c := by
  obtain ⟨A, c, l, hv, hs, hq, _, hc⟩ := open_rowc Pm.cells 4 64 (Pm.Okc w) (by decide) (by decide) Pm.cells_len Try.underlying33 (by kernel_rfl) (by kernel_rfl) (fun _ _ _ h1 h2 h3 => open_pathc h1 h2 h3) h hw
  exact ⟨A, c, l, hv, ⟨hs, fun m hm => (hq m hm).sd⟩, fun m hm => (hq m hm).cap, hc⟩
set_option maxRecDepth 100000 in
theorem open_proofc {r : Reach} {b0 : Nat} {v : Value} {d : DataW H} {p : List MemPlace} (hv : Value.okWide Try.prog w r b0 35 v) (h : DataW.Trod enc Try.prog w base spare held 35 v d p) (hw : Wt Try.prog 35 d) :
    ∃ n A c l, v = .agg #[.int .i64 n, .slice A l.length c] ∧ PmS w A c l ∧ (∀ m ∈ l, m.sides.length ≤ m.c) ∧ l.length ≤ c := by
  obtain ⟨cs, rfl, hsz⟩ := okWide_struct Try.underlying35 hv
  rw [show Try.prog.cellsOf 35 = 2 by kernel_rfl] at hsz
  obtain ⟨fuel, hf⟩ := h
  obtain ⟨l⟩ := cs
  match l, hsz with
  | [c0, c1], _ =>
    obtain ⟨n, hg⟩ := fields_of Try.underlying35 (by kernel_rfl) hf hw
    obtain ⟨y0, h0, w0⟩ := hg 0 _ rfl c0 rfl
    obtain ⟨y1, h1, w1⟩ := hg 1 _ rfl c1 rfl
    obtain ⟨n0, rfl, a0⟩ := one_int Try.underlying3 h0
    obtain ⟨A, c, l, rfl, hs⟩ := open_pathsc h1 w1
    exact ⟨n0, A, c, l, rfl, hs⟩
end
end Go.Proofs.Ytfgpchffkpomoaa
