/- The document's Put and Drop: the walks. -/
import Derived.Test.YtfgpchffkpomoaaTreeP
namespace Go.Proofs.Ytfgpchffkpomoaa
set_option linter.unusedSimpArgs false
set_option linter.unusedVariables false
open Go.RowKit

/-- What Put has laid behind k records, p being the key's place. -/
def outK (l : List Rc) (key val : ByteArray) (p k : Nat) : List Rc := if p < k then l.take p ++ ⟨key, val⟩ :: ((l.take k).drop p).filter (notK key) else l.take k
theorem outK_le (l : List Rc) (key val : ByteArray) (p k : Nat) : (outK l key val p k).length ≤ k + 1 := by
  unfold outK
  split
  · have := List.length_filter_le (notK key) ((l.take k).drop p)
    simp at this ⊢
    omega
  · simp
    omega
theorem take_one {l : List Rc} {k : Nat} {x : Rc} (h : l[k]? = some x) : l.take (k + 1) = l.take k ++ [x] := by
  obtain ⟨hk, rfl⟩ := List.getElem?_eq_some_iff.1 h
  exact List.take_succ_eq_append_getElem hk
theorem outK_below {l : List Rc} {key val : ByteArray} {p k : Nat} {x : Rc} (hp : k < p) (h : l[k]? = some x) : outK l key val p k ++ [x] = outK l key val p (k + 1) := by
  unfold outK
  rw [if_neg (by omega), if_neg (by omega), take_one h]
theorem drop_take_one {l : List Rc} {k p : Nat} {x : Rc} (hp : p ≤ k) (h : l[k]? = some x) : (l.take (k + 1)).drop p = (l.take k).drop p ++ [x] := by
  have hk := (List.getElem?_eq_some_iff.1 h).1
  rw [take_one h, List.drop_append_of_le_length (by simp; omega)]
theorem outK_same {l : List Rc} {key val : ByteArray} {k : Nat} {x : Rc} (h : l[k]? = some x) (he : x.key = key) : outK l key val k k ++ [⟨key, val⟩] = outK l key val k (k + 1) := by
  unfold outK
  rw [if_neg (by omega), if_pos (by omega), drop_take_one (Nat.le_refl k) h, List.drop_of_length_le (by simp; omega), List.nil_append, List.filter_cons_of_neg (by rw [notK_iff]; simpa using he)]
  rfl
theorem outK_at {l : List Rc} {key val : ByteArray} {k : Nat} {x : Rc} (h : l[k]? = some x) (he : x.key ≠ key) : (outK l key val k k ++ [⟨key, val⟩]) ++ [x] = outK l key val k (k + 1) := by
  unfold outK
  rw [if_neg (by omega), if_pos (by omega), drop_take_one (Nat.le_refl k) h, List.drop_of_length_le (by simp; omega), List.nil_append, List.filter_cons_of_pos (notK_iff.2 he)]
  simp
theorem outK_above {l : List Rc} {key val : ByteArray} {p k : Nat} {x : Rc} (hp : p < k) (h : l[k]? = some x) (he : x.key ≠ key) : outK l key val p k ++ [x] = outK l key val p (k + 1) := by
  unfold outK
  rw [if_pos hp, if_pos (by omega), drop_take_one (by omega) h, List.filter_append, List.filter_cons_of_pos (notK_iff.2 he)]
  simp
theorem outK_end {l : List Rc} {key val : ByteArray} {p : Nat} (hp : p = placeP l key) (h : p < l.length) : outK l key val p l.length = putD l key val := by
  unfold outK putD
  rw [if_pos h, List.take_of_length_le (Nat.le_refl _), ← hp]
theorem outK_last {l : List Rc} {key val : ByteArray} {p : Nat} (hp : p = placeP l key) (h : ¬ p < l.length) : outK l key val p l.length ++ [⟨key, val⟩] = putD l key val := by
  have hle := plc_le l key
  rw [← hp] at hle
  unfold outK putD
  rw [if_neg h, List.take_of_length_le (Nat.le_refl _), ← hp, List.take_of_length_le (by omega), List.drop_of_length_le (by omega)]
  rfl
theorem rc_one (x : Rc) : ∀ u ∈ x.cells, u.oneCell' = true := fun u hu => by
  simp only [Rc.cells, List.mem_cons, List.not_mem_nil, or_false] at hu
  rcases hu with rfl | rfl <;> rfl
/-- A list of records of one's own. -/
def RSt (w0 wr : World) (A : Option Addr) (c : Nat) (L : List Rc) : Prop := Below w0.heap.size w0 wr ∧ wr.ownsRow w0.heap.size 131 2 (.slice A L.length c) L.length (L.flatMap Rc.cells)
theorem RSt.app {w0 wr w6 : World} {A A2 : Option Addr} {c c2 : Nat} {L : List Rc} {o : Obj} {x : Rc} (h : RSt w0 wr A c L) (ho : w6.ownsRow w0.heap.size 131 2 (.slice A2 (L.length + 1) c2) (L.length + 1) (L.flatMap Rc.cells ++ x.cells)) (hc : Ch (wr.alloc o).heap.size (Row A) (wr.alloc o) w6) : RSt w0 w6 A2 c2 (L ++ [x]) := by
  refine ⟨below_app h.1 h.1.size hc (fun k hk => (own_row h.2 hk).1), ?_⟩
  rw [List.length_append, List.flatMap_append]
  simpa using ho
theorem RSt.app2 {w0 wr w6 : World} {A A2 : Option Addr} {c c2 : Nat} {L : List Rc} {o : Obj} {x y : Rc} (h : RSt w0 wr A c (L ++ [y])) (ho : w6.ownsRow w0.heap.size 131 2 (.slice A2 (L.length + 1 + 1) c2) (L.length + 1 + 1) (L.flatMap Rc.cells ++ y.cells ++ x.cells)) (hc : Ch (wr.alloc o).heap.size (Row A) (wr.alloc o) w6) : RSt w0 w6 A2 c2 ((L ++ [y]) ++ [x]) := by
  refine RSt.app h ?_ hc
  rw [show (L ++ [y]).length = L.length + 1 by simp, show (L ++ [y]).flatMap Rc.cells = L.flatMap Rc.cells ++ y.cells by simp [List.flatMap_append]]
  exact ho
theorem RSt.nil (w : World) : RSt w w none 0 [] := ⟨Below.refl _ _, ⟨rfl, .inl ⟨rfl, rfl⟩⟩⟩
def RPutPost (w : World) (L : List Rc) (e : Ending) (w' : World) : Prop := ∃ A c, e = .returned (.slice A L.length c) ∧ RSt w w' A c L

set_option maxHeartbeats 4000000 in
set_option maxRecDepth 100000 in
theorem rPut_calls (A : Option Addr) (c : Nat) (l : List Rc) (key val : ByteArray) (w : World) (hs : RcS w A c l) (hl : l.length ≤ 1000) (hr : Rising l) :
    Calls Try.prog 79 #[.slice A l.length c, .string key, .string val] w (RPutPost w (putD l key val)) := by
  have HS := Lib.hid hs
  have HR := Lib.hid hr
  have hfit := hs.fits
  have hpl := plc_le l key
  obtain ⟨p, hp⟩ : ∃ p, p = placeP l key := ⟨_, rfl⟩
  rw [← hp] at hpl
  have HP := Lib.hid hp
  clear hs hr hp
  go_enter Try.func79, Try.ntmps79
  go_wp2_with fail
  go_loopg [7, 8, 9] l.length (fun g v7 v8 v9 wr => ∃ (k : Nat) (A1 : Option Addr) (c1 : Nat) (L : List Rc), v7 = .slice A1 L.length c1 ∧ v8 = .bool (decide (p < k)) ∧ v9 = .int .i64 k ∧ k ≤ l.length ∧ Hid (g + k = l.length ∧ L = outK l key val p k ∧ RSt w wr A1 c1 L))
  case atStart => exact ⟨0, none, 0, [], rfl, rfl, rfl, by omega, by omega, by unfold outK; rw [if_neg (by omega)]; simp, RSt.nil w⟩
  case round =>
    obtain ⟨k, A1, c1, L, rfl, rfl, rfl, hk, HH⟩ := hrel
    obtain ⟨hg, hL, hst⟩ := HH.out
    have HG := Lib.hid hg
    have HST := Lib.hid hst
    have hLl : L.length ≤ k + 1 := by rw [hL]; exact outK_le _ _ _ _ _
    have HL := Lib.hid hL
    clear HH hg hL hst
    by_cases hlt : k < l.length
    · have hd2 : decide ((k : Int) < (l.length : Int)) = true := by simp; omega
      obtain ⟨a, rfl, e0, e1⟩ := (HS.out.below HST.out.1).elem k hlt
      obtain ⟨x, hx⟩ : ∃ x, x = l[k] := ⟨_, rfl⟩
      rw [← hx] at e0 e1
      have hxk : l[k]? = some x := by rw [List.getElem?_eq_getElem hlt, hx]
      have HX := Lib.hid hxk
      have HXE := Lib.hid hx
      clear hx
      obtain ⟨xk, xv⟩ := x
      simp only at e0 e1 hxk
      have hbq := beq_list xk key
      have hpe : xk = key → p = k := fun he => by
        rw [HP.out]
        exact plc_eq (by omega) (fun j y hj hy => by
          have := HR.out j k y _ hj hy hxk
          rwa [he] at this) (fun y hy => by
          obtain rfl := Option.some.inj (hy.symm.trans hxk)
          rw [he]; exact lsB_irrefl _)
      rcases Nat.lt_trichotomy k p with hkp | hkp | hkp
      · -- ahead of the place
        have hdn : decide (p < k) = false := decide_eq_false (by omega)
        have hls : lsB xk key = true := plc_below (by rw [← HP.out]; exact hkp) hxk
        have hq : Op.bytesLess xk.toList key.toList = true := hls
        have hne : ¬ xk = key := fun he => by have := hpe he; omega
        rw [decide_eq_false hne] at hbq
        have HKP := Lib.hid hkp
        have hk1 : Op.bytesLess key.toList xk.toList = false := by
          cases h : lsB key xk with
          | false => exact h
          | true =>
            have := lsB_trans hls h
            rw [lsB_irrefl] at this
            cases this
        have hk2 := beq_list key xk
        rw [decide_eq_false (fun e => hne e.symm)] at hk2
        clear hpe hls hne hxk hkp
        rw [hdn]
        go_wp2_with (at_builtin; refine app_row rfl (.tmp 40) (.tmp 45) 22 rfl w.heap.size 131 _ 2 32 info_rc0 Try.underlying22 rfl (by decide) A1 c1 L.length (L.flatMap Rc.cells) rfl (HST.out.2.alloc _) _ 1 1 (Rc.cells (⟨xk, xv⟩ : Rc)) rfl rfl (news_box (Box.new _ #[.string (⟨xk, xv⟩ : Rc).key, .string (⟨xk, xv⟩ : Rc).val] 131)) (rc_one (⟨xk, xv⟩ : Rc)) ?hb1 ?hb2 ?hb3 ?_; (case hb1 => (try simp only [List.length_append, List.length_cons, List.length_nil]); omega); (case hb2 => (try simp only [List.length_append, List.length_cons, List.length_nil]); omega); (case hb3 => have := HST.out.1.size; simp; omega); intro A2 c2 w6 ho hc hA; have HST2 := Lib.hid (RSt.app HST.out ho hc); have HOW := Lib.hid ho; clear ho hc hA)
        go_roundg (gk - 1)
        case measure => have := HG.out; omega
        case rel => exact ⟨k + 1, A2, c2, L ++ [⟨xk, xv⟩], by simp, by rw [decide_eq_false (by have := HKP.out; omega)], by go_num, by omega, by have := HG.out; omega, by rw [HL.out]; exact outK_below HKP.out HX.out, HST2.out⟩
      · -- at the place
        subst hkp
        have hdn : decide (k < k) = false := decide_eq_false (by omega)
        have hls : lsB xk key = false := by
          have h := HX.out
          rw [HP.out] at h
          exact plc_at h
        have hq : Op.bytesLess xk.toList key.toList = false := hls
        rw [hdn]
        by_cases he : xk = key
        · rw [decide_eq_true he] at hbq
          have HE := Lib.hid he
          have hk2 := beq_list key xk
          rw [decide_eq_true he.symm] at hk2
          clear hpe hls hxk he
          go_wp2_with (at_builtin; refine app_row rfl (.tmp 27) (.tmp 31) 22 rfl w.heap.size 131 _ 2 32 info_rc0 Try.underlying22 rfl (by decide) A1 c1 L.length (L.flatMap Rc.cells) rfl (HST.out.2.alloc _) _ 1 1 (Rc.cells (⟨key, val⟩ : Rc)) rfl rfl (news_box (Box.new _ #[.string (⟨key, val⟩ : Rc).key, .string (⟨key, val⟩ : Rc).val] 131)) (rc_one (⟨key, val⟩ : Rc)) ?hb1 ?hb2 ?hb3 ?_; (case hb1 => (try simp only [List.length_append, List.length_cons, List.length_nil]); omega); (case hb2 => (try simp only [List.length_append, List.length_cons, List.length_nil]); omega); (case hb3 => have := HST.out.1.size; simp; omega); intro A2 c2 w6 ho hc hA; have HST2 := Lib.hid (RSt.app HST.out ho hc); have HOW := Lib.hid ho; clear ho hc hA; clear e0 e1; obtain ⟨a', ha', e0, e1⟩ := (HS.out.below HST2.out.1).elem k hlt; cases ha'; rw [← HXE.out] at e0 e1; simp only at e0 e1)
          go_roundg (gk - 1)
          case measure => have := HG.out; omega
          case rel => exact ⟨k + 1, A2, c2, L ++ [⟨key, val⟩], by simp, by rw [decide_eq_true (by omega)], by go_num, by omega, by have := HG.out; omega, by rw [HL.out]; exact outK_same HX.out HE.out, HST2.out⟩
        · rw [decide_eq_false he] at hbq
          have HE := Lib.hid he
          have hk1 : Op.bytesLess key.toList xk.toList = true := by
            cases h : lsB key xk with
            | true => exact h
            | false => exact absurd (lsB_tri hls h) he
          clear hpe hls hxk he
          go_wp2_with (first | (at_builtin; refine app_row rfl (.tmp 27) (.tmp 31) 22 rfl w.heap.size 131 _ 2 32 info_rc0 Try.underlying22 rfl (by decide) A1 c1 L.length (L.flatMap Rc.cells) rfl (HST.out.2.alloc _) _ 1 1 (Rc.cells (⟨key, val⟩ : Rc)) rfl rfl (news_box (Box.new _ #[.string (⟨key, val⟩ : Rc).key, .string (⟨key, val⟩ : Rc).val] 131)) (rc_one (⟨key, val⟩ : Rc)) ?hb1 ?hb2 ?hb3 ?_; (case hb1 => (try simp only [List.length_append, List.length_cons, List.length_nil]); omega); (case hb2 => (try simp only [List.length_append, List.length_cons, List.length_nil]); omega); (case hb3 => have := HST.out.1.size; simp; omega); intro A2 c2 w6 ho hc hA; have HST2 := Lib.hid (RSt.app HST.out ho hc); have HOW := Lib.hid ho; clear ho hc hA; clear e0 e1; obtain ⟨a', ha', e0, e1⟩ := (HS.out.below HST2.out.1).elem k hlt; cases ha'; rw [← HXE.out] at e0 e1; simp only at e0 e1) | (at_builtin; refine app_row rfl (.tmp 40) (.tmp 45) 22 rfl w.heap.size 131 _ 2 32 info_rc0 Try.underlying22 rfl (by decide) A2 c2 (L.length + 1) (L.flatMap Rc.cells ++ (⟨key, val⟩ : Rc).cells) rfl (HOW.out.alloc _) _ 1 1 (Rc.cells (⟨xk, xv⟩ : Rc)) rfl rfl (news_box (Box.new _ #[.string (⟨xk, xv⟩ : Rc).key, .string (⟨xk, xv⟩ : Rc).val] 131)) (rc_one (⟨xk, xv⟩ : Rc)) ?hb1 ?hb2 ?hb3 ?_; (case hb1 => (try simp only [List.length_append, List.length_cons, List.length_nil]); omega); (case hb2 => (try simp only [List.length_append, List.length_cons, List.length_nil]); omega); (case hb3 => have := HST2.out.1.size; simp; omega); intro A3 c3 w7 ho hc hA; have HST3 := Lib.hid (RSt.app2 HST2.out ho hc); have HOW := Lib.hid ho; clear ho hc hA))
          go_roundg (gk - 1)
          case measure => have := HG.out; omega
          case rel => exact ⟨k + 1, A3, c3, (L ++ [⟨key, val⟩]) ++ [⟨xk, xv⟩], by simp, by rw [decide_eq_true (by omega)], by go_num, by omega, by have := HG.out; omega, by rw [HL.out]; exact outK_at HX.out HE.out, HST3.out⟩
      · -- behind it
        have hdn : decide (p < k) = true := decide_eq_true (by omega)
        have hne : ¬ xk = key := fun he => by have := hpe he; omega
        rw [decide_eq_false hne] at hbq
        have HNE := Lib.hid hne
        have HKP := Lib.hid hkp
        clear hpe hne hxk hkp
        rw [hdn]
        go_wp2_with (at_builtin; refine app_row rfl (.tmp 40) (.tmp 45) 22 rfl w.heap.size 131 _ 2 32 info_rc0 Try.underlying22 rfl (by decide) A1 c1 L.length (L.flatMap Rc.cells) rfl (HST.out.2.alloc _) _ 1 1 (Rc.cells (⟨xk, xv⟩ : Rc)) rfl rfl (news_box (Box.new _ #[.string (⟨xk, xv⟩ : Rc).key, .string (⟨xk, xv⟩ : Rc).val] 131)) (rc_one (⟨xk, xv⟩ : Rc)) ?hb1 ?hb2 ?hb3 ?_; (case hb1 => (try simp only [List.length_append, List.length_cons, List.length_nil]); omega); (case hb2 => (try simp only [List.length_append, List.length_cons, List.length_nil]); omega); (case hb3 => have := HST.out.1.size; simp; omega); intro A2 c2 w6 ho hc hA; have HST2 := Lib.hid (RSt.app HST.out ho hc); have HOW := Lib.hid ho; clear ho hc hA)
        go_roundg (gk - 1)
        case measure => have := HG.out; omega
        case rel => exact ⟨k + 1, A2, c2, L ++ [⟨xk, xv⟩], by simp, by rw [decide_eq_true (by have := HKP.out; omega)], by go_num, by omega, by have := HG.out; omega, by rw [HL.out]; exact outK_above HKP.out HX.out HNE.out, HST2.out⟩
    · have hd2 : decide ((k : Int) < (l.length : Int)) = false := by simp; omega
      obtain rfl : k = l.length := by omega
      by_cases hpl2 : p < l.length
      · have hdn : decide (p < l.length) = true := decide_eq_true hpl2
        rw [hdn]
        have HPL := Lib.hid hpl2
        clear hpl2 hdn
        go_wp2
        go_ret
        have hfin : L = putD l key val := by rw [HL.out]; exact outK_end HP.out HPL.out
        rw [← hfin]
        exact ⟨A1, c1, rfl, HST.out⟩
      · have hdn : decide (p < l.length) = false := decide_eq_false hpl2
        rw [hdn]
        have HPL := Lib.hid hpl2
        clear hpl2 hdn
        go_wp2_with (at_builtin; refine app_row rfl (.tmp 49) (.tmp 53) 22 rfl w.heap.size 131 _ 2 32 info_rc0 Try.underlying22 rfl (by decide) A1 c1 L.length (L.flatMap Rc.cells) rfl (HST.out.2.alloc _) _ 1 1 (Rc.cells (⟨key, val⟩ : Rc)) rfl rfl (news_box (Box.new _ #[.string (⟨key, val⟩ : Rc).key, .string (⟨key, val⟩ : Rc).val] 131)) (rc_one (⟨key, val⟩ : Rc)) ?hb1 ?hb2 ?hb3 ?_; (case hb1 => (try simp only [List.length_append, List.length_cons, List.length_nil]); omega); (case hb2 => (try simp only [List.length_append, List.length_cons, List.length_nil]); omega); (case hb3 => have := HST.out.1.size; simp; omega); intro A2 c2 w6 ho hc hA; have HST2 := Lib.hid (RSt.app HST.out ho hc); have HOW := Lib.hid ho; clear ho hc hA)
        go_ret
        have hfin : L ++ [⟨key, val⟩] = putD l key val := by rw [HL.out]; exact outK_last HP.out HPL.out
        rw [← hfin]
        exact ⟨A2, c2, by simp, HST2.out⟩
end Go.Proofs.Ytfgpchffkpomoaa
