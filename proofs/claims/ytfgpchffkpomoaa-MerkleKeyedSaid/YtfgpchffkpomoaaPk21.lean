/- Texts of this proof, several in one file; each says ahead of it what it proves. -/
import Derived.Test.YtfgpchffkpomoaaPk20
import Derived.Test.YtfgpchffkpomoaaPk15
/- The top of leaves: the walk. -/
namespace Go.Proofs.Ytfgpchffkpomoaa
set_option linter.unusedSimpArgs false
set_option linter.unusedVariables false
open Go.RowKit

theorem TxS.drewN {w : World} {A : Option Addr} {c : Nat} {l : List ByteArray} (h : TxS w A c l) (q : Nat) : TxS (w.drewN q) A c l := ⟨h.len, h.fits, h.at_⟩
theorem TxS.drew {w : World} {A : Option Addr} {c : Nat} {l : List ByteArray} (h : TxS w A c l) : TxS w.drew A c l := h.drewN 1
theorem RcS.drewN {w : World} {A : Option Addr} {c : Nat} {l : List Rc} (h : RcS w A c l) (q : Nat) : RcS (w.drewN q) A c l := ⟨h.len, h.fits, h.at_⟩
theorem txt_cells (l : List ByteArray) : l.flatMap textCells = l.map Value.string := by
  induction l with
  | nil => rfl
  | cons s l ih => rw [List.flatMap_cons, ih]; rfl
theorem TxS.drop {w : World} {a : Addr} {c : Nat} {l : List ByteArray} (h : TxS w (some a) c l) (k : Nat) : TxS w (some (a.add k)) (c - k) (l.drop k) := by
  refine ⟨by simpa using flat_len textCells 1 textCells_len (l.drop k), by have := h.fits; simp; omega, fun j u hj => ?_⟩
  rw [txt_cells, List.map_drop, List.getElem?_drop, ← txt_cells] at hj
  obtain ⟨a', e, hc⟩ := h.at_ _ u hj
  obtain rfl := Option.some.inj e
  exact ⟨_, rfl, by rw [Addr.add_add]; exact hc⟩
theorem top_join {T T1 T2 : List ByteArray} {l : List ByteArray} (hl : 1 < l.length) (e1 : Ext T T1) (e2 : Ext T1 T2) (t1 : TopIn T1 (l.take (half l.length))) (t2 : TopIn T2 (l.drop (half l.length))) :
    (digS T2 (nodeT (topP (hh T1) (l.take (half l.length))) (topP (hh T2) (l.drop (half l.length))))).1 = topP (hh (digS T2 (nodeT (topP (hh T1) (l.take (half l.length))) (topP (hh T2) (l.drop (half l.length))))).2) l ∧
    Ext T (digS T2 (nodeT (topP (hh T1) (l.take (half l.length))) (topP (hh T2) (l.drop (half l.length))))).2 ∧
    TopIn (digS T2 (nodeT (topP (hh T1) (l.take (half l.length))) (topP (hh T2) (l.drop (half l.length))))).2 l := by
  obtain ⟨kn1, kn2, kn3⟩ := dig_known T2 (nodeT (topP (hh T1) (l.take (half l.length))) (topP (hh T2) (l.drop (half l.length))))
  rw [kn3]
  obtain ⟨T3, hT3⟩ : ∃ x, x = (digS T2 (nodeT (topP (hh T1) (l.take (half l.length))) (topP (hh T2) (l.drop (half l.length))))).2 := ⟨_, rfl⟩
  rw [← hT3] at kn1 kn2 ⊢
  obtain ⟨a1, a2⟩ := t1.ext (e2.trans kn1)
  obtain ⟨b1, b2⟩ := t2.ext kn1
  rw [← a2, ← b2] at kn2 ⊢
  exact ⟨(topP_more hl).symm, (e1.trans e2).trans kn1, .more hl a1 b1 kn2⟩
def TopPost (w0 : World) (b t m n : Nat) (T : List ByteArray) (S : List Wd) (l : List ByteArray) (e : Ending) (w' : World) : Prop :=
  ∃ T', e = .returned (.string (topP (hh T') l)) ∧ Ext T T' ∧ T'.length ≤ T.length + (l.length - 1) ∧ TopIn T' l ∧ Ch w0.heap.size (· = m) w0 w' ∧ Bk w' b t m n T' S

set_option maxHeartbeats 2000000 in
set_option maxRecDepth 100000 in
theorem top_calls (b t m n : Nat) (S : List Wd) : ∀ (N : Nat) (T : List ByteArray) (A : Option Addr) (c : Nat) (l : List ByteArray) (w : World), l.length = N → Bk w b t m n T S → T.length + l.length ≤ 1000000000 → TxS w A c l → l.length ≤ c → l.length ≤ 100000 → (∀ x ∈ l, x.size ≤ 1000) → Off A l.length m →
    Calls Try.prog 99 #[.pointer (some ⟨b, 0, none⟩), .slice A l.length c] w (TopPost w b t m n T S l) := by
  intro N
  induction N using Nat.strongRecOn with
  | ind N ih =>
    intro T A c l w hN hb hT hs hlc hl hsz hA
    subst hN
    have IH := Lib.hid ih
    have HS := Lib.hid hs
    have HSZ := Lib.hid hsz
    have HA := Lib.hid hA
    have hfit := hs.fits
    have hml := hb.tm.lt
    have HB := Lib.hid hb
    clear ih hb hs hsz hA
    by_cases h1 : 1 < l.length
    · have hd0 : (((l.length : Nat) : Int) == 0) = false := by rw [beq_eq_false_iff_ne]; omega
      have hd1 : (((l.length : Nat) : Int) == 1) = false := by rw [beq_eq_false_iff_ne]; omega
      have hhl := half_lt h1
      obtain ⟨k, hk⟩ : ∃ k, k = half l.length := ⟨_, rfl⟩
      have HH := Lib.hid (fun w => half_calls l.length w (by omega))
      rw [← hk] at HH hhl
      have HK := Lib.hid hk
      clear hk
      go_enter Try.func99, Try.ntmps99
      go_wp2_with fail
      refine (HH.out _).mono ?_
      rintro e w1 ⟨rfl, rfl⟩
      go_wp2_with fail
      obtain ⟨a, rfl⟩ : ∃ a, A = some a := by
        obtain ⟨a, e, _⟩ := HS.out.elem 0 (by omega)
        exact ⟨a, e⟩
      have hlk : (l.take k).length = k := by simp; omega
      have C1 := Lib.hid (show ∀ w, Bk w b t m n T S → TxS w (some a) c (l.take k) → Calls Try.prog 99 #[.pointer (some ⟨b, 0, none⟩), .slice (some a) k c] w (TopPost w b t m n T S (l.take k)) from fun w hb hs => by
        have := IH.out k (by omega) T (some a) c (l.take k) w hlk hb (by omega) hs (by omega) (by omega) (fun x hx => HSZ.out x (List.mem_of_mem_take hx)) (fun _ => HA.out (by omega))
        rwa [hlk] at this)
      have hdr : (l.drop k).length = l.length - k := by simp
      have C2 := Lib.hid (show ∀ w T1, Bk w b t m n T1 S → T1.length + (l.length - k) ≤ 1000000000 → TxS w (some (a.add k)) (c - k) (l.drop k) → Calls Try.prog 99 #[.pointer (some ⟨b, 0, none⟩), .slice (some (a.add k)) (l.length - k) (c - k)] w (TopPost w b t m n T1 S (l.drop k)) from fun w T1 hb ht hs => by
        have := IH.out (l.length - k) (by omega) T1 (some (a.add k)) (c - k) (l.drop k) w hdr hb (by omega) hs (by omega) (by omega) (fun x hx => HSZ.out x (List.mem_of_mem_drop hx)) (fun _ j hj => HA.out (by omega) j (by simpa [Row, Sl.add_block] using hj))
        rwa [hdr] at this)
      have hbk := HB.out.drew
      have hst := HS.out.drew
      have hcc := (Ch.refl w1.heap.size (· = m) w1).drew
      have hk0 : (0 : Int) ≤ (k : Int) := by omega
      have hk1 : (k : Int) ≤ (l.length : Int) := by omega
      have hk2 : (k : Int) ≤ (c : Int) := by omega
      go_region_held3 (fun _ => True) (first | exact trivial) (first | (go_at_call 99; refine (C1.out _ hbk (TxS.take hst k)).mono ?_; rintro e w2 ⟨T1, rfl, e1, l1, t1, c1, k1⟩; have hst2 := hst.off c1 HA.out; clear hbk) | (go_at_call 99; refine (C2.out _ _ k1 (by omega) (TxS.drop hst2 k)).mono ?_; rintro e w3 ⟨T2, rfl, e2, l2, t2, c2, k2⟩) | (go_at_call 154; refine (node_calls b t m n T2 S _ _ _ k2 (by omega) (by have := topP_size (T := T1) (l := l.take k) (fun x hx => HSZ.out x (List.mem_of_mem_take hx)); unfold maxLen; omega) (by have := topP_size (T := T2) (l := l.drop k) (fun x hx => HSZ.out x (List.mem_of_mem_drop hx)); unfold maxLen; omega)).mono ?_; rintro e w4 ⟨rfl, c4, k4⟩))
      all_goals go_wp2
      all_goals go_ret
      all_goals
        have hkk := HK.out
        have hdl := digT_len T2 (nodeT (topP (hh T1) (l.take k)) (topP (hh T2) (l.drop k)))
        have hc4 := ((hcc.step c1 (Nat.le_refl _) (fun _ _ e => e)).step c2 c1.size (fun _ _ e => e)).step c4 (Nat.le_trans c1.size c2.size) (fun _ _ e => e)
        subst hkk
        obtain ⟨j1, j2, j3⟩ := top_join h1 e1 e2 t1 t2
        exact ⟨_, by rw [j1]; rfl, j2, by omega, j3, hc4, k4⟩
    · have HP := Lib.hid (topP_few (h := hh T) h1)
      have HIN := Lib.hid (TopIn.few (T := T) h1)
      by_cases h0 : l.length = 0
      · have hd0 : (((l.length : Nat) : Int) == 0) = true := by rw [beq_iff_eq]; omega
        obtain rfl : l = [] := List.eq_nil_of_length_eq_zero h0
        clear h0
        go_enter Try.func99, Try.ntmps99
        go_wp2
        go_ret
        exact ⟨T, by rw [HP.out]; rfl, Ext.refl _, by simp, HIN.out, Ch.refl _ _ _, HB.out⟩
      · have hd0 : (((l.length : Nat) : Int) == 0) = false := by rw [beq_eq_false_iff_ne]; omega
        have hd1 : (((l.length : Nat) : Int) == 1) = true := by rw [beq_iff_eq]; omega
        have hlt : (0 : Nat) < l.length := by omega
        obtain ⟨a, rfl, e0⟩ := HS.out.elem 0 hlt
        have hP2 : topP (hh T) l = l[0] := by
          rw [HP.out]
          cases l with
          | nil => simp at hlt
          | cons x l => rfl
        obtain ⟨x, hx⟩ : ∃ x, x = l[0] := ⟨_, rfl⟩
        rw [← hx] at e0 hP2
        rw [show a.add 0 = a by simp [Addr.add]] at e0
        have HP2 := Lib.hid hP2
        clear hx hP2 h0
        have hl0 : (0 : Int) < (l.length : Int) := by omega
        go_enter Try.func99, Try.ntmps99
        go_wp2
        go_ret
        exact ⟨T, by rw [HP2.out]; rfl, Ext.refl _, by omega, HIN.out, Ch.refl _ _ _, HB.out⟩
end Go.Proofs.Ytfgpchffkpomoaa

/- The sides of a leaf: the walk. -/
namespace Go.Proofs.Ytfgpchffkpomoaa
set_option linter.unusedSimpArgs false
set_option linter.unusedVariables false
open Go.RowKit

def SidesPost (w0 : World) (b t m n : Nat) (T : List ByteArray) (S : List Wd) (l : List ByteArray) (i : Nat) (e : Ending) (w' : World) : Prop :=
  ∃ T' A c L, e = .returned (.slice A L.length c) ∧ Hid (L = sidesP (hh T') l i) ∧ Ext T T' ∧ T'.length ≤ T.length + (l.length - 1) ∧ SidesIn T' l i ∧ Ch w0.heap.size (· = m) w0 w' ∧ Bk w' b t m n T' S ∧ w'.ownsRow w0.heap.size 9 1 (.slice A L.length c) L.length (L.flatMap textCells)

theorem sides_few {h : ByteArray → ByteArray} {l L : List ByteArray} {i : Nat} (e : L = sidesP h l i) (hl : l.length ≤ 100000) : L.length ≤ 100 := by
  have := sidesP_len h 17 l i (by omega)
  rw [e]; omega
set_option maxHeartbeats 4000000 in
set_option maxRecDepth 100000 in
theorem sides_calls (b t m n : Nat) (S : List Wd) : ∀ (N : Nat) (T : List ByteArray) (A : Option Addr) (c : Nat) (l : List ByteArray) (i : Nat) (w : World), l.length = N → Bk w b t m n T S → T.length + l.length ≤ 1000000000 → TxS w A c l → l.length ≤ c → l.length ≤ 100000 → i ≤ 100000 → (∀ x ∈ l, x.size ≤ 1000) → Off A l.length m →
    Calls Try.prog 182 #[.pointer (some ⟨b, 0, none⟩), .slice A l.length c, .int .i64 i] w (SidesPost w b t m n T S l i) := by
  intro N
  induction N using Nat.strongRecOn with
  | ind N ih =>
    intro T A c l i w hN hb hT hs hlc hl hi hsz hA
    subst hN
    have IH := Lib.hid ih
    have HS := Lib.hid hs
    have HSZ := Lib.hid hsz
    have HA := Lib.hid hA
    have hfit := hs.fits
    have HLT := Lib.hid hb.all_lt
    have hml := hb.tm.lt
    have HB := Lib.hid hb
    clear ih hb hs hsz hA
    by_cases h1 : 1 < l.length
    · have hd0 : decide (((l.length : Nat) : Int) ≤ 1) = false := by rw [decide_eq_false_iff_not]; omega
      have hhl := half_lt h1
      obtain ⟨k, hk⟩ : ∃ k, k = half l.length := ⟨_, rfl⟩
      have HH := Lib.hid (fun w => half_calls l.length w (by omega))
      rw [← hk] at HH hhl
      have HK := Lib.hid hk
      clear hk
      have hck : ¬ c = k := by omega
      have hk0 : (0 : Int) ≤ (k : Int) := by omega
      have hk1 : (k : Int) ≤ (l.length : Int) := by omega
      have hk2 : (k : Int) ≤ (c : Int) := by omega
      have hlk : (l.take k).length = k := by simp; omega
      have hdr : (l.drop k).length = l.length - k := by simp
      obtain ⟨a, rfl⟩ : ∃ a, A = some a := by
        obtain ⟨a, e, _⟩ := HS.out.elem 0 (by omega)
        exact ⟨a, e⟩
      by_cases hik : i < k
      · have hd1 : decide ((i : Int) < (k : Int)) = true := by simp; omega
        have C1 := Lib.hid (show ∀ w, Bk w b t m n T S → TxS w (some a) c (l.take k) → Calls Try.prog 182 #[.pointer (some ⟨b, 0, none⟩), .slice (some a) k c, (.int .i64 i)] w (SidesPost w b t m n T S (l.take k) i) from fun w hb hs => by
          have := IH.out k (by omega) T (some a) c (l.take k) i w hlk hb (by omega) hs (by omega) (by omega) (by omega) (fun x hx => HSZ.out x (List.mem_of_mem_take hx)) (fun _ => HA.out (by omega))
          rw [hlk] at this
          exact this)
        have C2 := Lib.hid (show ∀ w T1, Bk w b t m n T1 S → T1.length + (l.length - k) ≤ 1000000000 → TxS w (some (a.add k)) (c - k) (l.drop k) → Calls Try.prog 99 #[.pointer (some ⟨b, 0, none⟩), .slice (some (a.add k)) (l.length - k) (c - k)] w (TopPost w b t m n T1 S (l.drop k)) from fun w T1 hb ht hs => by
          have := top_calls b t m n S (l.length - k) T1 (some (a.add k)) (c - k) (l.drop k) w hdr hb (by omega) hs (by omega) (by omega) (fun x hx => HSZ.out x (List.mem_of_mem_drop hx)) (fun _ j hj => HA.out (by omega) j (by simpa [Row, Sl.add_block] using hj))
          rwa [hdr] at this)
        go_enter Try.func182, Try.ntmps182
        go_wp2_with fail
        refine (HH.out _).mono ?_
        rintro e w1 ⟨rfl, rfl⟩
        go_wp2_with fail
        have hbk := HB.out.drew
        have hst := HS.out.drew
        have hcc := (Ch.refl w1.heap.size (· = m) w1).drew
        go_region_held3 (fun _ => True) (first | exact trivial) (first | (go_at_call 182; refine (C1.out _ hbk (TxS.take hst k)).mono ?_; rintro e w2 ⟨T1, A1, cp1, L1, rfl, q1, e1, l1, t1, c1, k1, o1⟩; have hst2 := hst.off c1 HA.out; have hs12 : w1.heap.size ≤ w2.heap.size := c1.size; have o1 : w2.ownsRow w1.heap.size 9 1 (.slice A1 L1.length cp1) L1.length (L1.flatMap textCells) := o1; clear hbk) | (go_at_call 99; refine (C2.out _ _ k1 (by omega) (TxS.drop hst2 k)).mono ?_; rintro e w3 ⟨T2, rfl, e2, l2, t2, c2, k2⟩; have hs23 := c2.size; have o2 := own_ch o1 c2 (fun j hj => ⟨(own_row o1 hj).2, by have := (own_row o1 hj).1; omega⟩); have hrow : ∀ j, Row A1 j → w1.heap.size ≤ j ∧ j < w3.heap.size := (fun j hj => own_row o2 hj); obtain ⟨g, hg⟩ : ∃ g, g = topP (hh T2) (l.drop k) := ⟨_, rfl⟩; rw [← hg]; have HG := Lib.hid hg; clear hg) | (refine step_app_row rfl (.tmp 22) (.tmp 28) 54 rfl w1.heap.size 9 _ 1 16 info_str Try.underlying54 rfl (by decide) A1 cp1 L1.length (L1.flatMap textCells) rfl (o2.alloc _) ⟨w3.heap.size, 0, none⟩ 1 1 (textCells g) rfl rfl (news_box (Box.new w3 #[.string g] 9)) (text_one g) ?hb1 ?hb2 ?hb3 ?_; (case hb1 => have := sides_few q1.out (by omega); omega); (case hb2 => have := sides_few q1.out (by omega); omega); (case hb3 => simp; omega); intro A' c' w6 ho hc hA'; have o6 := ho; have c6 := ((hcc.step c1 (Nat.le_refl _) (fun _ _ e => e)).step c2 hs12 (fun _ _ e => e)).app (Nat.le_trans hs12 hs23) hc (fun j hj => (hrow j hj).1); have k6 := k2.app hc (fun j hj => (hrow j hj).1) HLT.out; clear ho hc hA'))
        all_goals go_wp2
        all_goals go_ret
        all_goals
          have hkk := HK.out
          subst hkk
          have hq := q1.out
          have hgg := HG.out
          obtain ⟨t1', ex⟩ := t1.ext e2
          refine ⟨T2, A', c', L1 ++ [g], by simp, ?_, e1.trans e2, by omega, .left h1 hik t1' t2, c6, k6, by simpa using o6⟩
          show L1 ++ [g] = _
          rw [sidesP_left h1 hik, ex, ← hq, ← hgg]
      · have hd1 : decide ((i : Int) < (k : Int)) = false := by simp; omega
        have hwr : IntKind.i64.wrap ((i : Int) - (k : Int)) = (i : Int) - (k : Int) := wrap_small _ (by omega) (by omega)
        have hik2 : ((i : Int) - (k : Int)) = ((i - k : Nat) : Int) := by omega
        have C1 := Lib.hid (show ∀ w, Bk w b t m n T S → TxS w (some (a.add k)) (c - k) (l.drop k) → Calls Try.prog 182 #[.pointer (some ⟨b, 0, none⟩), .slice (some (a.add k)) (l.length - k) (c - k), (.int .i64 ((i : Int) - (k : Int)))] w (SidesPost w b t m n T S (l.drop k) (i - k)) from fun w hb hs => by
          have := IH.out (l.length - k) (by omega) T (some (a.add k)) (c - k) (l.drop k) (i - k) w hdr hb (by omega) hs (by omega) (by omega) (by omega) (fun x hx => HSZ.out x (List.mem_of_mem_drop hx)) (fun _ j hj => HA.out (by omega) j (by simpa [Row, Sl.add_block] using hj))
          rw [hdr] at this
          rw [hik2]; exact this)
        clear hik2
        have C2 := Lib.hid (show ∀ w T1, Bk w b t m n T1 S → T1.length + k ≤ 1000000000 → TxS w (some a) c (l.take k) → Calls Try.prog 99 #[.pointer (some ⟨b, 0, none⟩), .slice (some a) k c] w (TopPost w b t m n T1 S (l.take k)) from fun w T1 hb ht hs => by
          have := top_calls b t m n S k T1 (some a) c (l.take k) w hlk hb (by omega) hs (by omega) (by omega) (fun x hx => HSZ.out x (List.mem_of_mem_take hx)) (fun _ => HA.out (by omega))
          rwa [hlk] at this)
        go_enter Try.func182, Try.ntmps182
        go_wp2_with fail
        refine (HH.out _).mono ?_
        rintro e w1 ⟨rfl, rfl⟩
        go_wp2_with fail
        have hbk := HB.out.drew
        have hst := HS.out.drew
        have hcc := (Ch.refl w1.heap.size (· = m) w1).drew
        go_region_held3 (fun _ => True) (first | exact trivial) (first | (go_at_call 182; refine (C1.out _ hbk (TxS.drop hst k)).mono ?_; rintro e w2 ⟨T1, A1, cp1, L1, rfl, q1, e1, l1, t1, c1, k1, o1⟩; have hst2 := hst.off c1 HA.out; have hs12 : w1.heap.size ≤ w2.heap.size := c1.size; have o1 : w2.ownsRow w1.heap.size 9 1 (.slice A1 L1.length cp1) L1.length (L1.flatMap textCells) := o1; clear hbk) | (go_at_call 99; refine (C2.out _ _ k1 (by omega) (TxS.take hst2 k)).mono ?_; rintro e w3 ⟨T2, rfl, e2, l2, t2, c2, k2⟩; have hs23 := c2.size; have o2 := own_ch o1 c2 (fun j hj => ⟨(own_row o1 hj).2, by have := (own_row o1 hj).1; omega⟩); have hrow : ∀ j, Row A1 j → w1.heap.size ≤ j ∧ j < w3.heap.size := (fun j hj => own_row o2 hj); obtain ⟨g, hg⟩ : ∃ g, g = topP (hh T2) (l.take k) := ⟨_, rfl⟩; rw [← hg]; have HG := Lib.hid hg; clear hg) | (refine step_app_row rfl (.tmp 37) (.tmp 43) 54 rfl w1.heap.size 9 _ 1 16 info_str Try.underlying54 rfl (by decide) A1 cp1 L1.length (L1.flatMap textCells) rfl (o2.alloc _) ⟨w3.heap.size, 0, none⟩ 1 1 (textCells g) rfl rfl (news_box (Box.new w3 #[.string g] 9)) (text_one g) ?hb1 ?hb2 ?hb3 ?_; (case hb1 => have := sides_few q1.out (by omega); omega); (case hb2 => have := sides_few q1.out (by omega); omega); (case hb3 => simp; omega); intro A' c' w6 ho hc hA'; have o6 := ho; have c6 := ((hcc.step c1 (Nat.le_refl _) (fun _ _ e => e)).step c2 hs12 (fun _ _ e => e)).app (Nat.le_trans hs12 hs23) hc (fun j hj => (hrow j hj).1); have k6 := k2.app hc (fun j hj => (hrow j hj).1) HLT.out; clear ho hc hA'))
        all_goals go_wp2
        all_goals go_ret
        all_goals
          have hkk := HK.out
          subst hkk
          have hq := q1.out
          have hgg := HG.out
          obtain ⟨t1', ex⟩ := t1.ext e2
          refine ⟨T2, A', c', L1 ++ [g], by simp, ?_, e1.trans e2, by omega, .right h1 hik t1' t2, c6, k6, by simpa using o6⟩
          show L1 ++ [g] = _
          rw [sidesP_right h1 hik, ex, ← hq, ← hgg]
    · have hd0 : decide (((l.length : Nat) : Int) ≤ 1) = true := by rw [decide_eq_true_iff]; omega
      have HP := Lib.hid (sidesP_few (h := hh T) (i := i) h1)
      have HIN := Lib.hid (SidesIn.few (T := T) (i := i) h1)
      go_enter Try.func182, Try.ntmps182
      go_wp2
      go_ret
      exact ⟨T, none, 0, [], rfl, HP.out.symm, Ext.refl _, by omega, HIN.out, Ch.refl _ _ _, HB.out, ⟨rfl, .inl ⟨rfl, rfl⟩⟩⟩
end Go.Proofs.Ytfgpchffkpomoaa

/- Where a leaf leads by sides: the walk. -/
namespace Go.Proofs.Ytfgpchffkpomoaa
set_option linter.unusedSimpArgs false
set_option linter.unusedVariables false
open Go.RowKit

def ClimbPost (w0 : World) (b t m n : Nat) (T : List ByteArray) (S : List Wd) (d : ByteArray) (i N : Nat) (s : List ByteArray) (e : Ending) (w' : World) : Prop :=
  ∃ T' x ok, e = .returned (.tuple #[.string x, .bool ok]) ∧ Hid ((x, ok) = climbP (hh T') d i N s) ∧ x.size ≤ 1000 ∧ Ext T T' ∧ T'.length ≤ T.length + s.length ∧ ClimbIn T' d i N s ∧ Ch w0.heap.size (· = m) w0 w' ∧ Bk w' b t m n T' S
theorem climb_fst {h : ByteArray → ByteArray} {d : ByteArray} {i N : Nat} {s : List ByteArray} {x : ByteArray} {ok : Bool} (e : (x, ok) = climbP h d i N s) : (climbP h d i N s).1 = x ∧ (climbP h d i N s).2 = ok := by
  rw [← e]
  exact ⟨rfl, rfl⟩
theorem climb_left {T T1 : List ByteArray} {d : ByteArray} {i N : Nat} {s : List ByteArray} {x y : ByteArray} {ok : Bool} (h : 1 < N) (hi : i < half N) (e1 : Ext T T1) (c1 : ClimbIn T1 d i (half N) s) (q : (x, ok) = climbP (hh T1) d i (half N) s) :
    ((digS T1 (nodeT x y)).1, ok) = climbP (hh (digS T1 (nodeT x y)).2) d i N (s ++ [y]) ∧ Ext T (digS T1 (nodeT x y)).2 ∧ ClimbIn (digS T1 (nodeT x y)).2 d i N (s ++ [y]) := by
  obtain ⟨kn1, kn2, kn3⟩ := dig_known T1 (nodeT x y)
  rw [kn3]
  obtain ⟨T3, hT3⟩ : ∃ x1, x1 = (digS T1 (nodeT x y)).2 := ⟨_, rfl⟩
  rw [← hT3] at kn1 kn2 ⊢
  obtain ⟨a1, a2⟩ := c1.ext kn1
  have q2 := q.trans a2.symm
  obtain ⟨f1, f2⟩ := climb_fst q2
  exact ⟨by rw [climbP_left h hi, f1, f2], e1.trans kn1, .left h hi a1 (by rw [f1]; exact kn2)⟩
theorem climb_right {T T1 : List ByteArray} {d : ByteArray} {i N : Nat} {s : List ByteArray} {x y : ByteArray} {ok : Bool} (h : 1 < N) (hi : ¬ i < half N) (e1 : Ext T T1) (c1 : ClimbIn T1 d (i - half N) (N - half N) s) (q : (x, ok) = climbP (hh T1) d (i - half N) (N - half N) s) :
    ((digS T1 (nodeT y x)).1, ok) = climbP (hh (digS T1 (nodeT y x)).2) d i N (s ++ [y]) ∧ Ext T (digS T1 (nodeT y x)).2 ∧ ClimbIn (digS T1 (nodeT y x)).2 d i N (s ++ [y]) := by
  obtain ⟨kn1, kn2, kn3⟩ := dig_known T1 (nodeT y x)
  rw [kn3]
  obtain ⟨T3, hT3⟩ : ∃ x1, x1 = (digS T1 (nodeT y x)).2 := ⟨_, rfl⟩
  rw [← hT3] at kn1 kn2 ⊢
  obtain ⟨a1, a2⟩ := c1.ext kn1
  have q2 := q.trans a2.symm
  obtain ⟨f1, f2⟩ := climb_fst q2
  exact ⟨by rw [climbP_right h hi, f1, f2], e1.trans kn1, .right h hi a1 (by rw [f1]; exact kn2)⟩

set_option maxHeartbeats 4000000 in
set_option maxRecDepth 100000 in
theorem climb_calls (b t m n : Nat) (S : List Wd) (d : ByteArray) (hd : d.size ≤ 1000) : ∀ (N : Nat) (T : List ByteArray) (A : Option Addr) (c : Nat) (l : List ByteArray) (i : Nat) (w : World), 0 < N → N ≤ 100000 → Bk w b t m n T S → T.length + l.length ≤ 1000000000 → TxS w A c l → l.length ≤ c → i ≤ 100000 → (∀ x ∈ l, x.size ≤ 1000) → Off A l.length m →
    Calls Try.prog 160 #[.pointer (some ⟨b, 0, none⟩), .string d, .int .i64 i, .int .i64 N, .slice A l.length c] w (ClimbPost w b t m n T S d i N l) := by
  intro N
  induction N using Nat.strongRecOn with
  | ind N ih =>
    intro T A c l i w hN0 hN hb hT hs hlc hi hsz hA
    have IH := Lib.hid ih
    have HS := Lib.hid hs
    have HSZ := Lib.hid hsz
    have HA := Lib.hid hA
    have HD := Lib.hid hd
    have hfit := hs.fits
    have HLT := Lib.hid hb.all_lt
    have hml := hb.tm.lt
    have HB := Lib.hid hb
    clear ih hb hs hsz hA
    by_cases h1 : 1 < N
    · have hd0 : ((N : Int) == 1) = false := by rw [beq_eq_false_iff_ne]; omega
      rcases List.eq_nil_or_concat l with rfl | ⟨s, y, hl⟩
      · have HP := Lib.hid (climbP_nil (h := hh T) (d := d) (i := i) h1)
        have HIN := Lib.hid (ClimbIn.nil (T := T) (d := d) (i := i) h1)
        go_enter Try.func160, Try.ntmps160
        go_wp2
        go_ret2
        exact ⟨T, ⟨#[]⟩, false, rfl, HP.out.symm, by simp [ByteArray.size], Ext.refl _, by omega, HIN.out, Ch.refl _ _ _, HB.out⟩
      · rw [List.concat_eq_append] at hl
        have hlen : l.length = s.length + 1 := by rw [hl]; simp
        have hget := HS.out.elem (l.length - 1) (by omega)
        obtain ⟨a, rfl, e0⟩ := hget
        have hy : l[l.length - 1]'(by omega) = y := by simp [hl]
        rw [hy, show l.length - 1 = s.length by omega] at e0
        clear hy
        have hsl : TxS w (some a) c s := by
          have := TxS.take HS.out s.length
          rwa [hl, List.take_left] at this
        have HSL := Lib.hid hsl
        have hsy := HSZ.out y (by rw [hl]; simp)
        have HSZ2 := Lib.hid (show ∀ x ∈ s, x.size ≤ 1000 from fun x hx => HSZ.out x (by rw [hl]; simp [hx]))
        have HA2 := Lib.hid (show Off (some a) s.length m from fun _ => HA.out (by rw [hl]; simp))
        have HL := Lib.hid hl
        clear hl hsl HS HSZ
        rw [hlen] at hT hlc hfit ⊢
        have HLEN := Lib.hid hlen
        clear hlen
        obtain ⟨p, hp⟩ : ∃ p, p = s.length := ⟨_, rfl⟩
        rw [← hp] at hT hlc hfit e0 ⊢
        have HP := Lib.hid hp
        clear hp
        have hhl := half_lt h1
        obtain ⟨k, hk⟩ : ∃ k, k = half N := ⟨_, rfl⟩
        have HH := Lib.hid (fun w => half_calls N w (by omega))
        rw [← hk] at HH hhl
        have HK := Lib.hid hk
        clear hk
        have hp0 : (0 : Int) ≤ (p : Int) := by omega
        have hp1 : (p : Int) ≤ (p : Int) + 1 := by omega
        have hp2 : (p : Int) ≤ (c : Int) := by omega
        have hp3 : (p : Int) < (p : Int) + 1 := by omega
        have hwp : IntKind.i64.wrap (p : Int) = (p : Int) := wrap_small _ (by omega) (by omega)
        have hwp1 : IntKind.i64.wrap ((p : Int) + 1 - 1) = (p : Int) := by rw [Int.add_sub_cancel]; exact hwp
        have hd1 : ((p : Int) + 1 == 0) = false := by rw [beq_eq_false_iff_ne]; omega
        by_cases hik : i < k
        · have hd2 : decide ((i : Int) < (k : Int)) = true := by simp; omega
          have C1 := Lib.hid (show ∀ w, Bk w b t m n T S → TxS w (some a) c s → Calls Try.prog 160 #[.pointer (some ⟨b, 0, none⟩), .string d, .int .i64 (i : Int), .int .i64 (k : Int), .slice (some a) p c] w (ClimbPost w b t m n T S d i k s) from fun w hb hs => by
            have hpp := HP.out
            have := IH.out k (by omega) T (some a) c s i w (by omega) (by omega) hb (by omega) hs (by omega) (by omega) HSZ2.out HA2.out
            rw [← hpp] at this
            exact this)
          go_enter Try.func160, Try.ntmps160
          go_wp2_with fail
          have hbk := HB.out.drew
          have hst := HSL.out.drew
          have hcc := (Ch.refl w.heap.size (· = m) w).drew
          go_region_held3 (fun w' => w'.cell? (a.add p) = some (.string y)) (first | exact e0) (first | (go_at_call 153; refine (HH.out _).mono ?_; rintro e w1 ⟨rfl, hw1⟩; subst hw1))
          all_goals go_wp2_with fail
          all_goals refine (C1.out _ hbk hst).mono ?_
          all_goals
            rintro e w2 ⟨T1, x, ok, rfl, q1, xs, e1, l1, c1, ch1, k1⟩
            have hs12 : w.heap.size ≤ w2.heap.size := ch1.size
            have hnd := node_calls b t m n T1 S x y w2 k1 (by have := HP.out; omega) (Nat.le_trans xs (by decide)) (Nat.le_trans hsy (by decide))
            have hdl := digT_len T1 (nodeT x y)
            have hkk := HK.out
            obtain ⟨j1, j2, j3⟩ := climb_left (T := T) (x := x) (y := y) (ok := ok) h1 (by rw [← hkk]; exact hik) e1 (by rw [← hkk]; exact c1) (by rw [← hkk]; exact q1.out)
            have hq8 := hh_size T1 (nodeT x y)
            unfold hh at hq8
            clear hkk
            have J1 := Lib.hid j1
            have J2 := Lib.hid j2
            have J3 := Lib.hid j3
            clear j1 j2 j3
            obtain ⟨⟨g, T2⟩, hq⟩ : ∃ q, q = digS T1 (nodeT x y) := ⟨_, rfl⟩
            rw [← hq] at hnd hdl J1 J2 J3 hq8
            have HND := Lib.hid hnd
            clear hnd hq
            simp only at hdl hq8
            go_wp2_with fail
            refine HND.out.mono ?_
            rintro e w3 ⟨rfl, ch2, k2⟩
            go_wp2
            go_ret2
            have hll := HL.out
            have hpp := HP.out
            refine ⟨T2, g, ok, rfl, ?_, by omega, J2.out, by simp only [hll, List.length_append, List.length_cons, List.length_nil]; omega, ?_, (hcc.step ch1 (Nat.le_refl _) (fun _ _ e => e)).step ch2 hs12 (fun _ _ e => e), k2⟩
            · rw [hll]; exact J1.out
            · rw [hll]; exact J3.out
        · have hd2 : decide ((i : Int) < (k : Int)) = false := by simp; omega
          have hwr : IntKind.i64.wrap ((i : Int) - (k : Int)) = (i : Int) - (k : Int) := wrap_small _ (by omega) (by omega)
          have hwr2 : IntKind.i64.wrap ((N : Int) - (k : Int)) = (N : Int) - (k : Int) := wrap_small _ (by omega) (by omega)
          have hik2 : ((i : Int) - (k : Int)) = ((i - k : Nat) : Int) := by omega
          have hik3 : ((N : Int) - (k : Int)) = ((N - k : Nat) : Int) := by omega
          have C1 := Lib.hid (show ∀ w, Bk w b t m n T S → TxS w (some a) c s → Calls Try.prog 160 #[.pointer (some ⟨b, 0, none⟩), .string d, .int .i64 ((i : Int) - (k : Int)), .int .i64 ((N : Int) - (k : Int)), .slice (some a) p c] w (ClimbPost w b t m n T S d (i - k) (N - k) s) from fun w hb hs => by
            have hpp := HP.out
            have := IH.out (N - k) (by omega) T (some a) c s (i - k) w (by omega) (by omega) hb (by omega) hs (by omega) (by omega) HSZ2.out HA2.out
            rw [← hpp] at this
            rw [hik2, hik3]; exact this)
          clear hik2 hik3
          go_enter Try.func160, Try.ntmps160
          go_wp2_with fail
          have hbk := HB.out.drew
          have hst := HSL.out.drew
          have hcc := (Ch.refl w.heap.size (· = m) w).drew
          go_region_held3 (fun w' => w'.cell? (a.add p) = some (.string y)) (first | exact e0) (first | (go_at_call 153; refine (HH.out _).mono ?_; rintro e w1 ⟨rfl, hw1⟩; subst hw1))
          all_goals go_wp2_with fail
          all_goals refine (C1.out _ hbk hst).mono ?_
          all_goals
            rintro e w2 ⟨T1, x, ok, rfl, q1, xs, e1, l1, c1, ch1, k1⟩
            have hs12 : w.heap.size ≤ w2.heap.size := ch1.size
            have hnd := node_calls b t m n T1 S y x w2 k1 (by have := HP.out; omega) (Nat.le_trans hsy (by decide)) (Nat.le_trans xs (by decide))
            have hdl := digT_len T1 (nodeT y x)
            have hkk := HK.out
            obtain ⟨j1, j2, j3⟩ := climb_right (T := T) (x := x) (y := y) (ok := ok) h1 (by rw [← hkk]; exact hik) e1 (by rw [← hkk]; exact c1) (by rw [← hkk]; exact q1.out)
            have hq8 := hh_size T1 (nodeT y x)
            unfold hh at hq8
            clear hkk
            have J1 := Lib.hid j1
            have J2 := Lib.hid j2
            have J3 := Lib.hid j3
            clear j1 j2 j3
            obtain ⟨⟨g, T2⟩, hq⟩ : ∃ q, q = digS T1 (nodeT y x) := ⟨_, rfl⟩
            rw [← hq] at hnd hdl J1 J2 J3 hq8
            have HND := Lib.hid hnd
            clear hnd hq
            simp only at hdl hq8
            go_wp2_with fail
            refine HND.out.mono ?_
            rintro e w3 ⟨rfl, ch2, k2⟩
            go_wp2
            go_ret2
            have hll := HL.out
            have hpp := HP.out
            refine ⟨T2, g, ok, rfl, ?_, by omega, J2.out, by simp only [hll, List.length_append, List.length_cons, List.length_nil]; omega, ?_, (hcc.step ch1 (Nat.le_refl _) (fun _ _ e => e)).step ch2 hs12 (fun _ _ e => e), k2⟩
            · rw [hll]; exact J1.out
            · rw [hll]; exact J3.out
    · have hd0 : ((N : Int) == 1) = true := by rw [beq_iff_eq]; omega
      have HP := Lib.hid (climbP_one (h := hh T) (d := d) (i := i) (s := l) h1)
      have HIN := Lib.hid (ClimbIn.one (T := T) (d := d) (i := i) (s := l) h1)
      go_enter Try.func160, Try.ntmps160
      go_wp2
      go_ret2
      exact ⟨T, d, l.isEmpty, by cases l <;> rfl, HP.out.symm, HD.out, Ext.refl _, by omega, HIN.out, Ch.refl _ _ _, HB.out⟩
end Go.Proofs.Ytfgpchffkpomoaa

/- Records that may be: the walks through merkle's fits and check. -/
namespace Go.Proofs.Ytfgpchffkpomoaa
set_option linter.unusedSimpArgs false
set_option linter.unusedVariables false
open Go.RowKit

theorem rcBad_yes {x : Rc} (h : ¬ (0 < x.key.size ∧ x.key.size ≤ 64)) : rcBad x = true := by
  unfold rcBad
  by_cases h0 : x.key.size = 0
  · rw [decide_eq_true h0]; rfl
  · rw [decide_eq_true (show 64 < x.key.size by omega)]; simp
theorem rcBad_no {x : Rc} (h : 0 < x.key.size ∧ x.key.size ≤ 64) (hv : ¬ 4096 < x.val.size) : rcBad x = false := by
  unfold rcBad
  rw [decide_eq_false (show ¬ x.key.size = 0 by omega), decide_eq_false (show ¬ 64 < x.key.size by omega), decide_eq_false hv]
  rfl
set_option maxRecDepth 100000 in
theorem mfits_calls (s : ByteArray) (w : World) : Calls Try.prog 106 #[.string s] w fun e w' => e = .returned (.bool (fitK s)) ∧ w' = w := by
  by_cases h0 : 0 < s.size
  · have hd : s.toList.isEmpty = false := by have := has_text s; rw [decide_eq_true h0] at this; simpa using this
    go_enter Try.func106, Try.ntmps106
    go_wp2
    go_ret
    exact ⟨ret_bool (by simp [fitK, h0]; omega), rfl⟩
  · have hd : s.toList.isEmpty = true := by have := has_text s; rw [decide_eq_false h0] at this; simpa using this
    have hf : fitK s = false := by unfold fitK; exact decide_eq_false (fun h => h0 h.1)
    rw [hf]
    clear hf
    go_enter Try.func106, Try.ntmps106
    go_wp2
    go_ret
    exact ⟨rfl, rfl⟩

set_option maxHeartbeats 1000000 in
set_option maxRecDepth 100000 in
theorem check_errs (A : Option Addr) (c : Nat) (l : List Rc) (w : World) (hs : RcS w A c l) : Calls Try.prog 97 #[.slice A l.length c] w (IntPost (riseE l) w) := by
  have hfit := hs.fits
  have HS := Lib.hid hs
  clear hs
  by_cases h4 : 4096 < l.length
  · have hd : decide ((4096 : Int) < (l.length : Int)) = true := by simp; omega
    have HE := Lib.hid (show riseE l = 2 by unfold riseE; rw [if_pos h4])
    go_enter Try.func97, Try.ntmps97
    go_wp2
    go_ret
    unfold IntPost
    rw [HE.out]
    exact ⟨rfl, Below.refl _ _⟩
  · have hd : decide ((4096 : Int) < (l.length : Int)) = false := by simp; omega
    have HE := Lib.hid (show riseE l = riseN l l.length by unfold riseE; rw [if_neg h4])
    go_enter Try.func97, Try.ntmps97
    go_wp2
    go_loopg [10] l.length (fun g vi wr => ∃ k : Nat, vi = .int .i64 k ∧ k ≤ l.length ∧ Hid (g + k = l.length ∧ Below w.heap.size w wr ∧ riseN l k = 0))
    case atStart => exact ⟨0, rfl, by omega, rfl, Below.refl _ _, rfl⟩
    case round =>
      obtain ⟨k, rfl, hk, HH⟩ := hrel
      obtain ⟨hg, hb, ht⟩ := HH.out
      have HGK := Lib.hid hg
      have HB := Lib.hid hb
      have HT := Lib.hid ht
      have hsz := hb.size
      clear HH hb ht hg
      by_cases hlt : k < l.length
      · have hd2 : decide ((k : Int) < (l.length : Int)) = true := by simp; omega
        obtain ⟨a, rfl, h0, h1⟩ := (HS.out.below HB.out).elem k hlt
        obtain ⟨m, hm⟩ : ∃ m, m = l[k] := ⟨_, rfl⟩
        rw [← hm] at h0 h1
        have HM := Lib.hid hm
        clear hm
        obtain ⟨key, val⟩ := m
        simp only at h0 h1
        by_cases hf : fitK key = true
        · have HF := Lib.hid (fun w => mfits_calls key w)
          rw [hf] at HF
          have hfs : 0 < key.size ∧ key.size ≤ 64 := by unfold fitK at hf; exact of_decide_eq_true hf
          have HFS := Lib.hid hfs
          clear hf hfs
          by_cases hb2 : 4096 < val.size
          · have hd5 : decide ((4096 : Int) < (val.size : Int)) = true := by simp; omega
            have HE2 := Lib.hid (show riseE l = 14 by rw [HE.out]; exact riseN_stop HT.out (codeAt_bad hlt (by rw [← HM.out]; simp [rcBad, hb2])) (by decide) _ hlt)
            go_wp2_with fail
            refine (HF.out _).mono ?_
            rintro e wf ⟨rfl, hwf⟩
            subst hwf
            go_wp2
            go_ret
            unfold IntPost
            rw [HE2.out]
            exact ⟨rfl, (HB.out.alloc hsz _)⟩
          · have hd5 : decide ((4096 : Int) < (val.size : Int)) = false := by simp; omega
            have hok : rcBad l[k] = false := by rw [← HM.out]; exact rcBad_no (x := ⟨key, val⟩) HFS.out (by simp only; omega)
            rcases Nat.eq_zero_or_pos k with hz | hz
            · have HE2 := Lib.hid (show riseN l (k + 1) = 0 from riseN_next HT.out (by subst hz; exact codeAt_first hlt hok))
              have hd6 : ¬ 0 < k := by omega
              have hd7 : decide ((0 : Int) < (k : Int)) = false := by simp; omega
              clear hok hz
              go_wp2_with fail
              refine (HF.out _).mono ?_
              rintro e wf ⟨rfl, hwf⟩
              subst hwf
              go_wp2_with fail
              go_quiet (fail)
              go_wp2
              go_roundg (gk - 1)
              case measure => have := HGK.out; omega
              case rel => exact ⟨k + 1, by go_num, by omega, by have := HGK.out; omega, below_drewN (HB.out.alloc hsz _) _, HE2.out⟩
            · obtain ⟨j, hj⟩ : ∃ j, k = j + 1 := ⟨k - 1, by omega⟩
              have hjl : j < l.length := by omega
              obtain ⟨a', ha', g0, hx1⟩ := (HS.out.below HB.out).elem j hjl
              clear hx1
              obtain rfl : a = a' := by simpa using ha'
              have hcd : codeAt l k = if geB l[j].key key = true then 15 else 0 := by subst hj; rw [codeAt_next hlt hok, ← HM.out]
              obtain ⟨pk, hpk⟩ : ∃ pk, pk = l[j].key := ⟨_, rfl⟩
              rw [← hpk] at g0 hcd
              have hjk : (k : Int) - 1 = (j : Int) := by omega
              have hd7 : decide ((0 : Int) < (k : Int)) = true := by simp; omega
              clear hpk hok ha' hj
              have g0x := (World.cell?_alloc_lt wr (.cells #[.string key, .string val] 131) _ (World.block_lt_of_cell? _ _ g0)).trans g0
              by_cases hge : geB pk key = true
              · have HE2 := Lib.hid (show riseE l = 15 by rw [HE.out]; exact riseN_stop HT.out (by rw [hcd, if_pos hge]) (by decide) _ hlt)
                have hd6 : Op.bytesLess pk.toList key.toList = false := by unfold geB at hge; simpa using hge
                clear hcd hge
                go_wp2_with fail
                refine (HF.out _).mono ?_
                rintro e wf ⟨rfl, hwf⟩
                subst hwf
                go_wp2_with fail
                go_quiet (fail)
                go_wp2
                go_ret
                unfold IntPost
                rw [HE2.out]
                exact ⟨rfl, below_drewN (HB.out.alloc hsz _) _⟩
              · have HE2 := Lib.hid (riseN_next HT.out (by rw [hcd, if_neg hge]))
                have hd6 : Op.bytesLess pk.toList key.toList = true := by unfold geB at hge; simpa using hge
                clear hcd hge
                go_wp2_with fail
                refine (HF.out _).mono ?_
                rintro e wf ⟨rfl, hwf⟩
                subst hwf
                go_wp2_with fail
                go_quiet (fail)
                go_wp2
                go_roundg (gk - 1)
                case measure => have := HGK.out; omega
                case rel => exact ⟨k + 1, by go_num, by omega, by have := HGK.out; omega, below_drewN (HB.out.alloc hsz _) _, HE2.out⟩
        · have HF := Lib.hid (fun w => mfits_calls key w)
          rw [show fitK key = false by simpa using hf] at HF
          have hfs : ¬ (0 < key.size ∧ key.size ≤ 64) := by unfold fitK at hf; exact fun h => hf (decide_eq_true h)
          have HE2 := Lib.hid (show riseE l = 14 by rw [HE.out]; exact riseN_stop HT.out (codeAt_bad hlt (by rw [← HM.out]; exact rcBad_yes (x := ⟨key, val⟩) hfs)) (by decide) _ hlt)
          clear hf hfs
          go_wp2_with fail
          refine (HF.out _).mono ?_
          rintro e wf ⟨rfl, hwf⟩
          subst hwf
          go_wp2
          go_ret
          unfold IntPost
          rw [HE2.out]
          exact ⟨rfl, (HB.out.alloc hsz _)⟩
      · have hd2 : decide ((k : Int) < (l.length : Int)) = false := by simp; omega
        obtain rfl : k = l.length := by omega
        go_wp2
        go_ret
        unfold IntPost
        rw [HE.out, HT.out]
        exact ⟨rfl, HB.out⟩

end Go.Proofs.Ytfgpchffkpomoaa
