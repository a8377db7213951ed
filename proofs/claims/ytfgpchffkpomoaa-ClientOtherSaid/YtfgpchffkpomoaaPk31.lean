/- Texts of this proof, several in one file; each says ahead of it what it proves. -/
import Derived.Test.YtfgpchffkpomoaaPk29b
import Derived.Deep.RegionHeld3
import Derived.Deep.CutBlock
import Derived.Test.YtfgpchffkpomoaaPk30
/- A client takes bytes: the walk through Receive. -/
namespace Go.Proofs.Ytfgpchffkpomoaa
set_option linter.unusedSimpArgs false
set_option linter.unusedVariables false
open Go.RowKit

theorem ofSg_fits (s : ByteArray) : fitsB (ofSg s).1 = true := by
  have h0 : fitsB zeroSg = true := by decide
  unfold ofSg
  split
  · exact h0
  · split
    · exact h0
    · split
      · exact h0
      · split
        · assumption
        · exact h0
theorem ch_set8 (w : World) (R : Nat) (x0 x1 x2 x3 x4 x5 x6 x7 : Value) : Ch w.heap.size (· = R) w ((((((((w.setCell ⟨R, 0, none⟩ x0).setCell ⟨R, 1, none⟩ x1).setCell ⟨R, 2, none⟩ x2).setCell ⟨R, 3, none⟩ x3).setCell ⟨R, 4, none⟩ x4).setCell ⟨R, 5, none⟩ x5).setCell ⟨R, 6, none⟩ x6).setCell ⟨R, 7, none⟩ x7) :=
  ((((((((Ch.refl w.heap.size (· = R) w).setCell (.inr rfl) x0).setCell (.inr rfl) x1).setCell (.inr rfl) x2).setCell (.inr rfl) x3).setCell (.inr rfl) x4).setCell (.inr rfl) x5).setCell (.inr rfl) x6).setCell (.inr rfl) x7
theorem zero_text (w : World) : (zeroValue 9).run Try.prog w = .ok (.string ⟨#[]⟩) w := by kernel_rfl
theorem cntV_yes {s t : ByteArray} (h : s = t) : cntV t (.string s) = 1 := by show (if s = t then (1 : Int) else 0) = 1; rw [if_pos h]
theorem cntV_no {s t : ByteArray} (h : ¬ s = t) : cntV t (.string s) = 0 := by show (if s = t then (1 : Int) else 0) = 0; rw [if_neg h]
theorem keep8 {w : World} {R : Nat} {p : Addr} {v x0 x1 x2 x3 x4 x5 x6 x7 : Value} (h : w.cell? p = some v) (hp : p.block ≠ R) : ((((((((w.setCell ⟨R, 0, none⟩ x0).setCell ⟨R, 1, none⟩ x1).setCell ⟨R, 2, none⟩ x2).setCell ⟨R, 3, none⟩ x3).setCell ⟨R, 4, none⟩ x4).setCell ⟨R, 5, none⟩ x5).setCell ⟨R, 6, none⟩ x6).setCell ⟨R, 7, none⟩ x7).cell? p = some v := by
  rw [← h]
  refine World.cell?_of_block ?_
  rw [Below.heap_setCell _ _ _ _ (fun e => hp e), Below.heap_setCell _ _ _ _ (fun e => hp e), Below.heap_setCell _ _ _ _ (fun e => hp e), Below.heap_setCell _ _ _ _ (fun e => hp e), Below.heap_setCell _ _ _ _ (fun e => hp e), Below.heap_setCell _ _ _ _ (fun e => hp e), Below.heap_setCell _ _ _ _ (fun e => hp e), Below.heap_setCell _ _ _ _ (fun e => hp e)]
theorem CS.c5a {w : World} {x g K b t m n : Nat} {T : List ByteArray} {S : List Wd} {y : Cl} {AA : Option Addr} {ac : Nat} (h : CS w x g K b t m n T S y AA ac) (o : Obj) : (w.alloc o).cell? ⟨x, 5, none⟩ = some (.pointer (some ⟨b, 0, none⟩)) := (h.box.alloc o).cell 5
theorem Box.al3 {w : World} {k : Nat} {u v z : Value} {T : TypeId} (h : Box w k #[u, v, z] T) (o : Obj) : (w.alloc o).cell? ⟨k, 0, none⟩ = some u ∧ (w.alloc o).cell? ⟨k, 1, none⟩ = some v ∧ (w.alloc o).cell? ⟨k, 2, none⟩ = some z := ⟨(h.alloc o).cell 0, (h.alloc o).cell 1, (h.alloc o).cell 2⟩
theorem CS.tell {w w' : World} {x g K b t m n : Nat} {T : List ByteArray} {S : List Wd} {y : Cl} {AA : Option Addr} {ac : Nat} (h : CS w x g K b t m n T S y AA ac) {l : List Td} (ht : ToldS w' g l) (hc : Ch w.heap.size (· = g) w w') : CS w' x g K b t m n T S { y with told := l } AA ac := by
  have hl := h.lt
  have hn := h.ne
  have hx := h.xl
  have hz := hc.size
  exact ⟨h.bk.ch hc (Nat.le_refl _) (by omega), h.box.ch hc hx (by omega), ht, own_ch h.ans hc (fun k hk => ⟨(h.row hk).2, by have := (h.row hk).1; omega⟩), by omega, hn⟩
section
variable {w w' : World} {x g K b t m n : Nat} {T : List ByteArray} {S : List Wd} {y : Cl} {AA : Option Addr} {ac : Nat}
theorem CS.setX (h : CS w x g K b t m n T S y AA ac) (i : Nat) (v : Value) (y' : Cl) (ht : y'.told = y.told) (ha : y'.ans = y.ans) (hy : (y.cells b g AA ac).setIfInBounds i v = y'.cells b g AA ac) : CS (w.setCell ⟨x, i, none⟩ v) x g K b t m n T S y' AA ac := by
  have hn := h.ne
  have hl := h.lt
  have hc : Ch w.heap.size (· = x) w (w.setCell ⟨x, i, none⟩ v) := (Ch.refl w.heap.size (· = x) w).setCell (.inr rfl) v
  refine ⟨h.bk.ch hc (Nat.le_refl _) (by omega), by rw [← hy]; exact h.box.set i v, by rw [ht]; exact h.told.ch hc h.told.lt (fun e => hn.1 e.symm), ?_, by have := hc.size; omega, hn⟩
  rw [ha]
  exact own_ch h.ans hc (fun k hk => ⟨(h.row hk).2, by have := (h.row hk).1; omega⟩)
theorem CS.stop (h : CS w x g K b t m n T S y AA ac) (v : Bool) : CS (w.setCell ⟨x, 8, none⟩ (.bool v)) x g K b t m n T S { y with waits := v } AA ac := h.setX 8 (.bool v) _ rfl rfl rfl
theorem CS.answer (h : CS w x g K b t m n T S y AA ac) {o : Obj} {A' : Option Addr} {c' : Nat} {a : An} (ho : w'.ownsRow K 118 2 (.slice A' (y.ans.length + 1) c') (y.ans.length + 1) (y.ans.flatMap An.cells ++ a.cells)) (hc : Ch (w.alloc o).heap.size (Row AA) (w.alloc o) w') :
    CS (w'.setCell ⟨x, 11, none⟩ (.slice A' (y.ans.length + 1) c')) x g K b t m n T S { y with ans := y.ans ++ [a] } A' c' := by
  have hn := h.ne
  have hl := h.lt
  have hx := h.xl
  have hg := h.told.lt
  have hc1 : Ch w.heap.size (fun k => Row AA k ∨ k = x) w w' := ((Ch.refl w.heap.size (fun k => Row AA k ∨ k = x) w).alloc (Nat.le_refl _) o).step hc (by simp) (fun _ _ e => .inl e)
  have hc2 := hc1.setCell (p := ⟨x, 11, none⟩) (.inr (.inr rfl)) (.slice A' (y.ans.length + 1) c')
  have hrow : ∀ k, k < K → ¬ Row AA k := fun k hk e => by have := (h.row e).1; omega
  have hno : ∀ k, k < K → k ≠ x → ¬ (Row AA k ∨ k = x) := fun k hk he e => e.elim (hrow k hk) he
  have hbx : Box w' x (y.cells b g AA ac) 209 := Box.ch h.box (((Ch.refl w.heap.size (Row AA) w).alloc (Nat.le_refl _) o).step hc (by simp) (fun _ _ e => e)) hx (hrow x hl.1)
  have hlen : (y.ans ++ [a]).length = y.ans.length + 1 := by simp
  have e : (y.cells b g AA ac).setIfInBounds 11 (.slice A' (y.ans.length + 1) c') = Cl.cells { y with ans := y.ans ++ [a] } b g A' c' := by
    unfold Cl.cells
    simp only [hlen]
    rfl
  refine ⟨h.bk.ch hc2 (Nat.le_refl _) ⟨hno b (by omega) (by omega), hno t (by omega) (by omega), hno m (by omega) (by omega), hno n (by omega) (by omega)⟩, by rw [← e]; exact hbx.set 11 _, h.told.ch hc2 hg (hno g (by omega) (fun e => hn.1 e.symm)), ?_, by have := hc2.size; omega, hn⟩
  simp only [hlen, List.flatMap_append, List.flatMap_cons, List.flatMap_nil, List.append_nil]
  exact ownsRow_setCell_below ho (a := ⟨x, 11, none⟩) hl.1 _
end
/-- What Receive leaves. -/
def RecvPost (w0 : World) (x g K b t m n : Nat) (T : List ByteArray) (S : List Wd) (AA : Option Addr) (r : Bool × Cl) (e : Ending) (w' : World) : Prop :=
  ∃ AA' ac', e = .returned (.bool r.1) ∧ CS w' x g K b t m n T S r.2 AA' ac' ∧ Ch w0.heap.size (fun k => k = x ∨ k = g ∨ Row AA k) w0 w' ∧ ∀ k, Row AA' k → Row AA k ∨ w0.heap.size ≤ k
theorem keep_recv {w w' : World} {x g K b t m n : Nat} {T : List ByteArray} {S : List Wd} {y : Cl} {AA : Option Addr} {ac : Nat} (h : CS w' x g K b t m n T S y AA ac) (hb : Below w.heap.size w w') : RecvPost w x g K b t m n T S AA (false, y) (.returned (.bool false)) w' :=
  ⟨AA, ac, rfl, h, Ch.of_below hb, fun _ hk => .inl hk⟩

set_option maxHeartbeats 8000000 in
set_option maxRecDepth 100000 in
theorem recv_calls (x g K b t m n : Nat) (T : List ByteArray) (S : List Wd) (y : Cl) (AA : Option Addr) (ac : Nat) (s : ByteArray) (f : Nat) (w : World) (h : CS w x g K b t m n T S y AA ac) (hS : S.length ≤ 1000000000) (hs : s.size ≤ maxLen) (hf : y.F = (f : Int)) (hf4 : f ≤ 4) (ht : y.told.length ≤ 1000) (ha : y.ans.length ≤ 100000) :
    Calls Try.prog 69 #[.pointer (some ⟨x, 0, none⟩), .string s] w (RecvPost w x g K b t m n T S AA (recvE S y s)) := by
  have hql := h.xl
  have HM := Lib.hid (cmade_calls x g K b t m n T S y AA ac w h)
  have HH := Lib.hid h
  have HOS := Lib.hid (ofSg_calls s w hs)
  unfold OfSgPost at HOS
  have k8 := h.c8
  have hw1 : IntKind.i64.wrap (3 * (f : Int)) = 3 * (f : Int) := wrap_near _ (by omega) (by omega)
  cases hw : y.waits with
  | false =>
    rw [hw] at k8
    have HE := Lib.hid (show recvE S y s = (false, y) by unfold recvE; rw [if_pos hw])
    clear h HOS hw
    go_enter Try.func69, Try.ntmps69
    go_wp2_with fail
    refine HM.out.mono ?_
    rintro e wx ⟨rfl, hwx⟩
    obtain rfl := hwx.symm
    go_wp2
    go_ret
    rw [HE.out]
    exact keep_recv HH.out (Below.refl _ _)
  | true =>
    rw [hw] at k8
    have HE := Lib.hid (show recvE S y s = if (ofSg s).2 ≠ 0 ∨ 3 * y.F < (ofSg s).1.who then (false, y) else if (openE S (ofSg s).1).2 ≠ 0 then (false, y) else hearE y (ofSg s).1.who (openE S (ofSg s).1).1 by
      unfold recvE; rw [if_neg (by rw [hw]; simp)])
    have hfit := (fitsB_iff _).1 (ofSg_fits s)
    obtain ⟨⟨m1, e1⟩, hr⟩ : ∃ r, ofSg s = r := ⟨_, rfl⟩
    rw [hr] at HOS HE hfit
    simp only at HOS HE hfit
    have HO := Lib.hid (fun w hb => open_calls b t m n T S m1 w hb hS (by have := hfit.2.2.1; simp only [maxLen]; omega))
    unfold BodyErr at HO
    obtain ⟨⟨b2, e2⟩, hr2⟩ : ∃ r, openE S m1 = r := ⟨_, rfl⟩
    rw [hr2] at HO HE
    simp only at HO HE
    obtain ⟨who, body, sig⟩ := m1
    unfold Sg.val at *
    simp only at hfit HE HOS HO
    rw [hf] at HE
    have HHW := Lib.hid hw
    have hwho := hfit.1
    have hwho2 := hfit.2.1
    clear h hr hr2 hw hfit
    go_enter Try.func69, Try.ntmps69
    go_wp2_with fail
    refine HM.out.mono ?_
    rintro e wx ⟨rfl, hwx⟩
    obtain rfl := hwx.symm
    go_wp2_with fail
    refine HOS.out.mono ?_
    rintro e w1 ⟨rfl, hb1⟩
    have hal := (Below.refl w1.heap.size w1).alloc (Nat.le_refl _) (.cells #[.int .i64 who, .string body, .string sig] 61)
    have HB1 := Lib.hid (hb1.trans (hal.mono hb1.size))
    have HC1 := Lib.hid ((HH.out.below hb1).below hal)
    have HX1 := Lib.hid (Box.new w1 #[.int .i64 who, .string body, .string sig] 61)
    have hz1 := hb1.size
    have c0 := HC1.out.c0
    rw [hf] at c0
    obtain ⟨r0, r1, r2, -⟩ := Box.facts3 HX1.out
    clear hb1 hal k8
    by_cases hbad : e1 ≠ 0 ∨ 3 * (f : Int) < who
    · have HE1 := Lib.hid (show recvE S y s = (false, y) by rw [HE.out, if_pos hbad])
      clear HE
      rcases Classical.em (e1 = 0) with h0 | h0
      · have hlt : decide (3 * (f : Int) < who) = true := by
          rcases hbad with h1 | h1
          · exact absurd h0 h1
          · simpa using h1
        subst h0
        clear hbad
        go_wp2_with fail
        go_quiet (fail)
        go_wp2
        go_ret
        rw [HE1.out]
        exact keep_recv (HC1.out.drewN _) (below_dN HB1.out _)
      · have hne2 : (e1 != 0) = true := by simpa using h0
        clear hbad h0
        go_wp2_with fail
        go_quiet (fail)
        go_wp2
        go_ret
        rw [HE1.out]
        exact keep_recv (HC1.out.drewN _) (below_dN HB1.out _)
    · have h0 : e1 = 0 := Classical.byContradiction fun e => hbad (.inl e)
      have hlt : decide (3 * (f : Int) < who) = false := by
        have : ¬ 3 * (f : Int) < who := fun e => hbad (.inr e)
        simpa using this
      subst h0
      have HE1 := Lib.hid (show recvE S y s = if e2 ≠ 0 then (false, y) else hearE y who b2 by rw [HE.out, if_neg hbad])
      clear hbad HE
      go_wp2_with fail
      go_quiet (fail)
      obtain ⟨W2, hW2⟩ : ∃ W2, W2 = (w1.alloc (.cells #[.int .i64 who, .string body, .string sig] 61)).drewN nq := ⟨_, rfl⟩
      have HB2 := Lib.hid (show Below w.heap.size w W2 by rw [hW2]; exact below_dN HB1.out _)
      have HC2 := Lib.hid (show CS W2 x g K b t m n T S y AA ac by rw [hW2]; exact HC1.out.drewN _)
      have HX2 := Lib.hid (show Box W2 w1.heap.size #[.int .i64 who, .string body, .string sig] 61 by rw [hW2]; exact HX1.out.drewN _)
      have hzW : w1.heap.size < W2.heap.size := HX2.out.lt
      rw [← hW2]
      clear hW2 c0 r0 r1 r2 HC1 HB1 HX1
      obtain ⟨r0, r1, r2, -⟩ := Box.facts3 HX2.out
      go_wp2_with fail
      obtain ⟨kd, vw, sq, cl, st, dg, tx, ls⟩ := b2
      unfold Bd.val Bd.cells at *
      simp only at *
      obtain ⟨Z8, hZ8⟩ : ∃ Z8 : Obj, Z8 = .cells #[.int .i64 0, .int .i64 0, .int .i64 0, .int .i64 0, .int .i64 0, .string ⟨#[]⟩, .string ⟨#[]⟩, .slice none 0 0] 59 := ⟨_, rfl⟩
      have hal2 := (Below.refl W2.heap.size W2).alloc (Nat.le_refl _) Z8
      have hcA0 : CS (W2.alloc Z8).drew x g K b t m n T S y AA ac := (HC2.out.below hal2).drewN 1
      have hxA0 : Box (W2.alloc Z8).drew w1.heap.size #[.int .i64 who, .string body, .string sig] 61 := (HX2.out.alloc Z8).drewN 1
      have hyA0 : Box (W2.alloc Z8).drew W2.heap.size #[.int .i64 0, .int .i64 0, .int .i64 0, .int .i64 0, .int .i64 0, .string ⟨#[]⟩, .string ⟨#[]⟩, .slice none 0 0] 59 := by rw [hZ8]; exact (Box.new W2 _ _).drewN 1
      have hBA0 : Below w.heap.size w (W2.alloc Z8).drew := (HB2.out.alloc HB2.out.size Z8).drew
      rw [hZ8] at hcA0 hxA0 hyA0 hBA0
      have HCA := Lib.hid hcA0
      have HXA := Lib.hid hxA0
      have HYA := Lib.hid hyA0
      have HBA := Lib.hid hBA0
      have hwz := HB2.out.size
      have hxK := HC2.out.xl
      have hxn : x ≠ W2.heap.size := by omega
      have hwn : w1.heap.size ≠ W2.heap.size := by omega
      have HC2D := Lib.hid (show CS W2.drew x g K b t m n T S y AA ac from HC2.out.drewN 1)
      have HX2D := Lib.hid (show Box W2.drew w1.heap.size #[.int .i64 who, .string body, .string sig] 61 from HX2.out.drewN 1)
      have h5D : W2.drew.cell? ⟨x, 5, none⟩ = some (.pointer (some ⟨b, 0, none⟩)) := HC2D.out.c5
      clear hZ8 hal2 hcA0 hxA0 hyA0 hBA0 Z8 r0 r1 r2
      obtain ⟨r0, r1, r2, -⟩ := Box.facts3 HX2D.out
      have a5 := HCA.out.c5
      obtain ⟨a0, a1, a2, -⟩ := Box.facts3 HXA.out
      go_cut [6, 7] (fun s6 s7 wx => ∃ i A2 c2, s6 = .int .i64 e2 ∧ s7 = .pointer (some ⟨i, 0, none⟩) ∧ Hid (Below w.heap.size w wx ∧ w1.heap.size < i ∧ CS wx x g K b t m n T S y AA ac ∧ Box wx w1.heap.size #[.int .i64 who, .string body, .string sig] 61 ∧ Box wx i #[.int .i64 kd, .int .i64 vw, .int .i64 sq, .int .i64 cl, .int .i64 st, .string dg, .string tx, .slice A2 ls.length c2] 59))
      case first =>
        go_region_held3 (fun w' => w'.cell? ⟨x, 5, none⟩ = some (.pointer (some ⟨b, 0, none⟩)) ∧ w'.cell? ⟨w1.heap.size, 0, none⟩ = some (.int .i64 who) ∧ w'.cell? ⟨w1.heap.size, 1, none⟩ = some (.string body) ∧ w'.cell? ⟨w1.heap.size, 2, none⟩ = some (.string sig)) (with_reducible first | exact ⟨h5D, r0, r1, r2⟩ | exact ⟨a5, a0, a1, a2⟩ | exact ⟨q5, q0, q1, q2⟩ | exact ⟨p5 _, (pp _).1, (pp _).2.1, (pp _).2.2⟩ | exact ⟨keep8 q5 hxn, keep8 q0 hwn, keep8 q1 hwn, keep8 q2 hwn⟩) (first | (go_at_call 53; first | (with_reducible refine Calls.mono (HO.out _ HC2D.out.bk) ?_; rintro e w5 ⟨A2, c2, rfl, hb5, -⟩; have HC5 := Lib.hid (HC2D.out.below hb5); have HX5 := Lib.hid (HX2D.out.call hb5); have HB5 := Lib.hid (HB2.out.drew.trans (hb5.mono HB2.out.drew.size)); clear hb5; have q5 := HC5.out.c5; obtain ⟨q0, q1, q2, -⟩ := Box.facts3 HX5.out; have p5 := CS.c5a HC5.out; have pp := Box.al3 HX5.out) | (with_reducible refine Calls.mono (HO.out _ HCA.out.bk) ?_; rintro e w5 ⟨A2, c2, rfl, hb5, -⟩; have HC5 := Lib.hid (HCA.out.below hb5); have HX5 := Lib.hid (HXA.out.call hb5); have HY5 := Lib.hid (HYA.out.call hb5); have HB5 := Lib.hid (HBA.out.trans (hb5.mono HBA.out.size)); clear hb5; have q5 := HC5.out.c5; obtain ⟨q0, q1, q2, -⟩ := Box.facts3 HX5.out; obtain ⟨j0, j1, j2, j3, j4, j5, j6, j7, i0, i1, i2, i3, i4, i5, i6, i7⟩ := HY5.out.facts8)))
        all_goals go_wp2_with fail
        all_goals go_meet
        all_goals have hz5 := HB5.out.size
        · exact ⟨w5.heap.size, A2, c2, rfl, rfl, HB5.out.alloc hz5 _, by have := HX5.out.lt; omega, HC5.out.below ((Below.refl w5.heap.size w5).alloc (Nat.le_refl _) _), HX5.out.alloc _, Box.new w5 _ _⟩
        · have hc8 := ch_set8 w5 W2.heap.size (.int .i64 kd) (.int .i64 vw) (.int .i64 sq) (.int .i64 cl) (.int .i64 st) (.string dg) (.string tx) (.slice A2 ls.length c2)
          have hyl := HY5.out.lt
          have hlk := HC2.out.lt
          exact ⟨W2.heap.size, A2, c2, rfl, rfl, ((Ch.of_below (S := fun _ => False) HB5.out).step hc8 hz5 (fun i hi e => by omega)).below (fun _ _ e => e), hzW, HC5.out.ch hc8 (Nat.le_refl _) (by omega) (fun k hk e => by have := (HC2.out.row hk).2; omega) hc8.size, HX5.out.ch hc8 HX5.out.lt (by omega), box_fill8 HY5.out _ _ _ _ _ _ _ _⟩
      case rest =>
        obtain ⟨i, A2, c2, rfl, rfl, HZ⟩ := hcut
        obtain ⟨hbz, hiz, hcz, hxz, hyz⟩ := HZ.out
        have HBZ := Lib.hid hbz
        have HCZ := Lib.hid hcz
        have HXZ := Lib.hid hxz
        have HYZ := Lib.hid hyz
        have hzz := hbz.size
        clear HZ hbz hcz hxz hyz a0 a1 a2 a5 r0 r1 r2 h5D HCA HXA HYA HBA HC2D HX2D
        obtain ⟨r0, r1, r2, -⟩ := Box.facts3 HXZ.out
        obtain ⟨y0, y1, y2, y3, y4, y5, y6, y7, -⟩ := HYZ.out.facts8
        have c4 := HCZ.out.c4
        have c6 := HCZ.out.c6
        by_cases hgood : e2 = 0 ∧ kd = 10 ∧ cl = y.id ∧ st = y.stamp
        · obtain ⟨rfl, rfl, rfl, rfl⟩ := hgood
          have HE2 := Lib.hid (show recvE S y s = if y.told.any (fun x => decide (x.1 = who)) = true then (false, y) else if (f : Int) < (alike tx (y.told ++ [(who, tx)]) : Int) then (true, { y with told := y.told ++ [(who, tx)], waits := false, ans := y.ans ++ [⟨y.stamp, tx⟩] }) else (true, { y with told := y.told ++ [(who, tx)] }) by
            rw [HE1.out, if_neg (by simp)]
            unfold hearE
            rw [if_neg (by simp), hf])
          clear HE1
          go_wp2_with fail
          go_quiet (fail)
          obtain ⟨W3, hW3⟩ : ∃ W3, W3 = wc.drewN nq := ⟨_, rfl⟩
          have HB3 := Lib.hid (show Below w.heap.size w W3 by rw [hW3]; exact below_dN HBZ.out _)
          have HC3 := Lib.hid (show CS W3 x g K b t m n T S y AA ac by rw [hW3]; exact HCZ.out.drewN _)
          have HX3 := Lib.hid (show Box W3 w1.heap.size #[.int .i64 who, .string body, .string sig] 61 by rw [hW3]; exact HXZ.out.drewN _)
          have HY3 := Lib.hid (show Box W3 i #[.int .i64 10, .int .i64 vw, .int .i64 sq, .int .i64 y.id, .int .i64 y.stamp, .string dg, .string tx, .slice A2 ls.length c2] 59 by rw [hW3]; exact HYZ.out.drewN _)
          rw [← hW3]
          clear hW3 HBZ HCZ HXZ HYZ r0 r1 r2 y0 y1 y2 y3 y4 y5 y6 y7 c4 c6
          obtain ⟨r0, r1, r2, -⟩ := Box.facts3 HX3.out
          have c10 := HC3.out.c10
          have hlook := fun (k : Nat) => ((HC3.out.told.drewN k).is.look (T := 207) keyTold Try.underlying207 (zero_text _) (told_key hwho hwho2).choose_spec true)
          by_cases had : y.told.any (fun x => decide (x.1 = who)) = true
          · have HE3 := Lib.hid (show recvE S y s = (false, y) by rw [HE2.out, if_pos had])
            obtain ⟨td, htd, htw⟩ := List.any_eq_true.1 had
            have htw2 : td.1 = who := by simpa using htw
            have hrun := fun (k : Nat) => (hlook k).1 (.string td.2) (List.mem_map.2 ⟨td, htd, by unfold tdKv; rw [htw2]⟩)
            clear hlook had HE2
            go_wp2_with fail
            go_quiet (fail)
            go_wp2
            go_ret
            rw [HE3.out]
            exact keep_recv (HC3.out.drewN _) (below_dN HB3.out _)
          · have HE3 := Lib.hid (HE2.out.trans (if_neg had))
            have hno : ∀ td ∈ y.told, td.1 ≠ who := fun td htd e => had (List.any_eq_true.2 ⟨td, htd, by simpa using e⟩)
            have hrun := fun (k : Nat) => (hlook k).2 (told_not hno)
            have HNO := Lib.hid hno
            clear hlook had HE2 hno
            go_wp2_with fail
            go_quiet (fail)
            obtain ⟨W4, hW4⟩ : ∃ W4, W4 = W3.drewN nq := ⟨_, rfl⟩
            have HB4 := Lib.hid (show Below w.heap.size w W4 by rw [hW4]; exact below_dN HB3.out _)
            have HC4 := Lib.hid (show CS W4 x g K b t m n T S y AA ac by rw [hW4]; exact HC3.out.drewN _)
            have HX4 := Lib.hid (show Box W4 w1.heap.size #[.int .i64 who, .string body, .string sig] 61 by rw [hW4]; exact HX3.out.drewN _)
            have HY4 := Lib.hid (show Box W4 i #[.int .i64 10, .int .i64 vw, .int .i64 sq, .int .i64 y.id, .int .i64 y.stamp, .string dg, .string tx, .slice A2 ls.length c2] 59 by rw [hW4]; exact HY3.out.drewN _)
            rw [← hW4]
            clear hW4 HB3 HC3 HX3 HY3 r0 r1 r2 c10 hrun
            go_wp2_with fail
            have HC4D := Lib.hid (show CS W4.drew x g K b t m n T S y AA ac from HC4.out.drewN 1)
            obtain ⟨w5, hrun, ht5, hc5, hs5⟩ := HC4D.out.told.push (T := 207) Try.underlying207 (t := tx) hwho hwho2 HNO.out
            have HT5 := Lib.hid ht5
            have HC5 := Lib.hid (HC4D.out.tell ht5 hc5)
            have hgx := HC4D.out.ne.1
            have hgl := HC4D.out.lt
            have hgK := HC4D.out.lt.2.1
            have HX5 := Lib.hid (Box.ch HX4.out.drew hc5 HX4.out.drew.lt (by have := hgl; have := HH.out.lt; omega))
            have HY5 := Lib.hid (Box.ch HY4.out.drew hc5 HY4.out.drew.lt (by have := HH.out.lt; omega))
            have HCH5 := Lib.hid ((Ch.of_below (S := fun k => k = x ∨ k = g ∨ Row AA k) HB4.out.drew).step hc5 HB4.out.drew.size (fun k _ e => .inr (.inl e)))
            have c10 := HC4D.out.c10
            have d10 := HC5.out.c10
            obtain ⟨r0, r1, r2, -⟩ := Box.facts3 (HX4.out.drew)
            obtain ⟨q0, q1, q2, -⟩ := Box.facts3 HX5.out
            obtain ⟨y0, y1, y2, y3, y4, y5, y6, y7, -⟩ := Box.facts8 (HY4.out.drew)
            obtain ⟨z0, z1, z2, z3, z4, z5, z6, z7, -⟩ := HY5.out.facts8
            clear ht5 hc5 hs5 HC4 HC4D HX4 HY4 HB4 HNO
            go_region_held3 (fun w' => w'.cell? ⟨x, 10, none⟩ = some (.map (some g)) ∧ w'.cell? ⟨w1.heap.size, 0, none⟩ = some (.int .i64 who) ∧ w'.cell? ⟨i, 6, none⟩ = some (.string tx)) (with_reducible first | exact ⟨c10, r0, y6⟩ | exact ⟨d10, q0, z6⟩) (fail)
            obtain ⟨es, clock, hb, he, hst⟩ := HT5.out.entries
            have HEN := Lib.hid he
            have HST := Lib.hid hst
            have HBM := Lib.hid hb
            have hrg := run_range_map (P := Try.prog) w5 207 _ _ g es clock Try.underlying207 hb
            have hes : es.size ≤ 1001 := by have := congrArg List.length he; simp at this; omega
            clear hrun c10 r0 r1 r2 y0 y1 y2 y3 y4 y5 y6 y7 he hst hb HT5 q0 q1 q2
            go_wp2_with fail
            go_loopw [10] (fun s w' => ∃ (v1 : World) (seen : Array Nat), v1.Alike w5 ∧ v1.tape = w5.tape ∧ w' = v1.alloc (.mapIter (some g) clock seen clock) ∧ s = .int .i64 (cntS tx es seen)) (fun _ w' => (leftOf es (w'.iterSeen w5.heap.size)).size)
            case atStart => exact ⟨w5, #[], ⟨rfl, rfl, rfl⟩, rfl, rfl, by rw [cntS_none]⟩
            case round =>
              obtain ⟨v1, seen, hal, htp, rfl, rfl⟩ := hrel
              have hsz : v1.heap.size = w5.heap.size := by rw [hal.1]
              have hb1 : v1.heap[g]? = some (.map es clock) := by rw [hal.1]; exact HBM.out
              have law := run_next_map (P := Try.prog) v1 0 g clock clock seen es clock hb1 HST.out.1 (Nat.le_refl _)
              rw [hsz] at law
              have hbd := cntS_bounds tx es seen
              rcases law with ⟨h0, hrun⟩ | ⟨e, he, v2, hal2, hrun⟩
              · have hnx : ∀ ty, (Instr.next (.pointer (some ⟨w5.heap.size, 0, none⟩)) false ty).run Try.prog (v1.alloc (.mapIter (some g) clock seen clock)) = _ := fun _ => hrun
                have HCNT := Lib.hid (cntS_all (t := tx) h0 HEN.out)
                have hb6 : Below w5.heap.size w5 (v1.alloc (.mapIter (some g) clock seen clock)) := (show Below w5.heap.size w5 v1 from ⟨hal.2.1, htp, hal.2.2, by omega, fun k _ => by rw [hal.1]⟩).alloc (by omega) _
                have HC6 := Lib.hid (HC5.out.below hb6)
                have HY6 := Lib.hid (HY5.out.call hb6)
                have HCH6 := Lib.hid (HCH5.out.step (Ch.of_below (S := fun _ => False) hb6) HCH5.out.size (fun _ _ e => e.elim))
                have c0 : (v1.alloc (.mapIter (some g) clock seen clock)).cell? ⟨x, 0, none⟩ = some (.int .i64 (f : Int)) := by rw [← hf]; exact HC6.out.c0
                have c8 := HC6.out.c8
                have f8 := HC6.out.free 8
                clear hb6 hal htp hrun h0 hb1 HC5 HY5 HCH5 z0 z1 z2 z3 z4 z5 z6 z7 d10
                by_cases henough : (f : Int) < (alike tx (y.told ++ [(who, tx)]) : Int)
                · have HE4 := Lib.hid (HE3.out.trans (if_pos henough))
                  have hd : decide ((f : Int) < cntS tx es seen) = true := by rw [HCNT.out]; simpa using henough
                  clear henough HE3
                  go_wp2_with fail
                  obtain ⟨W7, hW7⟩ : ∃ W7, W7 = (v1.alloc (.mapIter (some g) clock seen clock)).setCell ⟨x, 8, none⟩ (.bool false) := ⟨_, rfl⟩
                  have HC7 := Lib.hid (show CS W7 x g K b t m n T S { y with told := y.told ++ [(who, tx)], waits := false } AA ac by rw [hW7]; exact HC6.out.stop false)
                  have HC7D := Lib.hid (show CS W7.drew x g K b t m n T S { y with told := y.told ++ [(who, tx)], waits := false } AA ac from HC7.out.drewN 1)
                  have hxi : x ≠ i := by have := HH.out.xl; omega
                  have HY7 := Lib.hid (show Box W7.drew i #[.int .i64 10, .int .i64 vw, .int .i64 sq, .int .i64 y.id, .int .i64 y.stamp, .string dg, .string tx, .slice A2 ls.length c2] 59 by rw [hW7]; exact (HY6.out.other (a := ⟨x, 8, none⟩) hxi _).drew)
                  have HCH7 := Lib.hid (show Ch w.heap.size (fun k => k = x ∨ k = g ∨ Row AA k) w W7 by rw [hW7]; exact HCH6.out.setCell (p := ⟨x, 8, none⟩) (.inr (.inl rfl)) _)
                  rw [← hW7]
                  have hz7 := HCH7.out.size
                  have e6 : W7.drew.cell? ⟨x, 6, none⟩ = some (.int .i64 y.stamp) := HC7D.out.c6
                  have e11 : W7.drew.cell? ⟨x, 11, none⟩ = some (.slice AA y.ans.length ac) := HC7D.out.c11
                  have e6' : W7.cell? ⟨x, 6, none⟩ = some (.int .i64 y.stamp) := HC7.out.c6
                  have e11' : W7.cell? ⟨x, 11, none⟩ = some (.slice AA y.ans.length ac) := HC7.out.c11
                  have t6' : W7.cell? ⟨i, 6, none⟩ = some (.string tx) := HY7.out.cell 6
                  have HOW := Lib.hid (show W7.drew.ownsRow K 118 2 (.slice AA y.ans.length ac) y.ans.length (y.ans.flatMap An.cells) from HC7D.out.ans)
                  have hK7 := HC7.out.lt
                  have hx7 := HC7.out.xl
                  have hrx : ¬ Row AA x := fun e => by have := (HC7D.out.row e).1; omega
                  obtain ⟨k0, k1, k2, k3, k4, k5, k6, k7, -⟩ := HY7.out.facts8
                  clear hW7 c0 c8 f8 HC6 HY6 HCH6 hd
                  refine wp_region_noPanic ?_
                  go_region_law (refine step_app_row rfl (.tmp 123) (.tmp 131) 115 rfl K 118 _ 2 24 info_an Try.underlying115 rfl (by decide) AA ac y.ans.length (y.ans.flatMap An.cells) rfl (HOW.out.alloc _) ⟨W7.heap.size, 0, none⟩ 1 1 (An.cells ⟨y.stamp, tx⟩) rfl rfl (news_box (Box.new W7.drew #[.int .i64 y.stamp, .string tx] 118)) (an_one _) ?hb1 ?hb2 ?hb3 ?_; (case hb1 => omega); (case hb2 => omega); (case hb3 => simp; omega); intro A' c' w8 ho8 hc8 hA8; have HO8 := Lib.hid ho8; have HC8 := Lib.hid hc8; have HA8 := Lib.hid hA8; have hx8 := Box.ch (HC7D.out.box.alloc (.cells #[.int .i64 y.stamp, .string tx] 118)) hc8 (by simp; omega) hrx; have g11 := (show w8.cell? ⟨x, 11, none⟩ = some (.slice AA y.ans.length ac) from hx8.cell 11); have f11 := hx8.free 11; clear ho8 hc8 hA8 hx8)
                  all_goals refine NoPanic.normal ?_
                  all_goals
                    go_wp2
                    go_ret
                    rw [HE4.out]
                    refine ⟨A', c', rfl, HC7D.out.answer HO8.out HC8.out, ((HCH7.out.drew.alloc (by simp; omega) _).step HC8.out (by simp; omega) (fun k _ e => .inr (.inr e))).setCell (p := ⟨x, 11, none⟩) (.inr (.inl rfl)) _, fun k hk => ?_⟩
                    rcases HA8.out with e | e
                    · rw [e] at hk
                      exact .inl hk
                    · rw [e] at hk
                      have h1 : W7.heap.size + 1 = k := by simpa [Row] using hk
                      exact .inr (by omega)
                · have HE4 := Lib.hid (HE3.out.trans (if_neg henough))
                  have hd : decide ((f : Int) < cntS tx es seen) = false := by rw [HCNT.out]; simpa using henough
                  clear henough HE3
                  go_wp2
                  go_ret
                  rw [HE4.out]
                  exact ⟨AA, ac, rfl, HC6.out, HCH6.out, fun k hk => .inl hk⟩
              · obtain ⟨td, htd, hk, hv⟩ := entry_text HEN.out (mem_left he).1
                rw [hv, hk] at hrun
                have htp2 : v2.tape = w5.tape := by
                  have h1 := Calm.next _ _ _ _ _ _ hrun
                  simp only [World.tape_alloc] at h1
                  rw [h1, htp]
                have hnx : ∀ ty, (Instr.next (.pointer (some ⟨w5.heap.size, 0, none⟩)) false ty).run Try.prog (v1.alloc (.mapIter (some g) clock seen clock)) = _ := fun _ => hrun
                have hsz2 : v2.heap.size = w5.heap.size := by rw [hal2.1, hal.1]
                have hb2 : v2.heap[g]? = some (.map es clock) := by rw [hal2.1]; exact hb1
                have hen := run_entry_map (P := Try.prog) v2 g clock seen es clock e hb2 (mem_left he).1 HST.out.2.1
                rw [hsz2, hv, hk] at hen
                have hal3 : v2.Alike w5 := ⟨hal2.1.trans hal.1, hal2.2.1.trans hal.2.1, hal2.2.2.trans hal.2.2⟩
                have hyv : Box v2 i #[.int .i64 10, .int .i64 vw, .int .i64 sq, .int .i64 y.id, .int .i64 y.stamp, .string dg, .string tx, .slice A2 ls.length c2] 59 := by unfold Box; rw [hal3.1]; exact HY5.out
                obtain ⟨k0, k1, k2, k3, k4, k5, k6, k7, -⟩ := (hyv.alloc (.mapIter (some g) clock (seen.push e.born) clock)).facts8
                have hbq := beq_list td.2 tx
                have hwr : IntKind.i64.wrap (cntS tx es seen + 1) = cntS tx es seen + 1 := wrap_near _ (by omega) (by omega)
                have hcp := cntS_push (t := tx) HST.out.2.1 he
                rw [hv] at hcp
                have HCP := Lib.hid hcp
                have HLS := Lib.hid (left_shrinks es seen e he)
                have HAL := Lib.hid hal3
                have HTP := Lib.hid htp2
                have HSZ := Lib.hid hsz
                have HSZ2 := Lib.hid hsz2
                clear hcp hrun hal hal2 htp htp2 hal3 hb1 hb2 hk hv he hyv hsz hsz2 hbd
                by_cases htt : td.2 = tx
                · rw [decide_eq_true htt] at hbq
                  have HTT := Lib.hid htt
                  clear htt
                  go_wp2
                  go_roundw
                  case rel => exact ⟨v2, seen.push e.born, HAL.out, HTP.out, rfl, by rw [HCP.out, cntV_yes HTT.out]⟩
                  case measure =>
                    rw [← HSZ2.out, World.iterSeen_alloc, HSZ2.out, ← HSZ.out, World.iterSeen_alloc]
                    exact HLS.out
                · rw [decide_eq_false htt] at hbq
                  have HTT := Lib.hid htt
                  clear htt
                  go_wp2
                  go_roundw
                  case rel => exact ⟨v2, seen.push e.born, HAL.out, HTP.out, rfl, by rw [HCP.out, cntV_no HTT.out, Int.add_zero]⟩
                  case measure =>
                    rw [← HSZ2.out, World.iterSeen_alloc, HSZ2.out, ← HSZ.out, World.iterSeen_alloc]
                    exact HLS.out
        · have HE2 := Lib.hid (show recvE S y s = (false, y) by
            rw [HE1.out]
            by_cases h2 : e2 = 0
            · rw [if_neg (by simpa using h2)]
              unfold hearE
              rw [if_pos]
              simp only
              rcases Classical.em (kd = 10) with h3 | h3
              · rcases Classical.em (cl = y.id) with h4 | h4
                · exact .inr (.inr (fun h5 => hgood ⟨h2, h3, h4, h5⟩))
                · exact .inr (.inl h4)
              · exact .inl h3
            · rw [if_pos h2])
          have hbad : e2 ≠ 0 ∨ (e2 = 0 ∧ kd ≠ 10) ∨ (e2 = 0 ∧ kd = 10 ∧ cl ≠ y.id) ∨ (e2 = 0 ∧ kd = 10 ∧ cl = y.id ∧ st ≠ y.stamp) := by
            rcases Classical.em (e2 = 0) with h2 | h2
            · rcases Classical.em (kd = 10) with h3 | h3
              · rcases Classical.em (cl = y.id) with h4 | h4
                · exact .inr (.inr (.inr ⟨h2, h3, h4, fun h5 => hgood ⟨h2, h3, h4, h5⟩⟩))
                · exact .inr (.inr (.inl ⟨h2, h3, h4⟩))
              · exact .inr (.inl ⟨h2, h3⟩)
            · exact .inl h2
          clear hgood HE1
          rcases hbad with h2 | ⟨rfl, h2⟩ | ⟨rfl, rfl, h2⟩ | ⟨rfl, rfl, rfl, h2⟩
          all_goals
            have hne := bne_iff_ne.2 h2
            clear h2
            go_wp2_with fail
            go_quiet (fail)
            go_wp2
            go_ret
            rw [HE2.out]
            exact keep_recv (HCZ.out.drewN _) (below_dN HBZ.out _)
end Go.Proofs.Ytfgpchffkpomoaa

/- A rightly signed reply is laid and taken: both calls; the consortium of an example: the walks. -/
namespace Go.Proofs.Ytfgpchffkpomoaa
set_option linter.unusedSimpArgs false
set_option linter.unusedVariables false
open Go.RowKit

/-- What a client does with a rightly signed reply. -/
def hears (y : Cl) (who client stamp : Int) (text : ByteArray) : Bool × Cl :=
  if y.waits = false ∨ 3 * y.F < who then (false, y) else hearE y who (cliB 10 client stamp text)
theorem hear_both (x g K b t m n : Nat) (T : List ByteArray) (S : List Wd) (y : Cl) (AA : Option Addr) (ac : Nat) (who client stamp : Int) (text : ByteArray) (f : Nat) (w : World) (h : CS w x g K b t m n T S y AA ac) (hS : S.length ≤ 100000000) (hw : 0 ≤ who ∧ who ≤ 255) (hc : 0 ≤ client ∧ client ≤ 15) (hs : 1 ≤ stamp ∧ stamp ≤ 1099511627776) (ht : text.size ≤ 256) (hf : y.F = (f : Int)) (hf4 : f ≤ 4) (htl : y.told.length ≤ 1000) (hal : y.ans.length ≤ 100000) :
    ∃ s S', S'.length ≤ S.length + 1 ∧
      Calls Try.prog 70 #[.pointer (some ⟨b, 0, none⟩), .int .i64 who, .int .i64 client, .int .i64 stamp, .string text] w (fun e w1 => e = .returned (.string s) ∧ CS w1 x g K b t m n T S' y AA ac ∧ Ch w.heap.size (· = n) w w1) ∧
      ∀ w1, CS w1 x g K b t m n T S' y AA ac → Calls Try.prog 69 #[.pointer (some ⟨x, 0, none⟩), .string s] w1 (RecvPost w1 x g K b t m n T S' AA (hears y who client stamp text)) := by
  obtain ⟨sg, S', he, hsd, hl⟩ := reply_said (S := S) hw hc hs ht
  have hpl := putSg_len hsd.fits
  have hfb := (fitsB_iff sg).1 hsd.fits
  refine ⟨bs (putSg sg), S', hl, ?_, fun w1 h1 => ?_⟩
  · refine (reply_calls b t m n T S who client stamp text sg S' w h.bk (by omega) he hsd.fits).mono ?_
    rintro e w1 ⟨rfl, hc1, hk1⟩
    have h1 := h.ne
    have h2 := h.lt
    exact ⟨rfl, h.sign hc1 (Nat.le_refl _) ⟨by omega, by omega, fun k h3 h4 => by omega⟩ hk1, hc1⟩
  · have := recv_calls x g K b t m n T S' y AA ac (bs (putSg sg)) f w1 h1 (by omega) (by rw [bs_size]; simp only [maxLen]; omega) hf hf4 htl hal
    rw [recv_said hsd y] at this
    exact this

/-- A consortium with so many faults. -/
def faultsN (n : Int) : Nat := 1 + rnd n 4
theorem faultsN_le (n : Int) : 1 ≤ faultsN n ∧ faultsN n ≤ 4 := by have := rnd_lt n (m := 4) (by decide); unfold faultsN; omega
set_option maxRecDepth 100000 in
theorem config_calls (n : Int) (w : World) : Calls Try.prog 65 #[.int .i64 n] w (fun e w' => e = .returned (.agg #[.int .i64 (faultsN n : Int), .int .i64 3, .int .i64 2, .int .i64 5]) ∧ Below w.heap.size w w') := by
  have hr := rnd_lt n (m := 4) (by decide)
  have HA := Lib.hid (fun w => around12_calls n 4 w (by decide) (by decide))
  unfold RndPost at HA
  have HF := Lib.hid (show ((faultsN n : Nat) : Int) = 1 + (rnd n 4 : Int) by unfold faultsN; omega)
  obtain ⟨r, hrr⟩ : ∃ r, r = rnd n 4 := ⟨_, rfl⟩
  rw [← hrr] at HA hr HF
  have hwr : IntKind.i64.wrap (1 + (r : Int)) = 1 + (r : Int) := wrap_near _ (by omega) (by omega)
  have HX := Lib.hid (Box.new w #[.int .i64 0, .int .i64 0, .int .i64 0, .int .i64 0] 104)
  obtain ⟨k0, k1, k2, k3, f0, f1, f2, f3⟩ := Box.facts4 HX.out
  rw [HF.out]
  clear hrr
  go_enter Try.func65, Try.ntmps65
  go_wp2_with fail
  refine (HA.out _).mono ?_
  rintro e wx ⟨rfl, hwx⟩
  obtain rfl := hwx.symm
  go_wp2
  obtain ⟨j0, j1, j2, j3, -⟩ := Box.facts4 (Box.new w #[.int .i64 (1 + (r : Int)), .int .i64 3, .int .i64 2, .int .i64 5] 104)
  refine bodyPost_ret (v := .agg #[.int .i64 (1 + (r : Int)), .int .i64 3, .int .i64 2, .int .i64 5]) (by simp [results, Try.results65, go_sem, j0, j1, j2, j3]) rfl ?_
  exact ⟨rfl, (Below.refl _ _).alloc (Nat.le_refl _) _⟩
theorem fits_config (n : Int) {id : Int} (h : 0 ≤ id ∧ id ≤ 2) : (fitsC (faultsN n : Int) 3 2 5 && (decide (0 ≤ id) && decide (id < 3))) = true := by
  have := faultsN_le n
  unfold fitsC
  simp
  omega
theorem own_some {w : World} {base n : Nat} {e : TypeId} {size : Nat} {A : Option Addr} {c : Nat} {xs : List Value} (h : w.ownsRow base e size (.slice A n c) n xs) (hn : 0 < n) : ∃ g, A = some ⟨g, 0, none⟩ := by
  rcases h.2 with ⟨_, h0⟩ | ⟨g, cap, cur, hv, _⟩
  · omega
  · exact ⟨g, (show A = some ⟨g, 0, none⟩ ∧ c = cap by simpa using hv).1⟩
theorem eqAn (a b : Int) (x y : ByteArray) (w : World) : (Op.equalIn 10000 118 (.agg #[.int .i64 a, .string x]) (.agg #[.int .i64 b, .string y])).run Try.prog w = .ok (a == b && x.toList == y.toList) w := by
  rw [show (10000 : Nat) = 9999 + 1 from rfl, run_equalIn_struct (P := Try.prog) w 9999 118 _ _ (by kernel_rfl) (by kernel_rfl)]
  simp only [Program.fieldsOf, Try.underlying118]
  simp [Op.eqFields, go_sem]
  by_cases h1 : a = b <;> by_cases h2 : x.toList = y.toList <;> simp [h1, h2]
end Go.Proofs.Ytfgpchffkpomoaa

/- Chapter 12's example: the walk through awake. -/
namespace Go.Proofs.Ytfgpchffkpomoaa
set_option linter.unusedSimpArgs false
set_option linter.unusedVariables false
open Go.RowKit

theorem rnd0 : rnd 0 4 = 0 := by decide
theorem faults0 : faultsN 0 = 1 := by unfold faultsN; rw [rnd0]
def txR : ByteArray := ⟨#[114]⟩
def txLie : ByteArray := ⟨#[108, 105, 101]⟩
/-- The client of the example behind its request, and behind each reply. -/
def aw0 (s : ByteArray) : Cl := askedCl (NewCl 1 3 2 5 1) s
def aw1 (s : ByteArray) : Cl := { aw0 s with told := [(0, txR)] }
def aw2 (s : ByteArray) : Cl := { aw0 s with told := [(0, txR), (1, txLie)] }
def aw3 (s : ByteArray) : Cl := { aw0 s with told := [(0, txR), (1, txLie), (2, txR)], waits := false, ans := [⟨1, txR⟩] }
theorem hears1 (s : ByteArray) : hears (aw0 s) 0 1 1 txR = (true, aw1 s) := by
  unfold hears hearE aw0 askedCl NewCl aw1 cliB
  simp [alike, aw0, askedCl, NewCl]
theorem hears2 (s : ByteArray) : hears (aw1 s) 0 1 1 txR = (false, aw1 s) := by
  unfold hears hearE aw1 aw0 askedCl NewCl cliB
  simp
theorem hears3 (s : ByteArray) : hears (aw1 s) 1 1 1 txLie = (true, aw2 s) := by
  unfold hears hearE aw1 aw2 aw0 askedCl NewCl cliB
  have h : txR ≠ txLie := by decide
  simp [alike, h]
theorem hears4 (s : ByteArray) : hears (aw2 s) 2 1 1 txR = (true, aw3 s) := by
  unfold hears hearE aw2 aw3 aw0 askedCl NewCl cliB
  have h : txLie ≠ txR := by decide
  simp [alike, h]

set_option maxHeartbeats 8000000 in
set_option maxRecDepth 100000 in
theorem awake12_calls (W : World) : Calls Try.prog 67 #[] W (fun e w' => e = .returned (.bool true) ∧ Below W.heap.size W w') := by
  have HN := Lib.hid (newBook_calls W)
  have HC := Lib.hid (fun w => config_calls 0 w)
  rw [faults0] at HC
  have hR : (⟨#[114]⟩ : ByteArray) = txR := rfl
  go_enter Try.func67, Try.ntmps67
  go_wp2_with fail
  refine HN.out.mono ?_
  rintro e w1 ⟨b, t, m, n, rfl, hb1, hk1, hb, ht, hm, hn⟩
  have hz1 := hb1.size
  have HB1 := Lib.hid hb1
  have HK1 := Lib.hid hk1
  clear hb1 hk1
  go_wp2_with fail
  refine (HC.out _).mono ?_
  rintro e w2 ⟨rfl, hb2⟩
  have HB2 := Lib.hid (HB1.out.trans (hb2.mono hz1))
  have HK2 := Lib.hid (HK1.out.below hb2)
  have hz2 := HB2.out.size
  have HNW := Lib.hid (cnew_calls 1 3 2 5 1 b t m n [] [] w2 HK2.out (by decide))
  rw [show (fitsC 1 3 2 5 && (decide ((0 : Int) ≤ 1) && decide ((1 : Int) < 3))) = true by decide] at HNW
  have hml := HK2.out.tm.lt
  clear hb2
  go_wp2_with fail
  refine HNW.out.mono ?_
  rintro e w3 ⟨T3, e3, l3, ch3, hor⟩
  rcases hor with ⟨-, x, g, rfl, hx, hg, hc3⟩ | ⟨hbad, -⟩
  · have HC3 := Lib.hid hc3
    have HCH3 := Lib.hid ((Ch.of_below (S := fun _ => False) HB2.out).step ch3 hz2 (fun i hi e => by omega))
    have hz3 := HCH3.out.size
    clear ch3 hc3 e3
    obtain ⟨sg, S4, he4, hsd4, hl4⟩ := request_said (S := []) (who := 101) (client := 1) (stamp := 1) (text := ⟨#[111, 112]⟩) (by decide) (by decide) (by decide) (by decide)
    have HRQ := Lib.hid (request_calls x g w3.heap.size b t m n T3 [] (NewCl 1 3 2 5 1) none 0 ⟨#[111, 112]⟩ sg S4 1 w3 HC3.out (by decide) (by decide) (by decide) (by decide) rfl rfl (by decide) he4 hsd4.fits)
    obtain ⟨out, hout⟩ : ∃ o, o = bs (putSg sg) := ⟨_, rfl⟩
    rw [← hout] at HRQ
    simp only [List.length_nil] at hl4
    clear he4 hsd4 hout
    unfold ReqPost at HRQ
    simp only [toAll_len] at HRQ
    go_wp2_with fail
    refine HRQ.out.mono ?_
    rintro e w4 ⟨LA, lc, rfl, hc4, ch4, ho4⟩
    obtain ⟨gl, rfl⟩ := own_some ho4 (by decide)
    have hcell : w4.cell? ⟨gl, 6, none⟩ = some (.int .i64 3) := by rw [ho4.cellAt 6 (by decide)]; rfl
    obtain ⟨A4, hA4⟩ : ∃ A : Option Addr, A = none := ⟨_, rfl⟩
    obtain ⟨c4, hc40⟩ : ∃ c : Nat, c = 0 := ⟨_, rfl⟩
    have HC4 := Lib.hid (show CS w4 x g w3.heap.size b t m n T3 S4 (aw0 out) A4 c4 by rw [hA4, hc40]; exact hc4)
    have HCH4 := Lib.hid (HCH3.out.step ch4 hz3 (fun i hi e => by omega))
    have hz4 := HCH4.out.size
    have HWT4 := Lib.hid (cwaits_calls x g w3.heap.size b t m n T3 S4 (aw0 out) A4 c4 w4 HC4.out)
    clear hc4 ch4 ho4 hA4 hc40
    go_wp2_with fail
    refine HWT4.out.mono ?_
    rintro e wx ⟨rfl, hwx⟩
    obtain rfl := hwx.symm
    rw [show (aw0 out).waits = true from rfl]
    obtain ⟨s1, S5, hl5, hR1, hV1⟩ := hear_both x g w3.heap.size b t m n T3 S4 (aw0 out) A4 c4 0 1 1 txR 1 w4 HC4.out (by omega) (by decide) (by decide) (by decide) (by decide) rfl (by decide) (by show List.length _ ≤ 1000; simp [aw0, aw0, askedCl]) (by show List.length _ ≤ 100000; simp [aw0, aw0, askedCl, NewCl])
    rw [hears1] at hV1
    have HR1 := Lib.hid hR1
    have HV1 := Lib.hid hV1
    clear hR1 hV1
    go_wp2_with fail
    refine HR1.out.mono ?_
    rintro e w5 ⟨rfl, hc5, ch5⟩
    have HC5 := Lib.hid hc5
    have HCH5 := Lib.hid (HCH4.out.step ch5 hz4 (fun i hi e => by omega))
    have hz5 := HCH5.out.size
    clear hc5 ch5
    go_wp2_with fail
    refine (HV1.out _ HC5.out).mono ?_
    rintro e w6 ⟨A6, c6, rfl, hc6, ch6, -⟩
    have HC6 := Lib.hid hc6
    have HCH6 := Lib.hid (HCH5.out.step ch6 hz5 (fun i hi e => by
      rcases e with e | e | e
      · omega
      · omega
      · have := (HC5.out.row e).1; omega))
    have hz6 := HCH6.out.size
    clear hc6 ch6
    obtain ⟨s2, S6, hl6, hR2, hV2⟩ := hear_both x g w3.heap.size b t m n T3 S5 (aw1 out) A6 c6 0 1 1 txR 1 w6 HC6.out (by omega) (by decide) (by decide) (by decide) (by decide) rfl (by decide) (by show List.length _ ≤ 1000; simp [aw1, aw0, askedCl]) (by show List.length _ ≤ 100000; simp [aw1, aw0, askedCl, NewCl])
    rw [hears2] at hV2
    have HR2 := Lib.hid hR2
    have HV2 := Lib.hid hV2
    clear hR2 hV2
    go_wp2_with fail
    refine HR2.out.mono ?_
    rintro e w7 ⟨rfl, hc7, ch7⟩
    have HC7 := Lib.hid hc7
    have HCH7 := Lib.hid (HCH6.out.step ch7 hz6 (fun i hi e => by omega))
    have hz7 := HCH7.out.size
    clear hc7 ch7
    go_wp2_with fail
    refine (HV2.out _ HC7.out).mono ?_
    rintro e w8 ⟨A8, c8, rfl, hc8, ch8, -⟩
    have HC8 := Lib.hid hc8
    have HCH8 := Lib.hid (HCH7.out.step ch8 hz7 (fun i hi e => by
      rcases e with e | e | e
      · omega
      · omega
      · have := (HC7.out.row e).1; omega))
    have hz8 := HCH8.out.size
    clear hc8 ch8
    obtain ⟨s3, S7, hl7, hR3, hV3⟩ := hear_both x g w3.heap.size b t m n T3 S6 (aw1 out) A8 c8 1 1 1 txLie 1 w8 HC8.out (by omega) (by decide) (by decide) (by decide) (by decide) rfl (by decide) (by show List.length _ ≤ 1000; simp [aw1, aw0, askedCl]) (by show List.length _ ≤ 100000; simp [aw1, aw0, askedCl, NewCl])
    rw [hears3] at hV3
    have HR3 := Lib.hid hR3
    have HV3 := Lib.hid hV3
    clear hR3 hV3
    go_wp2_with fail
    refine HR3.out.mono ?_
    rintro e w9 ⟨rfl, hc9, ch9⟩
    have HC9 := Lib.hid hc9
    have HCH9 := Lib.hid (HCH8.out.step ch9 hz8 (fun i hi e => by omega))
    have hz9 := HCH9.out.size
    clear hc9 ch9
    go_wp2_with fail
    refine (HV3.out _ HC9.out).mono ?_
    rintro e w10 ⟨A10, c10, rfl, hc10, ch10, -⟩
    have HC10 := Lib.hid hc10
    have HCH10 := Lib.hid (HCH9.out.step ch10 hz9 (fun i hi e => by
      rcases e with e | e | e
      · omega
      · omega
      · have := (HC9.out.row e).1; omega))
    have hz10 := HCH10.out.size
    clear hc10 ch10
    have HWT10 := Lib.hid (cwaits_calls x g w3.heap.size b t m n T3 S7 (aw2 out) A10 c10 w10 HC10.out)
    go_wp2_with fail
    refine HWT10.out.mono ?_
    rintro e wx ⟨rfl, hwx⟩
    obtain rfl := hwx.symm
    rw [show (aw2 out).waits = true from rfl]
    obtain ⟨s4, S8, hl8, hR4, hV4⟩ := hear_both x g w3.heap.size b t m n T3 S7 (aw2 out) A10 c10 2 1 1 txR 1 w10 HC10.out (by omega) (by decide) (by decide) (by decide) (by decide) rfl (by decide) (by show List.length _ ≤ 1000; simp [aw2, aw0, askedCl]) (by show List.length _ ≤ 100000; simp [aw2, aw0, askedCl, NewCl])
    rw [hears4] at hV4
    have HR4 := Lib.hid hR4
    have HV4 := Lib.hid hV4
    clear hR4 hV4
    go_wp2_with fail
    refine HR4.out.mono ?_
    rintro e w11 ⟨rfl, hc11, ch11⟩
    have HC11 := Lib.hid hc11
    have HCH11 := Lib.hid (HCH10.out.step ch11 hz10 (fun i hi e => by omega))
    have hz11 := HCH11.out.size
    clear hc11 ch11
    go_wp2_with fail
    refine (HV4.out _ HC11.out).mono ?_
    rintro e w12 ⟨A12, c12, rfl, hc12, ch12, -⟩
    have HC12 := Lib.hid hc12
    have HCH12 := Lib.hid (HCH11.out.step ch12 hz11 (fun i hi e => by
      rcases e with e | e | e
      · omega
      · omega
      · have := (HC11.out.row e).1; omega))
    have hz12 := HCH12.out.size
    clear hc12 ch12
    have HAN := Lib.hid (answers_calls x g w3.heap.size b t m n T3 S8 (aw3 out) A12 c12 w12 HC12.out (by show (1 : Nat) ≤ 100000; decide))
    go_wp2_with fail
    refine HAN.out.mono ?_
    rintro e w13 ⟨A13, c13, rfl, hb13, ho13⟩
    have ho : w13.ownsRow w12.heap.size 118 2 (.slice A13 1 c13) 1 [.int .i64 1, .string ⟨#[114]⟩] := ho13
    obtain ⟨ga, rfl⟩ := own_some ho (by decide)
    have a0 : w13.cell? ⟨ga, 0, none⟩ = some (.int .i64 1) := by rw [ho.cellAt 0 (by decide)]; rfl
    have a1 : w13.cell? ⟨ga, 1, none⟩ = some (.string ⟨#[114]⟩) := by rw [ho.cellAt 1 (by decide)]; rfl
    have heq : ∀ w, (Op.equalIn 10000 118 (.agg #[.int .i64 1, .string ⟨#[114]⟩]) (.agg #[.int .i64 1, .string ⟨#[114]⟩])).run Try.prog w = .ok true w := fun w => by rw [eqAn]; simp
    have HC13 := Lib.hid (HC12.out.below hb13)
    have HCH13 := Lib.hid (HCH12.out.step (Ch.of_below (S := fun _ => False) hb13) hz12 (fun _ _ e => e))
    have HWT13 := Lib.hid (cwaits_calls x g w3.heap.size b t m n T3 S8 (aw3 out) A12 c12 w13 HC13.out)
    rw [show (aw3 out).waits = false from rfl] at HWT13
    rw [show (aw3 out).ans.length = 1 from rfl]
    clear ho ho13 hb13
    go_wp2_with fail
    refine HWT13.out.mono ?_
    rintro e wx ⟨rfl, hwx⟩
    obtain rfl := hwx.symm
    go_wp2
    go_ret
    exact ⟨rfl, HCH13.out.below (fun _ _ e => e)⟩
  · cases hbad
end Go.Proofs.Ytfgpchffkpomoaa
