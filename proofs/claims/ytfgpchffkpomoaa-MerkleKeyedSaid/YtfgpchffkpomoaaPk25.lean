/- Texts of this proof, several in one file; each says ahead of it what it proves. -/
import Derived.Test.YtfgpchffkpomoaaPk24
/- The proof of a key: the walk through a tree's Prove. -/
namespace Go.Proofs.Ytfgpchffkpomoaa
set_option linter.unusedSimpArgs false
set_option linter.unusedVariables false
open Go.RowKit

/-- What a tree's Prove works on: its result, its proof, the tree, records, digests, the book. -/
structure PS (w0 : World) (b t m n : Nat) (T : List ByteArray) (S : List Wd) (R0 : Nat) (c0 : Array Value) (R1 : Nat) (c1 : Array Value) (q : Nat) (A : Option Addr) (c : Nat) (l : List Rc) (DA : Option Addr) (dc : Nat) (D : List ByteArray) (w : World) : Prop where
  ch : Ch w0.heap.size (· = m) w0 w
  bk : Bk w b t m n T S
  x0 : Box w R0 c0 35
  x1 : Box w R1 c1 35
  tb : TreeBox w q b A l.length c DA D.length dc
  rs : RcS w A c l
  ts : TxS w DA dc D
theorem PS.call {w0 w w' : World} {b t m n : Nat} {T T' : List ByteArray} {S : List Wd} {R0 : Nat} {c0 : Array Value} {R1 : Nat} {c1 : Array Value} {q : Nat} {A : Option Addr} {c : Nat} {l : List Rc} {DA : Option Addr} {dc : Nat} {D : List ByteArray}
    (h : PS w0 b t m n T S R0 c0 R1 c1 q A c l DA dc D w) (hc : Ch w.heap.size (· = m) w w') (hb : Bk w' b t m n T' S) (n0 : R0 ≠ m) (n1 : R1 ≠ m) (nq : q ≠ m) (hA : Off A l.length m) (hD : Off DA D.length m) : PS w0 b t m n T' S R0 c0 R1 c1 q A c l DA dc D w' :=
  ⟨h.ch.step hc h.ch.size (fun _ _ e => e), hb, h.x0.ch hc h.x0.lt n0, h.x1.ch hc h.x1.lt n1, Box.ch h.tb hc h.tb.lt nq, h.rs.off hc hA, h.ts.off hc hD⟩
theorem PS.below {w0 w w' : World} {b t m n : Nat} {T : List ByteArray} {S : List Wd} {R0 : Nat} {c0 : Array Value} {R1 : Nat} {c1 : Array Value} {q : Nat} {A : Option Addr} {c : Nat} {l : List Rc} {DA : Option Addr} {dc : Nat} {D : List ByteArray}
    (h : PS w0 b t m n T S R0 c0 R1 c1 q A c l DA dc D w) (hc : Below w.heap.size w w') : PS w0 b t m n T S R0 c0 R1 c1 q A c l DA dc D w' :=
  ⟨h.ch.step (Ch.of_below (S := fun _ => False) hc) h.ch.size (fun _ _ e => e.elim), h.bk.below hc, h.x0.ch (Ch.of_below (S := fun _ => False) hc) h.x0.lt (fun e => e), h.x1.ch (Ch.of_below (S := fun _ => False) hc) h.x1.lt (fun e => e), Box.ch h.tb (Ch.of_below (S := fun _ => False) hc) h.tb.lt (fun e => e), h.rs.below hc, h.ts.below hc⟩
/-- Rows that lie in new blocks. -/
def NewRows (B : Nat) (A : Option Addr) (ps : List Pm) : Prop := (∀ k, Row A k → B ≤ k) ∧ (∀ x ∈ ps, ∀ k, Row x.A k → B ≤ k) ∧ ∀ x ∈ ps, x.sides.length ≤ x.c
def MProvePost (w0 : World) (b t m n : Nat) (T : List ByteArray) (S : List Wd) (l : List Rc) (key : ByteArray) (e : Ending) (w' : World) : Prop :=
  ∃ T' A c ps cnt cd, e = .returned (.tuple #[.agg #[.int .i64 cnt, .slice A ps.length c], .int .i64 cd]) ∧
    Hid ((fitK key = true → cd = 0 ∧ cnt = (l.length : Int) ∧ ps.map Pm.pt = proofP (hh T') l key ∧ ∀ i ∈ shownP l key, SidesIn T' (leavesH (hh T') l) i) ∧ (fitK key = false → cd = 14 ∧ cnt = 0 ∧ ps = [])) ∧
    Ext T T' ∧ T'.length ≤ T.length + 10000 ∧ Ch w0.heap.size (· = m) w0 w' ∧ Bk w' b t m n T' S ∧ PmS w' A c ps ∧ NewRows w0.heap.size A ps
theorem PmS.nil (w : World) : PmS w none 0 [] := ⟨⟨by simp, by simp, fun j u h => by simp at h⟩, fun m hm => by cases hm⟩
theorem box_fill2 {w : World} {k : Nat} {T : TypeId} {a b x y : Value} (h : Box w k #[a, b] T) : Box ((w.setCell ⟨k, 0, none⟩ x).setCell ⟨k, 1, none⟩ y) k #[x, y] T := (h.set 0 x).set 1 y

theorem prove_end {w0 w4 : World} {b t m n : Nat} {T : List ByteArray} {S : List Wd} {R0 : Nat} {x0 x1 : Value} {R1 : Nat} {c1 : Array Value} {q : Nat} {A : Option Addr} {c : Nat} {l : List Rc} {DA : Option Addr} {dc : Nat} {D : List ByteArray}
    (h : PS w0 b t m n T S R0 #[x0, x1] R1 c1 q A c l DA dc D w4) (hR0 : w0.heap.size ≤ R0) (hR1 : R0 < R1) (hf : b < w0.heap.size ∧ t < w0.heap.size ∧ m < w0.heap.size ∧ n < w0.heap.size) (ps : List Pm) (u v k : Value) (TY : TypeId)
    (hps : ∀ x ∈ ps, TxS w4 x.A x.c x.sides) (hrow : ∀ x ∈ ps, ∀ j, Row x.A j → R1 < j ∧ j < w4.heap.size) (hcap : ∀ x ∈ ps, x.sides.length ≤ x.c) (hl : ps.length ≤ 1000) (cells : Array Value) (hc : cells.toList = ps.flatMap Pm.cells) :
    ∀ wf, wf = (((w4.setCell ⟨R1, 1, none⟩ u).alloc (.cells cells TY)).setCell ⟨R0, 0, none⟩ k).setCell ⟨R0, 1, none⟩ v →
    Ch w0.heap.size (· = m) w0 wf ∧ Bk wf b t m n T S ∧ PmS wf (some ⟨w4.heap.size, 0, none⟩) ps.length ps ∧ NewRows w0.heap.size (some ⟨w4.heap.size, 0, none⟩) ps ∧ Box wf R0 #[k, v] 35 := by
  rintro wf rfl
  have hz := h.ch.size
  have h1l := h.x1.lt
  have hsz : (w4.setCell ⟨R1, 1, none⟩ u).heap.size = w4.heap.size := by simp [World.setCell]
  have hch : Ch w4.heap.size (fun j => j = R0 ∨ j = R1) w4 ((((w4.setCell ⟨R1, 1, none⟩ u).alloc (.cells cells TY)).setCell ⟨R0, 0, none⟩ k).setCell ⟨R0, 1, none⟩ v) :=
    ((((Ch.refl w4.heap.size (fun j => j = R0 ∨ j = R1) w4).setCell (p := ⟨R1, 1, none⟩) (.inr (.inr rfl)) u).alloc (by rw [hsz]; exact Nat.le_refl _) _).setCell (p := ⟨R0, 0, none⟩) (.inr (.inl rfl)) _).setCell (p := ⟨R0, 1, none⟩) (.inr (.inl rfl)) _
  have hbx : Box ((((w4.setCell ⟨R1, 1, none⟩ u).alloc (.cells cells TY)).setCell ⟨R0, 0, none⟩ k).setCell ⟨R0, 1, none⟩ v) w4.heap.size cells TY := by
    have := Box.new (w4.setCell ⟨R1, 1, none⟩ u) cells TY
    rw [hsz] at this
    exact (this.other (a := ⟨R0, 0, none⟩) (by simp only; omega) k).other (a := ⟨R0, 1, none⟩) (by simp only; omega) v
  refine ⟨h.ch.step hch hz (fun i hi e => by omega), h.bk.ch hch (Nat.le_refl _) (by omega), ⟨⟨?_, by omega, ?_⟩, fun x hx => (hps x hx).ch hch (fun j hj hlt => ⟨hlt, by have := hrow x hx j hj; omega⟩)⟩, ⟨fun j hj => ?_, fun x hx j hj => (by have := hrow x hx j hj; omega), hcap⟩, ?_⟩
  · exact flat_len Pm.cells 4 Pm.cells_len ps
  · intro j u' hj
    rw [← hc] at hj
    exact ⟨_, rfl, news_box hbx j u' hj⟩
  · obtain rfl : w4.heap.size = j := by simpa [Row] using hj
    exact hz
  · exact box_fill2 ((h.x0.other (a := ⟨R1, 1, none⟩) (by simp only; omega) u).alloc _)

set_option maxHeartbeats 4000000 in
set_option maxRecDepth 100000 in
theorem tProve_calls (q b t m n : Nat) (T : List ByteArray) (S : List Wd) (A : Option Addr) (c : Nat) (DA : Option Addr) (dc : Nat) (l : List Rc) (D : List ByteArray) (key : ByteArray) (w : World) (hb : Bk w b t m n T S) (hT : T.length ≤ 400000000) (hx : TreeBox w q b A l.length c DA D.length dc) (hq : q ≠ m) (hs : RcS w A c l) (hl : l.length ≤ 4096) (hD : TxS w DA dc D) (hDe : D = leavesH (hh T) l) (hLi : LeavesIn T l) (hr : Rising l) (hDc : D.length ≤ dc) (hA : Off A l.length m) (hDA : Off DA D.length m) :
    Calls Try.prog 85 #[.pointer (some ⟨q, 0, none⟩), .string key] w (MProvePost w b t m n T S l key) := by
  have hql := hx.lt
  have hlt0 := hb.all_lt
  have hDl : D.length = l.length := by rw [hDe, leavesH_len]
  have hDs : ∀ x ∈ D, x.size ≤ 1000 := fun x hx => by rw [hDe] at hx; rw [leaves_size T l x hx]; omega
  have hbl := (Below.refl w.heap.size w).alloc (Nat.le_refl _) (.cells #[.int .i64 0, .slice none 0 0] 35)
  have HX0 := Lib.hid (Box.new w #[.int .i64 0, .slice none 0 0] 35)
  have HTB := Lib.hid (Box.alloc hx (.cells #[.int .i64 0, .slice none 0 0] 35))
  have HM := Lib.hid (fun w hx => tmade_calls q b A l.length c DA D.length dc w hx)
  have HF := Lib.hid (fun w => mfits_calls key w)
  have HBK := Lib.hid (hb.alloc (.cells #[.int .i64 0, .slice none 0 0] 35))
  by_cases hf : fitK key = true
  · have hpl := plc_le l key
    rw [hf] at HF
    have HFK := Lib.hid hf
    have HPS := Lib.hid (show PS w b t m n T S w.heap.size #[.int .i64 0, .slice none 0 0] (w.heap.size + 1) #[.int .i64 (l.length : Int), .slice none 0 0] q A c l DA dc D ((w.alloc (.cells #[.int .i64 0, .slice none 0 0] 35)).alloc (.cells #[.int .i64 (l.length : Int), .slice none 0 0] 35)) from
      ⟨(Ch.of_below hbl).alloc (by simp) _, (hb.alloc _).alloc _, HX0.out.alloc _, (by have := Box.new (w.alloc (.cells #[.int .i64 0, .slice none 0 0] 35)) #[.int .i64 (l.length : Int), .slice none 0 0] 35; simpa only [World.size_alloc] using this), Box.alloc (Box.alloc hx _) _, (hs.below hbl).below ((Below.refl _ _).alloc (Nat.le_refl _) _), (hD.below hbl).below ((Below.refl _ _).alloc (Nat.le_refl _) _)⟩)
    have HPL := Lib.hid (fun w hx hs => tplace_calls q b A c DA D.length dc l key w hx hs hr (by omega))
    have HPA := Lib.hid (fun (T1 : List ByteArray) (w' : World) (h : PS w b t m n T1 S w.heap.size #[.int .i64 0, .slice none 0 0] (w.heap.size + 1) #[.int .i64 (l.length : Int), .slice none 0 0] q A c l DA dc D w') (hT1 : T1.length ≤ 500000000) (i : Nat) (hi : i < l.length) => tpath_calls q b t m n T1 S A c DA dc l D i w' h.bk hT1 h.tb hq h.rs hl h.ts (by omega) hDc hDs hA hDA hi)
    have HDE := Lib.hid hDe
    have HLI := Lib.hid hLi
    have HA := Lib.hid hA
    have HDA := Lib.hid hDA
    have hml := hlt0.2.2.1
    have HLT := Lib.hid hlt0
    obtain ⟨x0, x1, y0, y1⟩ := HX0.out.facts2
    clear hb hx hs hD hDe hLi hr hA hDA hDs hf hlt0
    obtain ⟨p, hp⟩ : ∃ p, p = placeP l key := ⟨_, rfl⟩
    unfold PlacePost at HPL
    rw [← hp] at HPL hpl
    have HP := Lib.hid hp
    clear hp
    cases hi : isP l key with
    | true =>
      have hsh : shownP l key = [p] := by unfold shownP; rw [if_pos hi, HP.out]
      rw [hi] at HPL
      obtain ⟨x, hx, _⟩ := isP_some hi
      rw [← HP.out] at hx
      have hpi : p < l.length := (List.getElem?_eq_some_iff.1 hx).1
      have HSH := Lib.hid hsh
      clear hi hsh hx
      go_enter Try.func85, Try.ntmps85
      go_wp2_with fail
      refine (HM.out _ HTB.out).mono ?_
      rintro e w1 ⟨rfl, hw⟩
      subst hw
      go_wp2_with fail
      refine (HF.out _).mono ?_
      rintro e w1 ⟨rfl, hw⟩
      subst hw
      obtain ⟨k0, k1, k2, _⟩ := Box.facts3 HTB.out
      go_wp2_with fail
      refine (HPL.out _ HPS.out.tb HPS.out.rs).mono ?_
      rintro e w3 ⟨rfl, hb3⟩
      have HQ := Lib.hid (HPS.out.below hb3)
      clear hb3 x0 x1 y0 y1 k0 k1 k2
      obtain ⟨x0, x1, y0, y1⟩ := HQ.out.x0.facts2
      obtain ⟨z0, z1, v0, v1⟩ := HQ.out.x1.facts2
      obtain ⟨k0, k1, k2, _⟩ := Box.facts3 HQ.out.tb
      have hz3 := HQ.out.x1.lt
      go_wp2_with fail
      have hpa := HPA.out T w3 HQ.out (by omega) p hpi
      obtain ⟨r, hrr⟩ : ∃ r, r = l[p] := ⟨_, rfl⟩
      rw [← hrr] at hpa
      have HRR := Lib.hid hrr
      clear hrr
      obtain ⟨rk, rv⟩ := r
      refine hpa.mono ?_
      clear hpa
      rintro e w4 ⟨T1, A1, c1, L1, rfl, q1, e1, l1, si1, ch1, kk1, o1⟩
      have HQ2 := Lib.hid (HQ.out.call ch1 kk1 (by omega) (by omega) hq HA.out HDA.out)
      have hzz := HQ2.out.x1.lt
      have hx0 := (HQ2.out.x0.other (a := ⟨w.heap.size + 1, 1, none⟩) (by simp) (.slice (some ⟨w4.heap.size, 0, none⟩) 1 1)).alloc (.cells #[.int .i64 p, .string rk, .string rv, .slice A1 L1.length c1] 179)
      have hx1 : Box _ _ #[.int .i64 (l.length : Int), .slice (some ⟨w4.heap.size, 0, none⟩) 1 1] _ := (HQ2.out.x1.set 1 (.slice (some ⟨w4.heap.size, 0, none⟩) 1 1)).alloc (.cells #[.int .i64 p, .string rk, .string rv, .slice A1 L1.length c1] 179)
      clear x0 x1 y0 y1 z0 z1 v0 v1 k0 k1 k2
      obtain ⟨x0, x1, y0, y1⟩ := hx0.facts2
      obtain ⟨z0, z1, v0, v1⟩ := hx1.facts2
      obtain ⟨g0, g1, h0, h1⟩ := HQ2.out.x1.facts2
      have HX0' := Lib.hid hx0
      clear hx0 hx1
      go_wp2_with fail
      have hps : ∀ x ∈ ([⟨(p : Int), rk, rv, L1, A1, c1⟩] : List Pm), TxS w4 x.A x.c x.sides := by
        intro x hx
        obtain rfl := List.mem_singleton.1 hx
        exact Sl.of_own o1
      have hcap : ∀ x ∈ ([⟨(p : Int), rk, rv, L1, A1, c1⟩] : List Pm), x.sides.length ≤ x.c := by
        intro x hx
        obtain rfl := List.mem_singleton.1 hx
        exact own_cap o1
      have hrow : ∀ x ∈ ([⟨(p : Int), rk, rv, L1, A1, c1⟩] : List Pm), ∀ j, Row x.A j → w.heap.size + 1 < j ∧ j < w4.heap.size := by
        intro x hx j hj
        obtain rfl := List.mem_singleton.1 hx
        have := own_row o1 hj
        omega
      obtain ⟨f1, f2, f3, f4, f5⟩ := prove_end HQ2.out (Nat.le_refl _) (by omega) HLT.out [⟨(p : Int), rk, rv, L1, A1, c1⟩] (.slice (some ⟨w4.heap.size, 0, none⟩) 1 1) (.slice (some ⟨w4.heap.size, 0, none⟩) 1 1) (.int .i64 (l.length : Int)) 179 hps hrow hcap (by simp) #[.int .i64 p, .string rk, .string rv, .slice A1 L1.length c1] rfl _ rfl
      obtain ⟨d0, d1, _⟩ := f5.facts2
      refine bodyPost_ret (v := .tuple #[.agg #[.int .i64 (l.length : Int), .slice (some ⟨w4.heap.size, 0, none⟩) 1 1], .int .i64 0]) (by simp [results, Try.results85, go_sem, d0, d1]) rfl ?_
      refine ⟨T1, some ⟨w4.heap.size, 0, none⟩, 1, [⟨(p : Int), rk, rv, L1, A1, c1⟩], l.length, 0, rfl, ⟨fun _ => ⟨rfl, rfl, ?_, ?_⟩, fun h => (by have h2 := HFK.out; rw [h2] at h; cases h)⟩, e1, by omega, f1, f2, f3, f4⟩
      · have hx1 := (HLI.out.ext e1).2
        have hrr : l[p]? = some ⟨rk, rv⟩ := by rw [List.getElem?_eq_getElem hpi, HRR.out]
        unfold proofP
        rw [HSH.out]
        show [_] = [pathP (hh T1) l p]
        rw [pathP_eq hrr, hx1, ← HDE.out, ← q1.out]
        rfl
      · intro i hi
        rw [HSH.out] at hi
        obtain rfl : i = p := by simpa using hi
        rw [(HLI.out.ext e1).2, ← HDE.out]
        exact si1
    | false =>
      rw [hi] at HPL
      have HNO := Lib.hid (show ∀ r, (if isP l key = true then [placeP l key] else r) = r from fun r => by rw [hi]; rfl)
      clear hi
      by_cases h0 : l.length = 0
      · have hd0 : (((l.length : Nat) : Int) == 0) = true := by rw [beq_iff_eq]; omega
        have HSH := Lib.hid (show shownP l key = [] by unfold shownP; rw [HNO.out, if_pos h0])
        have H0 := Lib.hid h0
        clear h0
        go_enter Try.func85, Try.ntmps85
        go_wp2_with fail
        refine (HM.out _ HTB.out).mono ?_
        rintro e w1 ⟨rfl, hw⟩
        subst hw
        go_wp2_with fail
        refine (HF.out _).mono ?_
        rintro e w1 ⟨rfl, hw⟩
        subst hw
        obtain ⟨k0, k1, k2, _⟩ := Box.facts3 HTB.out
        go_wp2_with fail
        refine (HPL.out _ HPS.out.tb HPS.out.rs).mono ?_
        rintro e w3 ⟨rfl, hb3⟩
        have HQ := Lib.hid (HPS.out.below hb3)
        clear hb3 x0 x1 y0 y1 k0 k1 k2
        obtain ⟨x0, x1, y0, y1⟩ := HQ.out.x0.facts2
        obtain ⟨z0, z1, v0, v1⟩ := HQ.out.x1.facts2
        obtain ⟨k0, k1, k2, _⟩ := Box.facts3 HQ.out.tb
        have hz3 := HQ.out.x1.lt
        go_wp2_with fail
        have hbx := box_fill2 HQ.out.x0 (x := .int .i64 (l.length : Int)) (y := .slice none 0 0)
        obtain ⟨d0, d1, _⟩ := hbx.facts2
        have hff := HLT.out
        have hf : w.heap.size ≠ b ∧ w.heap.size ≠ t ∧ w.heap.size ≠ m ∧ w.heap.size ≠ n := by omega
        refine bodyPost_ret (v := .tuple #[.agg #[.int .i64 (l.length : Int), .slice none 0 0], .int .i64 0]) (by simp [results, Try.results85, go_sem, d0, d1]) rfl ?_
        exact ⟨T, none, 0, [], l.length, 0, rfl, ⟨fun _ => ⟨rfl, rfl, (by unfold proofP; rw [HSH.out]; rfl), fun i hi => (by rw [HSH.out] at hi; cases hi)⟩, fun h => (by have h2 := HFK.out; rw [h2] at h; cases h)⟩, Ext.refl _, by omega, (HQ.out.ch.setCell (p := ⟨w.heap.size, 0, none⟩) (.inl (Nat.le_refl _)) _).setCell (p := ⟨w.heap.size, 1, none⟩) (.inl (Nat.le_refl _)) _, (HQ.out.bk.setCell (p := ⟨w.heap.size, 0, none⟩) hf _).setCell (p := ⟨w.heap.size, 1, none⟩) hf _, PmS.nil _, fun k hk => (by simp [Row] at hk), fun x hx => (by cases hx), fun x hx => (by cases hx)⟩
      · have hd0 : (((l.length : Nat) : Int) == 0) = false := by rw [beq_eq_false_iff_ne]; omega
        by_cases hp0 : p = 0
        · have HSH := Lib.hid (show shownP l key = [0] by unfold shownP; rw [HNO.out, if_neg h0, if_pos (HP.out.symm.trans hp0)])
          have hpi : 0 < l.length := by omega
          subst hp0
          go_enter Try.func85, Try.ntmps85
          go_wp2_with fail
          refine (HM.out _ HTB.out).mono ?_
          rintro e w1 ⟨rfl, hw⟩
          subst hw
          go_wp2_with fail
          refine (HF.out _).mono ?_
          rintro e w1 ⟨rfl, hw⟩
          subst hw
          obtain ⟨k0, k1, k2, _⟩ := Box.facts3 HTB.out
          go_wp2_with fail
          refine (HPL.out _ HPS.out.tb HPS.out.rs).mono ?_
          rintro e w3 ⟨rfl, hb3⟩
          have HQ := Lib.hid (HPS.out.below hb3)
          clear hb3 x0 x1 y0 y1 k0 k1 k2
          obtain ⟨x0, x1, y0, y1⟩ := HQ.out.x0.facts2
          obtain ⟨z0, z1, v0, v1⟩ := HQ.out.x1.facts2
          obtain ⟨k0, k1, k2, _⟩ := Box.facts3 HQ.out.tb
          have hz3 := HQ.out.x1.lt
          go_wp2_with fail
          have hpa := HPA.out T w3 HQ.out (by omega) 0 hpi
          obtain ⟨r, hrr⟩ : ∃ r, r = l[0] := ⟨_, rfl⟩
          rw [← hrr] at hpa
          have HRR := Lib.hid hrr
          clear hrr
          obtain ⟨rk, rv⟩ := r
          refine hpa.mono ?_
          clear hpa
          rintro e w4 ⟨T1, A1, c1, L1, rfl, q1, e1, l1, si1, ch1, kk1, o1⟩
          have HQ2 := Lib.hid (HQ.out.call ch1 kk1 (by omega) (by omega) hq HA.out HDA.out)
          have hzz := HQ2.out.x1.lt
          have hx0 := (HQ2.out.x0.other (a := ⟨w.heap.size + 1, 1, none⟩) (by simp) (.slice (some ⟨w4.heap.size, 0, none⟩) 1 1)).alloc (.cells #[.int .i64 0, .string rk, .string rv, .slice A1 L1.length c1] 179)
          have hx1 : Box _ _ #[.int .i64 (l.length : Int), .slice (some ⟨w4.heap.size, 0, none⟩) 1 1] _ := (HQ2.out.x1.set 1 (.slice (some ⟨w4.heap.size, 0, none⟩) 1 1)).alloc (.cells #[.int .i64 0, .string rk, .string rv, .slice A1 L1.length c1] 179)
          clear x0 x1 y0 y1 z0 z1 v0 v1 k0 k1 k2
          obtain ⟨x0, x1, y0, y1⟩ := hx0.facts2
          obtain ⟨z0, z1, v0, v1⟩ := hx1.facts2
          obtain ⟨g0, g1, h0, h1⟩ := HQ2.out.x1.facts2
          have HX0' := Lib.hid hx0
          clear hx0 hx1
          go_wp2_with fail
          have hps : ∀ x ∈ ([⟨(0 : Int), rk, rv, L1, A1, c1⟩] : List Pm), TxS w4 x.A x.c x.sides := by
            intro x hx
            obtain rfl := List.mem_singleton.1 hx
            exact Sl.of_own o1
          have hcap : ∀ x ∈ ([⟨(0 : Int), rk, rv, L1, A1, c1⟩] : List Pm), x.sides.length ≤ x.c := by
            intro x hx
            obtain rfl := List.mem_singleton.1 hx
            exact own_cap o1
          have hrow : ∀ x ∈ ([⟨(0 : Int), rk, rv, L1, A1, c1⟩] : List Pm), ∀ j, Row x.A j → w.heap.size + 1 < j ∧ j < w4.heap.size := by
            intro x hx j hj
            obtain rfl := List.mem_singleton.1 hx
            have := own_row o1 hj
            omega
          obtain ⟨f1, f2, f3, f4, f5⟩ := prove_end HQ2.out (Nat.le_refl _) (by omega) HLT.out [⟨(0 : Int), rk, rv, L1, A1, c1⟩] (.slice (some ⟨w4.heap.size, 0, none⟩) 1 1) (.slice (some ⟨w4.heap.size, 0, none⟩) 1 1) (.int .i64 (l.length : Int)) 179 hps hrow hcap (by simp) #[.int .i64 0, .string rk, .string rv, .slice A1 L1.length c1] rfl _ rfl
          obtain ⟨d0, d1, _⟩ := f5.facts2
          refine bodyPost_ret (v := .tuple #[.agg #[.int .i64 (l.length : Int), .slice (some ⟨w4.heap.size, 0, none⟩) 1 1], .int .i64 0]) (by simp [results, Try.results85, go_sem, d0, d1]) rfl ?_
          refine ⟨T1, some ⟨w4.heap.size, 0, none⟩, 1, [⟨(0 : Int), rk, rv, L1, A1, c1⟩], l.length, 0, rfl, ⟨fun _ => ⟨rfl, rfl, ?_, ?_⟩, fun h => (by have h2 := HFK.out; rw [h2] at h; cases h)⟩, e1, by omega, f1, f2, f3, f4⟩
          · have hx1 := (HLI.out.ext e1).2
            have hrr : l[0]? = some ⟨rk, rv⟩ := by rw [List.getElem?_eq_getElem hpi, HRR.out]
            unfold proofP
            rw [HSH.out]
            show [_] = [pathP (hh T1) l 0]
            rw [pathP_eq hrr, hx1, ← HDE.out, ← q1.out]
            rfl
          · intro i hi
            rw [HSH.out] at hi
            obtain rfl : i = 0 := by simpa using hi
            rw [(HLI.out.ext e1).2, ← HDE.out]
            exact si1
        · obtain ⟨j, rfl⟩ : ∃ j, p = j + 1 := ⟨p - 1, by omega⟩
          have hjn : ((j : Int) + 1 == 0) = false := by rw [beq_eq_false_iff_ne]; omega
          have hpi : j < l.length := by omega
          by_cases hpl2 : j + 1 = l.length
          · have HSH := Lib.hid (show shownP l key = [j] by unfold shownP; rw [HNO.out, if_neg h0, if_neg (by rw [← HP.out]; omega), if_pos (by rw [← HP.out]; exact hpl2), ← HP.out]; rfl)
            by_cases hj : 0 < j
            · have hjl : ((j : Int) + 1 == (l.length : Int)) = true := by rw [beq_iff_eq]; omega
              have HPL2 := Lib.hid hpl2
              have hwj : IntKind.i64.wrap (j : Int) = (j : Int) := wrap_small _ (by omega) (by omega)
              clear hpl2
              go_enter Try.func85, Try.ntmps85
              go_wp2_with fail
              refine (HM.out _ HTB.out).mono ?_
              rintro e w1 ⟨rfl, hw⟩
              subst hw
              go_wp2_with fail
              refine (HF.out _).mono ?_
              rintro e w1 ⟨rfl, hw⟩
              subst hw
              obtain ⟨k0, k1, k2, _⟩ := Box.facts3 HTB.out
              go_wp2_with fail
              refine (HPL.out _ HPS.out.tb HPS.out.rs).mono ?_
              rintro e w3 ⟨rfl, hb3⟩
              have HQ := Lib.hid (HPS.out.below hb3)
              clear hb3 x0 x1 y0 y1 k0 k1 k2
              obtain ⟨x0, x1, y0, y1⟩ := HQ.out.x0.facts2
              obtain ⟨z0, z1, v0, v1⟩ := HQ.out.x1.facts2
              obtain ⟨k0, k1, k2, _⟩ := Box.facts3 HQ.out.tb
              have hz3 := HQ.out.x1.lt
              go_wp2_with fail
              have hpa := HPA.out T w3 HQ.out (by omega) j hpi
              obtain ⟨r, hrr⟩ : ∃ r, r = l[j] := ⟨_, rfl⟩
              rw [← hrr] at hpa
              have HRR := Lib.hid hrr
              clear hrr
              obtain ⟨rk, rv⟩ := r
              refine hpa.mono ?_
              clear hpa
              rintro e w4 ⟨T1, A1, c1, L1, rfl, q1, e1, l1, si1, ch1, kk1, o1⟩
              have HQ2 := Lib.hid (HQ.out.call ch1 kk1 (by omega) (by omega) hq HA.out HDA.out)
              have hzz := HQ2.out.x1.lt
              have hx0 := (HQ2.out.x0.other (a := ⟨w.heap.size + 1, 1, none⟩) (by simp) (.slice (some ⟨w4.heap.size, 0, none⟩) 1 1)).alloc (.cells #[.int .i64 j, .string rk, .string rv, .slice A1 L1.length c1] 179)
              have hx1 : Box _ _ #[.int .i64 (l.length : Int), .slice (some ⟨w4.heap.size, 0, none⟩) 1 1] _ := (HQ2.out.x1.set 1 (.slice (some ⟨w4.heap.size, 0, none⟩) 1 1)).alloc (.cells #[.int .i64 j, .string rk, .string rv, .slice A1 L1.length c1] 179)
              clear x0 x1 y0 y1 z0 z1 v0 v1 k0 k1 k2
              obtain ⟨x0, x1, y0, y1⟩ := hx0.facts2
              obtain ⟨z0, z1, v0, v1⟩ := hx1.facts2
              obtain ⟨g0, g1, h0, h1⟩ := HQ2.out.x1.facts2
              have HX0' := Lib.hid hx0
              clear hx0 hx1
              go_wp2_with fail
              have hps : ∀ x ∈ ([⟨(j : Int), rk, rv, L1, A1, c1⟩] : List Pm), TxS w4 x.A x.c x.sides := by
                intro x hx
                obtain rfl := List.mem_singleton.1 hx
                exact Sl.of_own o1
              have hcap : ∀ x ∈ ([⟨(j : Int), rk, rv, L1, A1, c1⟩] : List Pm), x.sides.length ≤ x.c := by
                intro x hx
                obtain rfl := List.mem_singleton.1 hx
                exact own_cap o1
              have hrow : ∀ x ∈ ([⟨(j : Int), rk, rv, L1, A1, c1⟩] : List Pm), ∀ j, Row x.A j → w.heap.size + 1 < j ∧ j < w4.heap.size := by
                intro x hx j hj
                obtain rfl := List.mem_singleton.1 hx
                have := own_row o1 hj
                omega
              obtain ⟨f1, f2, f3, f4, f5⟩ := prove_end HQ2.out (Nat.le_refl _) (by omega) HLT.out [⟨(j : Int), rk, rv, L1, A1, c1⟩] (.slice (some ⟨w4.heap.size, 0, none⟩) 1 1) (.slice (some ⟨w4.heap.size, 0, none⟩) 1 1) (.int .i64 (l.length : Int)) 179 hps hrow hcap (by simp) #[.int .i64 j, .string rk, .string rv, .slice A1 L1.length c1] rfl _ rfl
              obtain ⟨d0, d1, _⟩ := f5.facts2
              refine bodyPost_ret (v := .tuple #[.agg #[.int .i64 (l.length : Int), .slice (some ⟨w4.heap.size, 0, none⟩) 1 1], .int .i64 0]) (by simp [results, Try.results85, go_sem, d0, d1]) rfl ?_
              refine ⟨T1, some ⟨w4.heap.size, 0, none⟩, 1, [⟨(j : Int), rk, rv, L1, A1, c1⟩], l.length, 0, rfl, ⟨fun _ => ⟨rfl, rfl, ?_, ?_⟩, fun h => (by have h2 := HFK.out; rw [h2] at h; cases h)⟩, e1, by omega, f1, f2, f3, f4⟩
              · have hx1 := (HLI.out.ext e1).2
                have hrr : l[j]? = some ⟨rk, rv⟩ := by rw [List.getElem?_eq_getElem hpi, HRR.out]
                unfold proofP
                rw [HSH.out]
                show [_] = [pathP (hh T1) l j]
                rw [pathP_eq hrr, hx1, ← HDE.out, ← q1.out]
                rfl
              · intro i hi
                rw [HSH.out] at hi
                obtain rfl : i = j := by simpa using hi
                rw [(HLI.out.ext e1).2, ← HDE.out]
                exact si1
            · obtain rfl : j = 0 := by omega
              have hjl : ((1 : Int) == (l.length : Int)) = true := by rw [beq_iff_eq]; omega
              have HPL2 := Lib.hid hpl2
              clear hpl2
              go_enter Try.func85, Try.ntmps85
              go_wp2_with fail
              refine (HM.out _ HTB.out).mono ?_
              rintro e w1 ⟨rfl, hw⟩
              subst hw
              go_wp2_with fail
              refine (HF.out _).mono ?_
              rintro e w1 ⟨rfl, hw⟩
              subst hw
              obtain ⟨k0, k1, k2, _⟩ := Box.facts3 HTB.out
              go_wp2_with fail
              refine (HPL.out _ HPS.out.tb HPS.out.rs).mono ?_
              rintro e w3 ⟨rfl, hb3⟩
              have HQ := Lib.hid (HPS.out.below hb3)
              clear hb3 x0 x1 y0 y1 k0 k1 k2
              obtain ⟨x0, x1, y0, y1⟩ := HQ.out.x0.facts2
              obtain ⟨z0, z1, v0, v1⟩ := HQ.out.x1.facts2
              obtain ⟨k0, k1, k2, _⟩ := Box.facts3 HQ.out.tb
              have hz3 := HQ.out.x1.lt
              go_wp2_with fail
              have hpa := HPA.out T w3 HQ.out (by omega) 0 hpi
              obtain ⟨r, hrr⟩ : ∃ r, r = l[0] := ⟨_, rfl⟩
              rw [← hrr] at hpa
              have HRR := Lib.hid hrr
              clear hrr
              obtain ⟨rk, rv⟩ := r
              refine hpa.mono ?_
              clear hpa
              rintro e w4 ⟨T1, A1, c1, L1, rfl, q1, e1, l1, si1, ch1, kk1, o1⟩
              have HQ2 := Lib.hid (HQ.out.call ch1 kk1 (by omega) (by omega) hq HA.out HDA.out)
              have hzz := HQ2.out.x1.lt
              have hx0 := (HQ2.out.x0.other (a := ⟨w.heap.size + 1, 1, none⟩) (by simp) (.slice (some ⟨w4.heap.size, 0, none⟩) 1 1)).alloc (.cells #[.int .i64 0, .string rk, .string rv, .slice A1 L1.length c1] 179)
              have hx1 : Box _ _ #[.int .i64 (l.length : Int), .slice (some ⟨w4.heap.size, 0, none⟩) 1 1] _ := (HQ2.out.x1.set 1 (.slice (some ⟨w4.heap.size, 0, none⟩) 1 1)).alloc (.cells #[.int .i64 0, .string rk, .string rv, .slice A1 L1.length c1] 179)
              clear x0 x1 y0 y1 z0 z1 v0 v1 k0 k1 k2
              obtain ⟨x0, x1, y0, y1⟩ := hx0.facts2
              obtain ⟨z0, z1, v0, v1⟩ := hx1.facts2
              obtain ⟨g0, g1, h0, h1⟩ := HQ2.out.x1.facts2
              have HX0' := Lib.hid hx0
              clear hx0 hx1
              go_wp2_with fail
              have hps : ∀ x ∈ ([⟨(0 : Int), rk, rv, L1, A1, c1⟩] : List Pm), TxS w4 x.A x.c x.sides := by
                intro x hx
                obtain rfl := List.mem_singleton.1 hx
                exact Sl.of_own o1
              have hcap : ∀ x ∈ ([⟨(0 : Int), rk, rv, L1, A1, c1⟩] : List Pm), x.sides.length ≤ x.c := by
                intro x hx
                obtain rfl := List.mem_singleton.1 hx
                exact own_cap o1
              have hrow : ∀ x ∈ ([⟨(0 : Int), rk, rv, L1, A1, c1⟩] : List Pm), ∀ j, Row x.A j → w.heap.size + 1 < j ∧ j < w4.heap.size := by
                intro x hx j hj
                obtain rfl := List.mem_singleton.1 hx
                have := own_row o1 hj
                omega
              obtain ⟨f1, f2, f3, f4, f5⟩ := prove_end HQ2.out (Nat.le_refl _) (by omega) HLT.out [⟨(0 : Int), rk, rv, L1, A1, c1⟩] (.slice (some ⟨w4.heap.size, 0, none⟩) 1 1) (.slice (some ⟨w4.heap.size, 0, none⟩) 1 1) (.int .i64 (l.length : Int)) 179 hps hrow hcap (by simp) #[.int .i64 0, .string rk, .string rv, .slice A1 L1.length c1] rfl _ rfl
              obtain ⟨d0, d1, _⟩ := f5.facts2
              refine bodyPost_ret (v := .tuple #[.agg #[.int .i64 (l.length : Int), .slice (some ⟨w4.heap.size, 0, none⟩) 1 1], .int .i64 0]) (by simp [results, Try.results85, go_sem, d0, d1]) rfl ?_
              refine ⟨T1, some ⟨w4.heap.size, 0, none⟩, 1, [⟨(0 : Int), rk, rv, L1, A1, c1⟩], l.length, 0, rfl, ⟨fun _ => ⟨rfl, rfl, ?_, ?_⟩, fun h => (by have h2 := HFK.out; rw [h2] at h; cases h)⟩, e1, by omega, f1, f2, f3, f4⟩
              · have hx1 := (HLI.out.ext e1).2
                have hrr : l[0]? = some ⟨rk, rv⟩ := by rw [List.getElem?_eq_getElem hpi, HRR.out]
                unfold proofP
                rw [HSH.out]
                show [_] = [pathP (hh T1) l 0]
                rw [pathP_eq hrr, hx1, ← HDE.out, ← q1.out]
                rfl
              · intro i hi
                rw [HSH.out] at hi
                obtain rfl : i = 0 := by simpa using hi
                rw [(HLI.out.ext e1).2, ← HDE.out]
                exact si1
          · have HSH := Lib.hid (show shownP l key = [j, j + 1] by unfold shownP; rw [HNO.out, if_neg h0, if_neg (by rw [← HP.out]; omega), if_neg (by rw [← HP.out]; exact hpl2), ← HP.out]; rfl)
            have hjl : ((j : Int) + 1 == (l.length : Int)) = false := by rw [beq_eq_false_iff_ne]; omega
            have hpi2 : j + 1 < l.length := by omega
            go_enter Try.func85, Try.ntmps85
            go_wp2_with fail
            refine (HM.out _ HTB.out).mono ?_
            rintro e w1 ⟨rfl, hw⟩
            subst hw
            go_wp2_with fail
            refine (HF.out _).mono ?_
            rintro e w1 ⟨rfl, hw⟩
            subst hw
            obtain ⟨k0, k1, k2, _⟩ := Box.facts3 HTB.out
            go_wp2_with fail
            refine (HPL.out _ HPS.out.tb HPS.out.rs).mono ?_
            rintro e w3 ⟨rfl, hb3⟩
            have HQ := Lib.hid (HPS.out.below hb3)
            clear hb3 x0 x1 y0 y1 k0 k1 k2
            obtain ⟨x0, x1, y0, y1⟩ := HQ.out.x0.facts2
            obtain ⟨z0, z1, v0, v1⟩ := HQ.out.x1.facts2
            obtain ⟨k0, k1, k2, _⟩ := Box.facts3 HQ.out.tb
            have hz3 := HQ.out.x1.lt
            go_wp2_with fail
            have hpa := HPA.out T w3 HQ.out (by omega) j hpi
            obtain ⟨r, hrr⟩ : ∃ r, r = l[j] := ⟨_, rfl⟩
            rw [← hrr] at hpa
            have HRR := Lib.hid hrr
            clear hrr
            obtain ⟨rk, rv⟩ := r
            refine hpa.mono ?_
            clear hpa
            rintro e w4 ⟨T1, A1, c1, L1, rfl, q1, e1, l1, si1, ch1, kk1, o1⟩
            have HQ2 := Lib.hid (HQ.out.call ch1 kk1 (by omega) (by omega) hq HA.out HDA.out)
            have hzz := HQ2.out.x1.lt
            have HSA := Lib.hid (Sl.of_own o1)
            have hro1 : ∀ k, Row A1 k → w3.heap.size ≤ k ∧ k < w4.heap.size := fun k hk => own_row o1 hk
            have HO1 := Lib.hid hro1
            have HCA1 := Lib.hid (own_cap o1)
            clear x0 x1 y0 y1 z0 z1 v0 v1 k0 k1 k2 o1 hro1
            obtain ⟨x0, x1, y0, y1⟩ := HQ2.out.x0.facts2
            obtain ⟨z0, z1, v0, v1⟩ := HQ2.out.x1.facts2
            have HC1 := Lib.hid ch1
            have hz34 := ch1.size
            have hpa := HPA.out T1 w4 HQ2.out (by omega) (j + 1) hpi2
            rw [show (((j + 1 : Nat) : Nat) : Int) = (j : Int) + 1 by omega] at hpa
            obtain ⟨r, hrr⟩ : ∃ r, r = l[j + 1] := ⟨_, rfl⟩
            rw [← hrr] at hpa
            have HRR2 := Lib.hid hrr
            clear hrr ch1
            obtain ⟨sk, sv⟩ := r
            have HPA2 := Lib.hid hpa
            clear hpa
            go_wp2_with fail
            refine HPA2.out.mono ?_
            rintro e w5 ⟨T2, A2, c2, L2, rfl, q2, e2, l2, si2, ch2, kk2, o2⟩
            have HQ3 := Lib.hid (HQ2.out.call ch2 kk2 (by omega) (by omega) hq HA.out HDA.out)
            have hzz3 := HQ3.out.x1.lt
            have hz45 := ch2.size
            have hx0 := (HQ3.out.x0.other (a := ⟨w.heap.size + 1, 1, none⟩) (by simp) (.slice (some ⟨w5.heap.size, 0, none⟩) 2 2)).alloc (.cells #[.int .i64 (j : Int), .string rk, .string rv, .slice A1 L1.length c1, .int .i64 ((j : Int) + 1), .string sk, .string sv, .slice A2 L2.length c2] 179)
            have hx1 : Box _ _ #[.int .i64 (l.length : Int), .slice (some ⟨w5.heap.size, 0, none⟩) 2 2] _ := (HQ3.out.x1.set 1 (.slice (some ⟨w5.heap.size, 0, none⟩) 2 2)).alloc (.cells #[.int .i64 (j : Int), .string rk, .string rv, .slice A1 L1.length c1, .int .i64 ((j : Int) + 1), .string sk, .string sv, .slice A2 L2.length c2] 179)
            clear x0 x1 y0 y1 z0 z1 v0 v1
            obtain ⟨x0, x1, y0, y1⟩ := hx0.facts2
            obtain ⟨z0, z1, v0, v1⟩ := hx1.facts2
            obtain ⟨g0, g1, h0', h1⟩ := HQ3.out.x1.facts2
            clear hx0 hx1
            go_wp2_with fail
            have hps : ∀ x ∈ ([⟨(j : Int), rk, rv, L1, A1, c1⟩, ⟨(j : Int) + 1, sk, sv, L2, A2, c2⟩] : List Pm), TxS w5 x.A x.c x.sides := by
              intro x hx
              rcases List.mem_cons.1 hx with rfl | hx
              · exact TxS.ch HSA.out ch2 (fun k hk hlt => ⟨hlt, (by have := HO1.out k hk; omega)⟩)
              · obtain rfl := List.mem_singleton.1 hx
                exact Sl.of_own o2
            have hcap : ∀ x ∈ ([⟨(j : Int), rk, rv, L1, A1, c1⟩, ⟨(j : Int) + 1, sk, sv, L2, A2, c2⟩] : List Pm), x.sides.length ≤ x.c := by
              intro x hx
              rcases List.mem_cons.1 hx with rfl | hx
              · exact HCA1.out
              · obtain rfl := List.mem_singleton.1 hx
                exact own_cap o2
            have hrow : ∀ x ∈ ([⟨(j : Int), rk, rv, L1, A1, c1⟩, ⟨(j : Int) + 1, sk, sv, L2, A2, c2⟩] : List Pm), ∀ k, Row x.A k → w.heap.size + 1 < k ∧ k < w5.heap.size := by
              intro x hx k hk
              rcases List.mem_cons.1 hx with rfl | hx
              · have := HO1.out k hk
                omega
              · obtain rfl := List.mem_singleton.1 hx
                have := own_row o2 hk
                omega
            obtain ⟨f1, f2, f3, f4, f5⟩ := prove_end HQ3.out (Nat.le_refl _) (by omega) HLT.out [⟨(j : Int), rk, rv, L1, A1, c1⟩, ⟨(j : Int) + 1, sk, sv, L2, A2, c2⟩] (.slice (some ⟨w5.heap.size, 0, none⟩) 2 2) (.slice (some ⟨w5.heap.size, 0, none⟩) 2 2) (.int .i64 (l.length : Int)) 179 hps hrow hcap (by simp) #[.int .i64 (j : Int), .string rk, .string rv, .slice A1 L1.length c1, .int .i64 ((j : Int) + 1), .string sk, .string sv, .slice A2 L2.length c2] rfl _ rfl
            obtain ⟨d0, d1, _⟩ := f5.facts2
            refine bodyPost_ret (v := .tuple #[.agg #[.int .i64 (l.length : Int), .slice (some ⟨w5.heap.size, 0, none⟩) 2 2], .int .i64 0]) (by simp [results, Try.results85, go_sem, d0, d1]) rfl ?_
            refine ⟨T2, some ⟨w5.heap.size, 0, none⟩, 2, [⟨(j : Int), rk, rv, L1, A1, c1⟩, ⟨(j : Int) + 1, sk, sv, L2, A2, c2⟩], l.length, 0, rfl, ⟨fun _ => ⟨rfl, rfl, ?_, ?_⟩, fun h => (by have h2 := HFK.out; rw [h2] at h; cases h)⟩, e1.trans e2, by omega, f1, f2, f3, f4⟩
            · have hx1 := (HLI.out.ext (e1.trans e2)).2
              have hrr : l[j]? = some ⟨rk, rv⟩ := by rw [List.getElem?_eq_getElem hpi, HRR.out]
              have hss : l[j + 1]? = some ⟨sk, sv⟩ := by rw [List.getElem?_eq_getElem hpi2, HRR2.out]
              unfold proofP
              rw [HSH.out]
              show [_, _] = [pathP (hh T2) l j, pathP (hh T2) l (j + 1)]
              rw [pathP_eq hrr, pathP_eq hss, hx1, ← HDE.out, ← q2.out, (si1.ext e2).2, ← q1.out]
              rfl
            · intro i hi
              rw [HSH.out] at hi
              rw [(HLI.out.ext (e1.trans e2)).2, ← HDE.out]
              rcases List.mem_cons.1 hi with rfl | hi
              · exact (si1.ext e2).1
              · obtain rfl := List.mem_singleton.1 hi
                exact si2
  · rw [show fitK key = false by simpa using hf] at HF
    have HFK := Lib.hid (show fitK key = false by simpa using hf)
    obtain ⟨x0, x1, y0, y1⟩ := HX0.out.facts2
    clear hf hb hx hs hD hDe hLi hr hA hDA hDs
    go_enter Try.func85, Try.ntmps85
    go_wp2_with fail
    refine (HM.out _ HTB.out).mono ?_
    rintro e w1 ⟨rfl, hw⟩
    subst hw
    go_wp2_with fail
    refine (HF.out _).mono ?_
    rintro e w1 ⟨rfl, hw⟩
    subst hw
    go_wp2_with fail
    refine bodyPost_ret (v := .tuple #[.agg #[.int .i64 0, .slice none 0 0], .int .i64 14]) (by simp [results, Try.results85, go_sem, x0, x1]) rfl ?_
    exact ⟨T, none, 0, [], 0, 14, rfl, ⟨fun h => (by have h2 := HFK.out; rw [h] at h2; cases h2), fun _ => ⟨rfl, rfl, rfl⟩⟩, Ext.refl _, by omega, Ch.of_below hbl, HBK.out, PmS.nil _, fun k hk => (by simp [Row] at hk), fun x hx => (by cases hx), fun x hx => (by cases hx)⟩
end Go.Proofs.Ytfgpchffkpomoaa
