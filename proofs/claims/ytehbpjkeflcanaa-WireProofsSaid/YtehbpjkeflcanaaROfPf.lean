/- The document's own reading of bytes as a proof. -/
import Derived.Test.YtehbpjkeflcanaaRPath
namespace Go.Proofs.Ytehbpjkeflcanaa
set_option linter.unusedSimpArgs false
set_option linter.unusedVariables false
open Go.RowKit

theorem own_apart {w : World} {b1 b2 n1 n2 : Nat} {e1 e2 : TypeId} {s1 s2 : Nat} {A B : Option Addr} {c d : Nat} {xs ys : List Value} (h : w.ownsRow b1 e1 s1 (.slice A n1 c) n1 xs) (k : w.ownsRow b2 e2 s2 (.slice B n2 d) n2 ys) (hne : e1 ≠ e2) : ∀ i, Row A i → ¬ Row B i := by
  intro i hi hj
  rcases h.2 with ⟨hn, _⟩ | ⟨g, cap, cur, hv, _, hh, _⟩
  · obtain ⟨rfl, _⟩ : A = none ∧ _ := by simpa using hn
    cases hi
  · rcases k.2 with ⟨hn2, _⟩ | ⟨g2, cap2, cur2, hv2, _, hh2, _⟩
    · obtain ⟨rfl, _⟩ : B = none ∧ _ := by simpa using hn2
      cases hj
    · obtain ⟨rfl, _⟩ : A = some ⟨g, 0, none⟩ ∧ c = cap := by simpa using hv
      obtain ⟨rfl, _⟩ : B = some ⟨g2, 0, none⟩ ∧ d = cap2 := by simpa using hv2
      have q1 : g = i := by simpa [Row] using hi
      have q2 : g2 = i := by simpa [Row] using hj
      subst q1
      subst q2
      rw [hh] at hh2
      injection hh2 with hh2
      injection hh2 with _ q3 _
      exact hne q3
theorem seqN_err {α : Type} {rd : Nat → Except Nat (α × Nat)} (hr : ∀ q c, rd q = .error c → ((c : Int) == 0) = false) : ∀ (n q : Nat) (acc : List α) {c : Nat}, seqN rd n q acc = .error c → ((c : Int) == 0) = false
  | 0, q, acc, c, h => by cases h
  | n + 1, q, acc, c, h => by
    cases h1 : rd q with
    | error e =>
      rw [seqN_no h1] at h
      obtain rfl : e = c := by simpa using h
      exact hr q e h1
    | ok r =>
      obtain ⟨m, p⟩ := r
      rw [seqN_ok h1] at h
      exact seqN_err hr n p _ h
/-- Paths in rows of their own. -/
structure PmO (w : World) (base : Nat) (A : Option Addr) (c : Nat) (ms : List Pm) : Prop where
  row : w.ownsRow base 118 4 (.slice A ms.length c) ms.length (ms.flatMap Pm.cells)
  sides : ∀ m ∈ ms, w.ownsRow base 9 1 (.slice m.A m.sides.length m.c) m.sides.length (m.sides.flatMap textCells)
theorem PmO.nil (w : World) (base : Nat) : PmO w base none 0 [] := ⟨⟨rfl, .inl ⟨rfl, rfl⟩⟩, fun m hm => by cases hm⟩
theorem PmO.pm {w : World} {base : Nat} {A : Option Addr} {c : Nat} {ms : List Pm} (h : PmO w base A c ms) : PmS w A c ms := ⟨Sl.of_own h.row, fun m hm => Sl.of_own (h.sides m hm)⟩
theorem PmO.grow {w w1 : World} {base B : Nat} {S : Nat → Prop} {A : Option Addr} {c : Nat} {ms : List Pm} (h : PmO w base A c ms) (hc : Ch B S w w1) (hB : w.heap.size ≤ B) (hS : ∀ k, base ≤ k → ¬ S k) : PmO w1 base A c ms :=
  ⟨own_ch h.row hc (fun k hk => ⟨by have := (own_row h.row hk).2; omega, hS k (own_row h.row hk).1⟩), fun m hm => own_ch (h.sides m hm) hc (fun k hk => ⟨by have := (own_row (h.sides m hm) hk).2; omega, hS k (own_row (h.sides m hm) hk).1⟩)⟩
theorem PmO.below {w w1 : World} {base : Nat} {A : Option Addr} {c : Nat} {ms : List Pm} (h : PmO w base A c ms) (hb : Below w.heap.size w w1) : PmO w1 base A c ms := h.grow (S := fun _ => False) (Ch.of_below hb) (Nat.le_refl _) (fun _ _ h => h)
theorem PmO.set {w : World} {base b i : Nat} {A : Option Addr} {c : Nat} {ms : List Pm} (h : PmO w base A c ms) (hb : b < base) (v : Value) : PmO (w.setCell ⟨b, i, none⟩ v) base A c ms :=
  h.grow (B := w.heap.size) (S := (· = b)) (Ch.setCell (p := ⟨b, i, none⟩) (Ch.refl w.heap.size (· = b) w) (.inr rfl) v) (Nat.le_refl _) (fun k hk => by omega)
theorem PmO.snoc {w w1 : World} {base : Nat} {A A1 : Option Addr} {c c1 : Nat} {ms : List Pm} {m : Pm} (h : PmO w base A c ms) (hm : w.ownsRow base 9 1 (.slice m.A m.sides.length m.c) m.sides.length (m.sides.flatMap textCells))
    (hc : Ch w.heap.size (Row A) w w1) (ho : w1.ownsRow base 118 4 (.slice A1 (ms.length + 1) c1) (ms.length + 1) (ms.flatMap Pm.cells ++ m.cells)) : PmO w1 base A1 c1 (ms ++ [m]) := by
  refine ⟨by simpa using ho, fun x hx => ?_⟩
  have hk : ∀ x : Pm, w.ownsRow base 9 1 (.slice x.A x.sides.length x.c) x.sides.length (x.sides.flatMap textCells) → w1.ownsRow base 9 1 (.slice x.A x.sides.length x.c) x.sides.length (x.sides.flatMap textCells) :=
    fun x hx => own_ch hx hc (fun k hk => ⟨(own_row hx hk).2, own_apart hx h.row (by decide) k hk⟩)
  rcases List.mem_append.1 hx with h1 | h1
  · exact hk x (h.sides x h1)
  · obtain rfl : x = m := by simpa using h1
    exact hk x hm
theorem path_err {s : ByteArray} {q c : Nat} (h : path_ s q = .error c) : ((c : Int) == 0) = false := by
  cases h0 : num s q with
  | error e =>
    rw [path_no0 h0] at h
    obtain rfl : e = c := by simpa using h
    rcases num_err h0 with rfl | rfl <;> rfl
  | ok r =>
    obtain ⟨n, p⟩ := r
    cases h1 : text s p with
    | error e =>
      rw [path_no1 h0 h1] at h
      obtain rfl : e = c := by simpa using h
      rcases text_err h1 with rfl | rfl | rfl <;> rfl
    | ok r =>
      obtain ⟨k, p1⟩ := r
      cases h2 : text s p1 with
      | error e =>
        rw [path_no2 h0 h1 h2] at h
        obtain rfl : e = c := by simpa using h
        rcases text_err h2 with rfl | rfl | rfl <;> rfl
      | ok r =>
        obtain ⟨v, p2⟩ := r
        cases h3 : seqAt s (text s) 13 p2 with
        | error e =>
          rw [path_no3 h0 h1 h2 h3] at h
          obtain rfl : e = c := by simpa using h
          unfold seqAt count at h3
          cases h4 : num s p2 with
          | error e2 =>
            rw [h4] at h3
            obtain rfl : e2 = e := by simpa using h3
            rcases num_err h4 with rfl | rfl <;> rfl
          | ok r =>
            obtain ⟨m, p3⟩ := r
            rw [h4] at h3
            simp only at h3
            by_cases hm : 13 < m
            · rw [if_pos hm] at h3
              obtain rfl : 2 = e := by simpa using h3
              rfl
            · rw [if_neg hm] at h3
              simp only at h3
              exact seqN_err (fun q c h => by rcases text_err h with rfl | rfl | rfl <;> rfl) _ _ _ h3
        | ok r =>
          obtain ⟨l, p3⟩ := r
          rw [path_yes h0 h1 h2 h3] at h
          cases h
theorem path_bd {s : ByteArray} {q p : Nat} {x : Pt} (hq : q ≤ s.size) (h : path_ s q = .ok (x, p)) : p ≤ s.size := by
  cases h0 : num s q with
  | error e => rw [path_no0 h0] at h; cases h
  | ok r =>
    obtain ⟨n, p0⟩ := r
    cases h1 : text s p0 with
    | error e => rw [path_no1 h0 h1] at h; cases h
    | ok r =>
      obtain ⟨k, p1⟩ := r
      cases h2 : text s p1 with
      | error e => rw [path_no2 h0 h1 h2] at h; cases h
      | ok r =>
        obtain ⟨v, p2⟩ := r
        cases h3 : seqAt s (text s) 13 p2 with
        | error e => rw [path_no3 h0 h1 h2 h3] at h; cases h
        | ok r =>
          obtain ⟨l, p3⟩ := r
          rw [path_yes h0 h1 h2 h3] at h
          have hh := seqAt_get (put := putText) (fun m q p h => text_get' h) h3
          simp only [Except.ok.injEq, Prod.mk.injEq] at h
          rw [← h.2]
          exact hh.2.2.1
def OfPfPost (r : (Int × List Pt) × Int) (w : World) (e : Ending) (w' : World) : Prop := ∃ A c ms, e = .returned (.tuple #[.agg #[.int .i64 r.1.1, .slice A ms.length c], .int .i64 r.2]) ∧ Below w.heap.size w w' ∧ PmO w' w.heap.size A c ms ∧ ms.map Pm.pt = r.1.2
theorem info_path : (Try.prog.info? 118).map (fun i => (i.zero, i.size, i.bytes)) = some (some (.agg #[.int .i64 0, .string ⟨#[]⟩, .string ⟨#[]⟩, .slice none 0 0]), 4, 64) := by kernel_rfl
theorem Pm.one (m : Pm) : ∀ u ∈ m.cells, u.oneCell' = true := by
  intro u hu
  simp [Pm.cells] at hu
  rcases hu with rfl | rfl | rfl | rfl <;> rfl
theorem St.fill2 {B i : Nat} {w0 w : World} {T : TypeId} {a b x y : Value} (h : St B w0 i #[a, b] T w) (hB : B ≤ i) : St B w0 i #[x, y] T ((w.setCell ⟨i, 0, none⟩ x).setCell ⟨i, 1, none⟩ y) :=
  ⟨(h.b.setCell (p := ⟨i, 0, none⟩) hB x).setCell (p := ⟨i, 1, none⟩) hB y, by have h := (h.x.set 0 x).set 1 y; simpa using h⟩

set_option maxHeartbeats 4000000 in
set_option maxRecDepth 100000 in
theorem rofPf_calls (s : ByteArray) (w : World) (hs : s.size ≤ maxLen) : Calls Try.prog 57 #[.string s] w (OfPfPost (ofPfE s) w) := by
  have HS := Lib.hid hs
  have HST := Lib.hid (St.mk ((Below.refl w.heap.size w).alloc (Nat.le_refl _) _) (Box.new w #[.int .i64 0, .slice none 0 0] 76))
  by_cases h : 1048576 < s.size
  · unfold maxLen at hs
    have HE := Lib.hid (ofPf_long h)
    have hd : decide ((1048576 : Int) < (s.size : Int)) = true := by simp; omega
    go_enter Try.func57, Try.ntmps57
    go_wp2_with fail
    obtain ⟨d0, d1, _⟩ := (Box.new w #[.int .i64 0, .slice none 0 0] 76).facts2
    refine bodyPost_ret (v := .tuple #[.agg #[.int .i64 0, .slice none 0 0], .int .i64 4]) (by simp [results, Try.results57, go_sem]) rfl ?_
    unfold OfPfPost
    rw [HE.out]
    exact ⟨none, 0, [], rfl, (Below.refl _ _).alloc (Nat.le_refl _) _, PmO.nil _ _, rfl⟩
  · have hd : decide ((1048576 : Int) < (s.size : Int)) = false := by simp; omega
    have HI1 := Lib.hid (fun w => rInt_calls s 0 w hs (Nat.zero_le _))
    unfold GetIntPost at HI1
    rw [getInt_at (Nat.zero_le _)] at HI1
    clear hs
    cases h0 : num s 0 with
    | error c =>
      rw [h0] at HI1
      simp only at HI1
      have hd1 : ((c : Int) == 0) = false := by rcases num_err h0 with rfl | rfl <;> rfl
      have HE := Lib.hid (ofPf_no0 h h0)
      clear h0
      go_enter Try.func57, Try.ntmps57
      go_wp2_with fail
      refine (HI1.out _).mono ?_
      rintro e w1 ⟨rfl, hb1⟩
      have HST1 := Lib.hid (HST.out.call (Nat.le_refl _) hb1)
      clear hb1 HST
      have HST := HST1
      clear HST1
      obtain ⟨k0, k1, f0, f1⟩ := HST.out.x.facts2
      go_wp2_with fail
      have hst := HST.out.fill2 (Nat.le_refl _) (x := .int .i64 0) (y := .slice none 0 0)
      obtain ⟨d0, d1, _⟩ := hst.x.facts2
      refine bodyPost_ret (v := .tuple #[.agg #[.int .i64 0, .slice none 0 0], .int .i64 c]) (by simp [results, Try.results57, go_sem, d0, d1]) rfl ?_
      unfold OfPfPost
      rw [HE.out]
      exact ⟨none, 0, [], rfl, hst.b, PmO.nil _ _, rfl⟩
    | ok r =>
      obtain ⟨n, q0⟩ := r
      obtain ⟨_, b0, hnb⟩ := num_bd h0
      rw [h0] at HI1
      simp only at HI1
      have HI2 := Lib.hid (fun w => rInt_calls s q0 w HS.out b0)
      unfold GetIntPost at HI2
      rw [getInt_at b0] at HI2
      cases h1 : num s q0 with
      | error c =>
        rw [h1] at HI2
        simp only at HI2
        have hd1 : ((c : Int) == 0) = false := by rcases num_err h1 with rfl | rfl <;> rfl
        have HE := Lib.hid (ofPf_no1 h h0 (seqAt_no (c := c) (by unfold count; rw [h1])))
        clear h0 h1
        go_enter Try.func57, Try.ntmps57
        go_wp2_with fail
        refine (HI1.out _).mono ?_
        rintro e w1 ⟨rfl, hb1⟩
        have HST1 := Lib.hid (HST.out.call (Nat.le_refl _) hb1)
        clear hb1 HST
        have HST := HST1
        clear HST1
        obtain ⟨k0, k1, f0, f1⟩ := HST.out.x.facts2
        go_wp2_with fail
        refine (HI2.out _).mono ?_
        rintro e w2 ⟨rfl, hb2⟩
        have HST1 := Lib.hid (HST.out.call (Nat.le_refl _) hb2)
        clear hb2 HST
        have HST := HST1
        clear HST1
        clear k0 k1 f0 f1
        obtain ⟨k0, k1, f0, f1⟩ := HST.out.x.facts2
        go_wp2_with fail
        have hst := HST.out.fill2 (Nat.le_refl _) (x := .int .i64 0) (y := .slice none 0 0)
        obtain ⟨d0, d1, _⟩ := hst.x.facts2
        refine bodyPost_ret (v := .tuple #[.agg #[.int .i64 0, .slice none 0 0], .int .i64 c]) (by simp [results, Try.results57, go_sem, d0, d1]) rfl ?_
        unfold OfPfPost
        rw [HE.out]
        exact ⟨none, 0, [], rfl, hst.b, PmO.nil _ _, rfl⟩
      | ok r =>
        obtain ⟨m, q1⟩ := r
        obtain ⟨_, b1, _⟩ := num_bd h1
        rw [h1] at HI2
        simp only at HI2
        by_cases hl : 2 < m
        · have hd4 : decide ((2 : Int) < (m : Int)) = true := by simp; omega
          have HE := Lib.hid (ofPf_no1 h h0 (seqAt_no (c := 2) (by unfold count; rw [h1]; simp only; rw [if_pos hl])))
          clear h0 h1
          go_enter Try.func57, Try.ntmps57
          go_wp2_with fail
          refine (HI1.out _).mono ?_
          rintro e w1 ⟨rfl, hb1⟩
          have HST1 := Lib.hid (HST.out.call (Nat.le_refl _) hb1)
          clear hb1 HST
          have HST := HST1
          clear HST1
          obtain ⟨k0, k1, f0, f1⟩ := HST.out.x.facts2
          go_wp2_with fail
          refine (HI2.out _).mono ?_
          rintro e w2 ⟨rfl, hb2⟩
          have HST1 := Lib.hid (HST.out.call (Nat.le_refl _) hb2)
          clear hb2 HST
          have HST := HST1
          clear HST1
          clear k0 k1 f0 f1
          obtain ⟨k0, k1, f0, f1⟩ := HST.out.x.facts2
          go_wp2_with fail
          have hst := HST.out.fill2 (Nat.le_refl _) (x := .int .i64 0) (y := .slice none 0 0)
          obtain ⟨d0, d1, _⟩ := hst.x.facts2
          refine bodyPost_ret (v := .tuple #[.agg #[.int .i64 0, .slice none 0 0], .int .i64 2]) (by simp [results, Try.results57, go_sem, d0, d1]) rfl ?_
          unfold OfPfPost
          rw [HE.out]
          exact ⟨none, 0, [], rfl, hst.b, PmO.nil _ _, rfl⟩
        · have hd4 : decide ((2 : Int) < (m : Int)) = false := by simp; omega
          have HT := Lib.hid (show seqAt s (path_ s) 2 q0 = seqN (path_ s) m q1 [] by rw [seqAt_of (n := m) (p := q1) (by unfold count; rw [h1]; simp only; rw [if_neg hl])])
          have HNO := Lib.hid (fun c h2 => ofPf_no1 (c := c) h h0 h2)
          have HYES := Lib.hid (fun l p h2 => ofPf_yes (l := l) (p := p) h h0 h2)
          clear h0 h1
          go_enter Try.func57, Try.ntmps57
          go_wp2_with fail
          refine (HI1.out _).mono ?_
          rintro e w1 ⟨rfl, hb1⟩
          have HST1 := Lib.hid (HST.out.call (Nat.le_refl _) hb1)
          clear hb1 HST
          have HST := HST1
          clear HST1
          obtain ⟨k0, k1, f0, f1⟩ := HST.out.x.facts2
          go_wp2_with fail
          refine (HI2.out _).mono ?_
          rintro e w2 ⟨rfl, hb2⟩
          have HST1 := Lib.hid (HST.out.call (Nat.le_refl _) hb2)
          clear hb2 HST
          have HST := HST1
          clear HST1
          clear k0 k1 f0 f1
          obtain ⟨k0, k1, f0, f1⟩ := HST.out.x.facts2
          have hlx := HST.out.x.lt
          have HST2 := Lib.hid (show St2 w.heap.size w w.heap.size #[.int .i64 0, .slice none 0 0] 76 w2.heap.size #[.int .i64 n, .slice none 0 0] 76 (w2.alloc (.cells #[.int .i64 n, .slice none 0 0] 76)) from ⟨HST.out.b.alloc (by omega) _, HST.out.x.alloc _, Box.new _ _ _⟩)
          obtain ⟨j, hj⟩ : ∃ j, j = w2.heap.size := ⟨_, rfl⟩
          rw [← hj] at HST2 hlx
          have HJ := Lib.hid hj
          go_wp2_with fail
          rw [← HJ.out]
          clear hj
          go_loopg [5, 9] m (fun g v5 v9 wr => ∃ (q' : Nat) (A : Option Addr) (c : Nat) (ms : List Pm), v5 = .int .i64 q' ∧ v9 = .int .i64 ms.length ∧ q' ≤ s.size ∧ ms.length ≤ m ∧ Hid (g + ms.length = m ∧ St2 w.heap.size w w.heap.size #[.int .i64 0, .slice none 0 0] 76 j #[.int .i64 n, .slice A ms.length c] 76 wr ∧ PmO wr (j + 1) A c ms ∧ seqN (path_ s) g q' (ms.map Pm.pt) = seqN (path_ s) m q1 []))
          case atStart => exact ⟨q1, none, 0, [], rfl, rfl, b1, by simp, by simp, HST2.out, PmO.nil _ _, rfl⟩
          case round =>
            clear HST HST2 k0 k1 f0 f1
            obtain ⟨q', A, c, ms, rfl, rfl, hq, hln, HH⟩ := hrel
            obtain ⟨hk, hst, ho, hx⟩ := HH.out
            have HK := Lib.hid hk
            have HST := Lib.hid hst
            have HO := Lib.hid ho
            have hyl := hst.y.lt
            obtain ⟨k0, k1, f0, f1⟩ := hst.x.facts2
            obtain ⟨y0, y1, g0, g1⟩ := hst.y.facts2
            clear HH hk hst ho
            by_cases hlt : ms.length < m
            · have hd2 : decide ((ms.length : Int) < (m : Int)) = true := by simp; omega
              obtain ⟨z1, rfl⟩ : ∃ z1, gk = z1 + 1 := ⟨gk - 1, by have := HK.out; omega⟩
              have HP := Lib.hid (fun w => rpath_calls s q' w HS.out hq)
              cases h4 : path_ s q' with
              | error cc =>
                rw [h4] at HP
                have hd3 := path_err h4
                rw [seqN_no h4] at hx
                have HE := Lib.hid (HNO.out cc (by rw [HT.out, ← hx]))
                clear hx h4
                go_wp2_with fail
                refine (HP.out _).mono ?_
                rintro e w5 ⟨hb5, rfl⟩
                have HST1 := Lib.hid (St.mk (HST.out.call (Nat.le_refl _) hb5).b (HST.out.call (Nat.le_refl _) hb5).x)
                clear HST k0 k1 f0 f1 y0 y1 g0 g1
                have HST := Lib.hid (St.alloc HST1.out (Nat.le_refl _) (.cells #[.int .i64 0, .string ⟨#[]⟩, .string ⟨#[]⟩, .slice none 0 0] 118))
                clear HST1 hb5
                obtain ⟨k0, k1, f0, f1⟩ := HST.out.x.facts2
                go_wp2_with fail
                have hst := HST.out.fill2 (Nat.le_refl _) (x := .int .i64 0) (y := .slice none 0 0)
                obtain ⟨d0, d1, _⟩ := hst.x.facts2
                refine bodyPost_ret (v := .tuple #[.agg #[.int .i64 0, .slice none 0 0], .int .i64 cc]) (by simp [results, Try.results57, go_sem, d0, d1]) rfl ?_
                unfold OfPfPost
                rw [HE.out]
                exact ⟨none, 0, [], rfl, hst.b, PmO.nil _ _, rfl⟩
              | ok r =>
                obtain ⟨⟨xi, xk, xv, xs⟩, p4⟩ := r
                have b4 := path_bd hq h4
                rw [h4] at HP
                rw [seqN_ok h4] at hx
                have HX := Lib.hid hx
                clear hx h4
                go_wp2_with fail
                refine (HP.out _).mono ?_
                rintro e w5 ⟨hb5, SA, sc, rfl, hsr⟩
                have hs5 := hb5.size
                have HST1 := Lib.hid (HST.out.call (Nat.le_refl _) hb5)
                have HO5 := Lib.hid ((HO.out.below hb5).below ((Below.refl _ _).alloc (Nat.le_refl _) (.cells #[.int .i64 xi, .string xk, .string xv, .slice SA xs.length sc] 118)))
                have HSR := Lib.hid (show (w5.alloc (.cells #[.int .i64 xi, .string xk, .string xv, .slice SA xs.length sc] 118)).ownsRow (j + 1) 9 1 (.slice SA xs.length sc) xs.length (xs.flatMap textCells) from own_base (hsr.alloc _) (by omega))
                clear hb5 hsr HST HO k0 k1 f0 f1 y0 y1 g0 g1
                have HST := Lib.hid (show St2 w.heap.size w w.heap.size #[.int .i64 0, .slice none 0 0] 76 j #[.int .i64 n, .slice A ms.length c] 76 (w5.alloc (.cells #[.int .i64 xi, .string xk, .string xv, .slice SA xs.length sc] 118)) from ⟨HST1.out.b.alloc (by omega) _, HST1.out.x.alloc _, HST1.out.y.alloc _⟩)
                clear HST1
                obtain ⟨k0, k1, f0, f1⟩ := HST.out.x.facts2
                obtain ⟨y0, y1, g0, g1⟩ := HST.out.y.facts2
                obtain ⟨p0, p1, p2, p3⟩ := box4 (Box.new w5 #[.int .i64 xi, .string xk, .string xv, .slice SA xs.length sc] 118)
                have hrow : ∀ k, Row A k → j + 1 ≤ k ∧ k < w5.heap.size + 1 := fun k hk => by have := own_row HO5.out.row hk; simpa using this
                have HBX := Lib.hid (show Box ((w5.alloc (.cells #[.int .i64 xi, .string xk, .string xv, .slice SA xs.length sc] 118)).alloc (.cells #[.int .i64 xi, .string xk, .string xv, .slice SA xs.length sc] 118)) (w5.heap.size + 1) #[.int .i64 xi, .string xk, .string xv, .slice SA xs.length sc] 118 from by have h := Box.new (w5.alloc (.cells #[.int .i64 xi, .string xk, .string xv, .slice SA xs.length sc] 118)) #[.int .i64 xi, .string xk, .string xv, .slice SA xs.length sc] 118; simp only [World.size_alloc] at h; exact h)
                go_wp2_with (at_builtin; refine app_row rfl (.tmp 60) (.tmp 62) 74 rfl (j + 1) 118 _ 4 64 info_path Try.underlying74 rfl (by decide) A c ms.length (ms.flatMap Pm.cells) rfl (HO5.out.row.alloc _) _ 1 1 (Pm.cells ⟨xi, xk, xv, xs, SA, sc⟩) rfl rfl (news_box HBX.out) (Pm.one ⟨xi, xk, xv, xs, SA, sc⟩) ?hb1 ?hb2 ?hb3 ?_; (case hb1 => omega); (case hb2 => omega); (case hb3 => simp; omega); intro A' c' w6 ho hc hA; have HO6 := Lib.hid (PmO.snoc (m := ⟨xi, xk, xv, xs, SA, sc⟩) (HO5.out.below ((Below.refl _ _).alloc (Nat.le_refl _) _)) (HSR.out.alloc _) hc ho); have HST6 := Lib.hid (show St2 w.heap.size w w.heap.size #[.int .i64 0, .slice none 0 0] 76 j #[.int .i64 n, .slice A ms.length c] 76 w6 from ⟨below_app HST.out.b (by simp; omega) hc (fun k hk => by have := (hrow k hk).1; omega), (HST.out.x.alloc _).ch hc (by simp; omega) (fun h => by have := (hrow _ h).1; omega), (HST.out.y.alloc _).ch hc (by simp; omega) (fun h => by have := (hrow _ h).1; omega)⟩); have hs6 := hc.size; clear ho hc hA k0 k1 f0 f1 y0 y1 g0 g1; obtain ⟨k0, k1, f0, f1⟩ := HST6.out.x.facts2; obtain ⟨y0, y1, g0, g1⟩ := HST6.out.y.facts2)
                have HST7 := Lib.hid (show St2 w.heap.size w w.heap.size #[.int .i64 0, .slice none 0 0] 76 j #[.int .i64 n, .slice A' (ms.length + 1) c'] 76 (w6.setCell ⟨j, 1, none⟩ (.slice A' (ms.length + 1) c')) from ⟨HST6.out.b.setCell (p := ⟨j, 1, none⟩) (by simp only; omega) _, HST6.out.x.other (a := ⟨j, 1, none⟩) (by simp only; omega) _, by have h := HST6.out.y.set 1 (.slice A' (ms.length + 1) c'); simpa using h⟩)
                have HO7 := Lib.hid (HO6.out.set (b := j) (i := 1) (by omega) (.slice A' (ms.length + 1) c'))
                go_roundg z1
                case measure => omega
                case rel => exact ⟨p4, A', c', ms ++ [⟨xi, xk, xv, xs, SA, sc⟩], rfl, by simp, b4, by simp; omega, by have := HK.out; simp; omega, by simpa using HST7.out, HO7.out, by have h := HX.out; simpa [Pm.pt] using h⟩
            · have hd2 : decide ((ms.length : Int) < (m : Int)) = false := by simp; omega
              obtain rfl : gk = 0 := by have := HK.out; omega
              rw [seqN] at hx
              have hge := HYES.out (ms.map Pm.pt) q' (by rw [HT.out, ← hx])
              clear hx
              by_cases hend : q' < s.size
              · have hd5 : decide ((q' : Int) < (s.size : Int)) = true := by simp; omega
                rw [if_pos hend] at hge
                have HE := Lib.hid hge
                have HST1 := Lib.hid (St.mk HST.out.b HST.out.x)
                clear hge HST
                have HST := HST1
                clear HST1
                go_wp2_with fail
                have hst := HST.out.fill2 (Nat.le_refl _) (x := .int .i64 0) (y := .slice none 0 0)
                obtain ⟨d0, d1, _⟩ := hst.x.facts2
                refine bodyPost_ret (v := .tuple #[.agg #[.int .i64 0, .slice none 0 0], .int .i64 12]) (by simp [results, Try.results57, go_sem, d0, d1]) rfl ?_
                unfold OfPfPost
                rw [HE.out]
                exact ⟨none, 0, [], rfl, hst.b, PmO.nil _ _, rfl⟩
              · have hd5 : decide ((q' : Int) < (s.size : Int)) = false := by simp; omega
                rw [if_neg hend] at hge
                have HPF := Lib.hid (rpfits_calls n A c ms wr HO.out.pm)
                cases hok : pfOk n (ms.map Pm.pt) with
                | true =>
                  rw [hok] at HPF hge
                  simp only [if_true] at hge
                  have HE := Lib.hid hge
                  clear hge hok
                  go_wp2_with fail
                  refine HPF.out.mono ?_
                  rintro e w8 ⟨rfl, hb8⟩
                  have HST1 := Lib.hid (HST.out.call (Nat.le_refl _) hb8)
                  have HO8 := Lib.hid (HO.out.below hb8)
                  have hs8 := hb8.size
                  clear hb8 HST k0 k1 f0 f1 y0 y1 g0 g1
                  have HST := HST1
                  clear HST1
                  obtain ⟨k0, k1, f0, f1⟩ := HST.out.x.facts2
                  obtain ⟨y0, y1, g0, g1⟩ := HST.out.y.facts2
                  go_wp2_with fail
                  have hst := (St.mk HST.out.b HST.out.x).fill2 (Nat.le_refl _) (x := .int .i64 n) (y := .slice A ms.length c)
                  obtain ⟨d0, d1, _⟩ := hst.x.facts2
                  refine bodyPost_ret (v := .tuple #[.agg #[.int .i64 n, .slice A ms.length c], .int .i64 0]) (by simp [results, Try.results57, go_sem, d0, d1]) rfl ?_
                  unfold OfPfPost
                  rw [HE.out]
                  have hfin := (HO8.out.set (b := w.heap.size) (i := 0) (by omega) (.int .i64 n)).set (b := w.heap.size) (i := 1) (by omega) (.slice A ms.length c)
                  exact ⟨A, c, ms, rfl, hst.b, ⟨own_base hfin.row (by omega), fun m hm => own_base (hfin.sides m hm) (by omega)⟩, rfl⟩
                | false =>
                  rw [hok] at HPF hge
                  rw [if_neg (by simp)] at hge
                  have HE := Lib.hid hge
                  clear hge hok
                  go_wp2_with fail
                  refine HPF.out.mono ?_
                  rintro e w8 ⟨rfl, hb8⟩
                  have HST1 := Lib.hid (HST.out.call (Nat.le_refl _) hb8)
                  clear hb8 HST k0 k1 f0 f1 y0 y1 g0 g1
                  have HST := Lib.hid (St.mk HST1.out.b HST1.out.x)
                  clear HST1
                  obtain ⟨k0, k1, f0, f1⟩ := HST.out.x.facts2
                  go_wp2_with fail
                  have hst := HST.out.fill2 (Nat.le_refl _) (x := .int .i64 0) (y := .slice none 0 0)
                  obtain ⟨d0, d1, _⟩ := hst.x.facts2
                  refine bodyPost_ret (v := .tuple #[.agg #[.int .i64 0, .slice none 0 0], .int .i64 14]) (by simp [results, Try.results57, go_sem, d0, d1]) rfl ?_
                  unfold OfPfPost
                  rw [HE.out]
                  exact ⟨none, 0, [], rfl, hst.b, PmO.nil _ _, rfl⟩
end Go.Proofs.Ytehbpjkeflcanaa
