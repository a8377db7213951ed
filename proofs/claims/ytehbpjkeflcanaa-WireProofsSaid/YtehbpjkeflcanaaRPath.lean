/- The document's own reading of one path. -/
import Derived.Test.YtehbpjkeflcanaaPlainPf
import Derived.Test.YtehbpjkeflcanaaFace
import Derived.Test.YtehbpjkeflcanaaRefGet
import Derived.Test.YtehbpjkeflcanaaTx
namespace Go.Proofs.Ytehbpjkeflcanaa
set_option linter.unusedSimpArgs false
set_option linter.unusedVariables false
open Go.RowKit

def PathPost (r : Except Nat (Pt × Nat)) (w : World) (e : Ending) (w' : World) : Prop := Below w.heap.size w w' ∧ match r with
  | .error c => e = .returned (.tuple #[.agg #[.int .i64 0, .string ⟨#[]⟩, .string ⟨#[]⟩, .slice none 0 0], .int .i64 0, .int .i64 c])
  | .ok (x, p) => ∃ A c, e = .returned (.tuple #[.agg #[.int .i64 x.index, .string x.key, .string x.val, .slice A x.sides.length c], .int .i64 p, .int .i64 0]) ∧ w'.ownsRow w.heap.size 9 1 (.slice A x.sides.length c) x.sides.length (x.sides.flatMap textCells)
theorem St2.fill4 {B i j : Nat} {w0 w : World} {ds : Array Value} {T U : TypeId} {a b c d x y z t : Value} (h : St2 B w0 i #[a, b, c, d] T j ds U w) (hB : B ≤ i) (hij : i ≠ j) :
    St2 B w0 i #[x, y, z, t] T j ds U ((((w.setCell ⟨i, 0, none⟩ x).setCell ⟨i, 1, none⟩ y).setCell ⟨i, 2, none⟩ z).setCell ⟨i, 3, none⟩ t) :=
  ⟨(((h.b.setCell (p := ⟨i, 0, none⟩) hB x).setCell (p := ⟨i, 1, none⟩) hB y).setCell (p := ⟨i, 2, none⟩) hB z).setCell (p := ⟨i, 3, none⟩) hB t, box_fill4 h.x, (((h.y.other (a := ⟨i, 0, none⟩) hij x).other (a := ⟨i, 1, none⟩) hij y).other (a := ⟨i, 2, none⟩) hij z).other (a := ⟨i, 3, none⟩) hij t⟩

set_option maxHeartbeats 4000000 in
set_option maxRecDepth 100000 in
theorem rpath_calls (s : ByteArray) (q : Nat) (w : World) (hs : s.size ≤ maxLen) (hq : q ≤ s.size) : Calls Try.prog 91 #[.string s, .int .i64 q] w (PathPost (path_ s q) w) := by
  have HS := Lib.hid hs
  have HST := Lib.hid (show St2 w.heap.size w w.heap.size #[.int .i64 0, .string ⟨#[]⟩, .string ⟨#[]⟩, .slice none 0 0] 118 (w.heap.size + 1) #[.int .i64 0, .string ⟨#[]⟩, .string ⟨#[]⟩, .slice none 0 0] 118 ((w.alloc (.cells #[.int .i64 0, .string ⟨#[]⟩, .string ⟨#[]⟩, .slice none 0 0] 118)).alloc (.cells #[.int .i64 0, .string ⟨#[]⟩, .string ⟨#[]⟩, .slice none 0 0] 118)) from
    ⟨((Below.refl _ _).alloc (Nat.le_refl _) _).alloc (by simp) _, (Box.new _ _ _).alloc _, by have h := Box.new (w.alloc (.cells #[.int .i64 0, .string ⟨#[]⟩, .string ⟨#[]⟩, .slice none 0 0] 118)) #[.int .i64 0, .string ⟨#[]⟩, .string ⟨#[]⟩, .slice none 0 0] 118; simp only [World.size_alloc] at h; exact h⟩)
  have HI1 := Lib.hid (fun w => rInt_calls s q w hs hq)
  unfold GetIntPost at HI1
  rw [getInt_at hq] at HI1
  clear hs
  cases h0 : num s q with
  | error c =>
    rw [h0] at HI1
    simp only at HI1
    have hd : ((c : Int) == 0) = false := by rcases num_err h0 with rfl | rfl <;> rfl
    have HE := Lib.hid (path_no0 h0)
    clear h0
    go_enter Try.func91, Try.ntmps91
    go_wp2_with fail
    refine (HI1.out _).mono ?_
    rintro e w1 ⟨rfl, hb1⟩
    have HST1 := Lib.hid (HST.out.call (Nat.le_refl _) hb1)
    clear hb1 HST
    have HST := HST1
    clear HST1
    obtain ⟨x0, x1, x2, x3, f0, f1, f2, f3⟩ := HST.out.x.facts4
    obtain ⟨y0, y1, y2, y3, _⟩ := HST.out.y.facts4
    go_wp2_with fail
    have hst := HST.out.fill4 (Nat.le_refl _) (by omega) (x := .int .i64 0) (y := .string ⟨#[]⟩) (z := .string ⟨#[]⟩) (t := .slice none 0 0)
    obtain ⟨d0, d1, d2, d3⟩ := box4 hst.x
    refine bodyPost_ret (v := .tuple #[.agg #[.int .i64 0, .string ⟨#[]⟩, .string ⟨#[]⟩, .slice none 0 0], .int .i64 0, .int .i64 c]) (by simp [results, Try.results91, go_sem, d0, d1, d2, d3]) rfl ?_
    unfold PathPost
    rw [HE.out]
    exact ⟨hst.b, rfl⟩
  | ok r =>
    obtain ⟨n, p0⟩ := r
    obtain ⟨_, b0, _⟩ := num_bd h0
    rw [h0] at HI1
    simp only at HI1
    have HT1 := Lib.hid (fun w => rText_calls s p0 w HS.out b0)
    unfold GetTextPost at HT1
    rw [getText_at b0] at HT1
    cases h1 : text s p0 with
    | error c =>
      rw [h1] at HT1
      simp only at HT1
      have hd : ((c : Int) == 0) = false := by rcases text_err h1 with rfl | rfl | rfl <;> rfl
      have HE := Lib.hid (path_no1 h0 h1)
      clear h0 h1
      go_enter Try.func91, Try.ntmps91
      go_wp2_with fail
      refine (HI1.out _).mono ?_
      rintro e w1 ⟨rfl, hb1⟩
      have HST1 := Lib.hid (HST.out.call (Nat.le_refl _) hb1)
      clear hb1 HST
      have HST := HST1
      clear HST1
      obtain ⟨x0, x1, x2, x3, f0, f1, f2, f3⟩ := HST.out.x.facts4
      obtain ⟨y0, y1, y2, y3, _⟩ := HST.out.y.facts4
      go_wp2_with fail
      refine (HT1.out _).mono ?_
      rintro e w2 ⟨rfl, hb2⟩
      have HST1 := Lib.hid (HST.out.call (Nat.le_refl _) hb2)
      clear hb2 HST
      have HST := HST1
      clear HST1
      clear x0 x1 x2 x3 f0 f1 f2 f3 y0 y1 y2 y3
      obtain ⟨x0, x1, x2, x3, f0, f1, f2, f3⟩ := HST.out.x.facts4
      obtain ⟨y0, y1, y2, y3, _⟩ := HST.out.y.facts4
      go_wp2_with fail
      have hst := HST.out.fill4 (Nat.le_refl _) (by omega) (x := .int .i64 0) (y := .string ⟨#[]⟩) (z := .string ⟨#[]⟩) (t := .slice none 0 0)
      obtain ⟨d0, d1, d2, d3⟩ := box4 hst.x
      refine bodyPost_ret (v := .tuple #[.agg #[.int .i64 0, .string ⟨#[]⟩, .string ⟨#[]⟩, .slice none 0 0], .int .i64 0, .int .i64 c]) (by simp [results, Try.results91, go_sem, d0, d1, d2, d3]) rfl ?_
      unfold PathPost
      rw [HE.out]
      exact ⟨hst.b, rfl⟩
    | ok r =>
      obtain ⟨key, p1⟩ := r
      obtain ⟨_, b1, _, _⟩ := text_bd h1
      rw [h1] at HT1
      simp only at HT1
      have HT2 := Lib.hid (fun w => rText_calls s p1 w HS.out b1)
      unfold GetTextPost at HT2
      rw [getText_at b1] at HT2
      cases h2 : text s p1 with
      | error c =>
        rw [h2] at HT2
        simp only at HT2
        have hd : ((c : Int) == 0) = false := by rcases text_err h2 with rfl | rfl | rfl <;> rfl
        have HE := Lib.hid (path_no2 h0 h1 h2)
        clear h0 h1 h2
        go_enter Try.func91, Try.ntmps91
        go_wp2_with fail
        refine (HI1.out _).mono ?_
        rintro e w1 ⟨rfl, hb1⟩
        have HST1 := Lib.hid (HST.out.call (Nat.le_refl _) hb1)
        clear hb1 HST
        have HST := HST1
        clear HST1
        obtain ⟨x0, x1, x2, x3, f0, f1, f2, f3⟩ := HST.out.x.facts4
        obtain ⟨y0, y1, y2, y3, _⟩ := HST.out.y.facts4
        go_wp2_with fail
        refine (HT1.out _).mono ?_
        rintro e w2 ⟨rfl, hb2⟩
        have HST1 := Lib.hid (HST.out.call (Nat.le_refl _) hb2)
        clear hb2 HST
        have HST := HST1
        clear HST1
        clear x0 x1 x2 x3 f0 f1 f2 f3 y0 y1 y2 y3
        obtain ⟨x0, x1, x2, x3, f0, f1, f2, f3⟩ := HST.out.x.facts4
        obtain ⟨y0, y1, y2, y3, _⟩ := HST.out.y.facts4
        go_wp2_with fail
        refine (HT2.out _).mono ?_
        rintro e w3 ⟨rfl, hb3⟩
        have HST1 := Lib.hid (HST.out.call (Nat.le_refl _) hb3)
        clear hb3 HST
        have HST := HST1
        clear HST1
        clear x0 x1 x2 x3 f0 f1 f2 f3 y0 y1 y2 y3
        obtain ⟨x0, x1, x2, x3, f0, f1, f2, f3⟩ := HST.out.x.facts4
        obtain ⟨y0, y1, y2, y3, _⟩ := HST.out.y.facts4
        go_wp2_with fail
        have hst := HST.out.fill4 (Nat.le_refl _) (by omega) (x := .int .i64 0) (y := .string ⟨#[]⟩) (z := .string ⟨#[]⟩) (t := .slice none 0 0)
        obtain ⟨d0, d1, d2, d3⟩ := box4 hst.x
        refine bodyPost_ret (v := .tuple #[.agg #[.int .i64 0, .string ⟨#[]⟩, .string ⟨#[]⟩, .slice none 0 0], .int .i64 0, .int .i64 c]) (by simp [results, Try.results91, go_sem, d0, d1, d2, d3]) rfl ?_
        unfold PathPost
        rw [HE.out]
        exact ⟨hst.b, rfl⟩
      | ok r =>
        obtain ⟨val, p2⟩ := r
        obtain ⟨_, b2, _, _⟩ := text_bd h2
        rw [h2] at HT2
        simp only at HT2
        have HI2 := Lib.hid (fun w => rInt_calls s p2 w HS.out b2)
        unfold GetIntPost at HI2
        rw [getInt_at b2] at HI2
        cases h3 : num s p2 with
        | error c =>
          rw [h3] at HI2
          simp only at HI2
          have hd : ((c : Int) == 0) = false := by rcases num_err h3 with rfl | rfl <;> rfl
          have HE := Lib.hid (path_no3 h0 h1 h2 (seqAt_no (c := c) (by unfold count; rw [h3])))
          clear h0 h1 h2 h3
          go_enter Try.func91, Try.ntmps91
          go_wp2_with fail
          refine (HI1.out _).mono ?_
          rintro e w1 ⟨rfl, hb1⟩
          have HST1 := Lib.hid (HST.out.call (Nat.le_refl _) hb1)
          clear hb1 HST
          have HST := HST1
          clear HST1
          obtain ⟨x0, x1, x2, x3, f0, f1, f2, f3⟩ := HST.out.x.facts4
          obtain ⟨y0, y1, y2, y3, _⟩ := HST.out.y.facts4
          go_wp2_with fail
          refine (HT1.out _).mono ?_
          rintro e w2 ⟨rfl, hb2⟩
          have HST1 := Lib.hid (HST.out.call (Nat.le_refl _) hb2)
          clear hb2 HST
          have HST := HST1
          clear HST1
          clear x0 x1 x2 x3 f0 f1 f2 f3 y0 y1 y2 y3
          obtain ⟨x0, x1, x2, x3, f0, f1, f2, f3⟩ := HST.out.x.facts4
          obtain ⟨y0, y1, y2, y3, _⟩ := HST.out.y.facts4
          go_wp2_with fail
          refine (HT2.out _).mono ?_
          rintro e w3 ⟨rfl, hb3⟩
          have HST1 := Lib.hid (HST.out.call (Nat.le_refl _) hb3)
          clear hb3 HST
          have HST := HST1
          clear HST1
          clear x0 x1 x2 x3 f0 f1 f2 f3 y0 y1 y2 y3
          obtain ⟨x0, x1, x2, x3, f0, f1, f2, f3⟩ := HST.out.x.facts4
          obtain ⟨y0, y1, y2, y3, _⟩ := HST.out.y.facts4
          go_wp2_with fail
          refine (HI2.out _).mono ?_
          rintro e w4 ⟨rfl, hb4⟩
          have HST1 := Lib.hid (HST.out.call (Nat.le_refl _) hb4)
          clear hb4 HST
          have HST := HST1
          clear HST1
          clear x0 x1 x2 x3 f0 f1 f2 f3 y0 y1 y2 y3
          obtain ⟨x0, x1, x2, x3, f0, f1, f2, f3⟩ := HST.out.x.facts4
          obtain ⟨y0, y1, y2, y3, _⟩ := HST.out.y.facts4
          go_wp2_with fail
          have hst := HST.out.fill4 (Nat.le_refl _) (by omega) (x := .int .i64 0) (y := .string ⟨#[]⟩) (z := .string ⟨#[]⟩) (t := .slice none 0 0)
          obtain ⟨d0, d1, d2, d3⟩ := box4 hst.x
          refine bodyPost_ret (v := .tuple #[.agg #[.int .i64 0, .string ⟨#[]⟩, .string ⟨#[]⟩, .slice none 0 0], .int .i64 0, .int .i64 c]) (by simp [results, Try.results91, go_sem, d0, d1, d2, d3]) rfl ?_
          unfold PathPost
          rw [HE.out]
          exact ⟨hst.b, rfl⟩
        | ok r =>
          obtain ⟨m, p3⟩ := r
          obtain ⟨_, b3, hm3⟩ := num_bd h3
          rw [h3] at HI2
          simp only at HI2
          by_cases hl : 13 < m
          · have hd4 : decide ((13 : Int) < (m : Int)) = true := by simp; omega
            have HE := Lib.hid (path_no3 h0 h1 h2 (seqAt_no (c := 2) (by unfold count; rw [h3]; simp only; rw [if_pos hl])))
            clear h0 h1 h2 h3
            go_enter Try.func91, Try.ntmps91
            go_wp2_with fail
            refine (HI1.out _).mono ?_
            rintro e w1 ⟨rfl, hb1⟩
            have HST1 := Lib.hid (HST.out.call (Nat.le_refl _) hb1)
            clear hb1 HST
            have HST := HST1
            clear HST1
            obtain ⟨x0, x1, x2, x3, f0, f1, f2, f3⟩ := HST.out.x.facts4
            obtain ⟨y0, y1, y2, y3, _⟩ := HST.out.y.facts4
            go_wp2_with fail
            refine (HT1.out _).mono ?_
            rintro e w2 ⟨rfl, hb2⟩
            have HST1 := Lib.hid (HST.out.call (Nat.le_refl _) hb2)
            clear hb2 HST
            have HST := HST1
            clear HST1
            clear x0 x1 x2 x3 f0 f1 f2 f3 y0 y1 y2 y3
            obtain ⟨x0, x1, x2, x3, f0, f1, f2, f3⟩ := HST.out.x.facts4
            obtain ⟨y0, y1, y2, y3, _⟩ := HST.out.y.facts4
            go_wp2_with fail
            refine (HT2.out _).mono ?_
            rintro e w3 ⟨rfl, hb3⟩
            have HST1 := Lib.hid (HST.out.call (Nat.le_refl _) hb3)
            clear hb3 HST
            have HST := HST1
            clear HST1
            clear x0 x1 x2 x3 f0 f1 f2 f3 y0 y1 y2 y3
            obtain ⟨x0, x1, x2, x3, f0, f1, f2, f3⟩ := HST.out.x.facts4
            obtain ⟨y0, y1, y2, y3, _⟩ := HST.out.y.facts4
            go_wp2_with fail
            refine (HI2.out _).mono ?_
            rintro e w4 ⟨rfl, hb4⟩
            have HST1 := Lib.hid (HST.out.call (Nat.le_refl _) hb4)
            clear hb4 HST
            have HST := HST1
            clear HST1
            clear x0 x1 x2 x3 f0 f1 f2 f3 y0 y1 y2 y3
            obtain ⟨x0, x1, x2, x3, f0, f1, f2, f3⟩ := HST.out.x.facts4
            obtain ⟨y0, y1, y2, y3, _⟩ := HST.out.y.facts4
            go_wp2_with fail
            have hst := HST.out.fill4 (Nat.le_refl _) (by omega) (x := .int .i64 0) (y := .string ⟨#[]⟩) (z := .string ⟨#[]⟩) (t := .slice none 0 0)
            obtain ⟨d0, d1, d2, d3⟩ := box4 hst.x
            refine bodyPost_ret (v := .tuple #[.agg #[.int .i64 0, .string ⟨#[]⟩, .string ⟨#[]⟩, .slice none 0 0], .int .i64 0, .int .i64 2]) (by simp [results, Try.results91, go_sem, d0, d1, d2, d3]) rfl ?_
            unfold PathPost
            rw [HE.out]
            exact ⟨hst.b, rfl⟩
          · have hd4 : decide ((13 : Int) < (m : Int)) = false := by simp; omega
            have HSQ := Lib.hid (show seqAt s (text s) 13 p3 = seqAt s (text s) 13 p3 from rfl)
            have HT := Lib.hid (show seqAt s (text s) 13 p2 = seqN (text s) m p3 [] by rw [seqAt_of (n := m) (p := p3) (by unfold count; rw [h3]; simp only; rw [if_neg hl])])
            have HNO := Lib.hid (fun c h => path_no3 (c := c) h0 h1 h2 h)
            have HYES := Lib.hid (fun l p h => path_yes (l := l) (p3 := p) h0 h1 h2 h)
            clear h0 h1 h2 h3
            go_enter Try.func91, Try.ntmps91
            go_wp2_with fail
            refine (HI1.out _).mono ?_
            rintro e w1 ⟨rfl, hb1⟩
            have HST1 := Lib.hid (HST.out.call (Nat.le_refl _) hb1)
            clear hb1 HST
            have HST := HST1
            clear HST1
            obtain ⟨x0, x1, x2, x3, f0, f1, f2, f3⟩ := HST.out.x.facts4
            obtain ⟨y0, y1, y2, y3, _⟩ := HST.out.y.facts4
            go_wp2_with fail
            refine (HT1.out _).mono ?_
            rintro e w2 ⟨rfl, hb2⟩
            have HST1 := Lib.hid (HST.out.call (Nat.le_refl _) hb2)
            clear hb2 HST
            have HST := HST1
            clear HST1
            clear x0 x1 x2 x3 f0 f1 f2 f3 y0 y1 y2 y3
            obtain ⟨x0, x1, x2, x3, f0, f1, f2, f3⟩ := HST.out.x.facts4
            obtain ⟨y0, y1, y2, y3, _⟩ := HST.out.y.facts4
            go_wp2_with fail
            refine (HT2.out _).mono ?_
            rintro e w3 ⟨rfl, hb3⟩
            have HST1 := Lib.hid (HST.out.call (Nat.le_refl _) hb3)
            clear hb3 HST
            have HST := HST1
            clear HST1
            clear x0 x1 x2 x3 f0 f1 f2 f3 y0 y1 y2 y3
            obtain ⟨x0, x1, x2, x3, f0, f1, f2, f3⟩ := HST.out.x.facts4
            obtain ⟨y0, y1, y2, y3, _⟩ := HST.out.y.facts4
            go_wp2_with fail
            refine (HI2.out _).mono ?_
            rintro e w4 ⟨rfl, hb4⟩
            have HST1 := Lib.hid (HST.out.call (Nat.le_refl _) hb4)
            clear hb4 HST
            have HST := HST1
            clear HST1
            clear x0 x1 x2 x3 f0 f1 f2 f3 y0 y1 y2 y3
            obtain ⟨x0, x1, x2, x3, f0, f1, f2, f3⟩ := HST.out.x.facts4
            obtain ⟨y0, y1, y2, y3, _⟩ := HST.out.y.facts4
            have hsz0 := HST.out.y.lt
            go_wp2_with fail
            go_loopg [1, 13, 14] m (fun g v1 v13 v14 wr => ∃ (q' : Nat) (A : Option Addr) (c : Nat) (l : List ByteArray), v1 = .int .i64 q' ∧ v13 = .slice A l.length c ∧ v14 = .int .i64 l.length ∧ q' ≤ s.size ∧ l.length ≤ m ∧ Hid (g + l.length = m ∧ St2 w.heap.size w w.heap.size #[.int .i64 0, .string ⟨#[]⟩, .string ⟨#[]⟩, .slice none 0 0] 118 (w.heap.size + 1) #[.int .i64 0, .string ⟨#[]⟩, .string ⟨#[]⟩, .slice none 0 0] 118 wr ∧ wr.ownsRow (w.heap.size + 2) 9 1 (.slice A l.length c) l.length (l.flatMap textCells) ∧ seqN (text s) g q' l = seqN (text s) m p3 []))
            case atStart => exact ⟨p3, none, 0, [], rfl, rfl, rfl, b3, by simp, by simp, HST.out, ⟨rfl, .inl ⟨rfl, rfl⟩⟩, rfl⟩
            case round =>
              clear HST x0 x1 x2 x3 f0 f1 f2 f3 y0 y1 y2 y3 hsz0
              obtain ⟨q', A, c, l, rfl, rfl, rfl, hq, hln, HH⟩ := hrel
              obtain ⟨hk, hst, ho, hx⟩ := HH.out
              have HK := Lib.hid hk
              have HST := Lib.hid hst
              have HO := Lib.hid ho
              have hyl := hst.y.lt
              obtain ⟨x0, x1, x2, x3, f0, f1, f2, f3⟩ := HST.out.x.facts4
              obtain ⟨y0, y1, y2, y3, _⟩ := HST.out.y.facts4
              clear HH hk hst ho
              by_cases hlt : l.length < m
              · have hd2 : decide ((l.length : Int) < (m : Int)) = true := by simp; omega
                obtain ⟨k1, rfl⟩ : ∃ k1, gk = k1 + 1 := ⟨gk - 1, by have := HK.out; omega⟩
                have HT3 := Lib.hid (fun w => rText_calls s q' w HS.out hq)
                unfold GetTextPost at HT3
                rw [getText_at hq] at HT3
                cases h4 : text s q' with
                | error c =>
                  rw [h4] at HT3
                  simp only at HT3
                  have hd : ((c : Int) == 0) = false := by rcases text_err h4 with rfl | rfl | rfl <;> rfl
                  rw [seqN_no h4] at hx
                  have HE := Lib.hid (HNO.out c (by rw [HT.out, ← hx]))
                  clear hx h4
                  go_wp2_with fail
                  refine (HT3.out _).mono ?_
                  rintro e w5 ⟨rfl, hb5⟩
                  have HST1 := Lib.hid (HST.out.call (Nat.le_refl _) hb5)
                  clear hb5 HST
                  have HST := HST1
                  clear HST1
                  clear x0 x1 x2 x3 f0 f1 f2 f3 y0 y1 y2 y3
                  obtain ⟨x0, x1, x2, x3, f0, f1, f2, f3⟩ := HST.out.x.facts4
                  obtain ⟨y0, y1, y2, y3, _⟩ := HST.out.y.facts4
                  go_wp2_with fail
                  have hst := HST.out.fill4 (Nat.le_refl _) (by omega) (x := .int .i64 0) (y := .string ⟨#[]⟩) (z := .string ⟨#[]⟩) (t := .slice none 0 0)
                  obtain ⟨d0, d1, d2, d3⟩ := box4 hst.x
                  refine bodyPost_ret (v := .tuple #[.agg #[.int .i64 0, .string ⟨#[]⟩, .string ⟨#[]⟩, .slice none 0 0], .int .i64 0, .int .i64 c]) (by simp [results, Try.results91, go_sem, d0, d1, d2, d3]) rfl ?_
                  unfold PathPost
                  rw [HE.out]
                  exact ⟨hst.b, rfl⟩
                | ok r =>
                  obtain ⟨sd, p4⟩ := r
                  obtain ⟨_, b4, _, _⟩ := text_bd h4
                  rw [h4] at HT3
                  simp only at HT3
                  rw [seqN_ok h4] at hx
                  have HX := Lib.hid hx
                  clear hx h4
                  go_wp2_with fail
                  refine (HT3.out _).mono ?_
                  rintro e w5 ⟨rfl, hb5⟩
                  have HO5 := Lib.hid (own_ch HO.out (Ch.of_below (S := fun _ => False) hb5) (fun k hk => ⟨(own_row HO.out hk).2, fun h => h⟩))
                  have HST1 := Lib.hid (HST.out.call (Nat.le_refl _) hb5)
                  have hs5 := hb5.size
                  clear hb5 HST x0 x1 x2 x3 f0 f1 f2 f3 y0 y1 y2 y3
                  have HST := HST1
                  clear HST1
                  have hrow : ∀ k, Row A k → w.heap.size + 2 ≤ k ∧ k < w5.heap.size := fun k hk => own_row HO5.out hk
                  go_wp2_with (at_builtin; refine app_row rfl (.tmp 81) (.tmp 83) 116 rfl (w.heap.size + 2) 9 _ 1 16 info_str Try.underlying116 rfl (by decide) A c l.length (l.flatMap textCells) rfl (HO5.out.alloc _) _ 1 1 (textCells sd) rfl rfl (news_box (Box.new w5 #[.string sd] 9)) (text_one sd) ?hb1 ?hb2 ?hb3 ?_; (case hb1 => omega); (case hb2 => omega); (case hb3 => simp; omega); intro A' c' w6 ho hc hA; have HO6 := Lib.hid ho; have HST6 := Lib.hid (show St2 w.heap.size w w.heap.size #[.int .i64 0, .string ⟨#[]⟩, .string ⟨#[]⟩, .slice none 0 0] 118 (w.heap.size + 1) #[.int .i64 0, .string ⟨#[]⟩, .string ⟨#[]⟩, .slice none 0 0] 118 w6 from ⟨below_app HST.out.b (by omega) hc (fun k hk => by have := (hrow k hk).1; omega), (HST.out.x.alloc _).ch hc (by simp; omega) (fun h => by have := (hrow _ h).1; omega), (HST.out.y.alloc _).ch hc (by simp; omega) (fun h => by have := (hrow _ h).1; omega)⟩); clear ho hc hA)
                  go_roundg k1
                  case measure => omega
                  case rel => exact ⟨p4, A', c', l ++ [sd], rfl, by simp, by simp, b4, by simp; omega, by have := HK.out; simp; omega, HST6.out, by simpa using HO6.out, HX.out⟩
              · have hd2 : decide ((l.length : Int) < (m : Int)) = false := by simp; omega
                obtain rfl : gk = 0 := by have := HK.out; omega
                rw [seqN] at hx
                have HE := Lib.hid (HYES.out l q' (by rw [HT.out, ← hx]))
                clear hx
                go_wp2_with fail
                have hst := HST.out.fill4 (Nat.le_refl _) (by omega) (x := .int .i64 n) (y := .string key) (z := .string val) (t := .slice A l.length c)
                obtain ⟨d0, d1, d2, d3⟩ := box4 hst.x
                refine bodyPost_ret (v := .tuple #[.agg #[.int .i64 n, .string key, .string val, .slice A l.length c], .int .i64 q', .int .i64 0]) (by simp [results, Try.results91, go_sem, d0, d1, d2, d3]) rfl ?_
                unfold PathPost
                rw [HE.out]
                refine ⟨hst.b, A, c, rfl, ?_⟩
                exact own_base (ownsRow_setCell_below (ownsRow_setCell_below (ownsRow_setCell_below (ownsRow_setCell_below HO.out (a := ⟨w.heap.size, 0, none⟩) (by simp) _) (a := ⟨w.heap.size, 1, none⟩) (by simp) _) (a := ⟨w.heap.size, 2, none⟩) (by simp) _) (a := ⟨w.heap.size, 3, none⟩) (by simp) _) (by omega)
end Go.Proofs.Ytehbpjkeflcanaa
