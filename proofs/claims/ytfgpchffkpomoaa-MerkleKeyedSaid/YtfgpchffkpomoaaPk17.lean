/- Texts of this proof, several in one file; each says ahead of it what it proves. -/
import Derived.Test.YtfgpchffkpomoaaPk16
import Derived.Test.YtfgpchffkpomoaaPk15
/- The document's own reading of bytes as a body. -/
namespace Go.Proofs.Ytfgpchffkpomoaa
set_option linter.unusedSimpArgs false
set_option linter.unusedVariables false
open Go.RowKit

theorem box_fill8 {w : World} {k : Nat} {a0 a1 a2 a3 a4 a5 a6 a7 : Value} {T : TypeId} (h : Box w k #[a0, a1, a2, a3, a4, a5, a6, a7] T) (x0 x1 x2 x3 x4 x5 x6 x7 : Value) : Box ((((((((w.setCell ⟨k, 0, none⟩ x0).setCell ⟨k, 1, none⟩ x1).setCell ⟨k, 2, none⟩ x2).setCell ⟨k, 3, none⟩ x3).setCell ⟨k, 4, none⟩ x4).setCell ⟨k, 5, none⟩ x5).setCell ⟨k, 6, none⟩ x6).setCell ⟨k, 7, none⟩ x7) k #[x0, x1, x2, x3, x4, x5, x6, x7] T := by
  have h := (((((((h.set 0 x0).set 1 x1).set 2 x2).set 3 x3).set 4 x4).set 5 x5).set 6 x6).set 7 x7
  simpa using h
theorem below8 {B k : Nat} {w0 w : World} {x0 x1 x2 x3 x4 x5 x6 x7 : Value} (h : Below B w0 w) (hB : B ≤ k) : Below B w0 ((((((((w.setCell ⟨k, 0, none⟩ x0).setCell ⟨k, 1, none⟩ x1).setCell ⟨k, 2, none⟩ x2).setCell ⟨k, 3, none⟩ x3).setCell ⟨k, 4, none⟩ x4).setCell ⟨k, 5, none⟩ x5).setCell ⟨k, 6, none⟩ x6).setCell ⟨k, 7, none⟩ x7) :=
  (((((((h.setCell hB x0).setCell hB x1).setCell hB x2).setCell hB x3).setCell hB x4).setCell hB x5).setCell hB x6).setCell hB x7
theorem ch8 {B k : Nat} {w : World} {x0 x1 x2 x3 x4 x5 x6 x7 : Value} : Ch B (· = k) w ((((((((w.setCell ⟨k, 0, none⟩ x0).setCell ⟨k, 1, none⟩ x1).setCell ⟨k, 2, none⟩ x2).setCell ⟨k, 3, none⟩ x3).setCell ⟨k, 4, none⟩ x4).setCell ⟨k, 5, none⟩ x5).setCell ⟨k, 6, none⟩ x6).setCell ⟨k, 7, none⟩ x7) :=
  ((((((((Ch.refl B (· = k) w).setCell (.inr rfl) x0).setCell (.inr rfl) x1).setCell (.inr rfl) x2).setCell (.inr rfl) x3).setCell (.inr rfl) x4).setCell (.inr rfl) x5).setCell (.inr rfl) x6).setCell (.inr rfl) x7

/-- The result's cells, and the five numbers so far. -/
structure Two (w0 : World) (n0 n1 n2 n3 n4 : Nat) (w : World) : Prop where
  b : Below w0.heap.size w0 w
  x : Box w w0.heap.size #[.int .i64 0, .int .i64 0, .int .i64 0, .int .i64 0, .int .i64 0, .string ⟨#[]⟩, .string ⟨#[]⟩, .slice none 0 0] 59
  y : Box w (w0.heap.size + 1) #[.int .i64 n0, .int .i64 n1, .int .i64 n2, .int .i64 n3, .int .i64 n4] 191
theorem Two.call {w0 w w' : World} {n0 n1 n2 n3 n4 : Nat} (h : Two w0 n0 n1 n2 n3 n4 w) (hb : Below w.heap.size w w') : Two w0 n0 n1 n2 n3 n4 w' :=
  ⟨h.b.trans (hb.mono h.b.size), h.x.call hb, h.y.call hb⟩
theorem Two.alloc {w0 w : World} {n0 n1 n2 n3 n4 : Nat} (h : Two w0 n0 n1 n2 n3 n4 w) (o : Obj) : Two w0 n0 n1 n2 n3 n4 (w.alloc o) :=
  ⟨h.b.alloc h.b.size o, h.x.alloc o, h.y.alloc o⟩
theorem Two.set0 {w0 w : World} {n0 n1 n2 n3 n4 : Nat} (h : Two w0 n0 n1 n2 n3 n4 w) (z : Nat) : Two w0 z n1 n2 n3 n4 (w.setCell ⟨w0.heap.size + 1, 0, none⟩ (.int .i64 z)) :=
  ⟨h.b.setCell (by simp) _, h.x.other (by simp) _, by simpa using h.y.set 0 (.int .i64 z)⟩
theorem Two.set1 {w0 w : World} {n0 n1 n2 n3 n4 : Nat} (h : Two w0 n0 n1 n2 n3 n4 w) (z : Nat) : Two w0 n0 z n2 n3 n4 (w.setCell ⟨w0.heap.size + 1, 1, none⟩ (.int .i64 z)) :=
  ⟨h.b.setCell (by simp) _, h.x.other (by simp) _, by simpa using h.y.set 1 (.int .i64 z)⟩
theorem Two.set2 {w0 w : World} {n0 n1 n2 n3 n4 : Nat} (h : Two w0 n0 n1 n2 n3 n4 w) (z : Nat) : Two w0 n0 n1 z n3 n4 (w.setCell ⟨w0.heap.size + 1, 2, none⟩ (.int .i64 z)) :=
  ⟨h.b.setCell (by simp) _, h.x.other (by simp) _, by simpa using h.y.set 2 (.int .i64 z)⟩
theorem Two.set3 {w0 w : World} {n0 n1 n2 n3 n4 : Nat} (h : Two w0 n0 n1 n2 n3 n4 w) (z : Nat) : Two w0 n0 n1 n2 z n4 (w.setCell ⟨w0.heap.size + 1, 3, none⟩ (.int .i64 z)) :=
  ⟨h.b.setCell (by simp) _, h.x.other (by simp) _, by simpa using h.y.set 3 (.int .i64 z)⟩
theorem Two.set4 {w0 w : World} {n0 n1 n2 n3 n4 : Nat} (h : Two w0 n0 n1 n2 n3 n4 w) (z : Nat) : Two w0 n0 n1 n2 n3 z (w.setCell ⟨w0.heap.size + 1, 4, none⟩ (.int .i64 z)) :=
  ⟨h.b.setCell (by simp) _, h.x.other (by simp) _, by simpa using h.y.set 4 (.int .i64 z)⟩

/-- n numbers more, behind those that were read. -/
def rdNums (s : ByteArray) : Nat → Nat → List Nat → Except Nat (List Nat × Nat)
  | 0, q, l => .ok (l, q)
  | n + 1, q, l => match num s q with
    | .error e => .error e
    | .ok (x, p) => rdNums s n p (l ++ [x])
theorem rdNums_ok {s : ByteArray} {n q p x : Nat} {l : List Nat} (h : num s q = .ok (x, p)) : rdNums s (n + 1) q l = rdNums s n p (l ++ [x]) := by
  rw [rdNums]; rw [h]
theorem rdNums_no {s : ByteArray} {n q c : Nat} {l : List Nat} (h : num s q = .error c) : rdNums s (n + 1) q l = .error c := by
  rw [rdNums]; rw [h]
def rdRest (s : ByteArray) (k v q c t p : Nat) : Except Nat Bd :=
  match text s p with
  | .error e => .error e
  | .ok (d, p) => match text s p with
    | .error e => .error e
    | .ok (x, p) => match manyAt s 64 p with
      | .error e => .error e
      | .ok (l, p) => if p < s.size then .error 12 else .ok ⟨k, v, q, c, t, d, x, l⟩
theorem rdBody_nums (s : ByteArray) : rdBody s = (match rdNums s 5 0 [] with | .error e => .error e | .ok (l, p) => rdRest s (l.getD 0 0) (l.getD 1 0) (l.getD 2 0) (l.getD 3 0) (l.getD 4 0) p) := by
  unfold rdBody
  simp only [rdNums]
  cases num s 0 with
  | error _ => rfl
  | ok r =>
    obtain ⟨x0, p0⟩ := r
    simp only
    cases num s p0 with
    | error _ => rfl
    | ok r =>
      obtain ⟨x1, p1⟩ := r
      simp only
      cases num s p1 with
      | error _ => rfl
      | ok r =>
        obtain ⟨x2, p2⟩ := r
        simp only
        cases num s p2 with
        | error _ => rfl
        | ok r =>
          obtain ⟨x3, p3⟩ := r
          simp only
          cases num s p3 with
          | error _ => rfl
          | ok r =>
            obtain ⟨x4, p4⟩ := r
            simp only
            unfold rdRest manyAt
            cases text s p4 with
            | error _ => rfl
            | ok r =>
              obtain ⟨y0, p5⟩ := r
              simp only
              cases text s p5 with
              | error _ => rfl
              | ok r =>
                obtain ⟨y1, p6⟩ := r
                simp only
                cases count s 64 p6 with
                | error _ => rfl
                | ok r =>
                  obtain ⟨y2, p7⟩ := r
                  rfl
theorem rdBody_no {s : ByteArray} {c : Nat} (h : rdNums s 5 0 [] = .error c) : rdBody s = .error c := by
  rw [rdBody_nums, h]
theorem rdBody_ok {s : ByteArray} {a b c d e p : Nat} (h : rdNums s 5 0 [] = .ok ([a, b, c, d, e], p)) : rdBody s = rdRest s a b c d e p := by
  rw [rdBody_nums, h]; rfl
theorem ofBody_no {s : ByteArray} (hl : ¬ 1048576 < s.size) {c : Nat} (h : rdBody s = .error c) : ofBody s = (zeroBd, (c : Int)) := by
  unfold ofBody; rw [if_neg hl, h]
theorem many_err {s : ByteArray} : ∀ {n q c : Nat} {l : List Sg}, many s n q l = .error c → c = 4 ∨ c = 10 ∨ c = 11
  | 0, q, c, l, h => by simp [many] at h
  | n + 1, q, c, l, h => by
    cases hz : signed s q with
    | error e => rw [many_no hz] at h; have := signed_err hz; simp at h; omega
    | ok r => rw [many_ok (m := r.1) (p := r.2) hz] at h; exact many_err h
theorem many_le {s : ByteArray} : ∀ {n q p : Nat} {l m : List Sg}, many s n q l = .ok (m, p) → q ≤ s.size → p ≤ s.size
  | 0, q, p, l, m, h, hq => by simp [many] at h; omega
  | n + 1, q, p, l, m, h, hq => by
    cases hz : signed s q with
    | error e => rw [many_no hz] at h; cases h
    | ok r => rw [many_ok (m := r.1) (p := r.2) hz] at h; exact many_le h (signed_bd (m := r.1) (p := r.2) hz).2
theorem manyAt_bd {s : ByteArray} {most q p : Nat} {l : List Sg} (h : manyAt s most q = .ok (l, p)) : p ≤ s.size := by
  unfold manyAt count at h
  cases hx : num s q with
  | error e => rw [hx] at h; cases h
  | ok r =>
    rw [hx] at h
    have hb := num_bd (p := r.2) (m := r.1) hx
    by_cases hm : most < r.1
    · simp only [if_pos hm] at h; cases h
    · simp only [if_neg hm] at h; exact many_le h hb.2.1
theorem manyAt_err {s : ByteArray} {most q c : Nat} (h : manyAt s most q = .error c) : c = 2 ∨ c = 4 ∨ c = 10 ∨ c = 11 := by
  unfold manyAt count at h
  cases hx : num s q with
  | error e => rw [hx] at h; have := num_err hx; simp at h; omega
  | ok r =>
    rw [hx] at h
    by_cases hm : most < r.1
    · simp only [if_pos hm] at h; simp at h; omega
    · simp only [if_neg hm] at h; have := many_err h; omega

set_option maxRecDepth 100000 in
theorem rOf_long (s : ByteArray) (w : World) (hs : s.size ≤ maxLen) (h : 1048576 < s.size) : Calls Try.prog 57 #[.string s] w (OfPost s w) := by
  unfold maxLen at hs
  have HE := Lib.hid (show ofBody s = (zeroBd, 4) by unfold ofBody; rw [if_pos h])
  have hd : decide ((1048576 : Int) < (s.size : Int)) = true := by simp; omega
  go_enter Try.func57, Try.ntmps57
  go_wp2_with fail
  obtain ⟨d0, d1, d2, d3, d4, d5, d6, d7⟩ := boxS (Box.new w #[.int .i64 0, .int .i64 0, .int .i64 0, .int .i64 0, .int .i64 0, .string ⟨#[]⟩, .string ⟨#[]⟩, .slice none 0 0] 59)
  refine bodyPost_ret (v := .tuple #[.agg #[.int .i64 0, .int .i64 0, .int .i64 0, .int .i64 0, .int .i64 0, .string ⟨#[]⟩, .string ⟨#[]⟩, .slice none 0 0], .int .i64 4]) (by simp [results, Try.results57, go_sem]) rfl ?_
  unfold OfPost
  rw [HE.out]
  exact ⟨none, 0, rfl, (Below.refl _ _).alloc (Nat.le_refl _) _, rfl, .inl ⟨rfl, rfl⟩⟩


set_option maxHeartbeats 1000000 in
set_option maxRecDepth 100000 in
theorem rOf_short (s : ByteArray) (w : World) (h : ¬ 1048576 < s.size) : Calls Try.prog 57 #[.string s] w (OfPost s w) := by
  have HS := Lib.hid (show s.size ≤ maxLen by unfold maxLen; omega)
  have hd : decide ((1048576 : Int) < (s.size : Int)) = false := by simp; omega
  have HNO := Lib.hid (fun c (hc : rdBody s = .error c) => ofBody_no h hc)
  have HT := Lib.hid (show Two w 0 0 0 0 0 ((w.alloc (.cells #[.int .i64 0, .int .i64 0, .int .i64 0, .int .i64 0, .int .i64 0, .string ⟨#[]⟩, .string ⟨#[]⟩, .slice none 0 0] 59)).alloc (.cells #[.int .i64 0, .int .i64 0, .int .i64 0, .int .i64 0, .int .i64 0] 191)) from
    ⟨((Below.refl _ _).alloc (Nat.le_refl _) _).alloc (by simp) _, (Box.new w _ _).alloc _, by have hy := Box.new (w.alloc (.cells #[.int .i64 0, .int .i64 0, .int .i64 0, .int .i64 0, .int .i64 0, .string ⟨#[]⟩, .string ⟨#[]⟩, .slice none 0 0] 59)) #[.int .i64 0, .int .i64 0, .int .i64 0, .int .i64 0, .int .i64 0] 191; simp only [World.size_alloc] at hy; exact hy⟩)
  go_enter Try.func57, Try.ntmps57
  go_wp2_with fail
  go_loopg [5, 6] 5 (fun k v5 v6 wr => ∃ (q : Nat) (l : List Nat), v5 = .int .i64 q ∧ v6 = .int .i64 l.length ∧ q ≤ s.size ∧ l.length ≤ 5 ∧ Hid (k + l.length = 5 ∧ Two w (l.getD 0 0) (l.getD 1 0) (l.getD 2 0) (l.getD 3 0) (l.getD 4 0) wr ∧ rdNums s k q l = rdNums s 5 0 []))
  case atStart => exact ⟨0, [], rfl, rfl, by omega, by simp, rfl, HT.out, rfl⟩
  case round =>
    clear HT
    obtain ⟨q, l, rfl, rfl, hq, hl5, HH⟩ := hrel
    obtain ⟨hk, ht, hx⟩ := HH.out
    have HK := Lib.hid hk
    have HT := Lib.hid ht
    clear HH hk ht
    by_cases hlt : l.length < 5
    · have hd2 : decide ((l.length : Int) < 5) = true := by simp; omega
      obtain ⟨k1, rfl⟩ : ∃ k1, gk = k1 + 1 := ⟨gk - 1, by have := HK.out; omega⟩
      have HI := Lib.hid (fun w => rInt_calls s q w HS.out hq)
      unfold GetIntPost at HI
      rw [getInt_at hq] at HI
      cases hz : num s q with
      | error c =>
        rw [hz] at HI
        simp only at HI
        have hd3 : ((c : Int) == 0) = false := by rcases num_err hz with rfl | rfl <;> rfl
        rw [rdNums_no hz] at hx
        have HE := Lib.hid (HNO.out c (rdBody_no hx.symm))
        clear hx hz
        go_wp2_with fail
        refine (HI.out _).mono ?_
        rintro e w1 ⟨rfl, hb⟩
        have HT1 := Lib.hid (HT.out.call hb)
        clear HT hb
        have HT := HT1
        clear HT1
        obtain ⟨_, _, _, _, _, _, _, _, f0, f1, f2, f3, f4, f5, f6, f7⟩ := HT.out.x.facts8
        obtain ⟨m0, m1, m2, m3, m4, g0, g1, g2, g3, g4⟩ := HT.out.y.facts5
        go_wp2_with fail
        have hx8 := box_fill8 HT.out.x (.int .i64 0) (.int .i64 0) (.int .i64 0) (.int .i64 0) (.int .i64 0) (.string ⟨#[]⟩) (.string ⟨#[]⟩) (.slice none 0 0)
        obtain ⟨d0, d1, d2, d3, d4, d5, d6, d7⟩ := boxS hx8
        refine bodyPost_ret (v := .tuple #[.agg #[.int .i64 0, .int .i64 0, .int .i64 0, .int .i64 0, .int .i64 0, .string ⟨#[]⟩, .string ⟨#[]⟩, .slice none 0 0], .int .i64 c]) (by simp [results, Try.results57, go_sem, d0, d1, d2, d3, d4, d5, d6, d7]) rfl ?_
        unfold OfPost
        rw [HE.out]
        exact ⟨none, 0, rfl, below8 HT.out.b (Nat.le_refl _), rfl, .inl ⟨rfl, rfl⟩⟩
      | ok r =>
        obtain ⟨x, p⟩ := r
        obtain ⟨_, b2, _⟩ := num_bd hz
        rw [hz] at HI
        simp only at HI
        rw [rdNums_ok hz] at hx
        have HX := Lib.hid hx
        clear hx hz
        rcases l with _ | ⟨a, _ | ⟨b, _ | ⟨c, _ | ⟨d, _ | ⟨e, l⟩⟩⟩⟩⟩
        · simp only [List.getD_cons_zero, List.getD_cons_succ, List.getD_nil] at HT
          simp only [List.length_cons, List.length_nil] at hd2 HK hlt
          go_wp2_with fail
          refine (HI.out _).mono ?_
          rintro e w1 ⟨rfl, hb⟩
          have HT1 := Lib.hid (HT.out.call hb)
          clear HT hb
          obtain ⟨m0, m1, m2, m3, m4, g0, g1, g2, g3, g4⟩ := HT1.out.y.facts5
          go_wp2_with fail
          go_roundg k1
          case measure => omega
          case rel => exact ⟨p, [x], rfl, rfl, b2, by simp, by have := HK.out; simp; omega, HT1.out.set0 x, HX.out⟩
        · simp only [List.getD_cons_zero, List.getD_cons_succ, List.getD_nil] at HT
          simp only [List.length_cons, List.length_nil] at hd2 HK hlt
          go_wp2_with fail
          refine (HI.out _).mono ?_
          rintro e w1 ⟨rfl, hb⟩
          have HT1 := Lib.hid (HT.out.call hb)
          clear HT hb
          obtain ⟨m0, m1, m2, m3, m4, g0, g1, g2, g3, g4⟩ := HT1.out.y.facts5
          go_wp2_with fail
          go_roundg k1
          case measure => omega
          case rel => exact ⟨p, [a, x], rfl, rfl, b2, by simp, by have := HK.out; simp; omega, HT1.out.set1 x, HX.out⟩
        · simp only [List.getD_cons_zero, List.getD_cons_succ, List.getD_nil] at HT
          simp only [List.length_cons, List.length_nil] at hd2 HK hlt
          go_wp2_with fail
          refine (HI.out _).mono ?_
          rintro e w1 ⟨rfl, hb⟩
          have HT1 := Lib.hid (HT.out.call hb)
          clear HT hb
          obtain ⟨m0, m1, m2, m3, m4, g0, g1, g2, g3, g4⟩ := HT1.out.y.facts5
          go_wp2_with fail
          go_roundg k1
          case measure => omega
          case rel => exact ⟨p, [a, b, x], rfl, rfl, b2, by simp, by have := HK.out; simp; omega, HT1.out.set2 x, HX.out⟩
        · simp only [List.getD_cons_zero, List.getD_cons_succ, List.getD_nil] at HT
          simp only [List.length_cons, List.length_nil] at hd2 HK hlt
          go_wp2_with fail
          refine (HI.out _).mono ?_
          rintro e w1 ⟨rfl, hb⟩
          have HT1 := Lib.hid (HT.out.call hb)
          clear HT hb
          obtain ⟨m0, m1, m2, m3, m4, g0, g1, g2, g3, g4⟩ := HT1.out.y.facts5
          go_wp2_with fail
          go_roundg k1
          case measure => omega
          case rel => exact ⟨p, [a, b, c, x], rfl, rfl, b2, by simp, by have := HK.out; simp; omega, HT1.out.set3 x, HX.out⟩
        · simp only [List.getD_cons_zero, List.getD_cons_succ, List.getD_nil] at HT
          simp only [List.length_cons, List.length_nil] at hd2 HK hlt
          go_wp2_with fail
          refine (HI.out _).mono ?_
          rintro e w1 ⟨rfl, hb⟩
          have HT1 := Lib.hid (HT.out.call hb)
          clear HT hb
          obtain ⟨m0, m1, m2, m3, m4, g0, g1, g2, g3, g4⟩ := HT1.out.y.facts5
          go_wp2_with fail
          go_roundg k1
          case measure => omega
          case rel => exact ⟨p, [a, b, c, d, x], rfl, rfl, b2, by simp, by have := HK.out; simp; omega, HT1.out.set4 x, HX.out⟩
        · simp at hlt; omega
    · have hd2 : decide ((l.length : Int) < 5) = false := by simp; omega
      rcases l with _ | ⟨a, _ | ⟨b, _ | ⟨c, _ | ⟨d, _ | ⟨e, _ | ⟨z, l⟩⟩⟩⟩⟩⟩
      · simp at hlt
      · simp at hlt
      · simp at hlt
      · simp at hlt
      · simp at hlt
      · obtain rfl : gk = 0 := by have := HK.out; simp at this; omega
        rw [rdNums] at hx
        have HX := Lib.hid (rdBody_ok hx.symm)
        simp only [List.getD_cons_zero, List.getD_cons_succ, List.getD_nil] at HT
        simp only [List.length_cons, List.length_nil] at hd2
        clear hx hlt hl5 HK
        have HJ := Lib.hid (fun w => rText_calls s q w HS.out hq)
        unfold GetTextPost at HJ
        rw [getText_at hq] at HJ
        cases hy : text s q with
        | error cc =>
          rw [hy] at HJ
          simp only at HJ
          have hd3 : ((cc : Int) == 0) = false := by rcases text_err hy with rfl | rfl | rfl <;> rfl
          have HE := Lib.hid (HNO.out cc (by rw [HX.out]; unfold rdRest; rw [hy]))
          clear hy
          go_wp2_with fail
          refine (HJ.out _).mono ?_
          rintro e w1 ⟨rfl, hb⟩
          have HT1 := Lib.hid (HT.out.call hb)
          clear HT hb
          have HT := HT1
          clear HT1
          obtain ⟨_, _, _, _, _, _, _, _, f0, f1, f2, f3, f4, f5, f6, f7⟩ := HT.out.x.facts8
          obtain ⟨m0, m1, m2, m3, m4, g0, g1, g2, g3, g4⟩ := HT.out.y.facts5
          go_wp2_with fail
          have hx8 := box_fill8 HT.out.x (.int .i64 0) (.int .i64 0) (.int .i64 0) (.int .i64 0) (.int .i64 0) (.string ⟨#[]⟩) (.string ⟨#[]⟩) (.slice none 0 0)
          obtain ⟨d0, d1, d2, d3, d4, d5, d6, d7⟩ := boxS hx8
          refine bodyPost_ret (v := .tuple #[.agg #[.int .i64 0, .int .i64 0, .int .i64 0, .int .i64 0, .int .i64 0, .string ⟨#[]⟩, .string ⟨#[]⟩, .slice none 0 0], .int .i64 cc]) (by simp [results, Try.results57, go_sem, d0, d1, d2, d3, d4, d5, d6, d7]) rfl ?_
          unfold OfPost
          rw [HE.out]
          exact ⟨none, 0, rfl, below8 HT.out.b (Nat.le_refl _), rfl, .inl ⟨rfl, rfl⟩⟩
        | ok r =>
          obtain ⟨t, q1⟩ := r
          obtain ⟨_, e2, _⟩ := text_bd hy
          rw [hy] at HJ
          simp only at HJ
          have HK := Lib.hid (fun w => rText_calls s q1 w HS.out e2)
          unfold GetTextPost at HK
          rw [getText_at e2] at HK
          cases hz : text s q1 with
          | error cc =>
            rw [hz] at HK
            simp only at HK
            have hd3 : ((cc : Int) == 0) = false := by rcases text_err hz with rfl | rfl | rfl <;> rfl
            have HE := Lib.hid (HNO.out cc (by rw [HX.out]; unfold rdRest; rw [hy]; simp only; rw [hz]))
            clear hy hz
            go_wp2_with fail
            refine (HJ.out _).mono ?_
            rintro e w1 ⟨rfl, hb⟩
            have HT1 := Lib.hid (HT.out.call hb)
            clear HT hb
            have HT := HT1
            clear HT1
            obtain ⟨_, _, _, _, _, _, _, _, f0, f1, f2, f3, f4, f5, f6, f7⟩ := HT.out.x.facts8
            obtain ⟨m0, m1, m2, m3, m4, g0, g1, g2, g3, g4⟩ := HT.out.y.facts5
            go_wp2_with fail
            refine (HK.out _).mono ?_
            rintro e w2 ⟨rfl, hb⟩
            have HT2 := Lib.hid (HT.out.call hb)
            clear HT hb
            have HT := HT2
            clear HT2
            obtain ⟨_, _, _, _, _, _, _, _, f0, f1, f2, f3, f4, f5, f6, f7⟩ := HT.out.x.facts8
            obtain ⟨m0, m1, m2, m3, m4, g0, g1, g2, g3, g4⟩ := HT.out.y.facts5
            go_wp2_with fail
            have hx8 := box_fill8 HT.out.x (.int .i64 0) (.int .i64 0) (.int .i64 0) (.int .i64 0) (.int .i64 0) (.string ⟨#[]⟩) (.string ⟨#[]⟩) (.slice none 0 0)
            obtain ⟨d0, d1, d2, d3, d4, d5, d6, d7⟩ := boxS hx8
            refine bodyPost_ret (v := .tuple #[.agg #[.int .i64 0, .int .i64 0, .int .i64 0, .int .i64 0, .int .i64 0, .string ⟨#[]⟩, .string ⟨#[]⟩, .slice none 0 0], .int .i64 cc]) (by simp [results, Try.results57, go_sem, d0, d1, d2, d3, d4, d5, d6, d7]) rfl ?_
            unfold OfPost
            rw [HE.out]
            exact ⟨none, 0, rfl, below8 HT.out.b (Nat.le_refl _), rfl, .inl ⟨rfl, rfl⟩⟩
          | ok r =>
            obtain ⟨x, q2⟩ := r
            obtain ⟨_, e3, _⟩ := text_bd hz
            rw [hz] at HK
            simp only at HK
            have HM := Lib.hid (fun w => rMany_calls s q2 64 w HS.out e3 (by decide))
            unfold ManyPost at HM
            cases hm : manyAt s 64 q2 with
            | error cc =>
              rw [hm] at HM
              simp only at HM
              have hd3 : ((cc : Int) == 0) = false := by rcases manyAt_err hm with rfl | rfl | rfl | rfl <;> rfl
              have HE := Lib.hid (HNO.out cc (by rw [HX.out]; unfold rdRest; rw [hy]; simp only; rw [hz]; simp only; rw [hm]))
              clear hy hz hm
              go_wp2_with fail
              refine (HJ.out _).mono ?_
              rintro e w1 ⟨rfl, hb⟩
              have HT1 := Lib.hid (HT.out.call hb)
              clear HT hb
              have HT := HT1
              clear HT1
              obtain ⟨_, _, _, _, _, _, _, _, f0, f1, f2, f3, f4, f5, f6, f7⟩ := HT.out.x.facts8
              obtain ⟨m0, m1, m2, m3, m4, g0, g1, g2, g3, g4⟩ := HT.out.y.facts5
              go_wp2_with fail
              refine (HK.out _).mono ?_
              rintro e w2 ⟨rfl, hb⟩
              have HT2 := Lib.hid (HT.out.call hb)
              clear HT hb
              have HT := HT2
              clear HT2
              obtain ⟨_, _, _, _, _, _, _, _, f0, f1, f2, f3, f4, f5, f6, f7⟩ := HT.out.x.facts8
              obtain ⟨m0, m1, m2, m3, m4, g0, g1, g2, g3, g4⟩ := HT.out.y.facts5
              go_wp2_with fail
              refine (HM.out _).mono ?_
              rintro e w3 ⟨hb, rfl⟩
              have HT3 := Lib.hid (HT.out.call hb)
              clear HT hb
              have HT := HT3
              clear HT3
              obtain ⟨_, _, _, _, _, _, _, _, f0, f1, f2, f3, f4, f5, f6, f7⟩ := HT.out.x.facts8
              obtain ⟨m0, m1, m2, m3, m4, g0, g1, g2, g3, g4⟩ := HT.out.y.facts5
              go_wp2_with fail
              have hx8 := box_fill8 HT.out.x (.int .i64 0) (.int .i64 0) (.int .i64 0) (.int .i64 0) (.int .i64 0) (.string ⟨#[]⟩) (.string ⟨#[]⟩) (.slice none 0 0)
              obtain ⟨d0, d1, d2, d3, d4, d5, d6, d7⟩ := boxS hx8
              refine bodyPost_ret (v := .tuple #[.agg #[.int .i64 0, .int .i64 0, .int .i64 0, .int .i64 0, .int .i64 0, .string ⟨#[]⟩, .string ⟨#[]⟩, .slice none 0 0], .int .i64 cc]) (by simp [results, Try.results57, go_sem, d0, d1, d2, d3, d4, d5, d6, d7]) rfl ?_
              unfold OfPost
              rw [HE.out]
              exact ⟨none, 0, rfl, below8 HT.out.b (Nat.le_refl _), rfl, .inl ⟨rfl, rfl⟩⟩
            | ok r =>
              obtain ⟨ml, q3⟩ := r
              have e4 := manyAt_bd hm
              rw [hm] at HM
              simp only at HM
              by_cases ht : q3 < s.size
              · have hd4 : decide ((q3 : Int) < (s.size : Int)) = true := by simp; omega
                have HE := Lib.hid (HNO.out 12 (by rw [HX.out]; unfold rdRest; rw [hy]; simp only; rw [hz]; simp only; rw [hm]; simp only; rw [if_pos ht]))
                clear hy hz hm
                go_wp2_with fail
                refine (HJ.out _).mono ?_
                rintro e w1 ⟨rfl, hb⟩
                have HT1 := Lib.hid (HT.out.call hb)
                clear HT hb
                have HT := HT1
                clear HT1
                obtain ⟨_, _, _, _, _, _, _, _, f0, f1, f2, f3, f4, f5, f6, f7⟩ := HT.out.x.facts8
                obtain ⟨m0, m1, m2, m3, m4, g0, g1, g2, g3, g4⟩ := HT.out.y.facts5
                go_wp2_with fail
                refine (HK.out _).mono ?_
                rintro e w2 ⟨rfl, hb⟩
                have HT2 := Lib.hid (HT.out.call hb)
                clear HT hb
                have HT := HT2
                clear HT2
                obtain ⟨_, _, _, _, _, _, _, _, f0, f1, f2, f3, f4, f5, f6, f7⟩ := HT.out.x.facts8
                obtain ⟨m0, m1, m2, m3, m4, g0, g1, g2, g3, g4⟩ := HT.out.y.facts5
                go_wp2_with fail
                refine (HM.out _).mono ?_
                rintro e w3 ⟨hb, A, cc, rfl, ho⟩
                have HT3 := Lib.hid (HT.out.call hb)
                clear HT hb
                have HT := HT3
                clear HT3
                obtain ⟨_, _, _, _, _, _, _, _, f0, f1, f2, f3, f4, f5, f6, f7⟩ := HT.out.x.facts8
                obtain ⟨m0, m1, m2, m3, m4, g0, g1, g2, g3, g4⟩ := HT.out.y.facts5
                go_wp2_with fail
                have hx8 := box_fill8 HT.out.x (.int .i64 0) (.int .i64 0) (.int .i64 0) (.int .i64 0) (.int .i64 0) (.string ⟨#[]⟩) (.string ⟨#[]⟩) (.slice none 0 0)
                obtain ⟨d0, d1, d2, d3, d4, d5, d6, d7⟩ := boxS hx8
                refine bodyPost_ret (v := .tuple #[.agg #[.int .i64 0, .int .i64 0, .int .i64 0, .int .i64 0, .int .i64 0, .string ⟨#[]⟩, .string ⟨#[]⟩, .slice none 0 0], .int .i64 12]) (by simp [results, Try.results57, go_sem, d0, d1, d2, d3, d4, d5, d6, d7]) rfl ?_
                unfold OfPost
                rw [HE.out]
                exact ⟨none, 0, rfl, below8 HT.out.b (Nat.le_refl _), rfl, .inl ⟨rfl, rfl⟩⟩
              · have hd4 : decide ((q3 : Int) < (s.size : Int)) = false := by simp; omega
                have HRB := Lib.hid (show rdBody s = .ok ⟨a, b, c, d, e, t, x, ml⟩ by rw [HX.out]; unfold rdRest; rw [hy]; simp only; rw [hz]; simp only; rw [hm]; simp only; rw [if_neg ht])
                clear hy hz hm
                go_wp2_with fail
                refine (HJ.out _).mono ?_
                rintro e w1 ⟨rfl, hb⟩
                have HT1 := Lib.hid (HT.out.call hb)
                clear HT hb
                have HT := HT1
                clear HT1
                obtain ⟨_, _, _, _, _, _, _, _, f0, f1, f2, f3, f4, f5, f6, f7⟩ := HT.out.x.facts8
                obtain ⟨m0, m1, m2, m3, m4, g0, g1, g2, g3, g4⟩ := HT.out.y.facts5
                go_wp2_with fail
                refine (HK.out _).mono ?_
                rintro e w2 ⟨rfl, hb⟩
                have HT2 := Lib.hid (HT.out.call hb)
                clear HT hb
                have HT := HT2
                clear HT2
                obtain ⟨_, _, _, _, _, _, _, _, f0, f1, f2, f3, f4, f5, f6, f7⟩ := HT.out.x.facts8
                obtain ⟨m0, m1, m2, m3, m4, g0, g1, g2, g3, g4⟩ := HT.out.y.facts5
                go_wp2_with fail
                refine (HM.out _).mono ?_
                rintro e w3 ⟨hb, A, cc, rfl, ho⟩
                have HO := Lib.hid (own_base ho (show w.heap.size + 2 ≤ w2.heap.size by have := HT.out.y.lt; omega))
                have HT3 := Lib.hid (HT.out.call hb)
                clear HT hb ho
                have HT := HT3
                clear HT3
                obtain ⟨m0, m1, m2, m3, m4, g0, g1, g2, g3, g4⟩ := HT.out.y.facts5
                have HR := Lib.hid (rright_calls ⟨a, b, c, d, e, t, x, ml⟩ A cc (w3.alloc (.cells #[.int .i64 a, .int .i64 b, .int .i64 c, .int .i64 d, .int .i64 e, .string t, .string x, .slice A ml.length cc] 59)) (Sl.of_own (HO.out.alloc _)))
                rw [right_eq] at HR
                unfold Bd.val Bd.cells at HR
                simp only at HR
                go_wp2_with fail
                refine HR.out.mono ?_
                rintro e w4 ⟨rfl, hb⟩
                have HBX := Lib.hid ((Box.new w3 #[.int .i64 a, .int .i64 b, .int .i64 c, .int .i64 d, .int .i64 e, .string t, .string x, .slice A ml.length cc] 59).call hb)
                have HT4 := Lib.hid ((HT.out.alloc (.cells #[.int .i64 a, .int .i64 b, .int .i64 c, .int .i64 d, .int .i64 e, .string t, .string x, .slice A ml.length cc] 59)).call hb)
                have HO4 := Lib.hid (own_ch (HO.out.alloc (.cells #[.int .i64 a, .int .i64 b, .int .i64 c, .int .i64 d, .int .i64 e, .string t, .string x, .slice A ml.length cc] 59)) (Ch.of_below (S := fun _ => False) hb) (fun k hk => ⟨(own_row (HO.out.alloc _) hk).2, fun h => h⟩))
                clear HT hb HO HR
                have HT := HT4
                clear HT4
                obtain ⟨_, _, _, _, _, _, _, _, f0, f1, f2, f3, f4, f5, f6, f7⟩ := HT.out.x.facts8
                by_cases hr : rightE ⟨a, b, c, d, e, t, x, ml⟩ = 0
                · have HE := Lib.hid (show ofBody s = (⟨a, b, c, d, e, t, x, ml⟩, 0) by unfold ofBody; rw [if_neg h, HRB.out]; simp only; rw [if_pos hr])
                  obtain ⟨c0, c1, c2, c3, c4, c5, c6, c7⟩ := boxS HBX.out
                  rw [hr]
                  clear hr
                  go_wp2_with fail
                  have hx8 := box_fill8 HT.out.x (.int .i64 a) (.int .i64 b) (.int .i64 c) (.int .i64 d) (.int .i64 e) (.string t) (.string x) (.slice A ml.length cc)
                  obtain ⟨d0, d1, d2, d3, d4, d5, d6, d7⟩ := boxS hx8
                  refine bodyPost_ret (v := .tuple #[.agg #[.int .i64 a, .int .i64 b, .int .i64 c, .int .i64 d, .int .i64 e, .string t, .string x, .slice A ml.length cc], .int .i64 0]) (by simp [results, Try.results57, go_sem, d0, d1, d2, d3, d4, d5, d6, d7]) rfl ?_
                  unfold OfPost
                  rw [HE.out]
                  exact ⟨A, cc, rfl, below8 HT.out.b (Nat.le_refl _), own_base (own_ch HO4.out (ch8 (B := w4.heap.size)) (fun k hk => ⟨(own_row HO4.out hk).2, by have := (own_row HO4.out hk).1; omega⟩)) (by omega)⟩
                · obtain ⟨n, hn⟩ : ∃ n, n = rightE ⟨a, b, c, d, e, t, x, ml⟩ := ⟨_, rfl⟩
                  have HE := Lib.hid (show ofBody s = (zeroBd, n) by unfold ofBody; rw [if_neg h, HRB.out]; simp only; rw [if_neg hr, hn])
                  have hd5 : (n == 0) = false := by rw [hn]; simpa using hr
                  rw [← hn]
                  clear hr hn
                  go_wp2_with fail
                  have hx8 := box_fill8 HT.out.x (.int .i64 0) (.int .i64 0) (.int .i64 0) (.int .i64 0) (.int .i64 0) (.string ⟨#[]⟩) (.string ⟨#[]⟩) (.slice none 0 0)
                  obtain ⟨d0, d1, d2, d3, d4, d5, d6, d7⟩ := boxS hx8
                  refine bodyPost_ret (v := .tuple #[.agg #[.int .i64 0, .int .i64 0, .int .i64 0, .int .i64 0, .int .i64 0, .string ⟨#[]⟩, .string ⟨#[]⟩, .slice none 0 0], .int .i64 n]) (by simp [results, Try.results57, go_sem, d0, d1, d2, d3, d4, d5, d6, d7]) rfl ?_
                  unfold OfPost
                  rw [HE.out]
                  exact ⟨none, 0, rfl, below8 HT.out.b (Nat.le_refl _), rfl, .inl ⟨rfl, rfl⟩⟩
      · simp at hl5

theorem rOf_calls (s : ByteArray) (w : World) (hs : s.size ≤ maxLen) : Calls Try.prog 57 #[.string s] w (OfPost s w) := by
  by_cases h : 1048576 < s.size
  · exact rOf_long s w hs h
  · exact rOf_short s w h
end Go.Proofs.Ytfgpchffkpomoaa
