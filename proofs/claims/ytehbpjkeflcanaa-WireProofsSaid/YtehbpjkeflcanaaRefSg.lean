/- The document's own reading of a message, and of messages, at a place. -/
import Derived.Test.YtehbpjkeflcanaaRefGet
import Derived.Test.YtehbpjkeflcanaaFace
namespace Go.Proofs.Ytehbpjkeflcanaa
set_option linter.unusedSimpArgs false
set_option linter.unusedVariables false
open Go.RowKit

theorem signed_err {s : ByteArray} {q c : Nat} (h : signed s q = .error c) : c = 4 ∨ c = 10 ∨ c = 11 := by
  unfold signed at h
  split at h
  · rename_i e he
    have := num_err he
    simp at h; omega
  · split at h
    · rename_i e he
      have := text_err he
      simp at h; omega
    · split at h
      · rename_i e he
        have := text_err he
        simp at h; omega
      · simp at h

theorem St.fill3 {B k : Nat} {w0 w : World} {a b c x y z : Value} {T : TypeId} (h : St B w0 k #[a, b, c] T w) (hB : B ≤ k) : St B w0 k #[x, y, z] T (((w.setCell ⟨k, 0, none⟩ x).setCell ⟨k, 1, none⟩ y).setCell ⟨k, 2, none⟩ z) := by
  have h1 := ((h.x.set 0 x).set 1 y).set 2 z
  exact ⟨((h.b.setCell hB x).setCell hB y).setCell hB z, by simpa using h1⟩

/-- What the document's reading of a message answers: it, the place behind it, no error; or some message, no place, the error. -/
def SgnPost (r : Except Nat (Sg × Nat)) (w : World) (e : Ending) (w' : World) : Prop := Below w.heap.size w w' ∧ match r with
  | .ok (m, q) => e = .returned (.tuple #[m.val, .int .i64 q, .int .i64 0])
  | .error c => ∃ m : Sg, e = .returned (.tuple #[m.val, .int .i64 0, .int .i64 c])

set_option maxRecDepth 100000 in
theorem rSigned_calls (s : ByteArray) (p : Nat) (w : World) (hs : s.size ≤ maxLen) (hp : p ≤ s.size) : Calls Try.prog 79 #[.string s, .int .i64 p] w (SgnPost (signed s p) w) := by
  have HI := Lib.hid (fun w => rInt_calls s p w hs hp)
  unfold GetIntPost at HI
  rw [getInt_at hp] at HI
  cases hx : num s p with
  | error c =>
    rw [hx] at HI
    simp only at HI
    have hd : ((c : Int) == 0) = false := by rcases num_err hx with rfl | rfl <;> rfl
    have HT := Lib.hid (show signed s p = .error c by unfold signed; rw [hx])
    clear hx hs
    go_enter Try.func79, Try.ntmps79
    go_wp2_with fail
    have HST := Lib.hid (St.mk ((Below.refl w.heap.size w).alloc (Nat.le_refl _) _) (Box.new w #[.int .i64 0, .string ⟨#[]⟩, .string ⟨#[]⟩] 36))
    refine (HI.out _).mono ?_
    rintro e w1 ⟨rfl, hb⟩
    have HS1 := Lib.hid (HST.out.call (Nat.le_refl _) hb)
    clear HST hb
    have HST := HS1
    clear HS1
    obtain ⟨_, _, _, f0, f1, f2⟩ := HST.out.x.facts3
    go_wp2_with fail
    have hst := HST.out.fill3 (Nat.le_refl _) (x := .int .i64 0) (y := .string ⟨#[]⟩) (z := .string ⟨#[]⟩)
    obtain ⟨d0, d1, d2, _⟩ := hst.x.facts3
    refine bodyPost_ret (v := .tuple #[.agg #[.int .i64 0, .string ⟨#[]⟩, .string ⟨#[]⟩], .int .i64 0, .int .i64 c]) (by simp [results, Try.results79, go_sem, d0, d1, d2]) rfl ?_
    unfold SgnPost
    rw [HT.out]
    exact ⟨hst.b, ⟨0, ⟨#[]⟩, ⟨#[]⟩⟩, rfl⟩
  | ok r =>
    obtain ⟨n, q⟩ := r
    obtain ⟨b1, b2, b3⟩ := num_bd hx
    rw [hx] at HI
    simp only at HI
    have HJ := Lib.hid (fun w => rText_calls s q w hs b2)
    unfold GetTextPost at HJ
    rw [getText_at b2] at HJ
    cases hy : text s q with
    | error c =>
      rw [hy] at HJ
      simp only at HJ
      have hd : ((c : Int) == 0) = false := by rcases text_err hy with rfl | rfl | rfl <;> rfl
      have HT := Lib.hid (show signed s p = .error c by unfold signed; rw [hx]; simp only; rw [hy])
      clear hx hy hs
      go_enter Try.func79, Try.ntmps79
      go_wp2_with fail
      have HST := Lib.hid (St.mk ((Below.refl w.heap.size w).alloc (Nat.le_refl _) _) (Box.new w #[.int .i64 0, .string ⟨#[]⟩, .string ⟨#[]⟩] 36))
      refine (HI.out _).mono ?_
      rintro e w1 ⟨rfl, hb⟩
      have HS1 := Lib.hid (HST.out.call (Nat.le_refl _) hb)
      clear HST hb
      have HST := HS1
      clear HS1
      obtain ⟨_, _, _, f0, f1, f2⟩ := HST.out.x.facts3
      go_wp2_with fail
      refine (HJ.out _).mono ?_
      rintro e w2 ⟨rfl, hb⟩
      have HS2 := Lib.hid (HST.out.call (Nat.le_refl _) hb)
      clear HST hb
      have HST := HS2
      clear HS2
      obtain ⟨_, _, _, f0, f1, f2⟩ := HST.out.x.facts3
      go_wp2_with fail
      have hst := HST.out.fill3 (Nat.le_refl _) (x := .int .i64 0) (y := .string ⟨#[]⟩) (z := .string ⟨#[]⟩)
      obtain ⟨d0, d1, d2, _⟩ := hst.x.facts3
      refine bodyPost_ret (v := .tuple #[.agg #[.int .i64 0, .string ⟨#[]⟩, .string ⟨#[]⟩], .int .i64 0, .int .i64 c]) (by simp [results, Try.results79, go_sem, d0, d1, d2]) rfl ?_
      unfold SgnPost
      rw [HT.out]
      exact ⟨hst.b, ⟨0, ⟨#[]⟩, ⟨#[]⟩⟩, rfl⟩
    | ok r =>
      obtain ⟨t, q1⟩ := r
      obtain ⟨e1, e2, _⟩ := text_bd hy
      rw [hy] at HJ
      simp only at HJ
      have HK := Lib.hid (fun w => rText_calls s q1 w hs e2)
      unfold GetTextPost at HK
      rw [getText_at e2] at HK
      cases hz : text s q1 with
      | error c =>
        rw [hz] at HK
        simp only at HK
        have HT := Lib.hid (show signed s p = .error c by unfold signed; rw [hx]; simp only; rw [hy]; simp only; rw [hz])
        clear hx hy hz hs
        go_enter Try.func79, Try.ntmps79
        go_wp2_with fail
        have HST := Lib.hid (St.mk ((Below.refl w.heap.size w).alloc (Nat.le_refl _) _) (Box.new w #[.int .i64 0, .string ⟨#[]⟩, .string ⟨#[]⟩] 36))
        refine (HI.out _).mono ?_
        rintro e w1 ⟨rfl, hb⟩
        have HS1 := Lib.hid (HST.out.call (Nat.le_refl _) hb)
        clear HST hb
        have HST := HS1
        clear HS1
        obtain ⟨_, _, _, f0, f1, f2⟩ := HST.out.x.facts3
        go_wp2_with fail
        refine (HJ.out _).mono ?_
        rintro e w2 ⟨rfl, hb⟩
        have HS2 := Lib.hid (HST.out.call (Nat.le_refl _) hb)
        clear HST hb
        have HST := HS2
        clear HS2
        obtain ⟨_, _, _, f0, f1, f2⟩ := HST.out.x.facts3
        go_wp2_with fail
        refine (HK.out _).mono ?_
        rintro e w3 ⟨rfl, hb⟩
        have HS3 := Lib.hid (HST.out.call (Nat.le_refl _) hb)
        clear HST hb
        have HST := HS3
        clear HS3
        obtain ⟨_, _, _, f0, f1, f2⟩ := HST.out.x.facts3
        go_wp2_with fail
        have hst := HST.out.fill3 (Nat.le_refl _) (x := .int .i64 n) (y := .string t) (z := .string ⟨#[]⟩)
        obtain ⟨d0, d1, d2, _⟩ := hst.x.facts3
        refine bodyPost_ret (v := .tuple #[.agg #[.int .i64 n, .string t, .string ⟨#[]⟩], .int .i64 0, .int .i64 c]) (by simp [results, Try.results79, go_sem, d0, d1, d2]) rfl ?_
        unfold SgnPost
        rw [HT.out]
        exact ⟨hst.b, ⟨n, t, ⟨#[]⟩⟩, rfl⟩
      | ok r =>
        obtain ⟨g, q2⟩ := r
        rw [hz] at HK
        simp only at HK
        have HT := Lib.hid (show signed s p = .ok (⟨n, t, g⟩, q2) by unfold signed; rw [hx]; simp only; rw [hy]; simp only; rw [hz])
        clear hx hy hz hs
        go_enter Try.func79, Try.ntmps79
        go_wp2_with fail
        have HST := Lib.hid (St.mk ((Below.refl w.heap.size w).alloc (Nat.le_refl _) _) (Box.new w #[.int .i64 0, .string ⟨#[]⟩, .string ⟨#[]⟩] 36))
        refine (HI.out _).mono ?_
        rintro e w1 ⟨rfl, hb⟩
        have HS1 := Lib.hid (HST.out.call (Nat.le_refl _) hb)
        clear HST hb
        have HST := HS1
        clear HS1
        obtain ⟨_, _, _, f0, f1, f2⟩ := HST.out.x.facts3
        go_wp2_with fail
        refine (HJ.out _).mono ?_
        rintro e w2 ⟨rfl, hb⟩
        have HS2 := Lib.hid (HST.out.call (Nat.le_refl _) hb)
        clear HST hb
        have HST := HS2
        clear HS2
        obtain ⟨_, _, _, f0, f1, f2⟩ := HST.out.x.facts3
        go_wp2_with fail
        refine (HK.out _).mono ?_
        rintro e w3 ⟨rfl, hb⟩
        have HS3 := Lib.hid (HST.out.call (Nat.le_refl _) hb)
        clear HST hb
        have HST := HS3
        clear HS3
        obtain ⟨_, _, _, f0, f1, f2⟩ := HST.out.x.facts3
        go_wp2_with fail
        have hst := HST.out.fill3 (Nat.le_refl _) (x := .int .i64 n) (y := .string t) (z := .string g)
        obtain ⟨d0, d1, d2, _⟩ := hst.x.facts3
        refine bodyPost_ret (v := .tuple #[.agg #[.int .i64 n, .string t, .string g], .int .i64 q2, .int .i64 0]) (by simp [results, Try.results79, go_sem, d0, d1, d2]) rfl ?_
        unfold SgnPost
        rw [HT.out]
        exact ⟨hst.b, rfl⟩
end Go.Proofs.Ytehbpjkeflcanaa
