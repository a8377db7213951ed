/- Texts of this proof, several in one file; each says ahead of it what it proves. -/
import Derived.Test.YtfgpchffkpomoaaPk05
import Derived.RegionTactic
import Derived.Test.YtfgpchffkpomoaaPk06
/- A number or a text is read at a place: GetInt, GetText. -/
namespace Go.Proofs.Ytfgpchffkpomoaa
set_option linter.unusedSimpArgs false
set_option linter.unusedVariables false
open Go.RowKit

theorem Rd.new (w : World) (s : ByteArray) (p : Nat) : Rd (w.alloc (.cells #[.string s, .int .i64 p] 241)) w.heap.size s p := ⟨by simp, by simp, by simp⟩

def getInt (s : ByteArray) (at_ : Int) : Int × Int × Int :=
  if 0 ≤ at_ ∧ at_ ≤ s.size then (match num s at_.toNat with | .ok (n, q) => (n, q, 0) | .error c => (0, 0, c)) else (0, 0, 1)
def GetIntPost (r : Int × Int × Int) (w : World) (e : Ending) (w' : World) : Prop := e = .returned (.tuple #[.int .i64 r.1, .int .i64 r.2.1, .int .i64 r.2.2]) ∧ Below w.heap.size w w'


def getText (s : ByteArray) (at_ : Int) : ByteArray × Int × Int :=
  if 0 ≤ at_ ∧ at_ ≤ s.size then (match text s at_.toNat with | .ok (n, q) => (n, q, 0) | .error c => (⟨#[]⟩, 0, c)) else (⟨#[]⟩, 0, 1)
def GetTextPost (r : ByteArray × Int × Int) (w : World) (e : Ending) (w' : World) : Prop := e = .returned (.tuple #[.string r.1, .int .i64 r.2.1, .int .i64 r.2.2]) ∧ Below w.heap.size w w'

end Go.Proofs.Ytfgpchffkpomoaa

/- The document's own reading of a number and of a text at a place. -/
namespace Go.Proofs.Ytfgpchffkpomoaa
set_option linter.unusedSimpArgs false
set_option linter.unusedVariables false
open Go.RowKit

theorem getInt_at {s : ByteArray} {p : Nat} (hp : p ≤ s.size) : getInt s p = (match num s p with | .ok (n, q) => ((n : Int), (q : Int), (0 : Int)) | .error c => (0, 0, (c : Int))) := by
  unfold getInt; rw [if_pos ⟨by omega, by omega⟩, Int.toNat_natCast] <;> rfl
theorem getText_at {s : ByteArray} {p : Nat} (hp : p ≤ s.size) : getText s p = (match text s p with | .ok (n, q) => ((n : ByteArray), (q : Int), (0 : Int)) | .error c => (⟨#[]⟩, 0, (c : Int))) := by
  unfold getText; rw [if_pos ⟨by omega, by omega⟩, Int.toNat_natCast] <;> rfl

/-- One digit of seven bits, as the document adds it. -/
theorem digit_add (n c i m : Nat) (h : i ≤ 7) (hn : n < 2 ^ (7 * i)) (hm : m = 2 ^ (7 * i)) : ∃ d u v : Nat, Int.tmod (c : Int) 128 = (d : Int) ∧ d < 128 ∧ (d : Int) * (m : Int) = (u : Int) ∧ (n : Int) + (u : Int) = (v : Int) ∧
    u < 72057594037927936 ∧ v < 144115188075855872 ∧ m ≤ 562949953421312 ∧ v < 2 ^ (7 * (i + 1)) ∧ m * 128 = 2 ^ (7 * (i + 1)) ∧ Hid (v = n + c % 128 * 2 ^ (7 * i)) := by
  have h1 := digit_lt c i h
  have h2 := pow7_le i h
  refine ⟨c % 128, c % 128 * 2 ^ (7 * i), n + c % 128 * 2 ^ (7 * i), ?_, by omega, by rw [hm, Int.natCast_mul], by omega, h1, by omega, by omega, digits_lt n c i hn, ?_, rfl⟩
  · rw [Int.tmod_eq_emod_of_nonneg (by omega)]; omega
  · rw [hm, show 7 * (i + 1) = 7 * i + 7 by omega, Nat.pow_add]

set_option maxRecDepth 100000 in
theorem rInt_calls (s : ByteArray) (p : Nat) (w : World) (hs : s.size ≤ maxLen) (hp : p ≤ s.size) : Calls Try.prog 118 #[.string s, .int .i64 p] w (GetIntPost (getInt s p) w) := by
  unfold maxLen at hs
  have HE := Lib.hid (getInt_at hp)
  go_enter Try.func118, Try.ntmps118
  go_wp2
  go_loopg [7, 8, 9] 8 (fun k vn vm vi wr => ∃ (n m i : Nat), vn = .int .i64 n ∧ vm = .int .i64 m ∧ vi = .int .i64 i ∧ p + i ≤ s.size ∧ i ≤ 8 ∧ Hid (k + i = 8 ∧ n < 2 ^ (7 * i) ∧ m = 2 ^ (7 * i) ∧ Below w.heap.size w wr ∧ rdNum s k (p + i) i n = num s p))
  case atStart => exact ⟨0, 1, 0, rfl, rfl, rfl, hp, by omega, rfl, by decide, rfl, Below.refl _ _, rfl⟩
  case round =>
    obtain ⟨n, m, i, rfl, rfl, rfl, hq, hi, HH⟩ := hrel
    obtain ⟨hk, hn, hm, hc, hx⟩ := HH.out
    clear HH
    by_cases h8 : i = 8
    · obtain rfl : gk = 0 := by omega
      rw [show rdNum s 0 (p + i) i n = .error 11 from rfl] at hx
      rw [← hx] at HE
      have HC := Lib.hid hc
      have hd : decide ((i : Int) < 8) = false := by simp; omega
      clear hk hn hm hc hx
      go_wp2
      go_ret3
      exact ⟨by rw [HE.out]; rfl, HC.out⟩
    · have hi7 : i ≤ 7 := by omega
      obtain ⟨k1, rfl⟩ : ∃ k1, gk = k1 + 1 := ⟨gk - 1, by omega⟩
      have hd : decide ((i : Int) < 8) = true := by simp; omega
      unfold rdNum at hx
      by_cases hlt : p + i < s.size
      · obtain ⟨c, hcs, hcl⟩ : ∃ c, s[p + i].toNat = c ∧ c < 256 := ⟨_, rfl, UInt8.toNat_lt _⟩
        have hb : byteAt s (p + i) = c := by rw [← hcs]; exact (byteAt_eq s (p + i) hlt).symm
        have hd1 : decide ((s.size : Int) ≤ (p : Int) + (i : Int)) = false := by simp; omega
        rw [if_neg (by omega), hb] at hx
        clear hb
        obtain ⟨d, u, v, e1, e2, e3, e4, e5, e6, e7, e8, e9, HV⟩ := digit_add n c i m hi7 hn hm
        rw [← HV.out] at hx
        have HX := Lib.hid hx
        have HE8 := Lib.hid e8
        have HE9 := Lib.hid e9
        have HK := Lib.hid hk
        have HC := Lib.hid hc
        clear HV hx e8 e9 hk hc hm hn
        by_cases h128 : 128 ≤ c
        · have hd2 : decide ((128 : Int) ≤ (c : Int)) = true := by simp; omega
          have hx := HX.out
          rw [if_pos h128] at hx
          have HX := Lib.hid hx
          clear hx
          go_wp2
          go_roundg k1
          case measure => omega
          case rel =>
            refine ⟨v, m * 128, i + 1, rfl, by go_num, by go_num, by omega, by omega, by have := HK.out; omega, HE8.out, HE9.out, HC.out, ?_⟩
            rw [← Nat.add_assoc, ← HX.out]
            by_cases h7 : i = 7
            · rw [if_pos h7]
              obtain rfl : k1 = 0 := by have := HK.out; omega
              rfl
            · rw [if_neg h7]
        · have hd2 : decide ((128 : Int) ≤ (c : Int)) = false := by simp; omega
          have hx := HX.out
          rw [if_neg h128] at hx
          clear HX
          by_cases h0 : c = 0 ∧ 0 < i
          · have hd3 : ((c : Int) == 0) = true := by simp; omega
            have hd4 : 0 < i := h0.2
            rw [if_pos h0] at hx
            rw [← hx] at HE
            clear hx h0
            go_wp2
            go_ret3
            exact ⟨by rw [HE.out]; rfl, HC.out⟩
          · rw [if_neg h0] at hx
            by_cases hbig : 9007199254740992 < v
            · have hd4 : decide ((9007199254740992 : Int) < (v : Int)) = true := by simp; omega
              rw [if_pos hbig] at hx
              rw [← hx] at HE
              clear hx
              by_cases hc0 : c = 0
              · have hd3 : ((c : Int) == 0) = true := by simp; omega
                have hd5 : ¬ 0 < i := by omega
                clear h0 hc0
                go_wp2
                go_ret3
                exact ⟨by rw [HE.out]; rfl, HC.out⟩
              · have hd3 : ((c : Int) == 0) = false := by simp; omega
                clear h0 hc0
                go_wp2
                go_ret3
                exact ⟨by rw [HE.out]; rfl, HC.out⟩
            · have hd4 : decide ((9007199254740992 : Int) < (v : Int)) = false := by simp; omega
              rw [if_neg hbig] at hx
              rw [← hx] at HE
              clear hx
              by_cases hc0 : c = 0
              · have hd3 : ((c : Int) == 0) = true := by simp; omega
                have hd5 : ¬ 0 < i := by omega
                clear h0 hc0
                go_wp2
                go_ret3
                refine ⟨?_, HC.out⟩
                rw [HE.out]
                first | rfl | simp | (simp; omega)
              · have hd3 : ((c : Int) == 0) = false := by simp; omega
                clear h0 hc0
                go_wp2
                go_ret3
                refine ⟨?_, HC.out⟩
                rw [HE.out]
                first | rfl | simp | (simp; omega)
      · have hd1 : decide ((s.size : Int) ≤ (p : Int) + (i : Int)) = true := by simp; omega
        rw [if_pos (by omega)] at hx
        rw [← hx] at HE
        have HC := Lib.hid hc
        clear hx hk hn hm hc
        go_wp2
        go_ret3
        exact ⟨by rw [HE.out]; rfl, HC.out⟩

theorem rdNum_err (s : ByteArray) : ∀ (k q i n c : Nat), rdNum s k q i n = .error c → c = 10 ∨ c = 11
  | 0, _, _, _, c => by intro h; simp [rdNum] at h; omega
  | k + 1, q, i, n, c => by
    unfold rdNum
    intro h
    split at h
    · simp at h; omega
    · split at h
      · split at h
        · simp at h; omega
        · exact rdNum_err s k _ _ _ _ h
      · split at h
        · simp at h; omega
        · split at h
          · simp at h; omega
          · simp at h
theorem num_err {s : ByteArray} {q c : Nat} (h : num s q = .error c) : c = 10 ∨ c = 11 := rdNum_err s _ _ _ _ _ h
theorem text_err {s : ByteArray} {q c : Nat} (h : text s q = .error c) : c = 4 ∨ c = 10 ∨ c = 11 := by
  unfold text at h
  split at h
  · rename_i e he
    have := num_err he
    simp at h; omega
  · split at h
    · simp at h; omega
    · unfold take_ at h
      split at h
      · simp at h; omega
      · simp at h
set_option maxRecDepth 100000 in
theorem rText_calls (s : ByteArray) (p : Nat) (w : World) (hs : s.size ≤ maxLen) (hp : p ≤ s.size) : Calls Try.prog 119 #[.string s, .int .i64 p] w (GetTextPost (getText s p) w) := by
  have HI := Lib.hid (fun w => rInt_calls s p w hs hp)
  unfold maxLen at hs
  unfold GetIntPost at HI
  rw [getInt_at hp] at HI
  have HG := Lib.hid (getText_at hp)
  have HB := Lib.hid (Below.refl w.heap.size w)
  cases hx : num s p with
  | error c =>
    rw [hx] at HI
    simp only at HI
    have hd : ((c : Int) == 0) = false := by rcases num_err hx with rfl | rfl <;> rfl
    have HT := Lib.hid (show getText s p = (⟨#[]⟩, 0, (c : Int)) by rw [HG.out]; unfold text; rw [hx])
    clear hx
    go_enter Try.func119, Try.ntmps119
    go_wp2_with (first | (go_at_call 118; refine (HI.out _).mono ?_; rintro e wn ⟨rfl, hbn⟩; have HBn := Lib.hid (HB.out.trans (hbn.mono HB.out.size)); clear HB hbn; have HB := HBn; clear HBn))
    go_ret3
    rw [HT.out]
    exact ⟨rfl, HB.out⟩
  | ok r =>
    obtain ⟨n, q⟩ := r
    obtain ⟨b1, b2, b3⟩ := num_bd hx
    rw [hx] at HI
    simp only at HI
    by_cases hl : 1048576 < n
    · have hd : decide ((1048576 : Int) < (n : Int)) = true := by simp; omega
      have HT := Lib.hid (show getText s p = (⟨#[]⟩, 0, 4) by rw [HG.out]; unfold text; rw [hx]; simp only; rw [if_pos hl]; rfl)
      clear hx
      go_enter Try.func119, Try.ntmps119
      go_wp2_with (first | (go_at_call 118; refine (HI.out _).mono ?_; rintro e wn ⟨rfl, hbn⟩; have HBn := Lib.hid (HB.out.trans (hbn.mono HB.out.size)); clear HB hbn; have HB := HBn; clear HBn))
      go_ret3
      rw [HT.out]
      exact ⟨rfl, HB.out⟩
    · have hd : decide ((1048576 : Int) < (n : Int)) = false := by simp; omega
      by_cases hm : s.size - q < n
      · have hd2 : decide ((s.size : Int) - (q : Int) < (n : Int)) = true := by simp; omega
        have HT := Lib.hid (show getText s p = (⟨#[]⟩, 0, 10) by rw [HG.out]; unfold text; rw [hx]; simp only; rw [if_neg hl]; unfold take_; rw [if_pos hm]; rfl)
        clear hx
        go_enter Try.func119, Try.ntmps119
        go_wp2_with (first | (go_at_call 118; refine (HI.out _).mono ?_; rintro e wn ⟨rfl, hbn⟩; have HBn := Lib.hid (HB.out.trans (hbn.mono HB.out.size)); clear HB hbn; have HB := HBn; clear HBn))
        go_ret3
        rw [HT.out]
        exact ⟨rfl, HB.out⟩
      · have hd2 : decide ((s.size : Int) - (q : Int) < (n : Int)) = false := by simp; omega
        have HT := Lib.hid (show getText s p = (s.extract q (q + n), ((q + n : Nat) : Int), 0) by rw [HG.out]; unfold text; rw [hx]; simp only; rw [if_neg hl]; unfold take_; rw [if_neg hm])
        clear hx
        go_enter Try.func119, Try.ntmps119
        go_wp2_with (first | (go_at_call 118; refine (HI.out _).mono ?_; rintro e wn ⟨rfl, hbn⟩; have HBn := Lib.hid (HB.out.trans (hbn.mono HB.out.size)); clear HB hbn; have HB := HBn; clear HBn))
        go_ret3
        rw [HT.out]
        exact ⟨rfl, HB.out⟩
end Go.Proofs.Ytfgpchffkpomoaa

/- The document's own reading of a message, and of messages, at a place. -/
namespace Go.Proofs.Ytfgpchffkpomoaa
set_option linter.unusedSimpArgs false
set_option linter.unusedVariables false
open Go.RowKit

theorem signed_err {s : ByteArray} {q c : Nat} (h : signed s q = .error c) : c = 4 ∨ c = 10 ∨ c = 11 := by
  unfold signed at h
  split at h
  · rename_i e he
    have := num_err he
    simp at h; omega
  · split at h
    · rename_i e he
      have := text_err he
      simp at h; omega
    · split at h
      · rename_i e he
        have := text_err he
        simp at h; omega
      · simp at h

theorem St.fill3 {B k : Nat} {w0 w : World} {a b c x y z : Value} {T : TypeId} (h : St B w0 k #[a, b, c] T w) (hB : B ≤ k) : St B w0 k #[x, y, z] T (((w.setCell ⟨k, 0, none⟩ x).setCell ⟨k, 1, none⟩ y).setCell ⟨k, 2, none⟩ z) := by
  have h1 := ((h.x.set 0 x).set 1 y).set 2 z
  exact ⟨((h.b.setCell hB x).setCell hB y).setCell hB z, by simpa using h1⟩

/-- What the document's reading of a message answers: it, the place behind it, no error; or some message, no place, the error. -/
def SgnPost (r : Except Nat (Sg × Nat)) (w : World) (e : Ending) (w' : World) : Prop := Below w.heap.size w w' ∧ match r with
  | .ok (m, q) => e = .returned (.tuple #[m.val, .int .i64 q, .int .i64 0])
  | .error c => ∃ m : Sg, e = .returned (.tuple #[m.val, .int .i64 0, .int .i64 c])

set_option maxRecDepth 100000 in
theorem rSigned_calls (s : ByteArray) (p : Nat) (w : World) (hs : s.size ≤ maxLen) (hp : p ≤ s.size) : Calls Try.prog 147 #[.string s, .int .i64 p] w (SgnPost (signed s p) w) := by
  have HI := Lib.hid (fun w => rInt_calls s p w hs hp)
  unfold GetIntPost at HI
  rw [getInt_at hp] at HI
  cases hx : num s p with
  | error c =>
    rw [hx] at HI
    simp only at HI
    have hd : ((c : Int) == 0) = false := by rcases num_err hx with rfl | rfl <;> rfl
    have HT := Lib.hid (show signed s p = .error c by unfold signed; rw [hx])
    clear hx hs
    go_enter Try.func147, Try.ntmps147
    go_wp2_with fail
    have HST := Lib.hid (St.mk ((Below.refl w.heap.size w).alloc (Nat.le_refl _) _) (Box.new w #[.int .i64 0, .string ⟨#[]⟩, .string ⟨#[]⟩] 61))
    refine (HI.out _).mono ?_
    rintro e w1 ⟨rfl, hb⟩
    have HS1 := Lib.hid (HST.out.call (Nat.le_refl _) hb)
    clear HST hb
    have HST := HS1
    clear HS1
    obtain ⟨_, _, _, f0, f1, f2⟩ := HST.out.x.facts3
    go_wp2_with fail
    have hst := HST.out.fill3 (Nat.le_refl _) (x := .int .i64 0) (y := .string ⟨#[]⟩) (z := .string ⟨#[]⟩)
    obtain ⟨d0, d1, d2, _⟩ := hst.x.facts3
    refine bodyPost_ret (v := .tuple #[.agg #[.int .i64 0, .string ⟨#[]⟩, .string ⟨#[]⟩], .int .i64 0, .int .i64 c]) (by simp [results, Try.results147, go_sem, d0, d1, d2]) rfl ?_
    unfold SgnPost
    rw [HT.out]
    exact ⟨hst.b, ⟨0, ⟨#[]⟩, ⟨#[]⟩⟩, rfl⟩
  | ok r =>
    obtain ⟨n, q⟩ := r
    obtain ⟨b1, b2, b3⟩ := num_bd hx
    rw [hx] at HI
    simp only at HI
    have HJ := Lib.hid (fun w => rText_calls s q w hs b2)
    unfold GetTextPost at HJ
    rw [getText_at b2] at HJ
    cases hy : text s q with
    | error c =>
      rw [hy] at HJ
      simp only at HJ
      have hd : ((c : Int) == 0) = false := by rcases text_err hy with rfl | rfl | rfl <;> rfl
      have HT := Lib.hid (show signed s p = .error c by unfold signed; rw [hx]; simp only; rw [hy])
      clear hx hy hs
      go_enter Try.func147, Try.ntmps147
      go_wp2_with fail
      have HST := Lib.hid (St.mk ((Below.refl w.heap.size w).alloc (Nat.le_refl _) _) (Box.new w #[.int .i64 0, .string ⟨#[]⟩, .string ⟨#[]⟩] 61))
      refine (HI.out _).mono ?_
      rintro e w1 ⟨rfl, hb⟩
      have HS1 := Lib.hid (HST.out.call (Nat.le_refl _) hb)
      clear HST hb
      have HST := HS1
      clear HS1
      obtain ⟨_, _, _, f0, f1, f2⟩ := HST.out.x.facts3
      go_wp2_with fail
      refine (HJ.out _).mono ?_
      rintro e w2 ⟨rfl, hb⟩
      have HS2 := Lib.hid (HST.out.call (Nat.le_refl _) hb)
      clear HST hb
      have HST := HS2
      clear HS2
      obtain ⟨_, _, _, f0, f1, f2⟩ := HST.out.x.facts3
      go_wp2_with fail
      have hst := HST.out.fill3 (Nat.le_refl _) (x := .int .i64 0) (y := .string ⟨#[]⟩) (z := .string ⟨#[]⟩)
      obtain ⟨d0, d1, d2, _⟩ := hst.x.facts3
      refine bodyPost_ret (v := .tuple #[.agg #[.int .i64 0, .string ⟨#[]⟩, .string ⟨#[]⟩], .int .i64 0, .int .i64 c]) (by simp [results, Try.results147, go_sem, d0, d1, d2]) rfl ?_
      unfold SgnPost
      rw [HT.out]
      exact ⟨hst.b, ⟨0, ⟨#[]⟩, ⟨#[]⟩⟩, rfl⟩
    | ok r =>
      obtain ⟨t, q1⟩ := r
      obtain ⟨e1, e2, _⟩ := text_bd hy
      rw [hy] at HJ
      simp only at HJ
      have HK := Lib.hid (fun w => rText_calls s q1 w hs e2)
      unfold GetTextPost at HK
      rw [getText_at e2] at HK
      cases hz : text s q1 with
      | error c =>
        rw [hz] at HK
        simp only at HK
        have HT := Lib.hid (show signed s p = .error c by unfold signed; rw [hx]; simp only; rw [hy]; simp only; rw [hz])
        clear hx hy hz hs
        go_enter Try.func147, Try.ntmps147
        go_wp2_with fail
        have HST := Lib.hid (St.mk ((Below.refl w.heap.size w).alloc (Nat.le_refl _) _) (Box.new w #[.int .i64 0, .string ⟨#[]⟩, .string ⟨#[]⟩] 61))
        refine (HI.out _).mono ?_
        rintro e w1 ⟨rfl, hb⟩
        have HS1 := Lib.hid (HST.out.call (Nat.le_refl _) hb)
        clear HST hb
        have HST := HS1
        clear HS1
        obtain ⟨_, _, _, f0, f1, f2⟩ := HST.out.x.facts3
        go_wp2_with fail
        refine (HJ.out _).mono ?_
        rintro e w2 ⟨rfl, hb⟩
        have HS2 := Lib.hid (HST.out.call (Nat.le_refl _) hb)
        clear HST hb
        have HST := HS2
        clear HS2
        obtain ⟨_, _, _, f0, f1, f2⟩ := HST.out.x.facts3
        go_wp2_with fail
        refine (HK.out _).mono ?_
        rintro e w3 ⟨rfl, hb⟩
        have HS3 := Lib.hid (HST.out.call (Nat.le_refl _) hb)
        clear HST hb
        have HST := HS3
        clear HS3
        obtain ⟨_, _, _, f0, f1, f2⟩ := HST.out.x.facts3
        go_wp2_with fail
        have hst := HST.out.fill3 (Nat.le_refl _) (x := .int .i64 n) (y := .string t) (z := .string ⟨#[]⟩)
        obtain ⟨d0, d1, d2, _⟩ := hst.x.facts3
        refine bodyPost_ret (v := .tuple #[.agg #[.int .i64 n, .string t, .string ⟨#[]⟩], .int .i64 0, .int .i64 c]) (by simp [results, Try.results147, go_sem, d0, d1, d2]) rfl ?_
        unfold SgnPost
        rw [HT.out]
        exact ⟨hst.b, ⟨n, t, ⟨#[]⟩⟩, rfl⟩
      | ok r =>
        obtain ⟨g, q2⟩ := r
        rw [hz] at HK
        simp only at HK
        have HT := Lib.hid (show signed s p = .ok (⟨n, t, g⟩, q2) by unfold signed; rw [hx]; simp only; rw [hy]; simp only; rw [hz])
        clear hx hy hz hs
        go_enter Try.func147, Try.ntmps147
        go_wp2_with fail
        have HST := Lib.hid (St.mk ((Below.refl w.heap.size w).alloc (Nat.le_refl _) _) (Box.new w #[.int .i64 0, .string ⟨#[]⟩, .string ⟨#[]⟩] 61))
        refine (HI.out _).mono ?_
        rintro e w1 ⟨rfl, hb⟩
        have HS1 := Lib.hid (HST.out.call (Nat.le_refl _) hb)
        clear HST hb
        have HST := HS1
        clear HS1
        obtain ⟨_, _, _, f0, f1, f2⟩ := HST.out.x.facts3
        go_wp2_with fail
        refine (HJ.out _).mono ?_
        rintro e w2 ⟨rfl, hb⟩
        have HS2 := Lib.hid (HST.out.call (Nat.le_refl _) hb)
        clear HST hb
        have HST := HS2
        clear HS2
        obtain ⟨_, _, _, f0, f1, f2⟩ := HST.out.x.facts3
        go_wp2_with fail
        refine (HK.out _).mono ?_
        rintro e w3 ⟨rfl, hb⟩
        have HS3 := Lib.hid (HST.out.call (Nat.le_refl _) hb)
        clear HST hb
        have HST := HS3
        clear HS3
        obtain ⟨_, _, _, f0, f1, f2⟩ := HST.out.x.facts3
        go_wp2_with fail
        have hst := HST.out.fill3 (Nat.le_refl _) (x := .int .i64 n) (y := .string t) (z := .string g)
        obtain ⟨d0, d1, d2, _⟩ := hst.x.facts3
        refine bodyPost_ret (v := .tuple #[.agg #[.int .i64 n, .string t, .string g], .int .i64 q2, .int .i64 0]) (by simp [results, Try.results147, go_sem, d0, d1, d2]) rfl ?_
        unfold SgnPost
        rw [HT.out]
        exact ⟨hst.b, rfl⟩
end Go.Proofs.Ytfgpchffkpomoaa
