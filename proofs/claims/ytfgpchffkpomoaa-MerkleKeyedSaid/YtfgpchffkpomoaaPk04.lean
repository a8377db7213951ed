/- Texts of this proof, several in one file; each says ahead of it what it proves. -/
import Derived.Test.YtfgpchffkpomoaaPk01
import Derived.Outline
import Derived.Test.YtfgpchffkpomoaaPk02
/- The reader's number: the walk through (*reader).number, for every text and place. -/
namespace Go.Proofs.Ytfgpchffkpomoaa
set_option linter.unusedSimpArgs false
set_option linter.unusedVariables false
open Go.RowKit

/-- The state of a reader in block b: its text, and its place. -/
structure Rd (w : World) (b : Nat) (s : ByteArray) (q : Nat) : Prop where
  str : w.cell? ⟨b, 0, none⟩ = some (.string s)
  pos : w.cell? ⟨b, 1, none⟩ = some (.int .i64 q)
  fr : w.frozen? ⟨b, 1, none⟩ = false

/-- What a reader gives up with. -/
def fault (c : Nat) : List PanicEntry := [{ v := .iface 261 (.int .i64 c), recovered := false }]

/-- What is behind a reader's step: what was read, and the place behind it; or what it gave up with. -/
def RdPost {α : Type} (b : Nat) (s : ByteArray) (w : World) (V : α → Value) (r : Except Nat (α × Nat)) (e : Ending) (w' : World) : Prop :=
  Ch w.heap.size (· = b) w w' ∧ match r with
  | .ok (x, q) => e = .returned (V x) ∧ Rd w' b s q
  | .error c => e = .panicked (fault c)

theorem Rd.drewN {w : World} {b : Nat} {s : ByteArray} {q : Nat} (h : Rd w b s q) (n : Nat) : Rd (w.drewN n) b s q := ⟨h.1, h.2, h.3⟩
theorem Rd.move {w : World} {b : Nat} {s : ByteArray} {q : Nat} (h : Rd w b s q) (p : Nat) : Rd (w.setCell ⟨b, 1, none⟩ (.int .i64 p)) b s p :=
  ⟨by rw [World.cell?_setCell_other _ _ _ _ (by simp)]; exact h.1, World.cell?_setCell_same _ _ _ h.2, by rw [World.frozen?_setCell]; exact h.3⟩
theorem Rd.other {w : World} {b : Nat} {s : ByteArray} {q : Nat} (h : Rd w b s q) {a : Addr} (ha : a.block ≠ b) (v : Value) : Rd (w.setCell a v) b s q := by
  have e : ∀ i, (w.setCell a v).cell? ⟨b, i, none⟩ = w.cell? ⟨b, i, none⟩ := fun i => World.cell?_setCell_other _ _ _ _ (fun e => ha (by rw [e]))
  exact ⟨(e 0).trans h.1, (e 1).trans h.2, by rw [World.frozen?_setCell]; exact h.3⟩
theorem Rd.lt {w : World} {b : Nat} {s : ByteArray} {q : Nat} (h : Rd w b s q) : b < w.heap.size := World.block_lt_of_cell? _ _ h.1

theorem Rd.alloc {w : World} {b : Nat} {s : ByteArray} {q : Nat} (h : Rd w b s q) (o : Obj) : Rd (w.alloc o) b s q := by
  have hl := h.lt
  exact ⟨(World.cell?_alloc_lt _ _ _ hl).trans h.1, (World.cell?_alloc_lt _ _ _ hl).trans h.2, (World.frozen?_alloc_old _ _ _ (Nat.ne_of_lt hl)).trans h.3⟩

set_option maxRecDepth 100000 in
theorem number_calls (b : Nat) (s : ByteArray) (p : Nat) (w : World) (hs : s.size ≤ maxLen) (hp : p ≤ s.size) (hr : Rd w b s p) :
    Calls Try.prog 167 #[.pointer (some ⟨b, 0, none⟩)] w (RdPost b s w (fun n => .int .i64 (n : Nat)) (num s p)) := by
  unfold maxLen at hs
  have HQ := Lib.hid hr
  clear hr
  go_enter Try.func167, Try.ntmps167
  go_wp2
  go_loopg [3, 4] 8 (fun k vn vi wr => ∃ (n i q : Nat), vn = .int .i64 n ∧ vi = .int .i64 i ∧ q ≤ s.size ∧ i ≤ 7 ∧ n < 2 ^ (7 * i) ∧ Hid (k + i = 8 ∧ Rd wr b s q ∧ Ch w.heap.size (· = b) w wr ∧ rdNum s k q i n = num s p))
  case atStart => exact ⟨0, 0, p, rfl, rfl, hp, by omega, by decide, rfl, HQ.out, Ch.refl _ _ _, rfl⟩
  case round =>
    clear HQ
    obtain ⟨n, i, q, rfl, rfl, hq, hi, hn, HH⟩ := hrel
    obtain ⟨hk, hr, hc, hx⟩ := HH.out
    obtain ⟨k1, rfl⟩ : ∃ k1, gk = k1 + 1 := ⟨gk - 1, by omega⟩
    have HK := Lib.hid hk
    have HC := Lib.hid hc
    have HX := Lib.hid hx
    have HR := Lib.hid hr
    obtain ⟨h1, h2, hf⟩ := hr
    clear HH hc hk hx
    by_cases hlt : q < s.size
    · have hd : decide ((s.size : Int) ≤ (q : Int)) = false := by simp; omega
      obtain ⟨c, hcs, hcl⟩ : ∃ c, s[q].toNat = c ∧ c < 256 := ⟨_, rfl, UInt8.toNat_lt _⟩
      have hb : byteAt s q = c := by rw [← hcs]; exact (byteAt_eq s q hlt).symm
      have hx := HX.out
      unfold rdNum at hx
      rw [if_neg (by omega), hb] at hx
      clear HX hb
      obtain ⟨u, v, e0, e1, e2, e3, hvl, hvb, HV⟩ := digit_step n c i hi hcl hn
      rw [← HV.out] at hx
      clear HV
      by_cases h128 : 128 ≤ c
      · have hd2 : decide ((128 : Int) ≤ (c : Int)) = true := by simp; omega
        rw [if_pos h128] at hx
        by_cases h7 : i = 7
        · have hd3 : ((i : Int) == 7) = true := by simp; omega
          rw [if_pos h7] at hx
          have HX := Lib.hid hx
          clear hx h7
          go_wp2_with fail
          go_quiet (fail)
          go_wp2_with fail
          go_quiet (fail)
          go_wp2
          rw [← HX.out]
          exact ⟨rfl, (HC.out.drewN _).setCell (.inr rfl) _, rfl⟩
        · have hd3 : ((i : Int) == 7) = false := by simp; omega
          rw [if_neg h7] at hx
          have HX := Lib.hid hx
          have HKI : i + 1 ≤ 7 := by omega
          clear hx h7
          go_wp2_with fail
          go_quiet (fail)
          go_wp2_with fail
          go_quiet (fail)
          go_wp2
          go_roundg k1
          case measure => omega
          case rel => exact ⟨v, i + 1, q + 1, rfl, by go_num, by omega, HKI, hvl, by have := HK.out; omega, (HR.out.drewN _).move _, (HC.out.drewN _).setCell (.inr rfl) _, HX.out⟩
      · have hd2 : decide ((128 : Int) ≤ (c : Int)) = false := by simp; omega
        rw [if_neg h128] at hx
        by_cases h0 : c = 0 ∧ 0 < i
        · have hd3 : ((c : Int) == 0) = true := by simp; omega
          have hd4 : 0 < i := h0.2
          rw [if_pos h0] at hx
          have HX := Lib.hid hx
          clear hx h0
          go_wp2_with fail
          go_quiet (fail)
          go_wp2_with fail
          go_quiet (fail)
          go_wp2
          rw [← HX.out]
          exact ⟨rfl, (HC.out.drewN _).setCell (.inr rfl) _, rfl⟩
        · rw [if_neg h0] at hx
          by_cases hbig : 9007199254740992 < v
          · have hd4 : decide ((9007199254740992 : Int) < (v : Int)) = true := by simp; omega
            rw [if_pos hbig] at hx
            have HX := Lib.hid hx
            clear hx
            by_cases hc0 : c = 0
            · have hd3 : ((c : Int) == 0) = true := by simp; omega
              have hd5 : ¬ 0 < i := by omega
              clear h0 hc0
              go_wp2_with fail
              go_quiet (fail)
              go_wp2_with fail
              go_quiet (fail)
              go_wp2
              rw [← HX.out]
              exact ⟨rfl, (HC.out.drewN _).setCell (.inr rfl) _, rfl⟩
            · have hd3 : ((c : Int) == 0) = false := by simp; omega
              clear h0 hc0
              go_wp2_with fail
              go_quiet (fail)
              go_wp2_with fail
              go_quiet (fail)
              go_wp2
              rw [← HX.out]
              exact ⟨rfl, (HC.out.drewN _).setCell (.inr rfl) _, rfl⟩
          · have hd4 : decide ((9007199254740992 : Int) < (v : Int)) = false := by simp; omega
            rw [if_neg hbig] at hx
            have HX := Lib.hid hx
            clear hx
            by_cases hc0 : c = 0
            · have hd3 : ((c : Int) == 0) = true := by simp; omega
              have hd5 : ¬ 0 < i := by omega
              clear h0 hc0
              go_wp2_with fail
              go_quiet (fail)
              go_wp2_with fail
              go_quiet (fail)
              go_wp2
              go_ret
              rw [← HX.out]
              exact ⟨(HC.out.drewN _).setCell (.inr rfl) _, rfl, (HR.out.drewN _).move _⟩
            · have hd3 : ((c : Int) == 0) = false := by simp; omega
              clear h0 hc0
              go_wp2_with fail
              go_quiet (fail)
              go_wp2_with fail
              go_quiet (fail)
              go_wp2
              go_ret
              rw [← HX.out]
              exact ⟨(HC.out.drewN _).setCell (.inr rfl) _, rfl, (HR.out.drewN _).move _⟩
    · have hd : decide ((s.size : Int) ≤ (q : Int)) = true := by simp; omega
      have hx := HX.out
      unfold rdNum at hx
      rw [if_pos (by omega)] at hx
      have HX := Lib.hid hx
      clear hx
      go_wp2_with fail
      go_quiet (fail)
      go_wp2
      rw [← HX.out]
      exact ⟨rfl, HC.out.drewN _, rfl⟩
end Go.Proofs.Ytfgpchffkpomoaa

/- The reader's other steps: so many bytes, a text, a count, a message, the end. -/
namespace Go.Proofs.Ytfgpchffkpomoaa
set_option linter.unusedSimpArgs false
set_option linter.unusedVariables false
open Go.RowKit

theorem Rd.move_int {w : World} {b : Nat} {s : ByteArray} {q : Nat} (h : Rd w b s q) (p : Nat) (z : Int) (hz : z = p) : Rd (w.setCell ⟨b, 1, none⟩ (.int .i64 z)) b s p := by
  subst hz; exact h.move p

set_option maxRecDepth 100000 in
theorem bytes_calls (b : Nat) (s : ByteArray) (p : Nat) (n : Int) (w : World) (hs : s.size ≤ maxLen) (hp : p ≤ s.size) (hn : 0 ≤ n) (hn1 : n ≤ 9007199254740992) (hr : Rd w b s p) :
    Calls Try.prog 189 #[.pointer (some ⟨b, 0, none⟩), .int .i64 n] w (RdPost b s w (fun t => .string t) (take_ s p n.toNat)) := by
  unfold maxLen at hs
  obtain ⟨n, rfl⟩ := Int.eq_ofNat_of_zero_le hn
  rw [Int.toNat_natCast]
  have HR := Lib.hid hr
  obtain ⟨h1, h2, hf⟩ := hr
  by_cases h : s.size - p < n
  · have HE : Hid (take_ s p n = .error 10) := by unfold take_; rw [if_pos h]; rfl
    have hd : decide (((s.size : Int) - (p : Int)) < (n : Int)) = true := by simp; omega
    go_enter Try.func189, Try.ntmps189
    go_wp2_with fail
    go_quiet (fail)
    go_wp2
    rw [HE.out]
    exact ⟨rfl, (by repeat (first | exact HC.out | exact Ch.refl _ _ _ | apply Ch.drewN | apply Ch.drew | (refine Ch.setCell ?_ (by first | exact .inr rfl | (left; simp; done) | (left; simp; omega)) _) | (refine Ch.alloc ?_ (by first | (simp; done) | (simp; omega)) _))), rfl⟩
  · have HE : Hid (take_ s p n = .ok (s.extract p (p + n), p + n)) := by unfold take_; rw [if_neg h]; rfl
    have hd : decide (((s.size : Int) - (p : Int)) < (n : Int)) = false := by simp; omega
    go_enter Try.func189, Try.ntmps189
    go_wp2_with fail
    go_quiet (fail)
    go_wp2_with fail
    go_quiet (fail)
    go_wp2
    go_ret
    rw [HE.out]
    refine ⟨(by repeat (first | exact HC.out | exact Ch.refl _ _ _ | apply Ch.drewN | apply Ch.drew | (refine Ch.setCell ?_ (by first | exact .inr rfl | (left; simp; done) | (left; simp; omega)) _) | (refine Ch.alloc ?_ (by first | (simp; done) | (simp; omega)) _))), ?_, (((HR.out.drewN _).move_int _ _ (by omega)).drewN _)⟩
    congr

set_option maxRecDepth 100000 in
theorem text_calls (b : Nat) (s : ByteArray) (p : Nat) (w : World) (hs : s.size ≤ maxLen) (hp : p ≤ s.size) (hr : Rd w b s p) :
    Calls Try.prog 168 #[.pointer (some ⟨b, 0, none⟩)] w (RdPost b s w (fun t => .string t) (text s p)) := by
  have hN := number_calls b s p w hs hp hr
  have HX : Hid (text s p = match num s p with | .error e => .error e | .ok (n, q) => if 1048576 < n then .error 4 else take_ s q n) := by unfold text; rfl
  cases hx : num s p with
  | error c =>
    rw [hx] at hN HX
    have HN := Lib.hid hN
    clear hx hN
    go_enter Try.func168, Try.ntmps168
    go_wp2_with fail
    refine HN.out.mono ?_
    rintro e w1 ⟨hc, rfl⟩
    go_wp2
    rw [HX.out]
    exact ⟨rfl, hc, rfl⟩
  | ok r =>
    obtain ⟨n, q⟩ := r
    have hb := num_bd hx
    rw [hx] at hN HX
    have HN := Lib.hid hN
    clear hx hN
    by_cases hbig : 1048576 < n
    · have HE := Lib.hid (show text s p = .error 4 by rw [HX.out]; simp only [if_pos hbig])
      have hd : decide ((1048576 : Int) < (n : Int)) = true := by simp; omega
      clear HX
      go_enter Try.func168, Try.ntmps168
      go_wp2_with fail
      refine HN.out.mono ?_
      rintro e w1 ⟨hc, rfl, _⟩
      go_wp2
      rw [HE.out]
      exact ⟨rfl, hc, rfl⟩
    · have HE := Lib.hid (show text s p = take_ s q n by rw [HX.out]; simp only [if_neg hbig])
      have hd : decide ((1048576 : Int) < (n : Int)) = false := by simp; omega
      clear HX
      go_enter Try.func168, Try.ntmps168
      go_wp2_with fail
      refine HN.out.mono ?_
      rintro e w1 ⟨hc, rfl, hr1⟩
      have HC := Lib.hid hc
      have HR := Lib.hid hr1
      clear hc hr1
      go_wp2_with fail
      refine (bytes_calls b s q n w1 hs hb.2.1 (by omega) (by omega) HR.out).mono ?_
      rw [Int.toNat_natCast]
      rintro e w2 ⟨hc, he⟩
      have HC2 : Hid (Ch w.heap.size (· = b) w w2) := HC.out.step hc HC.out.size (fun _ _ h => h)
      cases hx : take_ s q n with
      | error c =>
        rw [hx] at he
        obtain rfl := he
        rw [hx] at HE
        have HE' := Lib.hid HE.out
        clear hx hc
        go_wp2
        rw [HE'.out]
        exact ⟨rfl, HC2.out, rfl⟩
      | ok r =>
        obtain ⟨t, q'⟩ := r
        rw [hx] at he
        obtain ⟨rfl, hr2⟩ := he
        have HE' := HE.out
        rw [hx] at HE'
        have HE2 := Lib.hid HE'
        have HR2 := Lib.hid hr2
        clear hx hc hr2 HE'
        go_wp2
        go_ret
        rw [HE2.out]
        exact ⟨HC2.out, rfl, HR2.out⟩

set_option maxRecDepth 100000 in
theorem count_calls (b : Nat) (s : ByteArray) (p : Nat) (most : Int) (w : World) (hs : s.size ≤ maxLen) (hp : p ≤ s.size) (hm : 0 ≤ most) (hr : Rd w b s p) :
    Calls Try.prog 169 #[.pointer (some ⟨b, 0, none⟩), .int .i64 most] w (RdPost b s w (fun n => .int .i64 (n : Nat)) (count s most.toNat p)) := by
  obtain ⟨m, rfl⟩ := Int.eq_ofNat_of_zero_le hm
  rw [Int.toNat_natCast]
  have hN := number_calls b s p w hs hp hr
  have HX : Hid (count s m p = match num s p with | .error e => .error e | .ok (n, q) => if m < n then .error 2 else .ok (n, q)) := by unfold count; rfl
  cases hx : num s p with
  | error c =>
    rw [hx] at hN HX
    have HN := Lib.hid hN
    clear hx hN
    go_enter Try.func169, Try.ntmps169
    go_wp2_with fail
    refine HN.out.mono ?_
    rintro e w1 ⟨hc, rfl⟩
    go_wp2
    rw [HX.out]
    exact ⟨rfl, hc, rfl⟩
  | ok r =>
    obtain ⟨n, q⟩ := r
    have hb := num_bd hx
    rw [hx] at hN HX
    have HN := Lib.hid hN
    clear hx hN
    by_cases hbig : m < n
    · have HE := Lib.hid (show count s m p = .error 2 by rw [HX.out]; simp only [if_pos hbig])
      clear HX
      go_enter Try.func169, Try.ntmps169
      go_wp2_with fail
      refine HN.out.mono ?_
      rintro e w1 ⟨hc, rfl, _⟩
      go_wp2
      rw [HE.out]
      exact ⟨rfl, hc, rfl⟩
    · have HE := Lib.hid (show count s m p = .ok (n, q) by rw [HX.out]; simp only [if_neg hbig])
      clear HX
      go_enter Try.func169, Try.ntmps169
      go_wp2_with fail
      refine HN.out.mono ?_
      rintro e w1 ⟨hc, rfl, hr1⟩
      have HR := Lib.hid hr1
      clear hr1
      go_wp2
      go_ret
      rw [HE.out]
      exact ⟨hc, rfl, HR.out⟩

/-- The end: nothing may be left. -/
def EndPost (b : Nat) (s : ByteArray) (p : Nat) (w : World) (e : Ending) (w' : World) : Prop :=
  Ch w.heap.size (· = b) w w' ∧ if p < s.size then e = .panicked (fault 12) else e = .returned (.tuple #[])
set_option maxRecDepth 100000 in
theorem end_calls (b : Nat) (s : ByteArray) (p : Nat) (w : World) (_hs : s.size ≤ maxLen) (_hp : p ≤ s.size) (hr : Rd w b s p) :
    Calls Try.prog 171 #[.pointer (some ⟨b, 0, none⟩)] w (EndPost b s p w) := by
  obtain ⟨h1, h2, hf⟩ := hr
  by_cases h : p < s.size
  · go_enter Try.func171, Try.ntmps171
    go_wp2_with fail
    go_quiet (fail)
    go_wp2
    exact ⟨rfl, (by repeat (first | exact HC.out | exact Ch.refl _ _ _ | apply Ch.drewN | apply Ch.drew | (refine Ch.setCell ?_ (by first | exact .inr rfl | (left; simp; done) | (left; simp; omega)) _) | (refine Ch.alloc ?_ (by first | (simp; done) | (simp; omega)) _))), by rw [if_pos h]; rfl⟩
  · go_enter Try.func171, Try.ntmps171
    go_wp2_with fail
    go_quiet (fail)
    go_wp2
    go_end0
    exact ⟨(by repeat (first | exact HC.out | exact Ch.refl _ _ _ | apply Ch.drewN | apply Ch.drew | (refine Ch.setCell ?_ (by first | exact .inr rfl | (left; simp; done) | (left; simp; omega)) _) | (refine Ch.alloc ?_ (by first | (simp; done) | (simp; omega)) _))), by rw [if_neg h]⟩


set_option maxRecDepth 100000 in
theorem signed_calls (b : Nat) (s : ByteArray) (p : Nat) (w : World) (hs : s.size ≤ maxLen) (hp : p ≤ s.size) (hr : Rd w b s p) :
    Calls Try.prog 170 #[.pointer (some ⟨b, 0, none⟩)] w (RdPost b s w Sg.val (signed s p)) := by
  have HR := Lib.hid hr
  have hbl := hr.lt
  clear hr
  have hx : signed s p = match num s p with | .error e => .error e | .ok (n, p) => match text s p with | .error e => .error e | .ok (t, p) => match text s p with | .error e => .error e | .ok (g, p) => .ok (⟨n, t, g⟩, p) := by unfold signed; rfl
  have HX := Lib.hid hx
  clear hx
  go_enter Try.func170, Try.ntmps170
  go_wp2_with fail
  refine (number_calls b s p _ hs hp ((HR.out.alloc _).alloc _)).mono ?_
  rintro e w1 ⟨hc, he⟩
  simp at hc
  have hb0 := ((Box.new w #[.int .i64 0, .string ⟨#[]⟩, .string ⟨#[]⟩] 61).alloc (.cells #[.int .i64 0, .string ⟨#[]⟩, .string ⟨#[]⟩] 61)).ch hc (by omega) (by omega)
  have hb1 := (Box.new (w.alloc (.cells #[.int .i64 0, .string ⟨#[]⟩, .string ⟨#[]⟩] 61)) #[.int .i64 0, .string ⟨#[]⟩, .string ⟨#[]⟩] 61).ch hc (by simp) (by simp; omega)
  simp at hb1
  have HC := Lib.hid ((((Ch.refl w.heap.size (· = b) w).alloc (Nat.le_refl _) _).alloc (by simp) _).step hc (by omega) (fun _ _ h => h))
  have hsz := hc.size
  simp at hsz
  clear hc
  cases hx : num s p with
  | error c =>
    rw [hx] at he HX
    obtain rfl := he
    have HX' := Lib.hid HX.out
    clear hx HX hb0 hb1
    go_wp2
    rw [HX'.out]
    exact ⟨rfl, HC.out, rfl⟩
  | ok r =>
    obtain ⟨n, p1⟩ := r
    have hb := num_bd hx
    rw [hx] at he HX
    obtain ⟨rfl, hr⟩ := he
    have HX' := Lib.hid HX.out
    have HR1 := Lib.hid hr
    have HB0 := Lib.hid hb0
    have HB1 := Lib.hid hb1
    obtain ⟨c0, _, _, f0, _, _⟩ := hb1.facts3
    clear hx HX hb0 hb1 hr HR
    go_wp2_with fail
    refine (text_calls b s p1 _ hs hb.2.1 (HR1.out.other (by simp; omega) _)).mono ?_
    rintro e w2 ⟨hc, he⟩
    simp at hc
    have hb0 := (HB0.out.other (a := ⟨w.heap.size + 1, 0, none⟩) (by simp) (.int .i64 n)).ch hc (by omega) (by omega)
    have hb1 := (HB1.out.set 0 (.int .i64 n)).ch hc (by omega) (by omega)
    simp at hb1
    have HC2 : Hid (Ch w.heap.size (· = b) w w2) := (HC.out.setCell (p := ⟨w.heap.size + 1, 0, none⟩) (.inl (by simp)) (.int .i64 n)).step hc (by omega) (fun _ _ h => h)
    have hsz2 := hc.size
    simp at hsz2
    clear hc c0 f0 HB0 HB1 HC
    cases hx : text s p1 with
    | error c =>
      rw [hx] at he HX'
      obtain rfl := he
      have HX := Lib.hid HX'.out
      clear hx HX' hb0 hb1
      go_wp2
      rw [HX.out]
      exact ⟨rfl, HC2.out, rfl⟩
    | ok r =>
      obtain ⟨t, p2⟩ := r
      have ht := text_bd hx
      rw [hx] at he HX'
      obtain ⟨rfl, hr⟩ := he
      have HX := Lib.hid HX'.out
      have HR2 := Lib.hid hr
      have HB0 := Lib.hid hb0
      have HB1 := Lib.hid hb1
      obtain ⟨c0, c1, _, f0, f1, _⟩ := hb1.facts3
      clear hx HX' hb0 hb1 hr HR1
      go_wp2_with fail
      refine (text_calls b s p2 _ hs ht.2.1 (HR2.out.other (by simp; omega) _)).mono ?_
      rintro e w3 ⟨hc, he⟩
      simp at hc
      have hb0 := (HB0.out.other (a := ⟨w.heap.size + 1, 1, none⟩) (by simp) (.string t)).ch hc (by omega) (by omega)
      have hb1 := (HB1.out.set 1 (.string t)).ch hc (by omega) (by omega)
      simp at hb1
      have HC3 : Hid (Ch w.heap.size (· = b) w w3) := (HC2.out.setCell (p := ⟨w.heap.size + 1, 1, none⟩) (.inl (by simp)) (.string t)).step hc (by omega) (fun _ _ h => h)
      clear hc c0 c1 f0 f1 HB0 HB1 HC2
      cases hx : text s p2 with
      | error c =>
        rw [hx] at he HX
        obtain rfl := he
        have HX' := Lib.hid HX.out
        clear hx HX hb0 hb1
        go_wp2
        rw [HX'.out]
        exact ⟨rfl, HC3.out, rfl⟩
      | ok r =>
        obtain ⟨g, p3⟩ := r
        rw [hx] at he HX
        obtain ⟨rfl, hr⟩ := he
        have HX' := Lib.hid HX.out
        have HR3 := Lib.hid hr
        obtain ⟨c0, c1, c2, f0, f1, f2⟩ := hb1.facts3
        obtain ⟨d0, d1, d2, e0, e1, e2⟩ := hb0.facts3
        clear hx HX hb0 hb1 hr HR2
        go_wp2
        refine bodyPost_ret (v := Sg.val ⟨n, t, g⟩) (by simp [results, Try.results170, go_sem, c0, c1, c2, d0, d1, d2]; rfl) rfl ?_
        rw [HX'.out]
        refine ⟨?_, rfl, ?_⟩
        · refine Ch.setCell (Ch.setCell (Ch.setCell (Ch.setCell HC3.out ?_ _) ?_ _) ?_ _) ?_ _ <;> (left; simp)
        · refine Rd.other (Rd.other (Rd.other (Rd.other HR3.out ?_ _) ?_ _) ?_ _) ?_ _ <;> (simp; omega)
end Go.Proofs.Ytfgpchffkpomoaa

/- Numbers, texts and messages are laid: PutInt, PutText, PutSigned. -/
namespace Go.Proofs.Ytfgpchffkpomoaa
set_option linter.unusedSimpArgs false
set_option linter.unusedVariables false
open Go.RowKit

/-- Two results: a text, and an error's number. -/
def StrErr (s : ByteArray) (e : Int) (w : World) (r : Ending) (w' : World) : Prop := r = .returned (.tuple #[.string s, .int .i64 e]) ∧ Below w.heap.size w w'
theorem ret_strErr {a b : ByteArray} {e : Int} (h : a = b) : Ending.returned (.tuple #[.string a, .int .i64 e]) = .returned (.tuple #[.string b, .int .i64 e]) := by rw [h]

theorem Wr.new (w : World) : Wr (w.alloc (.cells #[.slice none 0 0] 232)) w.heap.size none 0 [] :=
  ⟨by simp, by simp, World.ownsRow_nil _ _ _ _⟩
/-- What a new writer's step leaves of the world. -/
theorem WrCh.below {w w' : World} {o : Obj} {A : Option Addr} (h : WrCh w.heap.size none A (w.alloc o) w') : Below w.heap.size w w' := by
  refine ((Below.refl _ _).alloc (Nat.le_refl _) o).trans ((h.ch.mono (B' := w.heap.size) (S' := fun _ => False) (by simp) ?_).below (fun _ _ h => h))
  rintro k hk (rfl | hr)
  · omega
  · cases hr

def putInt (n : Int) : ByteArray × Int := if 0 ≤ n ∧ n ≤ 9007199254740992 then (bs (putNum n.toNat), 0) else (⟨#[]⟩, 1)

set_option maxRecDepth 100000 in
theorem putInt_calls (n : Int) (w : World) : Calls Try.prog 151 #[.int .i64 n] w (StrErr (putInt n).1 (putInt n).2 w) := by
  by_cases h : 0 ≤ n ∧ n ≤ 9007199254740992
  · obtain ⟨h0, h1⟩ := h
    have HE := Lib.hid (show putInt n = (bs (putNum n.toNat), 0) by unfold putInt; rw [if_pos ⟨h0, h1⟩])
    have hd0 : decide (n < 0) = false := by simp; omega
    have hd1 : decide (9007199254740992 < n) = false := by simp; omega
    have HL := Lib.hid (putNum_len 8 n.toNat (by omega))
    go_enter Try.func151, Try.ntmps151
    go_wp2_with fail
    refine (wnumber_calls w.heap.size none 0 [] n _ h0 h1 (by have := HL.out; simp; omega) (Wr.new w)).mono ?_
    rintro e w1 ⟨rfl, A, cap, hc, hw⟩
    have hcell := hw.cell
    have hst := own_to_string hw.own
    have HB := Lib.hid hc.below
    clear hw hc
    rw [List.nil_append] at hcell hst
    go_wp2
    go_ret2
    rw [HE.out]
    exact ⟨rfl, HB.out⟩
  · have HE := Lib.hid (show putInt n = (⟨#[]⟩, 1) by unfold putInt; rw [if_neg h])
    by_cases h0 : 0 ≤ n
    · have hd0 : decide (n < 0) = false := by simp; omega
      have hd1 : decide (9007199254740992 < n) = true := by simp; omega
      clear h
      go_enter Try.func151, Try.ntmps151
      go_wp2
      go_ret2
      rw [HE.out]
      exact ⟨rfl, Below.refl _ _⟩
    · have hd0 : decide (n < 0) = true := by simp; omega
      clear h
      go_enter Try.func151, Try.ntmps151
      go_wp2
      go_ret2
      rw [HE.out]
      exact ⟨rfl, Below.refl _ _⟩

def putTextE (t : ByteArray) : ByteArray × Int := if t.size ≤ 1048576 then (bs (putText t), 0) else (⟨#[]⟩, 4)

set_option maxRecDepth 100000 in
theorem putText_calls (t : ByteArray) (w : World) (_ht : t.size ≤ maxLen) : Calls Try.prog 184 #[.string t] w (StrErr (putTextE t).1 (putTextE t).2 w) := by
  by_cases h : t.size ≤ 1048576
  · have HE := Lib.hid (show putTextE t = (bs (putText t), 0) by unfold putTextE; rw [if_pos h])
    have hd1 : decide ((1048576 : Int) < (t.size : Int)) = false := by simp; omega
    have HL := Lib.hid (putNum_len 8 t.size (by omega))
    go_enter Try.func184, Try.ntmps184
    go_wp2_with fail
    refine (wtext_calls w.heap.size none 0 [] t _ (by omega) (by have := HL.out; rw [putText_length]; simp; omega) (Wr.new w)).mono ?_
    rintro e w1 ⟨rfl, A, cap, hc, hw⟩
    have hcell := hw.cell
    have hst := own_to_string hw.own
    have HB := Lib.hid hc.below
    clear hw hc
    rw [List.nil_append] at hcell hst
    go_wp2
    go_ret2
    rw [HE.out]
    exact ⟨rfl, HB.out⟩
  · have HE := Lib.hid (show putTextE t = (⟨#[]⟩, 4) by unfold putTextE; rw [if_neg h])
    have hd1 : decide ((1048576 : Int) < (t.size : Int)) = true := by simp; omega
    go_enter Try.func184, Try.ntmps184
    go_wp2
    go_ret2
    rw [HE.out]
    exact ⟨rfl, Below.refl _ _⟩

def putSigned (m : Sg) : ByteArray × Int := if fitsB m then (bs (putSg m), 0) else (⟨#[]⟩, 14)
theorem fitsB_iff (m : Sg) : fitsB m = true ↔ 0 ≤ m.who ∧ m.who ≤ 255 ∧ m.body.size ≤ 1048576 ∧ m.sig.size ≤ 32 := by simp [fitsB]
theorem putSg_len {m : Sg} (h : fitsB m = true) : (putSg m).length ≤ m.body.size + 59 := by
  rw [fitsB_iff] at h
  have h1 := putNum_len 8 m.who.toNat (by omega)
  have h2 := putNum_len 8 m.body.size (by omega)
  have h3 := putNum_len 8 m.sig.size (by omega)
  simp only [putSg, List.length_append, putText_length]
  omega

set_option maxRecDepth 100000 in
theorem putSigned_calls (m : Sg) (w : World) : Calls Try.prog 150 #[m.val] w (StrErr (putSigned m).1 (putSigned m).2 w) := by
  cases hf : fitsB m with
  | false =>
    have HE := Lib.hid (show putSigned m = (⟨#[]⟩, 14) by unfold putSigned; rw [hf]; rfl)
    have HF := Lib.hid hf
    have HC := Lib.hid (fits_calls m)
    obtain ⟨who, body, sig⟩ := m
    unfold Sg.val at *
    clear hf
    go_enter Try.func150, Try.ntmps150
    go_wp2_with fail
    refine (HC.out _).mono ?_
    rw [HF.out]
    rintro e w1 ⟨rfl, hb⟩
    go_wp2
    go_ret2
    rw [HE.out]
    exact ⟨rfl, ((Below.refl _ _).alloc (Nat.le_refl _) _).trans (hb.mono (by simp))⟩
  | true =>
    have HE := Lib.hid (show putSigned m = (bs (putSg m), 0) by unfold putSigned; rw [hf]; rfl)
    have HF := Lib.hid hf
    have HC := Lib.hid (fits_calls m)
    have HL := Lib.hid (putSg_len hf)
    have hfb := (fitsB_iff m).1 hf
    have HW := Lib.hid (wsigned_calls)
    obtain ⟨who, body, sig⟩ := m
    unfold Sg.val at *
    simp only at hfb HL
    clear hf
    have HB := Lib.hid (Box.new w #[.int .i64 who, .string body, .string sig] 61)
    go_enter Try.func150, Try.ntmps150
    go_wp2_with fail
    refine (HC.out _).mono ?_
    rw [HF.out]
    rintro e w1 ⟨rfl, hb⟩
    have hb1 := HB.out.ch (Ch.of_below (S := fun _ => False) hb) (by simp) (fun h => h)
    obtain ⟨c0, c1, c2, _, _, _⟩ := hb1.facts3
    have HB1 := Lib.hid (((Below.refl w.heap.size w).alloc (Nat.le_refl _) (.cells #[.int .i64 who, .string body, .string sig] 61)).trans (hb.mono (by simp)))
    have hsz := hb1.lt
    clear hb hb1
    go_wp2_with fail
    refine (HW.out w1.heap.size none 0 [] ⟨who, body, sig⟩ _ (by simp; omega) (by simp; omega) (by simp; omega) (by simp; omega) (by have := HL.out; simp; omega) (Wr.new w1)).mono ?_
    rintro e w2 ⟨rfl, A, cap, hc, hw⟩
    have hcell := hw.cell
    have hst := own_to_string hw.own
    have HB2 := Lib.hid (HB1.out.trans (hc.below.mono (Nat.le_of_lt hsz)))
    clear hw hc
    rw [List.nil_append] at hcell hst
    go_wp2
    go_ret2
    rw [HE.out]
    exact ⟨rfl, HB2.out⟩
end Go.Proofs.Ytfgpchffkpomoaa
