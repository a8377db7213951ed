/- The reader's other steps: so many bytes, a text, a count, a message, the end. -/
import Derived.Test.YtehbpjkeflcanaaRdNum
import Derived.Test.YtehbpjkeflcanaaWrSg
namespace Go.Proofs.Ytehbpjkeflcanaa
set_option linter.unusedSimpArgs false
set_option linter.unusedVariables false
open Go.RowKit

theorem Rd.move_int {w : World} {b : Nat} {s : ByteArray} {q : Nat} (h : Rd w b s q) (p : Nat) (z : Int) (hz : z = p) : Rd (w.setCell ⟨b, 1, none⟩ (.int .i64 z)) b s p := by
  subst hz; exact h.move p

set_option maxRecDepth 100000 in
theorem bytes_calls (b : Nat) (s : ByteArray) (p : Nat) (n : Int) (w : World) (hs : s.size ≤ maxLen) (hp : p ≤ s.size) (hn : 0 ≤ n) (hn1 : n ≤ 9007199254740992) (hr : Rd w b s p) :
    Calls Try.prog 83 #[.pointer (some ⟨b, 0, none⟩), .int .i64 n] w (RdPost b s w (fun t => .string t) (take_ s p n.toNat)) := by
  unfold maxLen at hs
  obtain ⟨n, rfl⟩ := Int.eq_ofNat_of_zero_le hn
  rw [Int.toNat_natCast]
  have HR := Lib.hid hr
  obtain ⟨h1, h2, hf⟩ := hr
  by_cases h : s.size - p < n
  · have HE : Hid (take_ s p n = .error 10) := by unfold take_; rw [if_pos h]; rfl
    have hd : decide (((s.size : Int) - (p : Int)) < (n : Int)) = true := by simp; omega
    go_enter Try.func83, Try.ntmps83
    go_wp2_with fail
    go_quiet (fail)
    go_wp2
    rw [HE.out]
    exact ⟨rfl, (by repeat (first | exact HC.out | exact Ch.refl _ _ _ | apply Ch.drewN | apply Ch.drew | (refine Ch.setCell ?_ (by first | exact .inr rfl | (left; simp; done) | (left; simp; omega)) _) | (refine Ch.alloc ?_ (by first | (simp; done) | (simp; omega)) _))), rfl⟩
  · have HE : Hid (take_ s p n = .ok (s.extract p (p + n), p + n)) := by unfold take_; rw [if_neg h]; rfl
    have hd : decide (((s.size : Int) - (p : Int)) < (n : Int)) = false := by simp; omega
    go_enter Try.func83, Try.ntmps83
    go_wp2_with fail
    go_quiet (fail)
    go_wp2_with fail
    go_quiet (fail)
    go_wp2
    go_ret
    rw [HE.out]
    refine ⟨(by repeat (first | exact HC.out | exact Ch.refl _ _ _ | apply Ch.drewN | apply Ch.drew | (refine Ch.setCell ?_ (by first | exact .inr rfl | (left; simp; done) | (left; simp; omega)) _) | (refine Ch.alloc ?_ (by first | (simp; done) | (simp; omega)) _))), ?_, (((HR.out.drewN _).move_int _ _ (by omega)).drewN _)⟩
    congr

set_option maxRecDepth 100000 in
theorem text_calls (b : Nat) (s : ByteArray) (p : Nat) (w : World) (hs : s.size ≤ maxLen) (hp : p ≤ s.size) (hr : Rd w b s p) :
    Calls Try.prog 70 #[.pointer (some ⟨b, 0, none⟩)] w (RdPost b s w (fun t => .string t) (text s p)) := by
  have hN := number_calls b s p w hs hp hr
  have HX : Hid (text s p = match num s p with | .error e => .error e | .ok (n, q) => if 1048576 < n then .error 4 else take_ s q n) := by unfold text; rfl
  cases hx : num s p with
  | error c =>
    rw [hx] at hN HX
    have HN := Lib.hid hN
    clear hx hN
    go_enter Try.func70, Try.ntmps70
    go_wp2_with fail
    refine HN.out.mono ?_
    rintro e w1 ⟨hc, rfl⟩
    go_wp2
    rw [HX.out]
    exact ⟨rfl, hc, rfl⟩
  | ok r =>
    obtain ⟨n, q⟩ := r
    have hb := num_bd hx
    rw [hx] at hN HX
    have HN := Lib.hid hN
    clear hx hN
    by_cases hbig : 1048576 < n
    · have HE := Lib.hid (show text s p = .error 4 by rw [HX.out]; simp only [if_pos hbig])
      have hd : decide ((1048576 : Int) < (n : Int)) = true := by simp; omega
      clear HX
      go_enter Try.func70, Try.ntmps70
      go_wp2_with fail
      refine HN.out.mono ?_
      rintro e w1 ⟨hc, rfl, _⟩
      go_wp2
      rw [HE.out]
      exact ⟨rfl, hc, rfl⟩
    · have HE := Lib.hid (show text s p = take_ s q n by rw [HX.out]; simp only [if_neg hbig])
      have hd : decide ((1048576 : Int) < (n : Int)) = false := by simp; omega
      clear HX
      go_enter Try.func70, Try.ntmps70
      go_wp2_with fail
      refine HN.out.mono ?_
      rintro e w1 ⟨hc, rfl, hr1⟩
      have HC := Lib.hid hc
      have HR := Lib.hid hr1
      clear hc hr1
      go_wp2_with fail
      refine (bytes_calls b s q n w1 hs hb.2.1 (by omega) (by omega) HR.out).mono ?_
      rw [Int.toNat_natCast]
      rintro e w2 ⟨hc, he⟩
      have HC2 : Hid (Ch w.heap.size (· = b) w w2) := HC.out.step hc HC.out.size (fun _ _ h => h)
      cases hx : take_ s q n with
      | error c =>
        rw [hx] at he
        obtain rfl := he
        rw [hx] at HE
        have HE' := Lib.hid HE.out
        clear hx hc
        go_wp2
        rw [HE'.out]
        exact ⟨rfl, HC2.out, rfl⟩
      | ok r =>
        obtain ⟨t, q'⟩ := r
        rw [hx] at he
        obtain ⟨rfl, hr2⟩ := he
        have HE' := HE.out
        rw [hx] at HE'
        have HE2 := Lib.hid HE'
        have HR2 := Lib.hid hr2
        clear hx hc hr2 HE'
        go_wp2
        go_ret
        rw [HE2.out]
        exact ⟨HC2.out, rfl, HR2.out⟩

set_option maxRecDepth 100000 in
theorem count_calls (b : Nat) (s : ByteArray) (p : Nat) (most : Int) (w : World) (hs : s.size ≤ maxLen) (hp : p ≤ s.size) (hm : 0 ≤ most) (hr : Rd w b s p) :
    Calls Try.prog 71 #[.pointer (some ⟨b, 0, none⟩), .int .i64 most] w (RdPost b s w (fun n => .int .i64 (n : Nat)) (count s most.toNat p)) := by
  obtain ⟨m, rfl⟩ := Int.eq_ofNat_of_zero_le hm
  rw [Int.toNat_natCast]
  have hN := number_calls b s p w hs hp hr
  have HX : Hid (count s m p = match num s p with | .error e => .error e | .ok (n, q) => if m < n then .error 2 else .ok (n, q)) := by unfold count; rfl
  cases hx : num s p with
  | error c =>
    rw [hx] at hN HX
    have HN := Lib.hid hN
    clear hx hN
    go_enter Try.func71, Try.ntmps71
    go_wp2_with fail
    refine HN.out.mono ?_
    rintro e w1 ⟨hc, rfl⟩
    go_wp2
    rw [HX.out]
    exact ⟨rfl, hc, rfl⟩
  | ok r =>
    obtain ⟨n, q⟩ := r
    have hb := num_bd hx
    rw [hx] at hN HX
    have HN := Lib.hid hN
    clear hx hN
    by_cases hbig : m < n
    · have HE := Lib.hid (show count s m p = .error 2 by rw [HX.out]; simp only [if_pos hbig])
      clear HX
      go_enter Try.func71, Try.ntmps71
      go_wp2_with fail
      refine HN.out.mono ?_
      rintro e w1 ⟨hc, rfl, _⟩
      go_wp2
      rw [HE.out]
      exact ⟨rfl, hc, rfl⟩
    · have HE := Lib.hid (show count s m p = .ok (n, q) by rw [HX.out]; simp only [if_neg hbig])
      clear HX
      go_enter Try.func71, Try.ntmps71
      go_wp2_with fail
      refine HN.out.mono ?_
      rintro e w1 ⟨hc, rfl, hr1⟩
      have HR := Lib.hid hr1
      clear hr1
      go_wp2
      go_ret
      rw [HE.out]
      exact ⟨hc, rfl, HR.out⟩

/-- The end: nothing may be left. -/
def EndPost (b : Nat) (s : ByteArray) (p : Nat) (w : World) (e : Ending) (w' : World) : Prop :=
  Ch w.heap.size (· = b) w w' ∧ if p < s.size then e = .panicked (fault 12) else e = .returned (.tuple #[])
set_option maxRecDepth 100000 in
theorem end_calls (b : Nat) (s : ByteArray) (p : Nat) (w : World) (_hs : s.size ≤ maxLen) (_hp : p ≤ s.size) (hr : Rd w b s p) :
    Calls Try.prog 73 #[.pointer (some ⟨b, 0, none⟩)] w (EndPost b s p w) := by
  obtain ⟨h1, h2, hf⟩ := hr
  by_cases h : p < s.size
  · go_enter Try.func73, Try.ntmps73
    go_wp2_with fail
    go_quiet (fail)
    go_wp2
    exact ⟨rfl, (by repeat (first | exact HC.out | exact Ch.refl _ _ _ | apply Ch.drewN | apply Ch.drew | (refine Ch.setCell ?_ (by first | exact .inr rfl | (left; simp; done) | (left; simp; omega)) _) | (refine Ch.alloc ?_ (by first | (simp; done) | (simp; omega)) _))), by rw [if_pos h]; rfl⟩
  · go_enter Try.func73, Try.ntmps73
    go_wp2_with fail
    go_quiet (fail)
    go_wp2
    go_end0
    exact ⟨(by repeat (first | exact HC.out | exact Ch.refl _ _ _ | apply Ch.drewN | apply Ch.drew | (refine Ch.setCell ?_ (by first | exact .inr rfl | (left; simp; done) | (left; simp; omega)) _) | (refine Ch.alloc ?_ (by first | (simp; done) | (simp; omega)) _))), by rw [if_neg h]⟩


set_option maxRecDepth 100000 in
theorem signed_calls (b : Nat) (s : ByteArray) (p : Nat) (w : World) (hs : s.size ≤ maxLen) (hp : p ≤ s.size) (hr : Rd w b s p) :
    Calls Try.prog 72 #[.pointer (some ⟨b, 0, none⟩)] w (RdPost b s w Sg.val (signed s p)) := by
  have HR := Lib.hid hr
  have hbl := hr.lt
  clear hr
  have hx : signed s p = match num s p with | .error e => .error e | .ok (n, p) => match text s p with | .error e => .error e | .ok (t, p) => match text s p with | .error e => .error e | .ok (g, p) => .ok (⟨n, t, g⟩, p) := by unfold signed; rfl
  have HX := Lib.hid hx
  clear hx
  go_enter Try.func72, Try.ntmps72
  go_wp2_with fail
  refine (number_calls b s p _ hs hp ((HR.out.alloc _).alloc _)).mono ?_
  rintro e w1 ⟨hc, he⟩
  simp at hc
  have hb0 := ((Box.new w #[.int .i64 0, .string ⟨#[]⟩, .string ⟨#[]⟩] 36).alloc (.cells #[.int .i64 0, .string ⟨#[]⟩, .string ⟨#[]⟩] 36)).ch hc (by omega) (by omega)
  have hb1 := (Box.new (w.alloc (.cells #[.int .i64 0, .string ⟨#[]⟩, .string ⟨#[]⟩] 36)) #[.int .i64 0, .string ⟨#[]⟩, .string ⟨#[]⟩] 36).ch hc (by simp) (by simp; omega)
  simp at hb1
  have HC := Lib.hid ((((Ch.refl w.heap.size (· = b) w).alloc (Nat.le_refl _) _).alloc (by simp) _).step hc (by omega) (fun _ _ h => h))
  have hsz := hc.size
  simp at hsz
  clear hc
  cases hx : num s p with
  | error c =>
    rw [hx] at he HX
    obtain rfl := he
    have HX' := Lib.hid HX.out
    clear hx HX hb0 hb1
    go_wp2
    rw [HX'.out]
    exact ⟨rfl, HC.out, rfl⟩
  | ok r =>
    obtain ⟨n, p1⟩ := r
    have hb := num_bd hx
    rw [hx] at he HX
    obtain ⟨rfl, hr⟩ := he
    have HX' := Lib.hid HX.out
    have HR1 := Lib.hid hr
    have HB0 := Lib.hid hb0
    have HB1 := Lib.hid hb1
    obtain ⟨c0, _, _, f0, _, _⟩ := hb1.facts3
    clear hx HX hb0 hb1 hr HR
    go_wp2_with fail
    refine (text_calls b s p1 _ hs hb.2.1 (HR1.out.other (by simp; omega) _)).mono ?_
    rintro e w2 ⟨hc, he⟩
    simp at hc
    have hb0 := (HB0.out.other (a := ⟨w.heap.size + 1, 0, none⟩) (by simp) (.int .i64 n)).ch hc (by omega) (by omega)
    have hb1 := (HB1.out.set 0 (.int .i64 n)).ch hc (by omega) (by omega)
    simp at hb1
    have HC2 : Hid (Ch w.heap.size (· = b) w w2) := (HC.out.setCell (p := ⟨w.heap.size + 1, 0, none⟩) (.inl (by simp)) (.int .i64 n)).step hc (by omega) (fun _ _ h => h)
    have hsz2 := hc.size
    simp at hsz2
    clear hc c0 f0 HB0 HB1 HC
    cases hx : text s p1 with
    | error c =>
      rw [hx] at he HX'
      obtain rfl := he
      have HX := Lib.hid HX'.out
      clear hx HX' hb0 hb1
      go_wp2
      rw [HX.out]
      exact ⟨rfl, HC2.out, rfl⟩
    | ok r =>
      obtain ⟨t, p2⟩ := r
      have ht := text_bd hx
      rw [hx] at he HX'
      obtain ⟨rfl, hr⟩ := he
      have HX := Lib.hid HX'.out
      have HR2 := Lib.hid hr
      have HB0 := Lib.hid hb0
      have HB1 := Lib.hid hb1
      obtain ⟨c0, c1, _, f0, f1, _⟩ := hb1.facts3
      clear hx HX' hb0 hb1 hr HR1
      go_wp2_with fail
      refine (text_calls b s p2 _ hs ht.2.1 (HR2.out.other (by simp; omega) _)).mono ?_
      rintro e w3 ⟨hc, he⟩
      simp at hc
      have hb0 := (HB0.out.other (a := ⟨w.heap.size + 1, 1, none⟩) (by simp) (.string t)).ch hc (by omega) (by omega)
      have hb1 := (HB1.out.set 1 (.string t)).ch hc (by omega) (by omega)
      simp at hb1
      have HC3 : Hid (Ch w.heap.size (· = b) w w3) := (HC2.out.setCell (p := ⟨w.heap.size + 1, 1, none⟩) (.inl (by simp)) (.string t)).step hc (by omega) (fun _ _ h => h)
      clear hc c0 c1 f0 f1 HB0 HB1 HC2
      cases hx : text s p2 with
      | error c =>
        rw [hx] at he HX
        obtain rfl := he
        have HX' := Lib.hid HX.out
        clear hx HX hb0 hb1
        go_wp2
        rw [HX'.out]
        exact ⟨rfl, HC3.out, rfl⟩
      | ok r =>
        obtain ⟨g, p3⟩ := r
        rw [hx] at he HX
        obtain ⟨rfl, hr⟩ := he
        have HX' := Lib.hid HX.out
        have HR3 := Lib.hid hr
        obtain ⟨c0, c1, c2, f0, f1, f2⟩ := hb1.facts3
        obtain ⟨d0, d1, d2, e0, e1, e2⟩ := hb0.facts3
        clear hx HX hb0 hb1 hr HR2
        go_wp2
        refine bodyPost_ret (v := Sg.val ⟨n, t, g⟩) (by simp [results, Try.results72, go_sem, c0, c1, c2, d0, d1, d2]; rfl) rfl ?_
        rw [HX'.out]
        refine ⟨?_, rfl, ?_⟩
        · refine Ch.setCell (Ch.setCell (Ch.setCell (Ch.setCell HC3.out ?_ _) ?_ _) ?_ _) ?_ _ <;> (left; simp)
        · refine Rd.other (Rd.other (Rd.other (Rd.other HR3.out ?_ _) ?_ _) ?_ _) ?_ _ <;> (simp; omega)
end Go.Proofs.Ytehbpjkeflcanaa
