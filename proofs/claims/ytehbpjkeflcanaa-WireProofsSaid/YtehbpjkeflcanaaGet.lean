/- A number or a text is read at a place: GetInt, GetText. -/
import Derived.Test.YtehbpjkeflcanaaCatch
import Derived.RegionTactic
namespace Go.Proofs.Ytehbpjkeflcanaa
set_option linter.unusedSimpArgs false
set_option linter.unusedVariables false
open Go.RowKit

theorem Rd.new (w : World) (s : ByteArray) (p : Nat) : Rd (w.alloc (.cells #[.string s, .int .i64 p] 98)) w.heap.size s p := ⟨by simp, by simp, by simp⟩

def getInt (s : ByteArray) (at_ : Int) : Int × Int × Int :=
  if 0 ≤ at_ ∧ at_ ≤ s.size then (match num s at_.toNat with | .ok (n, q) => (n, q, 0) | .error c => (0, 0, c)) else (0, 0, 1)
def GetIntPost (r : Int × Int × Int) (w : World) (e : Ending) (w' : World) : Prop := e = .returned (.tuple #[.int .i64 r.1, .int .i64 r.2.1, .int .i64 r.2.2]) ∧ Below w.heap.size w w'

set_option maxRecDepth 100000 in
theorem getInt_calls (s : ByteArray) (at_ : Int) (w : World) (hs : s.size ≤ maxLen) : Calls Try.prog 26 #[.string s, .int .i64 at_] w (GetIntPost (getInt s at_) w) := by
  have hmf : ∀ (fn : Fn) (first cap : Array Value) (w : World), (Instr.makeFunc fn first cap).run Try.prog w = .ok (.func fn first cap) w := fun _ _ _ _ => rfl
  by_cases h : 0 ≤ at_ ∧ at_ ≤ s.size
  · obtain ⟨h0, h1⟩ := h
    obtain ⟨p, rfl⟩ := Int.eq_ofNat_of_zero_le h0
    have hp : p ≤ s.size := by omega
    have hd1 : ¬ s.size < p := by omega
    have HE := Lib.hid (show getInt s p = (match num s p with | .ok (n, q) => ((n : Int), (q : Int), (0 : Int)) | .error c => (0, 0, (c : Int))) by unfold getInt; rw [if_pos ⟨h0, h1⟩, Int.toNat_natCast])
    go_enter_defers Try.func26, Try.ntmps26
    go_wp2_with fail
    refine (number_calls (w.heap.size + 1 + 1 + 1) s p _ hs hp ?hR).mono ?_
    case hR =>
      have h := Rd.new (((w.alloc (.cells #[.int .i64 0] 3)).alloc (.cells #[.int .i64 0] 3)).alloc (.cells #[.int .i64 0] 25)) s p
      simp only [World.size_alloc] at h
      exact h
    rintro e w1 ⟨hc, he⟩
    simp only [World.size_alloc] at hc
    have hb0 := ((((Box.new w #[.int .i64 0] 3).alloc (.cells #[.int .i64 0] 3)).alloc (.cells #[.int .i64 0] 25)).alloc (.cells #[.string s, .int .i64 p] 98)).ch hc (by omega) (by omega)
    have hb1 := (((Box.new (w.alloc (.cells #[.int .i64 0] 3)) #[.int .i64 0] 3).alloc (.cells #[.int .i64 0] 25)).alloc (.cells #[.string s, .int .i64 p] 98)).ch hc (by simp) (by simp)
    have hb2 := ((Box.new ((w.alloc (.cells #[.int .i64 0] 3)).alloc (.cells #[.int .i64 0] 3)) #[.int .i64 0] 25).alloc (.cells #[.string s, .int .i64 p] 98)).ch hc (by simp) (by simp)
    simp only [World.size_alloc] at hb1 hb2
    have HC := Lib.hid (((((Ch.refl w.heap.size (fun _ => False) w).alloc (Nat.le_refl _) (.cells #[.int .i64 0] 3)).alloc (by simp) (.cells #[.int .i64 0] 3)).alloc (by simp; omega) (.cells #[.int .i64 0] 25)).alloc (by simp; omega) (.cells #[.string s, .int .i64 p] 98) |>.step hc (by omega) (fun i hi h => by omega))
    clear hc
    cases hx : num s p with
    | error c =>
      rw [hx] at he HE
      obtain rfl := he
      have HE' := Lib.hid HE.out
      clear hx HE
      go_wp2
      refine leaves_cons (f := 75) (args := #[.pointer (some ⟨w.heap.size, 0, none⟩), .pointer (some ⟨w.heap.size + 1, 0, none⟩), .pointer (some ⟨w.heap.size + 2, 0, none⟩)]) (by simp) (by simp [go_sem]) ?_
      refine (getInt_catch w.heap.size _ _ _ c w1 hb0 hb1 hb2).mono ?_
      rintro e u' w' ⟨rfl, hu, hc, _, k0, k1, k2⟩
      have c0 := k0.cell 0
      have c1 := k1.cell 0
      have c2 := k2.cell 0
      simp at c0 c1 c2
      refine leaves_end hu ⟨.tuple #[.int .i64 0, .int .i64 0, .int .i64 c], by simp [results, Try.results26, go_sem, c0, c1, c2], ?_⟩
      rw [HE'.out]
      exact ⟨rfl, (HC.out.trans (hc.mono (Nat.le_refl _) (fun _ _ h => h))).below (fun _ _ h => h)⟩
    | ok r =>
      obtain ⟨n, q⟩ := r
      rw [hx] at he HE
      obtain ⟨rfl, hr⟩ := he
      have HE' := Lib.hid HE.out
      clear hx HE
      obtain ⟨d0, g0⟩ := hb0.facts1
      obtain ⟨d1, g1⟩ := hb1.facts1
      obtain ⟨d2, g2⟩ := hb2.facts1
      obtain ⟨r0, r1, _⟩ := hr
      have HB0 := Lib.hid hb0
      have HB1 := Lib.hid hb1
      have HB2 := Lib.hid hb2
      clear hb0 hb1 hb2
      go_wp2_with fail
      go_region
      go_wp2
      refine leaves_cons (f := 75) (args := #[.pointer (some ⟨w.heap.size, 0, none⟩), .pointer (some ⟨w.heap.size + 1, 0, none⟩), .pointer (some ⟨w.heap.size + 2, 0, none⟩)]) (by simp) (by simp [go_sem]) ?_
      refine (getInt_idle _ _ _ _).mono ?_
      rintro e u' w' ⟨rfl, hu, rfl⟩
      have c0 := (((((HB0.out.set 0 (.int .i64 n)).set 0 (.int .i64 n)).other (a := ⟨w.heap.size + 1, 0, none⟩) (by simp) (.int .i64 q)).other (a := ⟨w.heap.size + 1 + 1, 0, none⟩) (by simp; omega) (.int .i64 0)).drew).cell 0
      have c1 := (((((HB1.out.other (a := ⟨w.heap.size, 0, none⟩) (by simp) (.int .i64 n)).other (a := ⟨w.heap.size, 0, none⟩) (by simp) (.int .i64 n)).set 0 (.int .i64 q)).other (a := ⟨w.heap.size + 1 + 1, 0, none⟩) (by simp) (.int .i64 0)).drew).cell 0
      have c2 := (((((HB2.out.other (a := ⟨w.heap.size, 0, none⟩) (by simp; omega) (.int .i64 n)).other (a := ⟨w.heap.size, 0, none⟩) (by simp; omega) (.int .i64 n)).other (a := ⟨w.heap.size + 1, 0, none⟩) (by simp) (.int .i64 q)).set 0 (.int .i64 0)).drew).cell 0
      simp at c0 c1 c2
      refine leaves_end hu ⟨.tuple #[.int .i64 n, .int .i64 q, .int .i64 0], by simp [results, Try.results26, go_sem, c0, c1, c2], ?_⟩
      rw [HE'.out]
      exact ⟨rfl, Ch.below (by refine Ch.drew (Ch.setCell (Ch.setCell (Ch.setCell (Ch.setCell HC.out ?_ _) ?_ _) ?_ _) ?_ _) <;> (left; simp; try omega)) (fun _ _ h => h)⟩
  · have HE := Lib.hid (show getInt s at_ = (0, 0, 1) by unfold getInt; rw [if_neg h])
    by_cases h0 : 0 ≤ at_
    · obtain ⟨p, rfl⟩ := Int.eq_ofNat_of_zero_le h0
      have hd1 : s.size < p := by omega
      clear h
      go_enter_defers Try.func26, Try.ntmps26
      go_wp2
      refine ⟨.tuple #[.int .i64 0, .int .i64 0, .int .i64 1], by simp [results, Try.results26, go_sem], ?_⟩
      rw [HE.out]
      exact ⟨rfl, (((Below.refl _ _).alloc (Nat.le_refl _) _).alloc (by simp) _).alloc (by simp; omega) _⟩
    · have hd0 : decide (at_ < 0) = true := by simp; omega
      clear h
      go_enter_defers Try.func26, Try.ntmps26
      go_wp2
      refine ⟨.tuple #[.int .i64 0, .int .i64 0, .int .i64 1], by simp [results, Try.results26, go_sem], ?_⟩
      rw [HE.out]
      exact ⟨rfl, (((Below.refl _ _).alloc (Nat.le_refl _) _).alloc (by simp) _).alloc (by simp; omega) _⟩

def getText (s : ByteArray) (at_ : Int) : ByteArray × Int × Int :=
  if 0 ≤ at_ ∧ at_ ≤ s.size then (match text s at_.toNat with | .ok (n, q) => (n, q, 0) | .error c => (⟨#[]⟩, 0, c)) else (⟨#[]⟩, 0, 1)
def GetTextPost (r : ByteArray × Int × Int) (w : World) (e : Ending) (w' : World) : Prop := e = .returned (.tuple #[.string r.1, .int .i64 r.2.1, .int .i64 r.2.2]) ∧ Below w.heap.size w w'

set_option maxRecDepth 100000 in
theorem getText_calls (s : ByteArray) (at_ : Int) (w : World) (hs : s.size ≤ maxLen) : Calls Try.prog 30 #[.string s, .int .i64 at_] w (GetTextPost (getText s at_) w) := by
  have hmf : ∀ (fn : Fn) (first cap : Array Value) (w : World), (Instr.makeFunc fn first cap).run Try.prog w = .ok (.func fn first cap) w := fun _ _ _ _ => rfl
  by_cases h : 0 ≤ at_ ∧ at_ ≤ s.size
  · obtain ⟨h0, h1⟩ := h
    obtain ⟨p, rfl⟩ := Int.eq_ofNat_of_zero_le h0
    have hp : p ≤ s.size := by omega
    have hd1 : ¬ s.size < p := by omega
    have HE := Lib.hid (show getText s p = (match text s p with | .ok (n, q) => ((n : ByteArray), (q : Int), (0 : Int)) | .error c => (⟨#[]⟩, 0, (c : Int))) by unfold getText; rw [if_pos ⟨h0, h1⟩, Int.toNat_natCast])
    go_enter_defers Try.func30, Try.ntmps30
    go_wp2_with fail
    refine (text_calls (w.heap.size + 1 + 1 + 1) s p _ hs hp ?hR).mono ?_
    case hR =>
      have h := Rd.new (((w.alloc (.cells #[.string ⟨#[]⟩] 9)).alloc (.cells #[.int .i64 0] 3)).alloc (.cells #[.int .i64 0] 25)) s p
      simp only [World.size_alloc] at h
      exact h
    rintro e w1 ⟨hc, he⟩
    simp only [World.size_alloc] at hc
    have hb0 := ((((Box.new w #[.string ⟨#[]⟩] 9).alloc (.cells #[.int .i64 0] 3)).alloc (.cells #[.int .i64 0] 25)).alloc (.cells #[.string s, .int .i64 p] 98)).ch hc (by omega) (by omega)
    have hb1 := (((Box.new (w.alloc (.cells #[.string ⟨#[]⟩] 9)) #[.int .i64 0] 3).alloc (.cells #[.int .i64 0] 25)).alloc (.cells #[.string s, .int .i64 p] 98)).ch hc (by simp) (by simp)
    have hb2 := ((Box.new ((w.alloc (.cells #[.string ⟨#[]⟩] 9)).alloc (.cells #[.int .i64 0] 3)) #[.int .i64 0] 25).alloc (.cells #[.string s, .int .i64 p] 98)).ch hc (by simp) (by simp)
    simp only [World.size_alloc] at hb1 hb2
    have HC := Lib.hid (((((Ch.refl w.heap.size (fun _ => False) w).alloc (Nat.le_refl _) (.cells #[.string ⟨#[]⟩] 9)).alloc (by simp) (.cells #[.int .i64 0] 3)).alloc (by simp; omega) (.cells #[.int .i64 0] 25)).alloc (by simp; omega) (.cells #[.string s, .int .i64 p] 98) |>.step hc (by omega) (fun i hi h => by omega))
    clear hc
    cases hx : text s p with
    | error c =>
      rw [hx] at he HE
      obtain rfl := he
      have HE' := Lib.hid HE.out
      clear hx HE
      go_wp2
      refine leaves_cons (f := 76) (args := #[.pointer (some ⟨w.heap.size, 0, none⟩), .pointer (some ⟨w.heap.size + 1, 0, none⟩), .pointer (some ⟨w.heap.size + 2, 0, none⟩)]) (by simp) (by simp [go_sem]) ?_
      refine (getText_catch w.heap.size _ _ _ c w1 hb0 hb1 hb2).mono ?_
      rintro e u' w' ⟨rfl, hu, hc, _, k0, k1, k2⟩
      have c0 := k0.cell 0
      have c1 := k1.cell 0
      have c2 := k2.cell 0
      simp at c0 c1 c2
      refine leaves_end hu ⟨.tuple #[.string ⟨#[]⟩, .int .i64 0, .int .i64 c], by simp [results, Try.results30, go_sem, c0, c1, c2], ?_⟩
      rw [HE'.out]
      exact ⟨rfl, (HC.out.trans (hc.mono (Nat.le_refl _) (fun _ _ h => h))).below (fun _ _ h => h)⟩
    | ok r =>
      obtain ⟨n, q⟩ := r
      rw [hx] at he HE
      obtain ⟨rfl, hr⟩ := he
      have HE' := Lib.hid HE.out
      clear hx HE
      obtain ⟨d0, g0⟩ := hb0.facts1
      obtain ⟨d1, g1⟩ := hb1.facts1
      obtain ⟨d2, g2⟩ := hb2.facts1
      obtain ⟨r0, r1, _⟩ := hr
      have HB0 := Lib.hid hb0
      have HB1 := Lib.hid hb1
      have HB2 := Lib.hid hb2
      clear hb0 hb1 hb2
      go_wp2_with fail
      go_region
      go_wp2
      refine leaves_cons (f := 76) (args := #[.pointer (some ⟨w.heap.size, 0, none⟩), .pointer (some ⟨w.heap.size + 1, 0, none⟩), .pointer (some ⟨w.heap.size + 2, 0, none⟩)]) (by simp) (by simp [go_sem]) ?_
      refine (getText_idle _ _ _ _).mono ?_
      rintro e u' w' ⟨rfl, hu, rfl⟩
      have c0 := (((((HB0.out.set 0 (.string n)).set 0 (.string n)).other (a := ⟨w.heap.size + 1, 0, none⟩) (by simp) (.int .i64 q)).other (a := ⟨w.heap.size + 1 + 1, 0, none⟩) (by simp; omega) (.int .i64 0)).drew).cell 0
      have c1 := (((((HB1.out.other (a := ⟨w.heap.size, 0, none⟩) (by simp) (.string n)).other (a := ⟨w.heap.size, 0, none⟩) (by simp) (.string n)).set 0 (.int .i64 q)).other (a := ⟨w.heap.size + 1 + 1, 0, none⟩) (by simp) (.int .i64 0)).drew).cell 0
      have c2 := (((((HB2.out.other (a := ⟨w.heap.size, 0, none⟩) (by simp; omega) (.string n)).other (a := ⟨w.heap.size, 0, none⟩) (by simp; omega) (.string n)).other (a := ⟨w.heap.size + 1, 0, none⟩) (by simp) (.int .i64 q)).set 0 (.int .i64 0)).drew).cell 0
      simp at c0 c1 c2
      refine leaves_end hu ⟨.tuple #[.string n, .int .i64 q, .int .i64 0], by simp [results, Try.results30, go_sem, c0, c1, c2], ?_⟩
      rw [HE'.out]
      exact ⟨rfl, Ch.below (by refine Ch.drew (Ch.setCell (Ch.setCell (Ch.setCell (Ch.setCell HC.out ?_ _) ?_ _) ?_ _) ?_ _) <;> (left; simp; try omega)) (fun _ _ h => h)⟩
  · have HE := Lib.hid (show getText s at_ = (⟨#[]⟩, 0, 1) by unfold getText; rw [if_neg h])
    by_cases h0 : 0 ≤ at_
    · obtain ⟨p, rfl⟩ := Int.eq_ofNat_of_zero_le h0
      have hd1 : s.size < p := by omega
      clear h
      go_enter_defers Try.func30, Try.ntmps30
      go_wp2
      refine ⟨.tuple #[.string ⟨#[]⟩, .int .i64 0, .int .i64 1], by simp [results, Try.results30, go_sem], ?_⟩
      rw [HE.out]
      exact ⟨rfl, (((Below.refl _ _).alloc (Nat.le_refl _) _).alloc (by simp) _).alloc (by simp; omega) _⟩
    · have hd0 : decide (at_ < 0) = true := by simp; omega
      clear h
      go_enter_defers Try.func30, Try.ntmps30
      go_wp2
      refine ⟨.tuple #[.string ⟨#[]⟩, .int .i64 0, .int .i64 1], by simp [results, Try.results30, go_sem], ?_⟩
      rw [HE.out]
      exact ⟨rfl, (((Below.refl _ _).alloc (Nat.le_refl _) _).alloc (by simp) _).alloc (by simp; omega) _⟩
end Go.Proofs.Ytehbpjkeflcanaa
