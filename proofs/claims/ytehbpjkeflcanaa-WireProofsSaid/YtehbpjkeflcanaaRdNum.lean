/- The reader's number: the walk through (*reader).number, for every text and place. -/
import Derived.Test.YtehbpjkeflcanaaSpec
import Derived.Test.YtehbpjkeflcanaaBits
import Derived.Outline
namespace Go.Proofs.Ytehbpjkeflcanaa
set_option linter.unusedSimpArgs false
set_option linter.unusedVariables false
open Go.RowKit

/-- The state of a reader in block b: its text, and its place. -/
structure Rd (w : World) (b : Nat) (s : ByteArray) (q : Nat) : Prop where
  str : w.cell? ⟨b, 0, none⟩ = some (.string s)
  pos : w.cell? ⟨b, 1, none⟩ = some (.int .i64 q)
  fr : w.frozen? ⟨b, 1, none⟩ = false

/-- What a reader gives up with. -/
def fault (c : Nat) : List PanicEntry := [{ v := .iface 123 (.int .i64 c), recovered := false }]

/-- What is behind a reader's step: what was read, and the place behind it; or what it gave up with. -/
def RdPost {α : Type} (b : Nat) (s : ByteArray) (w : World) (V : α → Value) (r : Except Nat (α × Nat)) (e : Ending) (w' : World) : Prop :=
  Ch w.heap.size (· = b) w w' ∧ match r with
  | .ok (x, q) => e = .returned (V x) ∧ Rd w' b s q
  | .error c => e = .panicked (fault c)

theorem Rd.drewN {w : World} {b : Nat} {s : ByteArray} {q : Nat} (h : Rd w b s q) (n : Nat) : Rd (w.drewN n) b s q := ⟨h.1, h.2, h.3⟩
theorem Rd.move {w : World} {b : Nat} {s : ByteArray} {q : Nat} (h : Rd w b s q) (p : Nat) : Rd (w.setCell ⟨b, 1, none⟩ (.int .i64 p)) b s p :=
  ⟨by rw [World.cell?_setCell_other _ _ _ _ (by simp)]; exact h.1, World.cell?_setCell_same _ _ _ h.2, by rw [World.frozen?_setCell]; exact h.3⟩
theorem Rd.other {w : World} {b : Nat} {s : ByteArray} {q : Nat} (h : Rd w b s q) {a : Addr} (ha : a.block ≠ b) (v : Value) : Rd (w.setCell a v) b s q := by
  have e : ∀ i, (w.setCell a v).cell? ⟨b, i, none⟩ = w.cell? ⟨b, i, none⟩ := fun i => World.cell?_setCell_other _ _ _ _ (fun e => ha (by rw [e]))
  exact ⟨(e 0).trans h.1, (e 1).trans h.2, by rw [World.frozen?_setCell]; exact h.3⟩
theorem Rd.lt {w : World} {b : Nat} {s : ByteArray} {q : Nat} (h : Rd w b s q) : b < w.heap.size := World.block_lt_of_cell? _ _ h.1

theorem Rd.alloc {w : World} {b : Nat} {s : ByteArray} {q : Nat} (h : Rd w b s q) (o : Obj) : Rd (w.alloc o) b s q := by
  have hl := h.lt
  exact ⟨(World.cell?_alloc_lt _ _ _ hl).trans h.1, (World.cell?_alloc_lt _ _ _ hl).trans h.2, (World.frozen?_alloc_old _ _ _ (Nat.ne_of_lt hl)).trans h.3⟩

set_option maxRecDepth 100000 in
theorem number_calls (b : Nat) (s : ByteArray) (p : Nat) (w : World) (hs : s.size ≤ maxLen) (hp : p ≤ s.size) (hr : Rd w b s p) :
    Calls Try.prog 69 #[.pointer (some ⟨b, 0, none⟩)] w (RdPost b s w (fun n => .int .i64 (n : Nat)) (num s p)) := by
  unfold maxLen at hs
  have HQ := Lib.hid hr
  clear hr
  go_enter Try.func69, Try.ntmps69
  go_wp2
  go_loopg [3, 4] 8 (fun k vn vi wr => ∃ (n i q : Nat), vn = .int .i64 n ∧ vi = .int .i64 i ∧ q ≤ s.size ∧ i ≤ 7 ∧ n < 2 ^ (7 * i) ∧ Hid (k + i = 8 ∧ Rd wr b s q ∧ Ch w.heap.size (· = b) w wr ∧ rdNum s k q i n = num s p))
  case atStart => exact ⟨0, 0, p, rfl, rfl, hp, by omega, by decide, rfl, HQ.out, Ch.refl _ _ _, rfl⟩
  case round =>
    clear HQ
    obtain ⟨n, i, q, rfl, rfl, hq, hi, hn, HH⟩ := hrel
    obtain ⟨hk, hr, hc, hx⟩ := HH.out
    obtain ⟨k1, rfl⟩ : ∃ k1, gk = k1 + 1 := ⟨gk - 1, by omega⟩
    have HK := Lib.hid hk
    have HC := Lib.hid hc
    have HX := Lib.hid hx
    have HR := Lib.hid hr
    obtain ⟨h1, h2, hf⟩ := hr
    clear HH hc hk hx
    by_cases hlt : q < s.size
    · have hd : decide ((s.size : Int) ≤ (q : Int)) = false := by simp; omega
      obtain ⟨c, hcs, hcl⟩ : ∃ c, s[q].toNat = c ∧ c < 256 := ⟨_, rfl, UInt8.toNat_lt _⟩
      have hb : byteAt s q = c := by rw [← hcs]; exact (byteAt_eq s q hlt).symm
      have hx := HX.out
      unfold rdNum at hx
      rw [if_neg (by omega), hb] at hx
      clear HX hb
      obtain ⟨u, v, e0, e1, e2, e3, hvl, hvb, HV⟩ := digit_step n c i hi hcl hn
      rw [← HV.out] at hx
      clear HV
      by_cases h128 : 128 ≤ c
      · have hd2 : decide ((128 : Int) ≤ (c : Int)) = true := by simp; omega
        rw [if_pos h128] at hx
        by_cases h7 : i = 7
        · have hd3 : ((i : Int) == 7) = true := by simp; omega
          rw [if_pos h7] at hx
          have HX := Lib.hid hx
          clear hx h7
          go_wp2_with fail
          go_quiet (fail)
          go_wp2_with fail
          go_quiet (fail)
          go_wp2
          rw [← HX.out]
          exact ⟨rfl, (HC.out.drewN _).setCell (.inr rfl) _, rfl⟩
        · have hd3 : ((i : Int) == 7) = false := by simp; omega
          rw [if_neg h7] at hx
          have HX := Lib.hid hx
          have HKI : i + 1 ≤ 7 := by omega
          clear hx h7
          go_wp2_with fail
          go_quiet (fail)
          go_wp2_with fail
          go_quiet (fail)
          go_wp2
          go_roundg k1
          case measure => omega
          case rel => exact ⟨v, i + 1, q + 1, rfl, by go_num, by omega, HKI, hvl, by have := HK.out; omega, (HR.out.drewN _).move _, (HC.out.drewN _).setCell (.inr rfl) _, HX.out⟩
      · have hd2 : decide ((128 : Int) ≤ (c : Int)) = false := by simp; omega
        rw [if_neg h128] at hx
        by_cases h0 : c = 0 ∧ 0 < i
        · have hd3 : ((c : Int) == 0) = true := by simp; omega
          have hd4 : 0 < i := h0.2
          rw [if_pos h0] at hx
          have HX := Lib.hid hx
          clear hx h0
          go_wp2_with fail
          go_quiet (fail)
          go_wp2_with fail
          go_quiet (fail)
          go_wp2
          rw [← HX.out]
          exact ⟨rfl, (HC.out.drewN _).setCell (.inr rfl) _, rfl⟩
        · rw [if_neg h0] at hx
          by_cases hbig : 9007199254740992 < v
          · have hd4 : decide ((9007199254740992 : Int) < (v : Int)) = true := by simp; omega
            rw [if_pos hbig] at hx
            have HX := Lib.hid hx
            clear hx
            by_cases hc0 : c = 0
            · have hd3 : ((c : Int) == 0) = true := by simp; omega
              have hd5 : ¬ 0 < i := by omega
              clear h0 hc0
              go_wp2_with fail
              go_quiet (fail)
              go_wp2_with fail
              go_quiet (fail)
              go_wp2
              rw [← HX.out]
              exact ⟨rfl, (HC.out.drewN _).setCell (.inr rfl) _, rfl⟩
            · have hd3 : ((c : Int) == 0) = false := by simp; omega
              clear h0 hc0
              go_wp2_with fail
              go_quiet (fail)
              go_wp2_with fail
              go_quiet (fail)
              go_wp2
              rw [← HX.out]
              exact ⟨rfl, (HC.out.drewN _).setCell (.inr rfl) _, rfl⟩
          · have hd4 : decide ((9007199254740992 : Int) < (v : Int)) = false := by simp; omega
            rw [if_neg hbig] at hx
            have HX := Lib.hid hx
            clear hx
            by_cases hc0 : c = 0
            · have hd3 : ((c : Int) == 0) = true := by simp; omega
              have hd5 : ¬ 0 < i := by omega
              clear h0 hc0
              go_wp2_with fail
              go_quiet (fail)
              go_wp2_with fail
              go_quiet (fail)
              go_wp2
              go_ret
              rw [← HX.out]
              exact ⟨(HC.out.drewN _).setCell (.inr rfl) _, rfl, (HR.out.drewN _).move _⟩
            · have hd3 : ((c : Int) == 0) = false := by simp; omega
              clear h0 hc0
              go_wp2_with fail
              go_quiet (fail)
              go_wp2_with fail
              go_quiet (fail)
              go_wp2
              go_ret
              rw [← HX.out]
              exact ⟨(HC.out.drewN _).setCell (.inr rfl) _, rfl, (HR.out.drewN _).move _⟩
    · have hd : decide ((s.size : Int) ≤ (q : Int)) = true := by simp; omega
      have hx := HX.out
      unfold rdNum at hx
      rw [if_pos (by omega)] at hx
      have HX := Lib.hid hx
      clear hx
      go_wp2_with fail
      go_quiet (fail)
      go_wp2
      rw [← HX.out]
      exact ⟨rfl, HC.out.drewN _, rfl⟩
end Go.Proofs.Ytehbpjkeflcanaa
