/- What no client does, and what is made and shown without a book: the walks. -/
import Derived.Test.YtfgpchffkpomoaaCliNew
import Derived.Test.YtfgpchffkpomoaaNoBook
namespace Go.Proofs.Ytfgpchffkpomoaa
set_option linter.unusedSimpArgs false
set_option linter.unusedVariables false
open Go.RowKit

set_option maxRecDepth 100000 in
theorem madeNil_calls (w : World) : Calls Try.prog 131 #[.pointer none] w (fun e w' => e = .returned (.bool false) ∧ w' = w) := by
  go_enter Try.func131, Try.ntmps131
  go_wp2
  go_ret
  exact ⟨rfl, rfl⟩
set_option maxRecDepth 100000 in
theorem waitsNil_calls (w : World) : Calls Try.prog 73 #[.pointer none] w (fun e w' => e = .returned (.bool false) ∧ w' = w) := by
  have HM := Lib.hid (madeNil_calls w)
  go_enter Try.func73, Try.ntmps73
  go_wp2_with fail
  refine HM.out.mono ?_
  rintro e wx ⟨rfl, hwx⟩
  obtain rfl := hwx.symm
  go_wp2
  go_ret
  exact ⟨rfl, rfl⟩
set_option maxRecDepth 100000 in
theorem requestNil_calls (s : ByteArray) (w : World) : Calls Try.prog 68 #[.pointer none, .string s] w (fun e w' => e = .returned (.tuple #[.slice none 0 0, .int .i64 1]) ∧ w' = w) := by
  have HM := Lib.hid (madeNil_calls w)
  go_enter Try.func68, Try.ntmps68
  go_wp2_with fail
  refine HM.out.mono ?_
  rintro e wx ⟨rfl, hwx⟩
  obtain rfl := hwx.symm
  go_wp2
  go_ret2
  exact ⟨rfl, rfl⟩
set_option maxRecDepth 100000 in
theorem askNil_calls (s : ByteArray) (w : World) : Calls Try.prog 75 #[.pointer none, .string s] w (fun e w' => e = .returned (.tuple #[.slice none 0 0, .int .i64 1]) ∧ w' = w) := by
  have HM := Lib.hid (madeNil_calls w)
  go_enter Try.func75, Try.ntmps75
  go_wp2_with fail
  refine HM.out.mono ?_
  rintro e wx ⟨rfl, hwx⟩
  obtain rfl := hwx.symm
  go_wp2
  go_ret2
  exact ⟨rfl, rfl⟩
set_option maxRecDepth 100000 in
theorem receiveNil_calls (s : ByteArray) (w : World) : Calls Try.prog 69 #[.pointer none, .string s] w (fun e w' => e = .returned (.bool false) ∧ w' = w) := by
  have HM := Lib.hid (madeNil_calls w)
  go_enter Try.func69, Try.ntmps69
  go_wp2_with fail
  refine HM.out.mono ?_
  rintro e wx ⟨rfl, hwx⟩
  obtain rfl := hwx.symm
  go_wp2
  go_ret
  exact ⟨rfl, rfl⟩
set_option maxRecDepth 100000 in
theorem answersNil_calls (w : World) : Calls Try.prog 72 #[.pointer none] w (fun e w' => e = .returned (.slice none 0 0) ∧ w' = w) := by
  have HM := Lib.hid (madeNil_calls w)
  go_enter Try.func72, Try.ntmps72
  go_wp2_with fail
  refine HM.out.mono ?_
  rintro e wx ⟨rfl, hwx⟩
  obtain rfl := hwx.symm
  go_wp2
  go_ret
  exact ⟨rfl, rfl⟩
set_option maxRecDepth 100000 in
theorem tickNil_calls (w : World) : Calls Try.prog 89 #[.pointer none] w (fun e w' => e = .returned (.slice none 0 0) ∧ w' = w) := by
  have HM := Lib.hid (madeNil_calls w)
  go_enter Try.func89, Try.ntmps89
  go_wp2_with fail
  refine HM.out.mono ?_
  rintro e wx ⟨rfl, hwx⟩
  obtain rfl := hwx.symm
  go_wp2
  go_ret
  exact ⟨rfl, rfl⟩

set_option maxHeartbeats 4000000 in
set_option maxRecDepth 100000 in
theorem newNil_calls (F C G P id : Int) (w : World) :
    Calls Try.prog 66 #[.agg #[.int .i64 F, .int .i64 C, .int .i64 G, .int .i64 P], .int .i64 id, .pointer none] w (fun e w' => e = .returned (.tuple #[.pointer none, .int .i64 1]) ∧ Below w.heap.size w w') := by
  have hA := (Below.refl w.heap.size w).alloc (Nat.le_refl _) (.cells #[.int .i64 F, .int .i64 C, .int .i64 G, .int .i64 P] 104)
  have HX := Lib.hid (Box.new w #[.int .i64 F, .int .i64 C, .int .i64 G, .int .i64 P] 104)
  have HA := Lib.hid hA
  have HF := Lib.hid (fun w => cfits_calls F C G P w)
  obtain ⟨k0, k1, k2, k3, -⟩ := Box.facts4 HX.out
  obtain ⟨fc, hfc⟩ : ∃ d, d = fitsC F C G P := ⟨_, rfl⟩
  rw [← hfc] at HF
  clear hA hfc
  go_enter Try.func66, Try.ntmps66
  go_wp2_with fail
  refine (HF.out _).mono ?_
  rintro e w1 ⟨rfl, hb1⟩
  have HX1 := Lib.hid (Box.call HX.out hb1)
  have HA1 := Lib.hid (HA.out.trans (hb1.mono HA.out.size))
  clear k0 k1 k2 k3 hb1
  obtain ⟨k0, k1, k2, k3, -⟩ := Box.facts4 HX1.out
  cases fc with
  | false =>
    go_wp2
    go_ret2
    exact ⟨rfl, HA1.out⟩
  | true =>
    by_cases h0 : id < 0
    · have hd0 : decide (id < 0) = true := by simpa using h0
      go_wp2
      go_ret2
      exact ⟨rfl, HA1.out⟩
    · have hd0 : decide (id < 0) = false := by simpa using h0
      by_cases h1 : C ≤ id
      · have hd2 : decide (C ≤ id) = true := by simpa using h1
        go_wp2
        go_ret2
        exact ⟨rfl, HA1.out⟩
      · have hd2 : decide (C ≤ id) = false := by simpa using h1
        have HD := Lib.hid (digest_no (.pointer none) ⟨#[]⟩ w1 (.inl rfl))
        go_wp2_with fail
        refine HD.out.mono ?_
        rintro e w2 ⟨rfl, rfl⟩
        go_wp2
        go_ret2
        exact ⟨rfl, HA1.out⟩

set_option maxHeartbeats 4000000 in
set_option maxRecDepth 100000 in
/-- No consortium, or no book: no argument. -/
theorem verifyArg_calls (F C G P : Int) (B : Option Addr) (key s : ByteArray) (w : World) (h : fitsC F C G P = false ∨ B = none) :
    Calls Try.prog 87 #[.agg #[.int .i64 F, .int .i64 C, .int .i64 G, .int .i64 P], .pointer B, .string key, .string s] w (fun e w' => e = .returned (.tuple #[.agg #[.int .i64 0, .string ⟨#[]⟩, .bool false], .int .i64 1]) ∧ Below w.heap.size w w') := by
  obtain ⟨W0, hW0⟩ : ∃ W0, W0 = (w.alloc (.cells #[.int .i64 F, .int .i64 C, .int .i64 G, .int .i64 P] 104)).alloc (.cells #[.int .i64 0, .string ⟨#[]⟩, .bool false] 149) := ⟨_, rfl⟩
  have hA := ((Below.refl w.heap.size w).alloc (Nat.le_refl _) (.cells #[.int .i64 F, .int .i64 C, .int .i64 G, .int .i64 P] 104)).alloc (by simp) (.cells #[.int .i64 0, .string ⟨#[]⟩, .bool false] 149)
  have HX0 := Lib.hid (show Box W0 w.heap.size #[.int .i64 F, .int .i64 C, .int .i64 G, .int .i64 P] 104 by rw [hW0]; exact (Box.new w _ _).alloc _)
  have HL := Lib.hid (show Box W0 (w.heap.size + 1) #[.int .i64 0, .string ⟨#[]⟩, .bool false] 149 by
    rw [hW0]
    have := Box.new (w.alloc (.cells #[.int .i64 F, .int .i64 C, .int .i64 G, .int .i64 P] 104)) #[.int .i64 0, .string ⟨#[]⟩, .bool false] 149
    simp only [World.size_alloc] at this
    exact this)
  have HA := Lib.hid (show Below w.heap.size w W0 by rw [hW0]; exact hA)
  have HWW := Lib.hid hW0
  have HF := Lib.hid (fun w => cfits_calls F C G P w)
  obtain ⟨fc, hfc⟩ : ∃ d, d = fitsC F C G P := ⟨_, rfl⟩
  rw [← hfc] at HF h
  obtain ⟨k0, k1, k2, k3, -⟩ := Box.facts4 HX0.out
  clear hA hW0 hfc
  go_enter Try.func87, Try.ntmps87
  go_wp2_with fail
  rw [← HWW.out]
  refine (HF.out _).mono ?_
  rintro e w1 ⟨rfl, hb1⟩
  have HL1 := Lib.hid (HL.out.call hb1)
  have HA1 := Lib.hid (HA.out.trans (hb1.mono HA.out.size))
  clear k0 k1 k2 k3 hb1
  obtain ⟨l0, l1, l2, g0, g1, g2⟩ := Box.facts3 HL1.out
  have hfin : ∀ (u v z : Value), Below w.heap.size w (((w1.setCell ⟨w.heap.size + 1, 0, none⟩ u).setCell ⟨w.heap.size + 1, 1, none⟩ v).setCell ⟨w.heap.size + 1, 2, none⟩ z) := fun u v z =>
    ((HA1.out.setCell (p := ⟨w.heap.size + 1, 0, none⟩) (Nat.le_succ _) u).setCell (p := ⟨w.heap.size + 1, 1, none⟩) (Nat.le_succ _) v).setCell (p := ⟨w.heap.size + 1, 2, none⟩) (Nat.le_succ _) z
  cases fc with
  | false =>
    go_wp2
    refine bodyPost_ret (v := .tuple #[.agg #[.int .i64 0, .string ⟨#[]⟩, .bool false], .int .i64 1]) (by simp [results, Try.results87, go_sem, l0, l1, l2]) rfl ?_
    exact ⟨rfl, hfin _ _ _⟩
  | true =>
    obtain rfl : B = none := h.resolve_left (by simp)
    have HD := Lib.hid (digest_no (.pointer none) ⟨#[]⟩ w1 (.inl rfl))
    go_wp2_with fail
    refine HD.out.mono ?_
    rintro e w2 ⟨rfl, rfl⟩
    go_wp2
    refine bodyPost_ret (v := .tuple #[.agg #[.int .i64 0, .string ⟨#[]⟩, .bool false], .int .i64 1]) (by simp [results, Try.results87, go_sem, l0, l1, l2]) rfl ?_
    exact ⟨rfl, hfin _ _ _⟩
end Go.Proofs.Ytfgpchffkpomoaa
