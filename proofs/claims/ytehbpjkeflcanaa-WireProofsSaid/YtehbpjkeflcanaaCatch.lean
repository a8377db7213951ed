/- Each face's deferred literal: of a frame that panics it catches what the reader gave up with and lays the results; of one that returns it does nothing. -/
import Derived.Test.YtehbpjkeflcanaaRdOps
import Derived.Test.YtehbpjkeflcanaaPut
import Derived.Defers
import Derived.Recover
namespace Go.Proofs.Ytehbpjkeflcanaa
set_option linter.unusedSimpArgs false
set_option linter.unusedVariables false
open Go.RowKit

theorem leaves_end {P : Program} {fn : Func} {tmps : Array Value} {R : Ending → World → Prop} {u : FrameMode} {w : World} (hu : settle u = .returning) (h : ∃ v, (results fn tmps).run P w = .ok v w ∧ R (.returned v) w) : Leaves P fn tmps R [] (settle u) w := by
  rw [hu]; exact h

theorem assert_fault (c : Int) (w : World) : (Instr.typeAssert (.iface 123 (.int .i64 c)) 20 123 true).run Try.prog w = .ok (.tuple #[.int .i64 c, .bool true]) w := by kernel_rfl

set_option maxRecDepth 100000 in
theorem caught_calls (c : Int) (w : World) : Calls Try.prog 68 #[.iface 123 (.int .i64 c)] w fun e w' => e = .returned (.int .i64 c) ∧ w = w' := by
  have hta := fun w' => assert_fault c w'
  go_enter Try.func68, Try.ntmps68
  go_wp2
  go_ret
  exact ⟨rfl, rfl⟩


set_option maxHeartbeats 1000000 in
theorem getInt_catch (g : Nat) (x0 x1 x2 : Value) (c : Nat) (w : World) (h0 : Box w (g) #[x0] 3) (h1 : Box w (g + 1) #[x1] 3) (h2 : Box w (g + 2) #[x2] 25) :
    CallsD Try.prog 75 #[.pointer (some ⟨g, 0, none⟩), .pointer (some ⟨g + 1, 0, none⟩), .pointer (some ⟨g + 2, 0, none⟩)] (.panicking (fault c)) w fun e u' w' =>
      e = .returned (.tuple #[]) ∧ settle u' = .returning ∧ Ch g (fun _ => False) w w' ∧ w'.heap.size = w.heap.size ∧ Box w' (g) #[.int .i64 0] 3 ∧ Box w' (g + 1) #[.int .i64 0] 3 ∧ Box w' (g + 2) #[.int .i64 c] 25 := by
  unfold fault
  have hf0 := h0.facts1
  have H0 := Lib.hid h0
  have hf1 := h1.facts1
  have H1 := Lib.hid h1
  have hf2 := h2.facts1
  have H2 := Lib.hid h2
  obtain ⟨c0_0, f0_0⟩ := hf0
  obtain ⟨c1_0, f1_0⟩ := hf1
  obtain ⟨c2_0, f2_0⟩ := hf2
  clear h0 h1 h2
  refine callsD_of_wpS Try.func75 rfl fun c₀ cs hu => ?_
  apply wpS_seq
  apply wpS_region
  simp [wpOpsS, go_sem, recoverD, hu, Try.ntmps75, Exit.thenS]
  refine wpS_of_wp ?_
  show Code.wp _ _ _ { tmps := #[.pointer (some ⟨g, 0, none⟩), .pointer (some ⟨g + 1, 0, none⟩), .pointer (some ⟨g + 2, 0, none⟩), .iface 123 (.int .i64 c), .iface 123 (.int .i64 c), undef, undef, undef, undef], defers := [] } w
  go_wp2_with (go_at_call 68; refine (caught_calls _ _).mono ?_; rintro e w' ⟨rfl, rfl⟩)
  refine ⟨rfl, _, rfl, .tuple #[], by simp [results, Try.results75, go_sem], rfl, rfl, ?_, by simp, (by have h := (((H0.out).set 0 (.int .i64 0)).other (a := ⟨g + 1, 0, none⟩) (by simp) (.int .i64 0)).other (a := ⟨g + 2, 0, none⟩) (by simp) (.int .i64 c); simpa using h), (by have h := (((H1.out).other (a := ⟨g, 0, none⟩) (by simp) (.int .i64 0)).set 0 (.int .i64 0)).other (a := ⟨g + 2, 0, none⟩) (by simp) (.int .i64 c); simpa using h), (by have h := (((H2.out).other (a := ⟨g, 0, none⟩) (by simp) (.int .i64 0)).other (a := ⟨g + 1, 0, none⟩) (by simp) (.int .i64 0)).set 0 (.int .i64 c); simpa using h)⟩
  refine Ch.setCell (Ch.setCell (Ch.setCell (Ch.refl _ _ _) ?_ _) ?_ _) ?_ _ <;> (left; simp)

theorem getInt_idle (w : World) (p0 p1 p2 : Value) :
    CallsD Try.prog 75 #[p0, p1, p2] .returning w fun e u' w' => e = .returned (.tuple #[]) ∧ settle u' = .returning ∧ w = w' := by
  refine callsD_of_wpS Try.func75 rfl fun c₀ cs hu => ?_
  apply wpS_seq
  apply wpS_region
  simp [wpOpsS, go_sem, recoverD, hu, Try.ntmps75, Exit.thenS]
  refine wpS_of_wp ?_
  show Code.wp _ _ _ { tmps := #[p0, p1, p2, .nilIface, .nilIface, undef, undef, undef, undef], defers := [] } w
  go_wp2
  refine ⟨rfl, .returning, ?_, .tuple #[], by simp [results, Try.results75, go_sem], rfl, rfl, rfl⟩
  cases c₀
  simp_all


set_option maxHeartbeats 1000000 in
theorem getText_catch (g : Nat) (x0 x1 x2 : Value) (c : Nat) (w : World) (h0 : Box w (g) #[x0] 9) (h1 : Box w (g + 1) #[x1] 3) (h2 : Box w (g + 2) #[x2] 25) :
    CallsD Try.prog 76 #[.pointer (some ⟨g, 0, none⟩), .pointer (some ⟨g + 1, 0, none⟩), .pointer (some ⟨g + 2, 0, none⟩)] (.panicking (fault c)) w fun e u' w' =>
      e = .returned (.tuple #[]) ∧ settle u' = .returning ∧ Ch g (fun _ => False) w w' ∧ w'.heap.size = w.heap.size ∧ Box w' (g) #[.string ⟨#[]⟩] 9 ∧ Box w' (g + 1) #[.int .i64 0] 3 ∧ Box w' (g + 2) #[.int .i64 c] 25 := by
  unfold fault
  have hf0 := h0.facts1
  have H0 := Lib.hid h0
  have hf1 := h1.facts1
  have H1 := Lib.hid h1
  have hf2 := h2.facts1
  have H2 := Lib.hid h2
  obtain ⟨c0_0, f0_0⟩ := hf0
  obtain ⟨c1_0, f1_0⟩ := hf1
  obtain ⟨c2_0, f2_0⟩ := hf2
  clear h0 h1 h2
  refine callsD_of_wpS Try.func76 rfl fun c₀ cs hu => ?_
  apply wpS_seq
  apply wpS_region
  simp [wpOpsS, go_sem, recoverD, hu, Try.ntmps76, Exit.thenS]
  refine wpS_of_wp ?_
  show Code.wp _ _ _ { tmps := #[.pointer (some ⟨g, 0, none⟩), .pointer (some ⟨g + 1, 0, none⟩), .pointer (some ⟨g + 2, 0, none⟩), .iface 123 (.int .i64 c), .iface 123 (.int .i64 c), undef, undef, undef, undef], defers := [] } w
  go_wp2_with (go_at_call 68; refine (caught_calls _ _).mono ?_; rintro e w' ⟨rfl, rfl⟩)
  refine ⟨rfl, _, rfl, .tuple #[], by simp [results, Try.results76, go_sem], rfl, rfl, ?_, by simp, (by have h := (((H0.out).set 0 (.string ⟨#[]⟩)).other (a := ⟨g + 1, 0, none⟩) (by simp) (.int .i64 0)).other (a := ⟨g + 2, 0, none⟩) (by simp) (.int .i64 c); simpa using h), (by have h := (((H1.out).other (a := ⟨g, 0, none⟩) (by simp) (.string ⟨#[]⟩)).set 0 (.int .i64 0)).other (a := ⟨g + 2, 0, none⟩) (by simp) (.int .i64 c); simpa using h), (by have h := (((H2.out).other (a := ⟨g, 0, none⟩) (by simp) (.string ⟨#[]⟩)).other (a := ⟨g + 1, 0, none⟩) (by simp) (.int .i64 0)).set 0 (.int .i64 c); simpa using h)⟩
  refine Ch.setCell (Ch.setCell (Ch.setCell (Ch.refl _ _ _) ?_ _) ?_ _) ?_ _ <;> (left; simp)

theorem getText_idle (w : World) (p0 p1 p2 : Value) :
    CallsD Try.prog 76 #[p0, p1, p2] .returning w fun e u' w' => e = .returned (.tuple #[]) ∧ settle u' = .returning ∧ w = w' := by
  refine callsD_of_wpS Try.func76 rfl fun c₀ cs hu => ?_
  apply wpS_seq
  apply wpS_region
  simp [wpOpsS, go_sem, recoverD, hu, Try.ntmps76, Exit.thenS]
  refine wpS_of_wp ?_
  show Code.wp _ _ _ { tmps := #[p0, p1, p2, .nilIface, .nilIface, undef, undef, undef, undef], defers := [] } w
  go_wp2
  refine ⟨rfl, .returning, ?_, .tuple #[], by simp [results, Try.results76, go_sem], rfl, rfl, rfl⟩
  cases c₀
  simp_all


set_option maxHeartbeats 1000000 in
theorem of_catch (g : Nat) (x0 x1 x2 x3 x4 x5 x6 x7 x8 : Value) (c : Nat) (w : World) (h0 : Box w (g) #[x0, x1, x2, x3, x4, x5, x6, x7] 24) (h1 : Box w (g + 1) #[x8] 25) :
    CallsD Try.prog 67 #[.pointer (some ⟨g, 0, none⟩), .pointer (some ⟨g + 1, 0, none⟩)] (.panicking (fault c)) w fun e u' w' =>
      e = .returned (.tuple #[]) ∧ settle u' = .returning ∧ Ch g (fun _ => False) w w' ∧ w'.heap.size = w.heap.size ∧ Box w' (g) #[.int .i64 0, .int .i64 0, .int .i64 0, .int .i64 0, .int .i64 0, .string ⟨#[]⟩, .string ⟨#[]⟩, .slice none 0 0] 24 ∧ Box w' (g + 1) #[.int .i64 c] 25 := by
  unfold fault
  have hf0 := h0.facts8
  have H0 := Lib.hid h0
  have hf1 := h1.facts1
  have H1 := Lib.hid h1
  obtain ⟨c0_0, c0_1, c0_2, c0_3, c0_4, c0_5, c0_6, c0_7, f0_0, f0_1, f0_2, f0_3, f0_4, f0_5, f0_6, f0_7⟩ := hf0
  obtain ⟨c1_0, f1_0⟩ := hf1
  clear h0 h1
  refine callsD_of_wpS Try.func67 rfl fun c₀ cs hu => ?_
  apply wpS_seq
  apply wpS_region
  simp [wpOpsS, go_sem, recoverD, hu, Try.ntmps67, Exit.thenS]
  refine wpS_of_wp ?_
  show Code.wp _ _ _ { tmps := #[.pointer (some ⟨g, 0, none⟩), .pointer (some ⟨g + 1, 0, none⟩), .iface 123 (.int .i64 c), .iface 123 (.int .i64 c), undef, undef, undef, undef, undef], defers := [] } w
  go_wp2_with (go_at_call 68; refine (caught_calls _ _).mono ?_; rintro e w' ⟨rfl, rfl⟩)
  refine ⟨rfl, _, rfl, .tuple #[], by simp [results, Try.results67, go_sem], rfl, rfl, ?_, by simp, (by have h := (((((((((H0.out).set 0 (.int .i64 0)).set 1 (.int .i64 0)).set 2 (.int .i64 0)).set 3 (.int .i64 0)).set 4 (.int .i64 0)).set 5 (.string ⟨#[]⟩)).set 6 (.string ⟨#[]⟩)).set 7 (.slice none 0 0)).other (a := ⟨g + 1, 0, none⟩) (by simp) (.int .i64 c); simpa using h), (by have h := (((((((((H1.out).other (a := ⟨g, 0, none⟩) (by simp) (.int .i64 0)).other (a := ⟨g, 1, none⟩) (by simp) (.int .i64 0)).other (a := ⟨g, 2, none⟩) (by simp) (.int .i64 0)).other (a := ⟨g, 3, none⟩) (by simp) (.int .i64 0)).other (a := ⟨g, 4, none⟩) (by simp) (.int .i64 0)).other (a := ⟨g, 5, none⟩) (by simp) (.string ⟨#[]⟩)).other (a := ⟨g, 6, none⟩) (by simp) (.string ⟨#[]⟩)).other (a := ⟨g, 7, none⟩) (by simp) (.slice none 0 0)).set 0 (.int .i64 c); simpa using h)⟩
  refine Ch.setCell (Ch.setCell (Ch.setCell (Ch.setCell (Ch.setCell (Ch.setCell (Ch.setCell (Ch.setCell (Ch.setCell (Ch.refl _ _ _) ?_ _) ?_ _) ?_ _) ?_ _) ?_ _) ?_ _) ?_ _) ?_ _) ?_ _ <;> (left; simp)

theorem of_idle (w : World) (p0 p1 : Value) :
    CallsD Try.prog 67 #[p0, p1] .returning w fun e u' w' => e = .returned (.tuple #[]) ∧ settle u' = .returning ∧ w = w' := by
  refine callsD_of_wpS Try.func67 rfl fun c₀ cs hu => ?_
  apply wpS_seq
  apply wpS_region
  simp [wpOpsS, go_sem, recoverD, hu, Try.ntmps67, Exit.thenS]
  refine wpS_of_wp ?_
  show Code.wp _ _ _ { tmps := #[p0, p1, .nilIface, .nilIface, undef, undef, undef, undef, undef], defers := [] } w
  go_wp2
  refine ⟨rfl, .returning, ?_, .tuple #[], by simp [results, Try.results67, go_sem], rfl, rfl, rfl⟩
  cases c₀
  simp_all


set_option maxHeartbeats 1000000 in
theorem ofSigned_catch (g : Nat) (x0 x1 x2 x3 : Value) (c : Nat) (w : World) (h0 : Box w (g) #[x0, x1, x2] 36) (h1 : Box w (g + 1) #[x3] 25) :
    CallsD Try.prog 78 #[.pointer (some ⟨g, 0, none⟩), .pointer (some ⟨g + 1, 0, none⟩)] (.panicking (fault c)) w fun e u' w' =>
      e = .returned (.tuple #[]) ∧ settle u' = .returning ∧ Ch g (fun _ => False) w w' ∧ w'.heap.size = w.heap.size ∧ Box w' (g) #[.int .i64 0, .string ⟨#[]⟩, .string ⟨#[]⟩] 36 ∧ Box w' (g + 1) #[.int .i64 c] 25 := by
  unfold fault
  have hf0 := h0.facts3
  have H0 := Lib.hid h0
  have hf1 := h1.facts1
  have H1 := Lib.hid h1
  obtain ⟨c0_0, c0_1, c0_2, f0_0, f0_1, f0_2⟩ := hf0
  obtain ⟨c1_0, f1_0⟩ := hf1
  clear h0 h1
  refine callsD_of_wpS Try.func78 rfl fun c₀ cs hu => ?_
  apply wpS_seq
  apply wpS_region
  simp [wpOpsS, go_sem, recoverD, hu, Try.ntmps78, Exit.thenS]
  refine wpS_of_wp ?_
  show Code.wp _ _ _ { tmps := #[.pointer (some ⟨g, 0, none⟩), .pointer (some ⟨g + 1, 0, none⟩), .iface 123 (.int .i64 c), .iface 123 (.int .i64 c), undef, undef, undef, undef, undef], defers := [] } w
  go_wp2_with (go_at_call 68; refine (caught_calls _ _).mono ?_; rintro e w' ⟨rfl, rfl⟩)
  refine ⟨rfl, _, rfl, .tuple #[], by simp [results, Try.results78, go_sem], rfl, rfl, ?_, by simp, (by have h := ((((H0.out).set 0 (.int .i64 0)).set 1 (.string ⟨#[]⟩)).set 2 (.string ⟨#[]⟩)).other (a := ⟨g + 1, 0, none⟩) (by simp) (.int .i64 c); simpa using h), (by have h := ((((H1.out).other (a := ⟨g, 0, none⟩) (by simp) (.int .i64 0)).other (a := ⟨g, 1, none⟩) (by simp) (.string ⟨#[]⟩)).other (a := ⟨g, 2, none⟩) (by simp) (.string ⟨#[]⟩)).set 0 (.int .i64 c); simpa using h)⟩
  refine Ch.setCell (Ch.setCell (Ch.setCell (Ch.setCell (Ch.refl _ _ _) ?_ _) ?_ _) ?_ _) ?_ _ <;> (left; simp)

theorem ofSigned_idle (w : World) (p0 p1 : Value) :
    CallsD Try.prog 78 #[p0, p1] .returning w fun e u' w' => e = .returned (.tuple #[]) ∧ settle u' = .returning ∧ w = w' := by
  refine callsD_of_wpS Try.func78 rfl fun c₀ cs hu => ?_
  apply wpS_seq
  apply wpS_region
  simp [wpOpsS, go_sem, recoverD, hu, Try.ntmps78, Exit.thenS]
  refine wpS_of_wp ?_
  show Code.wp _ _ _ { tmps := #[p0, p1, .nilIface, .nilIface, undef, undef, undef, undef, undef], defers := [] } w
  go_wp2
  refine ⟨rfl, .returning, ?_, .tuple #[], by simp [results, Try.results78, go_sem], rfl, rfl, rfl⟩
  cases c₀
  simp_all


set_option maxHeartbeats 1000000 in
theorem ofBatch_catch (g : Nat) (x0 x1 : Value) (c : Nat) (w : World) (h0 : Box w (g) #[x0] 22) (h1 : Box w (g + 1) #[x1] 25) :
    CallsD Try.prog 80 #[.pointer (some ⟨g, 0, none⟩), .pointer (some ⟨g + 1, 0, none⟩)] (.panicking (fault c)) w fun e u' w' =>
      e = .returned (.tuple #[]) ∧ settle u' = .returning ∧ Ch g (fun _ => False) w w' ∧ w'.heap.size = w.heap.size ∧ Box w' (g) #[.slice none 0 0] 22 ∧ Box w' (g + 1) #[.int .i64 c] 25 := by
  unfold fault
  have hf0 := h0.facts1
  have H0 := Lib.hid h0
  have hf1 := h1.facts1
  have H1 := Lib.hid h1
  obtain ⟨c0_0, f0_0⟩ := hf0
  obtain ⟨c1_0, f1_0⟩ := hf1
  clear h0 h1
  refine callsD_of_wpS Try.func80 rfl fun c₀ cs hu => ?_
  apply wpS_seq
  apply wpS_region
  simp [wpOpsS, go_sem, recoverD, hu, Try.ntmps80, Exit.thenS]
  refine wpS_of_wp ?_
  show Code.wp _ _ _ { tmps := #[.pointer (some ⟨g, 0, none⟩), .pointer (some ⟨g + 1, 0, none⟩), .iface 123 (.int .i64 c), .iface 123 (.int .i64 c), undef, undef, undef, undef], defers := [] } w
  go_wp2_with (go_at_call 68; refine (caught_calls _ _).mono ?_; rintro e w' ⟨rfl, rfl⟩)
  refine ⟨rfl, _, rfl, .tuple #[], by simp [results, Try.results80, go_sem], rfl, rfl, ?_, by simp, (by have h := ((H0.out).set 0 (.slice none 0 0)).other (a := ⟨g + 1, 0, none⟩) (by simp) (.int .i64 c); simpa using h), (by have h := ((H1.out).other (a := ⟨g, 0, none⟩) (by simp) (.slice none 0 0)).set 0 (.int .i64 c); simpa using h)⟩
  refine Ch.setCell (Ch.setCell (Ch.refl _ _ _) ?_ _) ?_ _ <;> (left; simp)

theorem ofBatch_idle (w : World) (p0 p1 : Value) :
    CallsD Try.prog 80 #[p0, p1] .returning w fun e u' w' => e = .returned (.tuple #[]) ∧ settle u' = .returning ∧ w = w' := by
  refine callsD_of_wpS Try.func80 rfl fun c₀ cs hu => ?_
  apply wpS_seq
  apply wpS_region
  simp [wpOpsS, go_sem, recoverD, hu, Try.ntmps80, Exit.thenS]
  refine wpS_of_wp ?_
  show Code.wp _ _ _ { tmps := #[p0, p1, .nilIface, .nilIface, undef, undef, undef, undef], defers := [] } w
  go_wp2
  refine ⟨rfl, .returning, ?_, .tuple #[], by simp [results, Try.results80, go_sem], rfl, rfl, rfl⟩
  cases c₀
  simp_all


set_option maxHeartbeats 1000000 in
theorem ofRecords_catch (g : Nat) (x0 x1 : Value) (c : Nat) (w : World) (h0 : Box w (g) #[x0] 68) (h1 : Box w (g + 1) #[x1] 25) :
    CallsD Try.prog 87 #[.pointer (some ⟨g, 0, none⟩), .pointer (some ⟨g + 1, 0, none⟩)] (.panicking (fault c)) w fun e u' w' =>
      e = .returned (.tuple #[]) ∧ settle u' = .returning ∧ Ch g (fun _ => False) w w' ∧ w'.heap.size = w.heap.size ∧ Box w' (g) #[.slice none 0 0] 68 ∧ Box w' (g + 1) #[.int .i64 c] 25 := by
  unfold fault
  have hf0 := h0.facts1
  have H0 := Lib.hid h0
  have hf1 := h1.facts1
  have H1 := Lib.hid h1
  obtain ⟨c0_0, f0_0⟩ := hf0
  obtain ⟨c1_0, f1_0⟩ := hf1
  clear h0 h1
  refine callsD_of_wpS Try.func87 rfl fun c₀ cs hu => ?_
  apply wpS_seq
  apply wpS_region
  simp [wpOpsS, go_sem, recoverD, hu, Try.ntmps87, Exit.thenS]
  refine wpS_of_wp ?_
  show Code.wp _ _ _ { tmps := #[.pointer (some ⟨g, 0, none⟩), .pointer (some ⟨g + 1, 0, none⟩), .iface 123 (.int .i64 c), .iface 123 (.int .i64 c), undef, undef, undef, undef], defers := [] } w
  go_wp2_with (go_at_call 68; refine (caught_calls _ _).mono ?_; rintro e w' ⟨rfl, rfl⟩)
  refine ⟨rfl, _, rfl, .tuple #[], by simp [results, Try.results87, go_sem], rfl, rfl, ?_, by simp, (by have h := ((H0.out).set 0 (.slice none 0 0)).other (a := ⟨g + 1, 0, none⟩) (by simp) (.int .i64 c); simpa using h), (by have h := ((H1.out).other (a := ⟨g, 0, none⟩) (by simp) (.slice none 0 0)).set 0 (.int .i64 c); simpa using h)⟩
  refine Ch.setCell (Ch.setCell (Ch.refl _ _ _) ?_ _) ?_ _ <;> (left; simp)

theorem ofRecords_idle (w : World) (p0 p1 : Value) :
    CallsD Try.prog 87 #[p0, p1] .returning w fun e u' w' => e = .returned (.tuple #[]) ∧ settle u' = .returning ∧ w = w' := by
  refine callsD_of_wpS Try.func87 rfl fun c₀ cs hu => ?_
  apply wpS_seq
  apply wpS_region
  simp [wpOpsS, go_sem, recoverD, hu, Try.ntmps87, Exit.thenS]
  refine wpS_of_wp ?_
  show Code.wp _ _ _ { tmps := #[p0, p1, .nilIface, .nilIface, undef, undef, undef, undef], defers := [] } w
  go_wp2
  refine ⟨rfl, .returning, ?_, .tuple #[], by simp [results, Try.results87, go_sem], rfl, rfl, rfl⟩
  cases c₀
  simp_all


set_option maxHeartbeats 1000000 in
theorem ofProof_catch (g : Nat) (x0 x1 x2 : Value) (c : Nat) (w : World) (h0 : Box w (g) #[x0, x1] 76) (h1 : Box w (g + 1) #[x2] 25) :
    CallsD Try.prog 90 #[.pointer (some ⟨g, 0, none⟩), .pointer (some ⟨g + 1, 0, none⟩)] (.panicking (fault c)) w fun e u' w' =>
      e = .returned (.tuple #[]) ∧ settle u' = .returning ∧ Ch g (fun _ => False) w w' ∧ w'.heap.size = w.heap.size ∧ Box w' (g) #[.int .i64 0, .slice none 0 0] 76 ∧ Box w' (g + 1) #[.int .i64 c] 25 := by
  unfold fault
  have hf0 := h0.facts2
  have H0 := Lib.hid h0
  have hf1 := h1.facts1
  have H1 := Lib.hid h1
  obtain ⟨c0_0, c0_1, f0_0, f0_1⟩ := hf0
  obtain ⟨c1_0, f1_0⟩ := hf1
  clear h0 h1
  refine callsD_of_wpS Try.func90 rfl fun c₀ cs hu => ?_
  apply wpS_seq
  apply wpS_region
  simp [wpOpsS, go_sem, recoverD, hu, Try.ntmps90, Exit.thenS]
  refine wpS_of_wp ?_
  show Code.wp _ _ _ { tmps := #[.pointer (some ⟨g, 0, none⟩), .pointer (some ⟨g + 1, 0, none⟩), .iface 123 (.int .i64 c), .iface 123 (.int .i64 c), undef, undef, undef, undef, undef], defers := [] } w
  go_wp2_with (go_at_call 68; refine (caught_calls _ _).mono ?_; rintro e w' ⟨rfl, rfl⟩)
  refine ⟨rfl, _, rfl, .tuple #[], by simp [results, Try.results90, go_sem], rfl, rfl, ?_, by simp, (by have h := (((H0.out).set 0 (.int .i64 0)).set 1 (.slice none 0 0)).other (a := ⟨g + 1, 0, none⟩) (by simp) (.int .i64 c); simpa using h), (by have h := (((H1.out).other (a := ⟨g, 0, none⟩) (by simp) (.int .i64 0)).other (a := ⟨g, 1, none⟩) (by simp) (.slice none 0 0)).set 0 (.int .i64 c); simpa using h)⟩
  refine Ch.setCell (Ch.setCell (Ch.setCell (Ch.refl _ _ _) ?_ _) ?_ _) ?_ _ <;> (left; simp)

theorem ofProof_idle (w : World) (p0 p1 : Value) :
    CallsD Try.prog 90 #[p0, p1] .returning w fun e u' w' => e = .returned (.tuple #[]) ∧ settle u' = .returning ∧ w = w' := by
  refine callsD_of_wpS Try.func90 rfl fun c₀ cs hu => ?_
  apply wpS_seq
  apply wpS_region
  simp [wpOpsS, go_sem, recoverD, hu, Try.ntmps90, Exit.thenS]
  refine wpS_of_wp ?_
  show Code.wp _ _ _ { tmps := #[p0, p1, .nilIface, .nilIface, undef, undef, undef, undef, undef], defers := [] } w
  go_wp2
  refine ⟨rfl, .returning, ?_, .tuple #[], by simp [results, Try.results90, go_sem], rfl, rfl, rfl⟩
  cases c₀
  simp_all

end Go.Proofs.Ytehbpjkeflcanaa
