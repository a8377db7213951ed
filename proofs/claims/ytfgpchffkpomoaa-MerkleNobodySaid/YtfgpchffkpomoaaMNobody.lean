/- Without a book there is no root, no proof, no tree; and a tree that nobody made has nothing: the walk. -/
import Derived.Test.YtfgpchffkpomoaaMSound
import Derived.Test.YtfgpchffkpomoaaNoBook
namespace Go.Proofs.Ytfgpchffkpomoaa
set_option linter.unusedSimpArgs false
set_option linter.unusedVariables false
open Go.RowKit

theorem nil_no (w : World) : NoBk w (.pointer none) := .inl rfl
set_option maxRecDepth 100000 in
theorem known_no (w : World) : Calls Try.prog 96 #[.pointer none] w fun e w' => e = .returned (.bool false) ∧ w' = w := by
  have HD := Lib.hid (digest_no (.pointer none) ⟨#[]⟩ w (nil_no w))
  go_enter Try.func96, Try.ntmps96
  go_wp2_with fail
  refine HD.out.mono ?_
  rintro e w1 ⟨rfl, hw⟩
  subst hw
  go_wp2
  go_ret
  exact ⟨rfl, rfl⟩
set_option maxRecDepth 100000 in
theorem new_no (w : World) : Calls Try.prog 78 #[.pointer none] w fun e w' => e = .returned (.pointer none) ∧ w' = w := by
  have HK := Lib.hid (known_no w)
  go_enter Try.func78, Try.ntmps78
  go_wp2_with fail
  refine HK.out.mono ?_
  rintro e w1 ⟨rfl, hw⟩
  subst hw
  go_wp2
  go_ret
  exact ⟨rfl, rfl⟩
set_option maxRecDepth 100000 in
theorem mRoot_no (A : Option Addr) (n c : Nat) (w : World) : Calls Try.prog 37 #[.pointer none, .slice A n c] w fun e w' => e = .returned (.tuple #[.string ⟨#[]⟩, .int .i64 1]) ∧ w' = w := by
  have HK := Lib.hid (known_no w)
  go_enter Try.func37, Try.ntmps37
  go_wp2_with fail
  refine HK.out.mono ?_
  rintro e w1 ⟨rfl, hw⟩
  subst hw
  go_wp2
  go_ret2
  exact ⟨rfl, rfl⟩
set_option maxRecDepth 100000 in
theorem mProve_no (A : Option Addr) (n c : Nat) (key : ByteArray) (w : World) : Calls Try.prog 40 #[.pointer none, .slice A n c, .string key] w fun e w' => e = .returned (.tuple #[.agg #[.int .i64 0, .slice none 0 0], .int .i64 1]) ∧ Below w.heap.size w w' := by
  have HN := Lib.hid (fun w => new_no w)
  have hb := (Below.refl w.heap.size w).alloc (Nat.le_refl _) (.cells #[.int .i64 0, .slice none 0 0] 35)
  obtain ⟨x0, x1, y0, y1⟩ := (Box.new w #[.int .i64 0, .slice none 0 0] 35).facts2
  go_enter Try.func40, Try.ntmps40
  go_wp2_with fail
  refine (HN.out _).mono ?_
  rintro e w1 ⟨rfl, hw⟩
  subst hw
  go_wp2
  refine bodyPost_ret (v := .tuple #[.agg #[.int .i64 0, .slice none 0 0], .int .i64 1]) (by simp [results, Try.results40, go_sem, x0, x1]) rfl ?_
  exact ⟨rfl, hb⟩
set_option maxRecDepth 100000 in
theorem mVerify_no (cnt : Int) (A : Option Addr) (n c : Nat) (rt key : ByteArray) (w : World) : Calls Try.prog 44 #[.pointer none, .string rt, .string key, .agg #[.int .i64 cnt, .slice A n c]] w fun e w' => e = .returned (.tuple #[.string ⟨#[]⟩, .bool false, .int .i64 1]) ∧ Below w.heap.size w w' := by
  have HK := Lib.hid (fun w => known_no w)
  have hb := (Below.refl w.heap.size w).alloc (Nat.le_refl _) (.cells #[.int .i64 cnt, .slice A n c] 35)
  go_enter Try.func44, Try.ntmps44
  go_wp2_with fail
  refine (HK.out _).mono ?_
  rintro e w1 ⟨rfl, hw⟩
  subst hw
  go_wp2
  go_ret3
  exact ⟨rfl, hb⟩
/-- A tree that nobody made. -/
def NoTr (w : World) (v : Value) : Prop := v = .pointer none ∨ ∃ q, v = .pointer (some ⟨q, 0, none⟩) ∧ w.cell? ⟨q, 0, none⟩ = some (.pointer none)
theorem NoTr.below {w w' : World} {v : Value} (h : NoTr w v) (hb : Below w.heap.size w w') : NoTr w' v := by
  rcases h with h | ⟨q, hv, hc⟩
  · exact .inl h
  · exact .inr ⟨q, hv, (Ch.cell (Ch.of_below (S := fun _ => False) hb) (World.block_lt_of_cell? _ _ hc) (fun e => e)).trans hc⟩
set_option maxRecDepth 100000 in
theorem tmade_no (v : Value) (w : World) (h : NoTr w v) : Calls Try.prog 137 #[v] w fun e w' => e = .returned (.bool false) ∧ w' = w := by
  rcases h with rfl | ⟨q, rfl, hc⟩
  · go_enter Try.func137, Try.ntmps137
    go_wp2
    go_ret
    exact ⟨rfl, rfl⟩
  · go_enter Try.func137, Try.ntmps137
    go_wp2
    go_ret
    exact ⟨rfl, rfl⟩
set_option maxRecDepth 100000 in
theorem tGet_no (v : Value) (key : ByteArray) (w : World) (h : NoTr w v) : Calls Try.prog 83 #[v, .string key] w fun e w' => e = .returned (.tuple #[.string ⟨#[]⟩, .bool false]) ∧ w' = w := by
  have HM := Lib.hid (tmade_no v w h)
  clear h
  go_enter Try.func83, Try.ntmps83
  go_wp2_with fail
  refine HM.out.mono ?_
  rintro e w1 ⟨rfl, hw⟩
  subst hw
  go_wp2
  go_ret2
  exact ⟨rfl, rfl⟩
set_option maxRecDepth 100000 in
theorem tPut_no (v : Value) (key val : ByteArray) (w : World) (h : NoTr w v) : Calls Try.prog 80 #[v, .string key, .string val] w fun e w' => e = .returned (.int .i64 1) ∧ w' = w := by
  have HM := Lib.hid (tmade_no v w h)
  clear h
  go_enter Try.func80, Try.ntmps80
  go_wp2_with fail
  refine HM.out.mono ?_
  rintro e w1 ⟨rfl, hw⟩
  subst hw
  go_wp2
  go_ret
  exact ⟨rfl, rfl⟩
set_option maxRecDepth 100000 in
theorem tDrop_no (v : Value) (key : ByteArray) (w : World) (h : NoTr w v) : Calls Try.prog 84 #[v, .string key] w fun e w' => e = .returned (.bool false) ∧ w' = w := by
  have HM := Lib.hid (tmade_no v w h)
  clear h
  go_enter Try.func84, Try.ntmps84
  go_wp2_with fail
  refine HM.out.mono ?_
  rintro e w1 ⟨rfl, hw⟩
  subst hw
  go_wp2
  go_ret
  exact ⟨rfl, rfl⟩
set_option maxRecDepth 100000 in
theorem tRoot_no (v : Value) (w : World) (h : NoTr w v) : Calls Try.prog 81 #[v] w fun e w' => e = .returned (.string ⟨#[]⟩) ∧ w' = w := by
  have HM := Lib.hid (tmade_no v w h)
  clear h
  go_enter Try.func81, Try.ntmps81
  go_wp2_with fail
  refine HM.out.mono ?_
  rintro e w1 ⟨rfl, hw⟩
  subst hw
  go_wp2
  go_ret
  exact ⟨rfl, rfl⟩
set_option maxRecDepth 100000 in
theorem tRecords_no (v : Value) (w : World) (h : NoTr w v) : Calls Try.prog 86 #[v] w fun e w' => e = .returned (.slice none 0 0) ∧ w' = w := by
  have HM := Lib.hid (tmade_no v w h)
  clear h
  go_enter Try.func86, Try.ntmps86
  go_wp2_with fail
  refine HM.out.mono ?_
  rintro e w1 ⟨rfl, hw⟩
  subst hw
  go_wp2
  go_ret
  exact ⟨rfl, rfl⟩
set_option maxRecDepth 100000 in
theorem tProve_no (v : Value) (key : ByteArray) (w : World) (h : NoTr w v) : Calls Try.prog 85 #[v, .string key] w fun e w' => e = .returned (.tuple #[.agg #[.int .i64 0, .slice none 0 0], .int .i64 1]) ∧ Below w.heap.size w w' := by
  have hb := (Below.refl w.heap.size w).alloc (Nat.le_refl _) (.cells #[.int .i64 0, .slice none 0 0] 35)
  have HM := Lib.hid (tmade_no v _ (h.below hb))
  obtain ⟨x0, x1, y0, y1⟩ := (Box.new w #[.int .i64 0, .slice none 0 0] 35).facts2
  clear h
  go_enter Try.func85, Try.ntmps85
  go_wp2_with fail
  refine HM.out.mono ?_
  rintro e w1 ⟨rfl, hw⟩
  subst hw
  go_wp2
  refine bodyPost_ret (v := .tuple #[.agg #[.int .i64 0, .slice none 0 0], .int .i64 1]) (by simp [results, Try.results85, go_sem, x0, x1]) rfl ?_
  exact ⟨rfl, hb⟩

set_option maxHeartbeats 4000000 in
set_option maxRecDepth 100000 in
theorem merkleNobody_calls (A : Option Addr) (n c : Nat) (key : ByteArray) (cnt : Int) (P : Option Addr) (pn pc : Nat) (W : World) :
    Calls Try.prog 28 #[.slice A n c, .string key, .agg #[.int .i64 cnt, .slice P pn pc]] W fun e w' => e = .returned (.bool true) ∧ Below W.heap.size W w' := by
  have HAW := Lib.hid (fun w => awake4_calls w)
  have HR := Lib.hid (fun w => mRoot_no A n c w)
  have HP := Lib.hid (fun w => mProve_no A n c key w)
  have HV := Lib.hid (fun w => mVerify_no cnt P pn pc ⟨#[]⟩ key w)
  have HG := Lib.hid (fun w => tGet_no (.pointer none) key w (.inl rfl))
  have HNW := Lib.hid (fun w => new_no w)
  have HPT := Lib.hid (fun v w h => tPut_no v key ⟨#[]⟩ w h)
  have HDR := Lib.hid (fun v w h => tDrop_no v key w h)
  have HRO := Lib.hid (fun v w h => tRoot_no v w h)
  have HRC := Lib.hid (fun v w h => tRecords_no v w h)
  have HZP := Lib.hid (fun v w h => tProve_no v key w h)
  have hb0 := ((Below.refl W.heap.size W).alloc (Nat.le_refl _) (.cells #[.int .i64 cnt, .slice P pn pc] 35)).alloc (by simp) (.cells #[.pointer none, .slice none 0 0, .slice none 0 0] 147)
  have hbx0 := (Box.new W #[.int .i64 cnt, .slice P pn pc] 35).alloc (.cells #[.pointer none, .slice none 0 0, .slice none 0 0] 147)
  have hbz0 := Box.new (W.alloc (.cells #[.int .i64 cnt, .slice P pn pc] 35)) #[.pointer none, .slice none 0 0, .slice none 0 0] 147
  simp only [World.size_alloc] at hbz0
  have HB0 := Lib.hid hb0
  have HBX0 := Lib.hid hbx0
  have HBZ0 := Lib.hid hbz0
  clear hb0 hbx0 hbz0
  go_enter Try.func28, Try.ntmps28
  go_wp2_with fail
  refine (HR.out _).mono ?_
  rintro e w1 ⟨rfl, hw⟩
  subst hw
  go_wp2_with fail
  refine (HP.out _).mono ?_
  rintro e w2 ⟨rfl, hb2⟩
  have hz2 : W.heap.size + 2 ≤ w2.heap.size := by have := hb2.size; simpa using this
  have HB2 := Lib.hid ((HB0.out.trans (hb2.mono (by simp; omega))).alloc (by omega) (.cells #[.int .i64 0, .slice none 0 0] 35))
  have HBX2 := Lib.hid ((HBX0.out.ch (Ch.of_below (S := fun _ => False) hb2) HBX0.out.lt (fun e => e)).alloc (.cells #[.int .i64 0, .slice none 0 0] 35))
  have HBZ2 := Lib.hid ((HBZ0.out.ch (Ch.of_below (S := fun _ => False) hb2) HBZ0.out.lt (fun e => e)).alloc (.cells #[.int .i64 0, .slice none 0 0] 35))
  clear hb2
  obtain ⟨x0, x1, y0, y1⟩ := HBX2.out.facts2
  go_wp2_with fail
  refine (HV.out _).mono ?_
  rintro e w3 ⟨rfl, hb3⟩
  have hz3 : W.heap.size + 2 ≤ w3.heap.size := by have := hb3.size; simp at this; omega
  have HB3 := Lib.hid (HB2.out.trans (hb3.mono (by simp; omega)))
  have HBZ3 := Lib.hid (HBZ2.out.ch (Ch.of_below (S := fun _ => False) hb3) HBZ2.out.lt (fun e => e))
  clear hb3 x0 x1 y0 y1
  go_wp2_with fail
  refine (HG.out _).mono ?_
  rintro e w4 ⟨rfl, hw⟩
  subst hw
  go_wp2_with fail
  refine (HZP.out _ _ (.inr ⟨_, rfl, HBZ3.out.cell 0⟩)).mono ?_
  rintro e w5 ⟨rfl, hb5⟩
  have hz5 : W.heap.size + 2 ≤ w5.heap.size := by have := hb5.size; omega
  have HB5 := Lib.hid ((HB3.out.trans (hb5.mono (by omega))).alloc (by omega) (.cells #[.int .i64 0, .slice none 0 0] 35))
  have HBZ5 := Lib.hid ((HBZ3.out.ch (Ch.of_below (S := fun _ => False) hb5) HBZ3.out.lt (fun e => e)).alloc (.cells #[.int .i64 0, .slice none 0 0] 35))
  have HZ := Lib.hid (show NoTr (w5.alloc (.cells #[.int .i64 0, .slice none 0 0] 35)) (.pointer (some ⟨W.heap.size + 1, 0, none⟩)) from .inr ⟨_, rfl, HBZ5.out.cell 0⟩)
  have HN := Lib.hid (show NoTr (w5.alloc (.cells #[.int .i64 0, .slice none 0 0] 35)) (.pointer none) from .inl rfl)
  clear hb5
  go_wp2_with fail
  refine (HNW.out _).mono ?_
  rintro e wn ⟨rfl, hw⟩
  subst hw
  go_wp2_with fail
  refine (HPT.out _ _ HN.out).mono ?_
  rintro e wn ⟨rfl, hw⟩
  subst hw
  go_wp2_with fail
  refine (HPT.out _ _ HZ.out).mono ?_
  rintro e wn ⟨rfl, hw⟩
  subst hw
  go_wp2_with fail
  refine (HDR.out _ _ HN.out).mono ?_
  rintro e wn ⟨rfl, hw⟩
  subst hw
  go_wp2_with fail
  refine (HDR.out _ _ HZ.out).mono ?_
  rintro e wn ⟨rfl, hw⟩
  subst hw
  go_wp2_with fail
  refine (HRO.out _ _ HN.out).mono ?_
  rintro e wn ⟨rfl, hw⟩
  subst hw
  go_wp2_with fail
  refine (HRO.out _ _ HZ.out).mono ?_
  rintro e wn ⟨rfl, hw⟩
  subst hw
  go_wp2_with fail
  refine (HRC.out _ _ HN.out).mono ?_
  rintro e wn ⟨rfl, hw⟩
  subst hw
  go_wp2_with fail
  refine (HRC.out _ _ HZ.out).mono ?_
  rintro e wn ⟨rfl, hw⟩
  subst hw
  go_wp2_with fail
  refine (HAW.out _).mono ?_
  rintro e w9 ⟨rfl, hb9⟩
  go_wp2
  go_ret
  exact ⟨rfl, HB5.out.trans (hb9.mono (by simp; omega))⟩
end Go.Proofs.Ytfgpchffkpomoaa
