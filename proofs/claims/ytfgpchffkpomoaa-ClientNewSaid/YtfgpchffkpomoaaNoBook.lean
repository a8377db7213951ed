/- A book that nobody made: nil, or one without a scheme: the walks through its methods. -/
import Derived.Test.YtfgpchffkpomoaaPk10
namespace Go.Proofs.Ytfgpchffkpomoaa
set_option linter.unusedSimpArgs false
set_option linter.unusedVariables false
open Go.RowKit

/-- No book, or one without a scheme. -/
def NoBk (w : World) (v : Value) : Prop := v = .pointer none ∨ ∃ b, v = .pointer (some ⟨b, 0, none⟩) ∧ w.cell? ⟨b, 0, none⟩ = some .nilIface
theorem NoBk.below {w w' : World} {v : Value} (h : NoBk w v) (hb : Below w.heap.size w w') : NoBk w' v := by
  rcases h with h | ⟨b, h, hc⟩
  · exact .inl h
  · exact .inr ⟨b, h, (hb.cell (p := ⟨b, 0, none⟩) (World.block_lt_of_cell? _ _ hc)).trans hc⟩

set_option maxRecDepth 100000 in
theorem made_no (v : Value) (w : World) (h : NoBk w v) : Calls Try.prog 110 #[v] w fun e w' => e = .returned (.bool false) ∧ w = w' := by
  rcases h with rfl | ⟨b, rfl, hc⟩
  · go_enter Try.func110, Try.ntmps110
    go_wp2
    go_ret
    exact ⟨rfl, rfl⟩
  · go_enter Try.func110, Try.ntmps110
    go_wp2
    go_ret
    exact ⟨rfl, rfl⟩
set_option maxRecDepth 100000 in
theorem digest_no (v : Value) (s : ByteArray) (w : World) (h : NoBk w v) : Calls Try.prog 49 #[v, .string s] w fun e w' => e = .returned (.string ⟨#[]⟩) ∧ w = w' := by
  have HM := Lib.hid (made_no v w h)
  clear h
  go_enter Try.func49, Try.ntmps49
  go_wp2_with fail
  refine HM.out.mono ?_
  rintro e w1 ⟨rfl, rfl⟩
  go_wp2
  go_ret
  exact ⟨rfl, rfl⟩
set_option maxRecDepth 100000 in
theorem sign_no (v : Value) (who : Int) (s : ByteArray) (w : World) (h : NoBk w v) : Calls Try.prog 56 #[v, .int .i64 who, .string s] w fun e w' => e = .returned (.tuple #[.string ⟨#[]⟩, .int .i64 1]) ∧ w = w' := by
  have HM := Lib.hid (made_no v w h)
  clear h
  go_enter Try.func56, Try.ntmps56
  go_wp2_with fail
  refine HM.out.mono ?_
  rintro e w1 ⟨rfl, rfl⟩
  go_wp2
  go_ret2
  exact ⟨rfl, rfl⟩
set_option maxRecDepth 100000 in
theorem check_no (v : Value) (who : Int) (s sig : ByteArray) (w : World) (h : NoBk w v) : Calls Try.prog 61 #[v, .int .i64 who, .string s, .string sig] w fun e w' => e = .returned (.bool false) ∧ w = w' := by
  have HM := Lib.hid (made_no v w h)
  clear h
  go_enter Try.func61, Try.ntmps61
  go_wp2_with fail
  refine HM.out.mono ?_
  rintro e w1 ⟨rfl, rfl⟩
  go_wp2
  go_ret
  exact ⟨rfl, rfl⟩
set_option maxRecDepth 100000 in
theorem issued_no (v : Value) (who : Int) (s : ByteArray) (w : World) (h : NoBk w v) : Calls Try.prog 62 #[v, .int .i64 who, .string s] w fun e w' => e = .returned (.bool false) ∧ w = w' := by
  have HM := Lib.hid (made_no v w h)
  clear h
  go_enter Try.func62, Try.ntmps62
  go_wp2_with fail
  refine HM.out.mono ?_
  rintro e w1 ⟨rfl, rfl⟩
  go_wp2
  go_ret
  exact ⟨rfl, rfl⟩
set_option maxHeartbeats 400000 in
set_option maxRecDepth 100000 in
theorem seal_no (v : Value) (who : Int) (x : Bd) (A : Option Addr) (c : Nat) (w : World) (h : NoBk w v) : Calls Try.prog 51 #[v, .int .i64 who, x.val A c] w fun e w' => e = .returned (.tuple #[zeroSg.val, .int .i64 1]) ∧ Below w.heap.size w w' := by
  have HM := Lib.hid (fun w h => made_no v w h)
  have HN := Lib.hid h
  clear h
  obtain ⟨kind, view, seq, client, stamp, digest, tx, list⟩ := x
  unfold Bd.val Bd.cells
  simp only
  obtain ⟨W, hW⟩ : ∃ W, W = (w.alloc (.cells #[.int .i64 kind, .int .i64 view, .int .i64 seq, .int .i64 client, .int .i64 stamp, .string digest, .string tx, .slice A list.length c] 59)).alloc (.cells #[.int .i64 0, .string ⟨#[]⟩, .string ⟨#[]⟩] 61) := ⟨_, rfl⟩
  have HA := Lib.hid (show Below w.heap.size w W by rw [hW]; exact ((Below.refl _ _).alloc (Nat.le_refl _) _).alloc (by simp) _)
  have HX := Lib.hid (show Box W (w.heap.size + 1) #[.int .i64 0, .string ⟨#[]⟩, .string ⟨#[]⟩] 61 by rw [hW]; have h := Box.new (w.alloc (.cells #[.int .i64 kind, .int .i64 view, .int .i64 seq, .int .i64 client, .int .i64 stamp, .string digest, .string tx, .slice A list.length c] 59)) #[.int .i64 0, .string ⟨#[]⟩, .string ⟨#[]⟩] 61; simp only [World.size_alloc] at h; exact h)
  obtain ⟨r0, r1, r2, f0, f1, f2⟩ := HX.out.facts3
  have HWW := Lib.hid hW
  clear hW
  go_enter Try.func51, Try.ntmps51
  go_wp2_with fail
  rw [← HWW.out]
  refine (HM.out _ (HN.out.below HA.out)).mono ?_
  rintro e w1 ⟨rfl, rfl⟩
  go_wp2
  refine bodyPost_ret (v := .tuple #[.agg #[.int .i64 0, .string ⟨#[]⟩, .string ⟨#[]⟩], .int .i64 1]) (by simp [results, Try.results51, go_sem, r0, r1, r2]) rfl ?_
  exact ⟨rfl, ((HA.out.setCell (by simp) _).setCell (by simp) _).setCell (by simp) _⟩
set_option maxHeartbeats 400000 in
set_option maxRecDepth 100000 in
theorem open_no (v : Value) (x : Sg) (w : World) (h : NoBk w v) : Calls Try.prog 53 #[v, x.val] w fun e w' => e = .returned (.tuple #[zeroBd.val none 0, .int .i64 1]) ∧ Below w.heap.size w w' := by
  have HM := Lib.hid (fun w h => made_no v w h)
  have HN := Lib.hid h
  clear h
  obtain ⟨who, body, sig⟩ := x
  unfold Sg.val
  simp only
  obtain ⟨W, hW⟩ : ∃ W, W = (w.alloc (.cells #[.int .i64 who, .string body, .string sig] 61)).alloc (.cells #[.int .i64 0, .int .i64 0, .int .i64 0, .int .i64 0, .int .i64 0, .string ⟨#[]⟩, .string ⟨#[]⟩, .slice none 0 0] 59) := ⟨_, rfl⟩
  have HA := Lib.hid (show Below w.heap.size w W by rw [hW]; exact ((Below.refl _ _).alloc (Nat.le_refl _) _).alloc (by simp) _)
  have HX := Lib.hid (show Box W (w.heap.size + 1) #[.int .i64 0, .int .i64 0, .int .i64 0, .int .i64 0, .int .i64 0, .string ⟨#[]⟩, .string ⟨#[]⟩, .slice none 0 0] 59 by rw [hW]; have h := Box.new (w.alloc (.cells #[.int .i64 who, .string body, .string sig] 61)) #[.int .i64 0, .int .i64 0, .int .i64 0, .int .i64 0, .int .i64 0, .string ⟨#[]⟩, .string ⟨#[]⟩, .slice none 0 0] 59; simp only [World.size_alloc] at h; exact h)
  obtain ⟨r0, r1, r2, r3, r4, r5, r6, r7, f0, f1, f2, f3, f4, f5, f6, f7⟩ := HX.out.facts8
  have HWW := Lib.hid hW
  clear hW
  go_enter Try.func53, Try.ntmps53
  go_wp2_with fail
  rw [← HWW.out]
  refine (HM.out _ (HN.out.below HA.out)).mono ?_
  rintro e w1 ⟨rfl, rfl⟩
  go_wp2
  refine bodyPost_ret (v := .tuple #[.agg #[.int .i64 0, .int .i64 0, .int .i64 0, .int .i64 0, .int .i64 0, .string ⟨#[]⟩, .string ⟨#[]⟩, .slice none 0 0], .int .i64 1]) (by simp [results, Try.results53, go_sem, r0, r1, r2, r3, r4, r5, r6, r7]) rfl ?_
  exact ⟨rfl, (((((((HA.out.setCell (by simp) _).setCell (by simp) _).setCell (by simp) _).setCell (by simp) _).setCell (by simp) _).setCell (by simp) _).setCell (by simp) _).setCell (by simp) _⟩

set_option maxHeartbeats 1000000 in
set_option maxRecDepth 100000 in
theorem quorum_no (v : Value) (digest : ByteArray) (A : Option Addr) (c : Nat) (w : World) (h : NoBk w v) (hs : SgS w A c [zeroSg]) :
    Calls Try.prog 59 #[v, .slice A 1 c, .int .i64 3, .int .i64 0, .int .i64 1, .string digest, .int .i64 4] w fun e w' => e = .returned (.int .i64 0) ∧ Below w.heap.size w w' := by
  have hmm := @run_makeMap Try.prog
  have HN := Lib.hid h
  have HA := Lib.hid ((Below.refl w.heap.size w).alloc (Nat.le_refl _) (.map #[] 0))
  have hs1 := hs.below HA.out
  obtain ⟨a, rfl, h0, h1, h2⟩ := hs1.elem 0 (by simp)
  rw [show a.add (0 * 3) = a by simp [Addr.add]] at h0 h1 h2
  simp only [List.getElem_cons_zero, zeroSg] at h0 h1 h2
  have HM := Lib.hid ((MapIs.new w 3).alloc (.cells #[.int .i64 0, .string ⟨#[]⟩, .string ⟨#[]⟩] 61))
  have hlk := (HM.out.look (T := 198) keyInt Try.underlying198 (zero_int _) (int_key (n := 0) (by decide) (by decide)) false).2 (fun v hv => by cases hv)
  have HB := Lib.hid (HA.out.alloc (by simp) (.cells #[.int .i64 0, .string ⟨#[]⟩, .string ⟨#[]⟩] 61))
  have HO := Lib.hid (fun w h => open_no v zeroSg w h)
  unfold zeroSg zeroBd Sg.val Bd.val Bd.cells at HO
  simp only at HO
  have hadd : a.add 0 = a := by simp [Addr.add]
  clear h hs hs1
  go_enter Try.func59, Try.ntmps59
  go_wp2_with fail
  refine wp_loop_rounds 2 ?_
  rw [rounds_succ]
  go_wp2_with fail
  refine (HO.out _ (HN.out.below HB.out)).mono ?_
  rintro e w3 ⟨rfl, hb3⟩
  have HB3 := Lib.hid (HB.out.trans (hb3.mono (by simp; omega)))
  have HM3 := Lib.hid ((HM.out.ch (Ch.of_below (S := fun _ => False) hb3) HM.out.lt (fun h => h)).alloc (.cells #[.int .i64 0, .int .i64 0, .int .i64 0, .int .i64 0, .int .i64 0, .string ⟨#[]⟩, .string ⟨#[]⟩, .slice none 0 0] 59))
  have hlen := fun ty => HM3.out.len Try.underlying198 ty
  clear hb3 hlk
  go_wp2_with fail
  rw [rounds_succ]
  go_wp2
  go_ret
  exact ⟨rfl, HB3.out.alloc HB3.out.size _⟩
end Go.Proofs.Ytfgpchffkpomoaa
