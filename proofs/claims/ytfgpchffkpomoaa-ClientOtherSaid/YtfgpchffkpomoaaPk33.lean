/- Texts of this proof, several in one file; each says ahead of it what it proves. -/
import Derived.Test.YtfgpchffkpomoaaPk10
import Derived.Test.YtfgpchffkpomoaaPk30
import Derived.Test.YtfgpchffkpomoaaPk09
/- A book that nobody made: nil, or one without a scheme: the walks through its methods. -/
namespace Go.Proofs.Ytfgpchffkpomoaa
set_option linter.unusedSimpArgs false
set_option linter.unusedVariables false
open Go.RowKit

/-- No book, or one without a scheme. -/
def NoBk (w : World) (v : Value) : Prop := v = .pointer none ∨ ∃ b, v = .pointer (some ⟨b, 0, none⟩) ∧ w.cell? ⟨b, 0, none⟩ = some .nilIface
theorem NoBk.below {w w' : World} {v : Value} (h : NoBk w v) (hb : Below w.heap.size w w') : NoBk w' v := by
  rcases h with h | ⟨b, h, hc⟩
  · exact .inl h
  · exact .inr ⟨b, h, (hb.cell (p := ⟨b, 0, none⟩) (World.block_lt_of_cell? _ _ hc)).trans hc⟩

set_option maxRecDepth 100000 in
theorem made_no (v : Value) (w : World) (h : NoBk w v) : Calls Try.prog 110 #[v] w fun e w' => e = .returned (.bool false) ∧ w = w' := by
  rcases h with rfl | ⟨b, rfl, hc⟩
  · go_enter Try.func110, Try.ntmps110
    go_wp2
    go_ret
    exact ⟨rfl, rfl⟩
  · go_enter Try.func110, Try.ntmps110
    go_wp2
    go_ret
    exact ⟨rfl, rfl⟩
set_option maxRecDepth 100000 in
theorem digest_no (v : Value) (s : ByteArray) (w : World) (h : NoBk w v) : Calls Try.prog 49 #[v, .string s] w fun e w' => e = .returned (.string ⟨#[]⟩) ∧ w = w' := by
  have HM := Lib.hid (made_no v w h)
  clear h
  go_enter Try.func49, Try.ntmps49
  go_wp2_with fail
  refine HM.out.mono ?_
  rintro e w1 ⟨rfl, rfl⟩
  go_wp2
  go_ret
  exact ⟨rfl, rfl⟩
set_option maxRecDepth 100000 in
theorem sign_no (v : Value) (who : Int) (s : ByteArray) (w : World) (h : NoBk w v) : Calls Try.prog 56 #[v, .int .i64 who, .string s] w fun e w' => e = .returned (.tuple #[.string ⟨#[]⟩, .int .i64 1]) ∧ w = w' := by
  have HM := Lib.hid (made_no v w h)
  clear h
  go_enter Try.func56, Try.ntmps56
  go_wp2_with fail
  refine HM.out.mono ?_
  rintro e w1 ⟨rfl, rfl⟩
  go_wp2
  go_ret2
  exact ⟨rfl, rfl⟩
set_option maxRecDepth 100000 in
theorem check_no (v : Value) (who : Int) (s sig : ByteArray) (w : World) (h : NoBk w v) : Calls Try.prog 61 #[v, .int .i64 who, .string s, .string sig] w fun e w' => e = .returned (.bool false) ∧ w = w' := by
  have HM := Lib.hid (made_no v w h)
  clear h
  go_enter Try.func61, Try.ntmps61
  go_wp2_with fail
  refine HM.out.mono ?_
  rintro e w1 ⟨rfl, rfl⟩
  go_wp2
  go_ret
  exact ⟨rfl, rfl⟩
set_option maxRecDepth 100000 in
theorem issued_no (v : Value) (who : Int) (s : ByteArray) (w : World) (h : NoBk w v) : Calls Try.prog 62 #[v, .int .i64 who, .string s] w fun e w' => e = .returned (.bool false) ∧ w = w' := by
  have HM := Lib.hid (made_no v w h)
  clear h
  go_enter Try.func62, Try.ntmps62
  go_wp2_with fail
  refine HM.out.mono ?_
  rintro e w1 ⟨rfl, rfl⟩
  go_wp2
  go_ret
  exact ⟨rfl, rfl⟩
set_option maxHeartbeats 400000 in
set_option maxRecDepth 100000 in
theorem seal_no (v : Value) (who : Int) (x : Bd) (A : Option Addr) (c : Nat) (w : World) (h : NoBk w v) : Calls Try.prog 51 #[v, .int .i64 who, x.val A c] w fun e w' => e = .returned (.tuple #[zeroSg.val, .int .i64 1]) ∧ Below w.heap.size w w' := by
  have HM := Lib.hid (fun w h => made_no v w h)
  have HN := Lib.hid h
  clear h
  obtain ⟨kind, view, seq, client, stamp, digest, tx, list⟩ := x
  unfold Bd.val Bd.cells
  simp only
  obtain ⟨W, hW⟩ : ∃ W, W = (w.alloc (.cells #[.int .i64 kind, .int .i64 view, .int .i64 seq, .int .i64 client, .int .i64 stamp, .string digest, .string tx, .slice A list.length c] 59)).alloc (.cells #[.int .i64 0, .string ⟨#[]⟩, .string ⟨#[]⟩] 61) := ⟨_, rfl⟩
  have HA := Lib.hid (show Below w.heap.size w W by rw [hW]; exact ((Below.refl _ _).alloc (Nat.le_refl _) _).alloc (by simp) _)
  have HX := Lib.hid (show Box W (w.heap.size + 1) #[.int .i64 0, .string ⟨#[]⟩, .string ⟨#[]⟩] 61 by rw [hW]; have h := Box.new (w.alloc (.cells #[.int .i64 kind, .int .i64 view, .int .i64 seq, .int .i64 client, .int .i64 stamp, .string digest, .string tx, .slice A list.length c] 59)) #[.int .i64 0, .string ⟨#[]⟩, .string ⟨#[]⟩] 61; simp only [World.size_alloc] at h; exact h)
  obtain ⟨r0, r1, r2, f0, f1, f2⟩ := HX.out.facts3
  have HWW := Lib.hid hW
  clear hW
  go_enter Try.func51, Try.ntmps51
  go_wp2_with fail
  rw [← HWW.out]
  refine (HM.out _ (HN.out.below HA.out)).mono ?_
  rintro e w1 ⟨rfl, rfl⟩
  go_wp2
  refine bodyPost_ret (v := .tuple #[.agg #[.int .i64 0, .string ⟨#[]⟩, .string ⟨#[]⟩], .int .i64 1]) (by simp [results, Try.results51, go_sem, r0, r1, r2]) rfl ?_
  exact ⟨rfl, ((HA.out.setCell (by simp) _).setCell (by simp) _).setCell (by simp) _⟩
set_option maxHeartbeats 400000 in
set_option maxRecDepth 100000 in
theorem open_no (v : Value) (x : Sg) (w : World) (h : NoBk w v) : Calls Try.prog 53 #[v, x.val] w fun e w' => e = .returned (.tuple #[zeroBd.val none 0, .int .i64 1]) ∧ Below w.heap.size w w' := by
  have HM := Lib.hid (fun w h => made_no v w h)
  have HN := Lib.hid h
  clear h
  obtain ⟨who, body, sig⟩ := x
  unfold Sg.val
  simp only
  obtain ⟨W, hW⟩ : ∃ W, W = (w.alloc (.cells #[.int .i64 who, .string body, .string sig] 61)).alloc (.cells #[.int .i64 0, .int .i64 0, .int .i64 0, .int .i64 0, .int .i64 0, .string ⟨#[]⟩, .string ⟨#[]⟩, .slice none 0 0] 59) := ⟨_, rfl⟩
  have HA := Lib.hid (show Below w.heap.size w W by rw [hW]; exact ((Below.refl _ _).alloc (Nat.le_refl _) _).alloc (by simp) _)
  have HX := Lib.hid (show Box W (w.heap.size + 1) #[.int .i64 0, .int .i64 0, .int .i64 0, .int .i64 0, .int .i64 0, .string ⟨#[]⟩, .string ⟨#[]⟩, .slice none 0 0] 59 by rw [hW]; have h := Box.new (w.alloc (.cells #[.int .i64 who, .string body, .string sig] 61)) #[.int .i64 0, .int .i64 0, .int .i64 0, .int .i64 0, .int .i64 0, .string ⟨#[]⟩, .string ⟨#[]⟩, .slice none 0 0] 59; simp only [World.size_alloc] at h; exact h)
  obtain ⟨r0, r1, r2, r3, r4, r5, r6, r7, f0, f1, f2, f3, f4, f5, f6, f7⟩ := HX.out.facts8
  have HWW := Lib.hid hW
  clear hW
  go_enter Try.func53, Try.ntmps53
  go_wp2_with fail
  rw [← HWW.out]
  refine (HM.out _ (HN.out.below HA.out)).mono ?_
  rintro e w1 ⟨rfl, rfl⟩
  go_wp2
  refine bodyPost_ret (v := .tuple #[.agg #[.int .i64 0, .int .i64 0, .int .i64 0, .int .i64 0, .int .i64 0, .string ⟨#[]⟩, .string ⟨#[]⟩, .slice none 0 0], .int .i64 1]) (by simp [results, Try.results53, go_sem, r0, r1, r2, r3, r4, r5, r6, r7]) rfl ?_
  exact ⟨rfl, (((((((HA.out.setCell (by simp) _).setCell (by simp) _).setCell (by simp) _).setCell (by simp) _).setCell (by simp) _).setCell (by simp) _).setCell (by simp) _).setCell (by simp) _⟩

set_option maxHeartbeats 1000000 in
set_option maxRecDepth 100000 in
theorem quorum_no (v : Value) (digest : ByteArray) (A : Option Addr) (c : Nat) (w : World) (h : NoBk w v) (hs : SgS w A c [zeroSg]) :
    Calls Try.prog 59 #[v, .slice A 1 c, .int .i64 3, .int .i64 0, .int .i64 1, .string digest, .int .i64 4] w fun e w' => e = .returned (.int .i64 0) ∧ Below w.heap.size w w' := by
  have hmm := @run_makeMap Try.prog
  have HN := Lib.hid h
  have HA := Lib.hid ((Below.refl w.heap.size w).alloc (Nat.le_refl _) (.map #[] 0))
  have hs1 := hs.below HA.out
  obtain ⟨a, rfl, h0, h1, h2⟩ := hs1.elem 0 (by simp)
  rw [show a.add (0 * 3) = a by simp [Addr.add]] at h0 h1 h2
  simp only [List.getElem_cons_zero, zeroSg] at h0 h1 h2
  have HM := Lib.hid ((MapIs.new w 3).alloc (.cells #[.int .i64 0, .string ⟨#[]⟩, .string ⟨#[]⟩] 61))
  have hlk := (HM.out.look (T := 198) keyInt Try.underlying198 (zero_int _) (int_key (n := 0) (by decide) (by decide)) false).2 (fun v hv => by cases hv)
  have HB := Lib.hid (HA.out.alloc (by simp) (.cells #[.int .i64 0, .string ⟨#[]⟩, .string ⟨#[]⟩] 61))
  have HO := Lib.hid (fun w h => open_no v zeroSg w h)
  unfold zeroSg zeroBd Sg.val Bd.val Bd.cells at HO
  simp only at HO
  have hadd : a.add 0 = a := by simp [Addr.add]
  clear h hs hs1
  go_enter Try.func59, Try.ntmps59
  go_wp2_with fail
  refine wp_loop_rounds 2 ?_
  rw [rounds_succ]
  go_wp2_with fail
  refine (HO.out _ (HN.out.below HB.out)).mono ?_
  rintro e w3 ⟨rfl, hb3⟩
  have HB3 := Lib.hid (HB.out.trans (hb3.mono (by simp; omega)))
  have HM3 := Lib.hid ((HM.out.ch (Ch.of_below (S := fun _ => False) hb3) HM.out.lt (fun h => h)).alloc (.cells #[.int .i64 0, .int .i64 0, .int .i64 0, .int .i64 0, .int .i64 0, .string ⟨#[]⟩, .string ⟨#[]⟩, .slice none 0 0] 59))
  have hlen := fun ty => HM3.out.len Try.underlying198 ty
  clear hb3 hlk
  go_wp2_with fail
  rw [rounds_succ]
  go_wp2
  go_ret
  exact ⟨rfl, HB3.out.alloc HB3.out.size _⟩
end Go.Proofs.Ytfgpchffkpomoaa

/- What no client does, and what is made and shown without a book: the walks. -/
namespace Go.Proofs.Ytfgpchffkpomoaa
set_option linter.unusedSimpArgs false
set_option linter.unusedVariables false
open Go.RowKit

set_option maxRecDepth 100000 in
theorem madeNil_calls (w : World) : Calls Try.prog 131 #[.pointer none] w (fun e w' => e = .returned (.bool false) ∧ w' = w) := by
  go_enter Try.func131, Try.ntmps131
  go_wp2
  go_ret
  exact ⟨rfl, rfl⟩
set_option maxRecDepth 100000 in
theorem waitsNil_calls (w : World) : Calls Try.prog 73 #[.pointer none] w (fun e w' => e = .returned (.bool false) ∧ w' = w) := by
  have HM := Lib.hid (madeNil_calls w)
  go_enter Try.func73, Try.ntmps73
  go_wp2_with fail
  refine HM.out.mono ?_
  rintro e wx ⟨rfl, hwx⟩
  obtain rfl := hwx.symm
  go_wp2
  go_ret
  exact ⟨rfl, rfl⟩
set_option maxRecDepth 100000 in
theorem requestNil_calls (s : ByteArray) (w : World) : Calls Try.prog 68 #[.pointer none, .string s] w (fun e w' => e = .returned (.tuple #[.slice none 0 0, .int .i64 1]) ∧ w' = w) := by
  have HM := Lib.hid (madeNil_calls w)
  go_enter Try.func68, Try.ntmps68
  go_wp2_with fail
  refine HM.out.mono ?_
  rintro e wx ⟨rfl, hwx⟩
  obtain rfl := hwx.symm
  go_wp2
  go_ret2
  exact ⟨rfl, rfl⟩
set_option maxRecDepth 100000 in
theorem askNil_calls (s : ByteArray) (w : World) : Calls Try.prog 75 #[.pointer none, .string s] w (fun e w' => e = .returned (.tuple #[.slice none 0 0, .int .i64 1]) ∧ w' = w) := by
  have HM := Lib.hid (madeNil_calls w)
  go_enter Try.func75, Try.ntmps75
  go_wp2_with fail
  refine HM.out.mono ?_
  rintro e wx ⟨rfl, hwx⟩
  obtain rfl := hwx.symm
  go_wp2
  go_ret2
  exact ⟨rfl, rfl⟩
set_option maxRecDepth 100000 in
theorem receiveNil_calls (s : ByteArray) (w : World) : Calls Try.prog 69 #[.pointer none, .string s] w (fun e w' => e = .returned (.bool false) ∧ w' = w) := by
  have HM := Lib.hid (madeNil_calls w)
  go_enter Try.func69, Try.ntmps69
  go_wp2_with fail
  refine HM.out.mono ?_
  rintro e wx ⟨rfl, hwx⟩
  obtain rfl := hwx.symm
  go_wp2
  go_ret
  exact ⟨rfl, rfl⟩
set_option maxRecDepth 100000 in
theorem answersNil_calls (w : World) : Calls Try.prog 72 #[.pointer none] w (fun e w' => e = .returned (.slice none 0 0) ∧ w' = w) := by
  have HM := Lib.hid (madeNil_calls w)
  go_enter Try.func72, Try.ntmps72
  go_wp2_with fail
  refine HM.out.mono ?_
  rintro e wx ⟨rfl, hwx⟩
  obtain rfl := hwx.symm
  go_wp2
  go_ret
  exact ⟨rfl, rfl⟩
set_option maxRecDepth 100000 in
theorem tickNil_calls (w : World) : Calls Try.prog 89 #[.pointer none] w (fun e w' => e = .returned (.slice none 0 0) ∧ w' = w) := by
  have HM := Lib.hid (madeNil_calls w)
  go_enter Try.func89, Try.ntmps89
  go_wp2_with fail
  refine HM.out.mono ?_
  rintro e wx ⟨rfl, hwx⟩
  obtain rfl := hwx.symm
  go_wp2
  go_ret
  exact ⟨rfl, rfl⟩

set_option maxHeartbeats 4000000 in
set_option maxRecDepth 100000 in
theorem newNil_calls (F C G P id : Int) (w : World) :
    Calls Try.prog 66 #[.agg #[.int .i64 F, .int .i64 C, .int .i64 G, .int .i64 P], .int .i64 id, .pointer none] w (fun e w' => e = .returned (.tuple #[.pointer none, .int .i64 1]) ∧ Below w.heap.size w w') := by
  have hA := (Below.refl w.heap.size w).alloc (Nat.le_refl _) (.cells #[.int .i64 F, .int .i64 C, .int .i64 G, .int .i64 P] 104)
  have HX := Lib.hid (Box.new w #[.int .i64 F, .int .i64 C, .int .i64 G, .int .i64 P] 104)
  have HA := Lib.hid hA
  have HF := Lib.hid (fun w => cfits_calls F C G P w)
  obtain ⟨k0, k1, k2, k3, -⟩ := Box.facts4 HX.out
  obtain ⟨fc, hfc⟩ : ∃ d, d = fitsC F C G P := ⟨_, rfl⟩
  rw [← hfc] at HF
  clear hA hfc
  go_enter Try.func66, Try.ntmps66
  go_wp2_with fail
  refine (HF.out _).mono ?_
  rintro e w1 ⟨rfl, hb1⟩
  have HX1 := Lib.hid (Box.call HX.out hb1)
  have HA1 := Lib.hid (HA.out.trans (hb1.mono HA.out.size))
  clear k0 k1 k2 k3 hb1
  obtain ⟨k0, k1, k2, k3, -⟩ := Box.facts4 HX1.out
  cases fc with
  | false =>
    go_wp2
    go_ret2
    exact ⟨rfl, HA1.out⟩
  | true =>
    by_cases h0 : id < 0
    · have hd0 : decide (id < 0) = true := by simpa using h0
      go_wp2
      go_ret2
      exact ⟨rfl, HA1.out⟩
    · have hd0 : decide (id < 0) = false := by simpa using h0
      by_cases h1 : C ≤ id
      · have hd2 : decide (C ≤ id) = true := by simpa using h1
        go_wp2
        go_ret2
        exact ⟨rfl, HA1.out⟩
      · have hd2 : decide (C ≤ id) = false := by simpa using h1
        have HD := Lib.hid (digest_no (.pointer none) ⟨#[]⟩ w1 (.inl rfl))
        go_wp2_with fail
        refine HD.out.mono ?_
        rintro e w2 ⟨rfl, rfl⟩
        go_wp2
        go_ret2
        exact ⟨rfl, HA1.out⟩

set_option maxHeartbeats 4000000 in
set_option maxRecDepth 100000 in
/-- No consortium, or no book: no argument. -/
theorem verifyArg_calls (F C G P : Int) (B : Option Addr) (key s : ByteArray) (w : World) (h : fitsC F C G P = false ∨ B = none) :
    Calls Try.prog 87 #[.agg #[.int .i64 F, .int .i64 C, .int .i64 G, .int .i64 P], .pointer B, .string key, .string s] w (fun e w' => e = .returned (.tuple #[.agg #[.int .i64 0, .string ⟨#[]⟩, .bool false], .int .i64 1]) ∧ Below w.heap.size w w') := by
  obtain ⟨W0, hW0⟩ : ∃ W0, W0 = (w.alloc (.cells #[.int .i64 F, .int .i64 C, .int .i64 G, .int .i64 P] 104)).alloc (.cells #[.int .i64 0, .string ⟨#[]⟩, .bool false] 149) := ⟨_, rfl⟩
  have hA := ((Below.refl w.heap.size w).alloc (Nat.le_refl _) (.cells #[.int .i64 F, .int .i64 C, .int .i64 G, .int .i64 P] 104)).alloc (by simp) (.cells #[.int .i64 0, .string ⟨#[]⟩, .bool false] 149)
  have HX0 := Lib.hid (show Box W0 w.heap.size #[.int .i64 F, .int .i64 C, .int .i64 G, .int .i64 P] 104 by rw [hW0]; exact (Box.new w _ _).alloc _)
  have HL := Lib.hid (show Box W0 (w.heap.size + 1) #[.int .i64 0, .string ⟨#[]⟩, .bool false] 149 by
    rw [hW0]
    have := Box.new (w.alloc (.cells #[.int .i64 F, .int .i64 C, .int .i64 G, .int .i64 P] 104)) #[.int .i64 0, .string ⟨#[]⟩, .bool false] 149
    simp only [World.size_alloc] at this
    exact this)
  have HA := Lib.hid (show Below w.heap.size w W0 by rw [hW0]; exact hA)
  have HWW := Lib.hid hW0
  have HF := Lib.hid (fun w => cfits_calls F C G P w)
  obtain ⟨fc, hfc⟩ : ∃ d, d = fitsC F C G P := ⟨_, rfl⟩
  rw [← hfc] at HF h
  obtain ⟨k0, k1, k2, k3, -⟩ := Box.facts4 HX0.out
  clear hA hW0 hfc
  go_enter Try.func87, Try.ntmps87
  go_wp2_with fail
  rw [← HWW.out]
  refine (HF.out _).mono ?_
  rintro e w1 ⟨rfl, hb1⟩
  have HL1 := Lib.hid (HL.out.call hb1)
  have HA1 := Lib.hid (HA.out.trans (hb1.mono HA.out.size))
  clear k0 k1 k2 k3 hb1
  obtain ⟨l0, l1, l2, g0, g1, g2⟩ := Box.facts3 HL1.out
  have hfin : ∀ (u v z : Value), Below w.heap.size w (((w1.setCell ⟨w.heap.size + 1, 0, none⟩ u).setCell ⟨w.heap.size + 1, 1, none⟩ v).setCell ⟨w.heap.size + 1, 2, none⟩ z) := fun u v z =>
    ((HA1.out.setCell (p := ⟨w.heap.size + 1, 0, none⟩) (Nat.le_succ _) u).setCell (p := ⟨w.heap.size + 1, 1, none⟩) (Nat.le_succ _) v).setCell (p := ⟨w.heap.size + 1, 2, none⟩) (Nat.le_succ _) z
  cases fc with
  | false =>
    go_wp2
    refine bodyPost_ret (v := .tuple #[.agg #[.int .i64 0, .string ⟨#[]⟩, .bool false], .int .i64 1]) (by simp [results, Try.results87, go_sem, l0, l1, l2]) rfl ?_
    exact ⟨rfl, hfin _ _ _⟩
  | true =>
    obtain rfl : B = none := h.resolve_left (by simp)
    have HD := Lib.hid (digest_no (.pointer none) ⟨#[]⟩ w1 (.inl rfl))
    go_wp2_with fail
    refine HD.out.mono ?_
    rintro e w2 ⟨rfl, rfl⟩
    go_wp2
    refine bodyPost_ret (v := .tuple #[.agg #[.int .i64 0, .string ⟨#[]⟩, .bool false], .int .i64 1]) (by simp [results, Try.results87, go_sem, l0, l1, l2]) rfl ?_
    exact ⟨rfl, hfin _ _ _⟩
end Go.Proofs.Ytfgpchffkpomoaa

/- The document's own reading of bytes as a message. -/
namespace Go.Proofs.Ytfgpchffkpomoaa
set_option linter.unusedSimpArgs false
set_option linter.unusedVariables false
open Go.RowKit

set_option maxRecDepth 100000 in
theorem rofSg_calls (s : ByteArray) (w : World) (hs : s.size ≤ maxLen) : Calls Try.prog 88 #[.string s] w (OfSgPost (ofSg s) w) := by
  have HS := Lib.hid hs
  have HST := Lib.hid (St.mk ((Below.refl w.heap.size w).alloc (Nat.le_refl _) _) (Box.new w #[.int .i64 0, .string ⟨#[]⟩, .string ⟨#[]⟩] 61))
  by_cases h : 2097152 < s.size
  · unfold maxLen at hs
    have HG := Lib.hid (show ofSg s = (zeroSg, 4) by unfold ofSg; rw [if_pos h])
    have hd : decide ((2097152 : Int) < (s.size : Int)) = true := by simp; omega
    go_enter Try.func88, Try.ntmps88
    go_wp2_with fail
    obtain ⟨d0, d1, d2, _⟩ := (Box.new w #[.int .i64 0, .string ⟨#[]⟩, .string ⟨#[]⟩] 61).facts3
    refine bodyPost_ret (v := .tuple #[.agg #[.int .i64 0, .string ⟨#[]⟩, .string ⟨#[]⟩], .int .i64 4]) (by simp [results, Try.results88, go_sem]) rfl ?_
    unfold OfSgPost
    rw [HG.out]
    exact ⟨rfl, HST.out.b⟩
  · have HG := Lib.hid (ofSg_short_eq h)
    have hd : decide ((2097152 : Int) < (s.size : Int)) = false := by simp; omega
    have HSG := Lib.hid (fun w => rSigned_calls s 0 w hs (Nat.zero_le _))
    unfold SgnPost at HSG
    clear hs
    cases hx : signed s 0 with
    | error c =>
      rw [hx] at HG HSG
      simp only at HG HSG
      have hd3 : ((c : Int) == 0) = false := by rcases signed_err hx with rfl | rfl | rfl <;> rfl
      clear hx
      go_enter Try.func88, Try.ntmps88
      go_wp2_with fail
      refine (HSG.out _).mono ?_
      rintro e w1 ⟨hb, ⟨who, body, sig⟩, rfl⟩
      have HST1 := Lib.hid ((HST.out.call (Nat.le_refl _) hb).alloc (Nat.le_refl _) (.cells #[.int .i64 who, .string body, .string sig] 61))
      clear hb HST
      have HST := HST1
      clear HST1
      obtain ⟨_, _, _, f0, f1, f2⟩ := HST.out.x.facts3
      simp only [Sg.val]
      go_wp2_with fail
      have hst := HST.out.fill3 (Nat.le_refl _) (x := .int .i64 0) (y := .string ⟨#[]⟩) (z := .string ⟨#[]⟩)
      obtain ⟨d0, d1, d2, _⟩ := hst.x.facts3
      refine bodyPost_ret (v := .tuple #[.agg #[.int .i64 0, .string ⟨#[]⟩, .string ⟨#[]⟩], .int .i64 c]) (by simp [results, Try.results88, go_sem, d0, d1, d2]) rfl ?_
      unfold OfSgPost
      rw [HG.out]
      exact ⟨rfl, hst.b⟩
    | ok r =>
      obtain ⟨⟨who, body, sig⟩, p⟩ := r
      have hb := (signed_bd hx).2
      rw [hx] at HG HSG
      simp only [Sg.val] at HG HSG
      have HFIT := Lib.hid (rfits_calls ⟨who, body, sig⟩)
      unfold Sg.val at HFIT
      simp only at HFIT
      clear hx
      go_enter Try.func88, Try.ntmps88
      go_wp2_with fail
      refine (HSG.out _).mono ?_
      rintro e w1 ⟨hb1, rfl⟩
      have HBX := Lib.hid (Box.new w1 #[.int .i64 who, .string body, .string sig] 61)
      have HST1 := Lib.hid ((HST.out.call (Nat.le_refl _) hb1).alloc (Nat.le_refl _) (.cells #[.int .i64 who, .string body, .string sig] 61))
      clear hb1 HST
      have HST := HST1
      clear HST1
      obtain ⟨_, _, _, f0, f1, f2⟩ := HST.out.x.facts3
      by_cases hend : p < s.size
      · have hd4 : decide ((p : Int) < (s.size : Int)) = true := by simp; omega
        rw [if_pos hend] at HG
        go_wp2_with fail
        have hst := HST.out.fill3 (Nat.le_refl _) (x := .int .i64 0) (y := .string ⟨#[]⟩) (z := .string ⟨#[]⟩)
        obtain ⟨d0, d1, d2, _⟩ := hst.x.facts3
        refine bodyPost_ret (v := .tuple #[.agg #[.int .i64 0, .string ⟨#[]⟩, .string ⟨#[]⟩], .int .i64 12]) (by simp [results, Try.results88, go_sem, d0, d1, d2]) rfl ?_
        unfold OfSgPost
        rw [HG.out]
        exact ⟨rfl, hst.b⟩
      · have hd4 : decide ((p : Int) < (s.size : Int)) = false := by simp; omega
        rw [if_neg hend] at HG
        go_wp2_with fail
        refine (HFIT.out _).mono ?_
        rintro e w2 ⟨rfl, hb2⟩
        have HBX2 := Lib.hid (HBX.out.call hb2)
        have HST2 := Lib.hid (HST.out.call (Nat.le_refl _) hb2)
        clear hb2 HST HBX f0 f1 f2
        have HST := HST2
        clear HST2
        obtain ⟨_, _, _, f0, f1, f2⟩ := HST.out.x.facts3
        obtain ⟨b0, b1, b2, _⟩ := HBX2.out.facts3
        cases hft : fitsB ⟨who, body, sig⟩ with
        | true =>
          rw [hft] at HG
          simp only [if_true] at HG
          clear hft
          go_wp2_with fail
          have hst := HST.out.fill3 (Nat.le_refl _) (x := .int .i64 who) (y := .string body) (z := .string sig)
          obtain ⟨d0, d1, d2, _⟩ := hst.x.facts3
          refine bodyPost_ret (v := .tuple #[.agg #[.int .i64 who, .string body, .string sig], .int .i64 0]) (by simp [results, Try.results88, go_sem, d0, d1, d2]) rfl ?_
          unfold OfSgPost
          rw [HG.out]
          exact ⟨rfl, hst.b⟩
        | false =>
          rw [hft] at HG
          simp only [Bool.false_eq_true, if_false] at HG
          clear hft
          go_wp2_with fail
          have hst := HST.out.fill3 (Nat.le_refl _) (x := .int .i64 0) (y := .string ⟨#[]⟩) (z := .string ⟨#[]⟩)
          obtain ⟨d0, d1, d2, _⟩ := hst.x.facts3
          refine bodyPost_ret (v := .tuple #[.agg #[.int .i64 0, .string ⟨#[]⟩, .string ⟨#[]⟩], .int .i64 14]) (by simp [results, Try.results88, go_sem, d0, d1, d2]) rfl ?_
          unfold OfSgPost
          rw [HG.out]
          exact ⟨rfl, hst.b⟩
end Go.Proofs.Ytfgpchffkpomoaa
