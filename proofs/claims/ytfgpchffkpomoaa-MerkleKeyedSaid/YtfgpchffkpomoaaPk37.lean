/- Texts of this proof, several in one file; each says ahead of it what it proves. -/
import Derived.Test.YtfgpchffkpomoaaShaM
import Derived.Test.YtfgpchffkpomoaaPk29
import Derived.Test.YtfgpchffkpomoaaPk02
/- A hash that takes bytes: what stands in memory; a new one: the walks. -/
namespace Go.Proofs.Ytfgpchffkpomoaa
set_option linter.unusedSimpArgs false
set_option linter.unusedVariables false
open Go.RowKit

theorem Box.cells_out {w : World} {k : Nat} {cs : Array Value} {T : TypeId} (vs : List Value) (o : Nat) (_h : Box w k cs T) (i : Nat) (hi : i < o ∨ o + vs.length ≤ i) : (w.setCells k o vs).cell? ⟨k, i, none⟩ = w.cell? ⟨k, i, none⟩ :=
  World.cell?_setCells_out k vs o w ⟨k, i, none⟩ (fun _ _ => hi)
def hashA (v : Oct) (R : Option Addr) (n c z : Nat) : Array Value := #[.bool true, wv v.a, wv v.b, wv v.c, wv v.d, wv v.e, wv v.f, wv v.g, wv v.h, .slice R n c, .int .u64 (z : Int)]
theorem hash_range {w : World} {x : Nat} {v : Oct} {R : Option Addr} {n c z : Nat} (h : Box w x (hashA v R n c z) 290) : w.rangeAt x 1 (octA v).toList := fun j u hj => by
  rw [h.cell (1 + j)]
  have hl : j < 8 := (List.getElem?_eq_some_iff.1 hj).1
  have h8 : j = 0 ∨ j = 1 ∨ j = 2 ∨ j = 3 ∨ j = 4 ∨ j = 5 ∨ j = 6 ∨ j = 7 := by omega
  rcases h8 with rfl | rfl | rfl | rfl | rfl | rfl | rfl | rfl <;> exact hj
theorem hash_there {w : World} {x : Nat} {v : Oct} {R : Option Addr} {n c z : Nat} (h : Box w x (hashA v R n c z) 290) : w.there x 1 8 := fun j hj => by
  rw [h.cell (1 + j), h.free (1 + j)]
  have h8 : j = 0 ∨ j = 1 ∨ j = 2 ∨ j = 3 ∨ j = 4 ∨ j = 5 ∨ j = 6 ∨ j = 7 := by omega
  rcases h8 with rfl | rfl | rfl | rfl | rfl | rfl | rfl | rfl <;> exact ⟨rfl, rfl⟩
/-- Another state in a hash. -/
theorem hash_state {w : World} {x : Nat} {v u : Oct} {R : Option Addr} {n c z : Nat} (h : Box w x (hashA v R n c z) 290) : Box (w.setCells x 1 (octA u).toList) x (hashA u R n c z) 290 := by
  obtain ⟨ds, h1, h2, h3, h4⟩ := Box.setCells (octA u).toList 1 (hashA v R n c z) h (by show 1 + 8 ≤ 11; omega)
  have h9 : ds[9]? = some (.slice R n c) ∧ ds[10]? = some (.int .u64 (z : Int)) := by
    have e := (Box.cells_out (octA u).toList 1 h)
    exact ⟨by rw [← h1.cell 9, e 9 (.inr (by show 1 + 8 ≤ 9; omega)), h.cell 9]; rfl, by rw [← h1.cell 10, e 10 (.inr (by show 1 + 8 ≤ 10; omega)), h.cell 10]; rfl⟩
  have e : ds = hashA u R n c z := by
    refine Array.ext_getElem? fun i => ?_
    rcases Nat.lt_or_ge i 11 with hi | hi
    · have hj : i = 0 ∨ (∃ j, i = 1 + j ∧ j < 8) ∨ i = 9 ∨ i = 10 := by
        rcases Nat.eq_zero_or_pos i with h0 | h0
        · exact .inl h0
        · rcases Nat.lt_or_ge i 9 with h5 | h5
          · exact .inr (.inl ⟨i - 1, by omega, by omega⟩)
          · omega
      rcases hj with rfl | ⟨j, rfl, hj⟩ | rfl | rfl
      · rw [h3 0 (by omega)]; rfl
      · rw [h4 j (by show j < 8; exact hj)]
        have h8 : j = 0 ∨ j = 1 ∨ j = 2 ∨ j = 3 ∨ j = 4 ∨ j = 5 ∨ j = 6 ∨ j = 7 := by omega
        rcases h8 with rfl | rfl | rfl | rfl | rfl | rfl | rfl | rfl <;> rfl
      · rw [h9.1]; rfl
      · rw [h9.2]; rfl
    · rw [Array.getElem?_eq_none (by rw [h2]; exact hi), Array.getElem?_eq_none (by show 11 ≤ i; exact hi)]
  rw [← e]
  exact h1
theorem oct0_is : octA oct0 = #[.int .u32 1779033703, .int .u32 3144134277, .int .u32 1013904242, .int .u32 2773480762, .int .u32 1359893119, .int .u32 2600822924, .int .u32 528734635, .int .u32 1541459225] := rfl
set_option maxRecDepth 100000 in
theorem begin_calls (w : World) : Calls Try.prog 225 #[] w fun e w' => e = .returned (.agg #[.int .u32 1779033703, .int .u32 3144134277, .int .u32 1013904242, .int .u32 2773480762, .int .u32 1359893119, .int .u32 2600822924, .int .u32 528734635, .int .u32 1541459225]) ∧ Below w.heap.size w w' := by
  have hb := Box.new w #[.int .u32 1779033703, .int .u32 3144134277, .int .u32 1013904242, .int .u32 2773480762, .int .u32 1359893119, .int .u32 2600822924, .int .u32 528734635, .int .u32 1541459225] 286
  obtain ⟨c0, c1, c2, c3, c4, c5, c6, c7, -⟩ := hb.facts8
  clear hb
  go_enter Try.func225, Try.ntmps225
  go_wp2
  refine bodyPost_ret (v := .agg #[.int .u32 1779033703, .int .u32 3144134277, .int .u32 1013904242, .int .u32 2773480762, .int .u32 1359893119, .int .u32 2600822924, .int .u32 528734635, .int .u32 1541459225]) (by simp [results, Try.results225, go_sem, c0, c1, c2, c3, c4, c5, c6, c7]) rfl ⟨rfl, (Below.refl _ _).alloc (Nat.le_refl _) _⟩
set_option maxRecDepth 100000 in
theorem hnew_calls (w : World) : Calls Try.prog 222 #[] w fun e w' => ∃ x, e = .returned (.pointer (some ⟨x, 0, none⟩)) ∧ Below w.heap.size w w' ∧ w.heap.size ≤ x ∧ Box w' x (hashA oct0 none 0 0 0) 290 := by
  have HB := Lib.hid (fun w => begin_calls w)
  go_enter Try.func222, Try.ntmps222
  go_wp2_with fail
  refine (HB.out _).mono ?_
  rintro e w1 ⟨rfl, hb1⟩
  have HB1 := Lib.hid hb1
  clear hb1
  go_wp2
  go_ret
  exact ⟨w1.heap.size, rfl, HB1.out.alloc HB1.out.size _, HB1.out.size, Box.new w1 _ _⟩
theorem yieldsIf_rest {P : Program} {ops : Array Oper} {S : World → Prop} {op : Oper} {a : Act} {ty : TypeId} {x : Operand} {p : Addr} {v : Value} (hw : Region.wanted op (yielded ops a.tmps) = true) (ho : (∀ w, w.cell? p = some v → (execOp a.eval op).run P w = .ok (.value v) w)) (hS : ∀ w, S w → w.cell? p = some v) : YieldsIf P ops S op v a :=
  .inl ⟨hw, fun w h => ho w (hS w h)⟩
/-- What a hash holds behind some blocks. -/
theorem own_cap8 {w : World} {base n : Nat} {e : TypeId} {size : Nat} {A : Option Addr} {c : Nat} {xs : List Value} (h : w.ownsRow base e size (.slice A n c) n xs) : n ≤ c := by
  rcases h.2 with ⟨hv, rfl⟩ | ⟨g, cap, cur, hv, _, _, hnc, _⟩
  · omega
  · obtain ⟨rfl, rfl⟩ : A = some ⟨g, 0, none⟩ ∧ c = cap := by simpa using hv
    exact hnc
theorem ch_setCells {B k : Nat} {S : Nat → Prop} (hS : B ≤ k ∨ S k) : ∀ (vs : List Value) (o : Nat) (w : World), Ch B S w (w.setCells k o vs)
  | [], _, w => Ch.refl _ _ _
  | v :: vs, o, w => ((Ch.refl B S w).setCell (p := ⟨k, o, none⟩) hS v).trans (ch_setCells hS vs (o + 1) _)
structure Taken (L : List UInt8) (x j : Nat) (R : Option Addr) (n c : Nat) (w : World) : Prop where
  box : Box w x (hashA (foldB oct0 (L.take (64 * j))) R n c L.length) 290
  sl : Sl w 1 R n c ((L.drop (64 * j)).map byteVal)
  cap : n ≤ c
  off : ∀ k, Row R k → k ≠ x
  len : n + 64 * j = L.length
set_option maxHeartbeats 4000000 in
set_option maxRecDepth 100000 in
theorem hwrite_calls (x : Nat) (s : ByteArray) (w : World) (hb : Box w x (hashA oct0 none 0 0 0) 290) (hs : s.size ≤ 140737488351232) :
    Calls Try.prog 223 #[.pointer (some ⟨x, 0, none⟩), .string s] w fun e w' => e = .returned (.tuple #[]) ∧ Ch w.heap.size (· = x) w w' ∧ ∃ R n c, Taken s.data.toList x (s.data.toList.length / 64) R n c w' := by
  have HB := Lib.hid hb
  have c0 := hb.cell 0
  have c9 := hb.cell 9
  have c10 := hb.cell 10
  have f9 := hb.free 9
  have f10 := hb.free 10
  rw [show (hashA oct0 none 0 0 0)[0]? = some (.bool true) from rfl] at c0
  rw [show (hashA oct0 none 0 0 0)[9]? = some (.slice none 0 0) from rfl] at c9
  rw [show (hashA oct0 none 0 0 0)[10]? = some (.int .u64 ((0 : Nat) : Int)) from rfl] at c10
  have hlt := hb.lt
  have hu : IntKind.u64.wrap (s.size : Int) = (s.size : Int) := by simp [IntKind.wrap, IntKind.bits, IntKind.signed]; omega
  clear hb
  go_enter Try.func223, Try.ntmps223
  have HL := Lib.hid (show s.data.toList.length = s.size by simp)
  obtain ⟨L, hL⟩ : ∃ L, L = s.data.toList := ⟨_, rfl⟩
  rw [← hL] at HL
  have HLL := Lib.hid hL
  have HB0 := Lib.hid (HB.out.set 10 (.int .u64 (s.size : Int)))
  clear hL
  go_wp2_with (at_builtin; refine app_str rfl (.tmp 27) (.tmp 28) rfl w.heap.size none 0 [] rfl ⟨rfl, .inl ⟨rfl, rfl⟩⟩ s rfl ?hl ?hb ?_; (case hl => simp; omega); (case hb => simp); intro A1 c1 w1 ho1 hc1 hA1; rw [← HLL.out, List.nil_append] at ho1; have HO1 := Lib.hid ho1; have HC1 := Lib.hid hc1; have HX1 := Lib.hid (show Box w1 x (hashA oct0 none 0 0 s.size) 290 from HB0.out.ch hc1 (by simpa using hlt) (fun h => by cases h)); have f1 := HX1.out.free 9; have g9 := HX1.out.cell 9; rw [show (hashA oct0 none 0 0 s.size)[9]? = some (.slice none 0 0) from rfl] at g9; clear c0 c9 c10 f9 f10 ho1 hc1 hA1)
  have HX1 := Lib.hid (show Box w1 x (hashA oct0 none 0 0 s.size) 290 from HX1.out)
  have HT0 : Hid (Taken L x 0 A1 L.length c1 (w1.setCell ⟨x, 9, none⟩ (.slice A1 s.size c1)) ∧ Ch w.heap.size (· = x) w (w1.setCell ⟨x, 9, none⟩ (.slice A1 s.size c1)) ∧ ∀ k, Row A1 k → w.heap.size ≤ k) := by
    refine Lib.hid ?_
    have hrow : ∀ k, Row A1 k → w.heap.size ≤ k := fun k hk => (own_row HO1.out hk).1
    have hcs := Ch.setCell (Ch.refl w1.heap.size (· = x) w1) (p := ⟨x, 9, none⟩) (.inr rfl) (.slice A1 s.size c1)
    refine ⟨⟨?_, ?_, own_cap8 HO1.out, fun k hk => by have := hrow k hk; omega, by omega⟩, ?_, hrow⟩
    · rw [Nat.mul_zero, List.take_zero, foldB_less (by simp), HL.out]
      exact HX1.out.set 9 _
    · rw [Nat.mul_zero, List.drop_zero]
      exact (Sl.of_own HO1.out).ch hcs (fun k hk hlt2 => ⟨hlt2, by have := hrow k hk; omega⟩)
    · have h1 := ((Ch.refl w.heap.size (· = x) w).setCell (p := ⟨x, 10, none⟩) (.inr rfl) (.int .u64 (s.size : Int)))
      have h2 := HC1.out.size
      refine ((h1.step HC1.out (by simp) (fun i hi e => by cases e)).setCell (p := ⟨x, 9, none⟩) (.inr rfl) _)
  clear f1 g9 HB0 HB
  obtain ⟨z, hz⟩ : ∃ z, z = L.length := ⟨_, rfl⟩
  go_loopg [] (L.length / 64) (fun g wr => ∃ (j : Nat) (R : Option Addr) (n c : Nat), Hid (g + j = L.length / 64 ∧ Taken L x j R n c wr ∧ Ch w.heap.size (· = x) w wr ∧ ∀ k, Row R k → w.heap.size ≤ k))
  case atStart => exact ⟨0, A1, L.length, c1, rfl, HT0.out.1, HT0.out.2.1, HT0.out.2.2⟩
  case round =>
    clear HT0 HO1 HC1 HX1
    obtain ⟨j, R, n, c, HH⟩ := hrel
    obtain ⟨hg, ht, hch, hrow⟩ := HH.out
    have HG := Lib.hid hg
    have HT := Lib.hid ht
    have HCH := Lib.hid hch
    have HROW := Lib.hid hrow
    clear HH hg ht hch hrow
    obtain ⟨V, hV⟩ : ∃ V, V = foldB oct0 (L.take (64 * j)) := ⟨_, rfl⟩
    have HX := Lib.hid (show Box wr x (hashA V R n c z) 290 by rw [hV, hz]; exact HT.out.box)
    have HV := Lib.hid hV
    have hnl := HT.out.len
    have hfit := HT.out.sl.fits
    have hcap := HT.out.cap
    have hxw := HX.out.lt
    have g9 : wr.cell? ⟨x, 9, none⟩ = some (.slice R n c) := HX.out.cell 9
    clear hV
    by_cases hlt : 64 ≤ n
    · obtain ⟨a, rfl⟩ : ∃ a, R = some a := by
        obtain ⟨a, e, _⟩ := HT.out.sl.at_ 0 (byteVal ((L.drop (64 * j))[0]'(by rw [List.length_drop]; omega))) (by rw [List.getElem?_map, List.getElem?_eq_getElem (by rw [List.length_drop]; omega)]; rfl)
        exact ⟨a, e⟩
      obtain ⟨Lb, hLb⟩ : ∃ Lb, Lb = (L.drop (64 * j)).take 64 := ⟨_, rfl⟩
      have hLl : Lb.length = 64 := by rw [hLb, List.length_take, List.length_drop]; omega
      have hsl : Sl wr.drew 1 (some a) 64 c (Lb.map byteVal) := by
        refine ⟨by rw [List.length_map, hLl], by omega, fun i u hi => ?_⟩
        refine HT.out.sl.at_ i u ?_
        rw [hLb, List.map_take, List.getElem?_take] at hi
        split at hi
        · exact hi
        · cases hi
      have HMX := Lib.hid (mix_calls V (some a) c Lb wr.drew hLl hsl)
      have HLB := Lib.hid hLb
      have hXD := HX.out.drew
      have i0 : (64 : Int) ≤ (n : Int) := by omega
      have i1 : (64 : Int) ≤ (c : Int) := by omega
      have hd6 : decide ((64 : Int) ≤ (n : Int)) = true := by simp; omega
      clear hLb hLl hsl
      go_wp2_with fail
      refine AnyP.start [13] (fun w' => Box w' x (hashA V (some a) n c z) 290) (by kernel_rfl) hXD (n := 14) (listed := #[false, false, false, false, false, false, false, false, false, false, false, false, false, false]) (by kernel_rfl) (by kernel_rfl) (fun hHeld => ?_)
      refine AnyP.take (i := 0) (fuel := 13) (d := some 38) (listed' := #[true, false, false, false, false, false, false, false, false, false, false, false, false, false]) (oi := _) (v := ?v0w) rfl (by kernel_rfl) (by kernel_rfl) (by kernel_rfl) (fun _ _ _ h => h) (Or.inl ⟨by rfl, ?hy0w⟩) (by rfl) (by rfl) ?rest0w
      case hy0w => intro w; go_simp; try with_reducible rfl
      try simp only [Act.put, List.setIfInBounds_toArray, List.set_cons_zero, List.set_cons_succ]
      refine AnyP.take (i := 1) (fuel := 12) (d := some 39) (listed' := #[true, true, false, false, false, false, false, false, false, false, false, false, false, false]) (oi := _) (v := ?v1w) rfl (by kernel_rfl) (by kernel_rfl) (by kernel_rfl) (fun _ _ _ h => h) (Or.inl ⟨by rfl, ?hy1w⟩) (by rfl) (by rfl) ?rest1w
      case hy1w => intro w; go_simp; try with_reducible rfl
      try simp only [Act.put, List.setIfInBounds_toArray, List.set_cons_zero, List.set_cons_succ]
      refine AnyP.take (i := 2) (fuel := 11) (d := some 40) (listed' := #[true, true, true, false, false, false, false, false, false, false, false, false, false, false]) (oi := _) (v := ?v2w) rfl (by kernel_rfl) (by kernel_rfl) (by kernel_rfl) (fun _ _ _ h => h) (Or.inl ⟨by rfl, ?hy2w⟩) (by rfl) (by rfl) ?rest2w
      case hy2w => intro w; go_simp; try with_reducible rfl
      try simp only [Act.put, List.setIfInBounds_toArray, List.set_cons_zero, List.set_cons_succ]
      refine AnyP.take (i := 3) (fuel := 10) (d := some 41) (listed' := #[true, true, true, true, false, false, false, false, false, false, false, false, false, false]) (oi := _) (v := ?v3w) rfl (by kernel_rfl) (by kernel_rfl) (by kernel_rfl) (fun _ _ _ h => h) (Or.inl ⟨by rfl, ?hy3w⟩) (by rfl) (by rfl) ?rest3w
      case hy3w => intro w; go_simp; try with_reducible rfl
      try simp only [Act.put, List.setIfInBounds_toArray, List.set_cons_zero, List.set_cons_succ]
      refine AnyP.load (i := 4) (fuel := 9) (d := some 42) (listed' := #[true, true, true, true, true, false, false, false, false, false, false, false, false, false]) (oi := _) (v := .agg (octA V).toList.toArray) [13] rfl (by kernel_rfl) (by kernel_rfl) (by kernel_rfl) (by kernel_rfl) (by kernel_rfl) (by kernel_rfl) (fun _ _ _ h => h) (yieldsIf_load_mid (by rfl) _ _ rfl x 1 rfl (octA V).toList _ (fun _ h => hash_range h) Try.underlying286 rfl size8u) hHeld (by rfl) (by rfl) ?rest4w
      try simp only [Act.put, List.setIfInBounds_toArray, List.set_cons_zero, List.set_cons_succ, Array.toArray_toList]
      refine AnyP.take (i := 5) (fuel := 8) (d := some 43) (listed' := #[true, true, true, true, true, true, false, false, false, false, false, false, false, false]) (oi := _) (v := ?v5w) rfl (by kernel_rfl) (by kernel_rfl) (by kernel_rfl) (fun _ _ _ h => h) (Or.inl ⟨by rfl, ?hy5w⟩) (by rfl) (by rfl) ?rest5w
      case hy5w => intro w; go_simp; try with_reducible rfl
      try simp only [Act.put, List.setIfInBounds_toArray, List.set_cons_zero, List.set_cons_succ]
      refine AnyP.take (i := 6) (fuel := 7) (d := some 44) (listed' := #[true, true, true, true, true, true, true, false, false, false, false, false, false, false]) (oi := _) (v := ?v6w) rfl (by kernel_rfl) (by kernel_rfl) (by kernel_rfl) (fun _ _ _ h => h) (Or.inl ⟨by rfl, ?hy6w⟩) (by rfl) (by rfl) ?rest6w
      case hy6w => intro w; go_simp; try with_reducible rfl
      try simp only [Act.put, List.setIfInBounds_toArray, List.set_cons_zero, List.set_cons_succ]
      refine AnyP.take (i := 7) (fuel := 6) (d := some 45) (listed' := #[true, true, true, true, true, true, true, true, false, false, false, false, false, false]) (oi := _) (v := ?v7w) rfl (by kernel_rfl) (by kernel_rfl) (by kernel_rfl) (fun _ _ _ h => h) (Or.inl ⟨by rfl, ?hy7w⟩) (by rfl) (by rfl) ?rest7w
      case hy7w => intro w; go_simp; try with_reducible rfl
      try simp only [Act.put, List.setIfInBounds_toArray, List.set_cons_zero, List.set_cons_succ]
      refine AnyP.load (i := 8) (fuel := 5) (d := some 46) (listed' := #[true, true, true, true, true, true, true, true, true, false, false, false, false, false]) (oi := _) (v := ?v8w) [13] rfl (by kernel_rfl) (by kernel_rfl) (by kernel_rfl) (by kernel_rfl) (by kernel_rfl) (by kernel_rfl) (fun _ _ _ h => h) (Or.inl ⟨by rfl, ?hy8w⟩) hHeld (by rfl) (by rfl) ?rest8w
      case hy8w => intro w hSw; (try dsimp only at hSw); have c9 : w.cell? ⟨x, 9, none⟩ = some (.slice (some a) n c) := hSw.cell 9; clear hSw; go_simp; try with_reducible rfl
      try simp only [Act.put, List.setIfInBounds_toArray, List.set_cons_zero, List.set_cons_succ]
      refine AnyP.take (i := 9) (fuel := 4) (d := some 47) (listed' := #[true, true, true, true, true, true, true, true, true, true, false, false, false, false]) (oi := _) (v := ?v9w) rfl (by kernel_rfl) (by kernel_rfl) (by kernel_rfl) (fun _ _ _ h => h) (Or.inl ⟨by rfl, ?hy9w⟩) (by rfl) (by rfl) ?rest9w
      case hy9w => intro w; go_simp; try with_reducible rfl
      try simp only [Act.put, List.setIfInBounds_toArray, List.set_cons_zero, List.set_cons_succ]
      refine AnyP.one (i := 10) (o := ?o10w) (fuel := 3) (listed' := #[true, true, true, true, true, true, true, true, true, true, true, false, false, false]) (by kernel_rfl) ?ho10w (by rfl) (fun K' hK' => ?step10w)
      case ho10w => simp only [List.getElem?_toArray, List.getElem?_cons_succ, List.getElem?_cons_zero]; rfl
      go_simp
      go_at_call 226
      refine HMX.out.mono ?_
      rintro e w2 ⟨rfl, hb2⟩
      have HB2 := Lib.hid hb2
      have HX2 := Lib.hid (hXD.past hb2)
      clear hb2
      go_wp2_with fail
      refine hK'.out _ _ (fun _ => HX2.out) (fun hHeld => ?_)
      clear hK' K'
      try simp only [Act.put, List.setIfInBounds_toArray, List.set_cons_zero, List.set_cons_succ]
      refine AnyP.take (i := 11) (fuel := 2) (d := some 49) (listed' := #[true, true, true, true, true, true, true, true, true, true, true, true, false, false]) (oi := _) (v := ?v11w) rfl (by kernel_rfl) (by kernel_rfl) (by kernel_rfl) (fun _ _ _ h => h) (Or.inl ⟨by rfl, ?hy11w⟩) (by rfl) (by rfl) ?rest11w
      case hy11w => intro w; go_simp; try with_reducible rfl
      try simp only [Act.put, List.setIfInBounds_toArray, List.set_cons_zero, List.set_cons_succ]
      refine AnyP.take (i := 12) (fuel := 1) (d := some 50) (listed' := #[true, true, true, true, true, true, true, true, true, true, true, true, true, false]) (oi := _) (v := ?v12w) rfl (by kernel_rfl) (by kernel_rfl) (by kernel_rfl) (fun _ _ _ h => h) (Or.inl ⟨by rfl, ?hy12w⟩) (by rfl) (by rfl) ?rest12w
      case hy12w => intro w; go_simp; try with_reducible rfl
      try simp only [Act.put, List.setIfInBounds_toArray, List.set_cons_zero, List.set_cons_succ]
      refine AnyP.one (i := 13) (o := ?o13w) (fuel := 0) (listed' := #[true, true, true, true, true, true, true, true, true, true, true, true, true, true]) (by kernel_rfl) ?ho13w (by rfl) (fun K' hK' => ?step13w)
      case ho13w => simp only [List.getElem?_toArray, List.getElem?_cons_succ, List.getElem?_cons_zero]; rfl
      rw [if_pos (by rfl)]
      refine wp_store_mid _ _ _ rfl x 1 (octA (mixO V (wordAt Lb))) rfl rfl (hash_there HX2.out) size8u (octA_one _) ?_
      refine hK'.out _ _ (fun h => absurd (by decide) h) (fun hHeld => ?_)
      clear hK' K'
      try simp only [Act.put, List.setIfInBounds_toArray, List.set_cons_zero, List.set_cons_succ]
      refine AnyP.done (by kernel_rfl) ?_ _
      have HX3 := Lib.hid (hash_state (u := mixO V (wordAt Lb)) HX2.out)
      have HC3 := Lib.hid (show Ch w.heap.size (· = x) w (w2.setCells x 1 (octA (mixO V (wordAt Lb))).toList) from (HCH.out.drew.step (Ch.of_below (S := fun _ => False) HB2.out) (by have := HCH.out.size; simpa using this) (fun _ _ e => e.elim)).trans (ch_setCells (S := (· = x)) (.inr rfl) _ _ _))
      have hsl3 := (show Sl wr.drew 1 (some a) n c ((L.drop (64 * j)).map byteVal) from ⟨HT.out.sl.len, HT.out.sl.fits, HT.out.sl.at_⟩).ch ((Ch.of_below (B := wr.heap.size) (S := (· = x)) HB2.out).trans (ch_setCells (k := x) (S := (· = x)) (.inr rfl) (octA (mixO V (wordAt Lb))).toList 1 w2)) (fun k hk h => ⟨h, HT.out.off k hk⟩)
      have HS3 := Lib.hid hsl3
      obtain ⟨W3, hW3⟩ : ∃ W3, W3 = w2.setCells x 1 (octA (mixO V (wordAt Lb))).toList := ⟨_, rfl⟩
      rw [← hW3] at HX3 HC3 HS3 ⊢
      clear hW3 hsl3 hXD HMX HB2 HX2
      have g9 : W3.cell? ⟨x, 9, none⟩ = some (.slice (some a) n c) := HX3.out.cell 9
      have f9 := HX3.out.free 9
      have hnn : n - 64 + 64 * (j + 1) = L.length := by omega
      have hfold : foldB oct0 (L.take (64 * (j + 1))) = mixO V (wordAt Lb) := by
        rw [show 64 * (j + 1) = 64 * j + 64 by omega, List.take_add, foldB_append _ _ _ (by rw [List.length_take]; omega), ← HV.out, ← HLB.out, foldB_more (by rw [HLB.out, List.length_take, List.length_drop]; omega), foldB_less (by rw [List.length_drop, HLB.out, List.length_take]; omega)]
      have HFO := Lib.hid hfold
      have hdr : L.drop (64 * (j + 1)) = (L.drop (64 * j)).drop 64 := by rw [List.drop_drop]; congr 1
      have HDR := Lib.hid hdr
      have HNN := Lib.hid hnn
      have hjn : j + 1 ≤ L.length / 64 := by omega
      clear hfold hdr hnn hnl
      by_cases hc64 : c = 64
      · subst hc64
        obtain rfl : n = 64 := by omega
        go_wp2_with fail
        go_roundg (L.length / 64 - (j + 1))
        case measure => have := HG.out; omega
        case rel =>
          have hcs := Ch.setCell (Ch.refl W3.heap.size (· = x) W3) (p := ⟨x, 9, none⟩) (.inr rfl) (.slice (some a) 0 0)
          refine ⟨j + 1, some a, 0, 0, by omega, ⟨?_, ?_, by omega, HT.out.off, by have := HNN.out; omega⟩, HC3.out.setCell (p := ⟨x, 9, none⟩) (.inr rfl) _, HROW.out⟩
          · rw [HFO.out, ← hz]
            exact HX3.out.set 9 _
          · have e : L.drop (64 * (j + 1)) = [] := List.eq_nil_of_length_eq_zero (by rw [List.length_drop]; have := HNN.out; omega)
            rw [e]
            exact ⟨rfl, by omega, fun i u hi => by simp at hi⟩
      · have hc2 : ((c : Int) - 64) = ((c - 64 : Nat) : Int) := by omega
        go_wp2_with fail
        go_roundg (L.length / 64 - (j + 1))
        case measure => have := HG.out; omega
        case rel =>
          have hcs := Ch.setCell (Ch.refl W3.heap.size (· = x) W3) (p := ⟨x, 9, none⟩) (.inr rfl) (.slice (some ⟨a.block, a.off + 64, none⟩) (n - 64) (c - 64))
          refine ⟨j + 1, some ⟨a.block, a.off + 64, none⟩, n - 64, c - 64, by omega, ⟨?_, ?_, by omega, fun k hk => HT.out.off k hk, HNN.out⟩, HC3.out.setCell (p := ⟨x, 9, none⟩) (.inr rfl) _, fun k hk => HROW.out k hk⟩
          · rw [HFO.out, ← hz]
            exact HX3.out.set 9 _
          · have hs3 := HS3.out.ch hcs (fun k hk h => ⟨h, HT.out.off k hk⟩)
            rw [HDR.out]
            refine ⟨by rw [List.length_map, List.length_drop, List.length_drop]; have := HNN.out; omega, by omega, fun i u hi => ?_⟩
            rw [List.map_drop, List.getElem?_drop] at hi
            obtain ⟨a', ha', hc⟩ := hs3.at_ (64 + i) u hi
            obtain rfl := Option.some.inj ha'
            refine ⟨_, rfl, ?_⟩
            rw [show (⟨a.block, a.off + 64, none⟩ : Addr).add i = a.add (64 + i) by unfold Addr.add; rw [if_neg (show ¬ 64 + i = 0 by omega)]; split <;> simp_all <;> omega]
            exact hc
    · have hd6 : decide ((64 : Int) ≤ (n : Int)) = false := by simp; omega
      have hj : j = L.length / 64 := by have := HG.out; omega
      clear hnl hlt
      go_wp2
      refine ⟨rfl, .tuple #[], by simp [results, Try.results223], ?_⟩
      exact ⟨rfl, HCH.out, R, n, c, by rw [← HLL.out, ← hj]; exact HT.out⟩
end Go.Proofs.Ytfgpchffkpomoaa

/- The sum of all bytes that a hash took: the walk. -/
namespace Go.Proofs.Ytfgpchffkpomoaa
set_option linter.unusedSimpArgs false
set_option linter.unusedVariables false
open Go.RowKit

theorem octA_there {w : World} {y : Nat} {U : Oct} {T : TypeId} (h : Box w y (octA U) T) : w.there y 0 8 := h.there
theorem octA_fill {w : World} {y : Nat} {U V : Oct} {T : TypeId} (h : Box w y (octA U) T) : Box (w.setCells y 0 (octA V).toList) y (octA V) T := h.fill (octA V) (by simp [octA])
theorem out_next (M : Oct) (k : Nat) (hk : k < 8) : (outO M).take (4 * (k + 1)) = (outO M).take (4 * k) ++ outW (M.nth k) := by
  have h8 : k = 0 ∨ k = 1 ∨ k = 2 ∨ k = 3 ∨ k = 4 ∨ k = 5 ∨ k = 6 ∨ k = 7 := by omega
  rcases h8 with rfl | rfl | rfl | rfl | rfl | rfl | rfl | rfl <;> rfl
theorem out_byte (N e : Nat) : Value.int .u8 ((N : Int) / (e : Int) % 256) = byteVal (UInt8.ofNat (N / e)) := by
  show _ = Value.int .u8 (((UInt8.ofNat (N / e)).toNat : Nat) : Int)
  congr 1
theorem idx8 {MA : Array Value} {k N : Nat} (hk : k < 8) (h : MA[k]? = some (.int .u32 (N : Int))) (w : World) : (Instr.index 286 (.agg MA) (.int .i64 (k : Int))).run Try.prog w = .ok (.int .u32 (N : Int)) w := by
  have hk2 : (k : Int) < 8 := by omega
  have hs : (sizeOf 271).run Try.prog w = .ok 1 w := by kernel_rfl
  have ha : (isAgg 271).run Try.prog w = .ok false w := by kernel_rfl
  simp [Instr.index, Sem.run_bind, asIntOf, run_underlying Try.underlying286, hk2, part, hs, ha, h]
  intro h8
  omega
theorem out_word (x : W32) : [Value.int .u8 ((x.toNat : Int) / 16777216 % 256), .int .u8 ((x.toNat : Int) / 65536 % 256), .int .u8 ((x.toNat : Int) / 256 % 256), .int .u8 ((x.toNat : Int) % 256)] = (outW x).map byteVal := by
  have h1 := out_byte x.toNat 16777216
  have h2 := out_byte x.toNat 65536
  have h3 := out_byte x.toNat 256
  have h4 := out_byte x.toNat 1
  rw [show ((x.toNat : Int) / ((1 : Nat) : Int)) = (x.toNat : Int) by simp, Nat.div_one] at h4
  unfold outW
  simp only [List.map_cons, List.map_nil]
  rw [← h1, ← h2, ← h3, ← h4]
  rfl
def byteOf (z k : Nat) : UInt8 := UInt8.ofNat (8 * z / 2 ^ (8 * (7 - k)))
theorem size8_next (z k : Nat) (hk : k < 8) : (size8 z).take (k + 1) = (size8 z).take k ++ [byteOf z k] := by
  rw [List.take_succ_eq_append_getElem (by simp [size8]; exact hk)]
  simp [size8, byteOf]
theorem size8_val (z k : Nat) : Value.int .u8 ((z : Int) * 8 / 2 ^ (8 * (7 - k)) % 256) = byteVal (byteOf z k) := by
  show _ = Value.int .u8 (((UInt8.ofNat (8 * z / 2 ^ (8 * (7 - k)))).toNat : Nat) : Int)
  congr 1
  rw [UInt8.toNat_ofNat', Int.natCast_emod, Int.natCast_ediv, Int.natCast_mul, Int.natCast_pow, Int.mul_comm]
  rfl
set_option maxHeartbeats 4000000 in
set_option maxRecDepth 100000 in
theorem hsum_calls (x : Nat) (L : List UInt8) (R : Option Addr) (n c : Nat) (w : World) (ht : Taken L x (L.length / 64) R n c w) (hL : L.length ≤ 140737488351232) :
    Calls Try.prog 224 #[.pointer (some ⟨x, 0, none⟩)] w fun e w' => e = .returned (.string ⟨⟨outO (foldB oct0 (padB L L.length))⟩⟩) ∧ Below w.heap.size w w' := by
  obtain ⟨V, hV⟩ : ∃ V, V = foldB oct0 L := ⟨_, rfl⟩
  have hbox : Box w x (hashA V R n c L.length) 290 := by
    have e : foldB oct0 (L.take (64 * (L.length / 64))) = V := by rw [hV, Nat.mul_comm, foldB_whole]
    rw [← e]
    exact ht.box
  have hsum : foldB oct0 (padB L L.length) = foldB V (padB (restB L) L.length) := by rw [sum_rest, hV]
  have hrest : L.drop (64 * (L.length / 64)) = restB L := by unfold restB; rw [Nat.mul_comm]
  have HSUM := Lib.hid hsum
  have HX := Lib.hid hbox
  have hsl := ht.sl
  rw [hrest] at hsl
  have HSL := Lib.hid hsl
  have hlen := ht.len
  have hcap := ht.cap
  obtain ⟨B, hB⟩ : ∃ B, B = restB L := ⟨_, rfl⟩
  rw [← hB] at HSUM HSL
  have hBl : B.length = n := by rw [hB, rest_len]; omega
  have hn64 : n < 64 := by omega
  obtain ⟨z, hz⟩ : ∃ z, z = L.length := ⟨_, rfl⟩
  rw [← hz] at HX hL HSUM
  have hxw := hbox.lt
  have c0 : w.cell? ⟨x, 0, none⟩ = some (.bool true) := hbox.cell 0
  have c9 : w.cell? ⟨x, 9, none⟩ = some (.slice R n c) := hbox.cell 9
  have HBL := Lib.hid hBl
  have HZ := Lib.hid hz
  clear hz
  clear hV hbox hsum hrest hsl ht hB hBl hlen
  go_enter Try.func224, Try.ntmps224
  have HN0 := Lib.hid (show (w.alloc (.cells #[] 5)).ownsRow w.heap.size 5 1 (.slice (some ⟨w.heap.size, 0, none⟩) 0 0) 0 [] from ⟨rfl, .inr ⟨w.heap.size, 0, #[], rfl, Nat.le_refl _, Box.new w #[] _, by omega, by omega, rfl, rfl⟩⟩)
  have hb0 : Below w.heap.size w (w.alloc (.cells #[] 5)) := (Below.refl _ _).alloc (Nat.le_refl _) _
  have HS0 := Lib.hid (HSL.out.below hb0)
  go_wp2_with (first | (at_builtin; refine app_rowO rfl (.tmp 18) (.tmp 22) 205 rfl w.heap.size 5 (.int .u8 0) 1 1 info_u8 Try.underlying205 rfl (by decide) (some ⟨w.heap.size, 0, none⟩) 0 0 [] rfl HN0.out R n c (B.map byteVal) rfl (by rw [List.length_map, HBL.out, Nat.mul_one]) HS0.out.at_ ?h1 (by omega) (by omega) (by simp) ?_; (case h1 => intro u hu; obtain ⟨b, _, rfl⟩ := List.mem_map.1 hu; rfl); intro A1 c1 w1 ho1 hc1 hA1; rw [Nat.zero_add, List.nil_append, ← HBL.out] at ho1; rw [Nat.zero_add, ← HBL.out]; have HO1 := Lib.hid (show OwnB w1 w.heap.size A1 c1 B from ho1); have HB1 := Lib.hid (below_app (Below.refl w.heap.size w) (Nat.le_refl _) hc1 (fun k hk => by have : k = w.heap.size := (Option.some.inj hk).symm; omega)); clear ho1 hc1 hA1 c9) | (at_builtin; have hz1 := HB1.out.size; refine app_u8 rfl (.tmp 24) (.tmp 25) rfl w.heap.size A1 c1 B rfl (own_ch HO1.out (Ch.alloc (Ch.refl w1.heap.size (fun _ => False) w1) (Nat.le_refl _) _) (fun k hk => ⟨(own_row HO1.out hk).2, fun h => h⟩)) w1.heap.size _ 128 rfl (World.cell?_alloc_new _ _ _ _) ?hu ?hl ?hb ?_; (case hu => rfl); (case hl => have := HBL.out; omega); (case hb => simp; omega); intro A2 c2 w2 ho2 hc2 hA2; have HO2 := Lib.hid ho2; have HB2 := Lib.hid (below_app HB1.out hz1 hc2 (fun k hk => (own_row HO1.out hk).1)); clear ho2 hc2 hA2))
  obtain ⟨Zt, hZt⟩ : ∃ k, k = zerosTo B.length := ⟨_, rfl⟩
  have HZT := Lib.hid hZt
  have hZ64 : Zt < 64 := by rw [hZt]; unfold zerosTo; omega
  clear hZt HO1 HB1
  go_loopg [3] Zt (fun g v3 wr => ∃ (i : Nat) (A : Option Addr) (c3 : Nat) (l : List UInt8), v3 = .slice A l.length c3 ∧ i ≤ Zt ∧ Hid (g + i = Zt ∧ l = B ++ [128] ++ List.replicate i 0 ∧ OwnB wr w.heap.size A c3 l ∧ Below w.heap.size w wr))
  case atStart => exact ⟨0, A2, c2, B ++ [128], by rw [List.length_append]; rfl, by omega, rfl, by simp, HO2.out, HB2.out⟩
  case round =>
    obtain ⟨i, A, c3, l, rfl, hi, HH⟩ := hrel
    obtain ⟨hg, hl, ho, hb⟩ := HH.out
    have HG := Lib.hid hg
    have HLL := Lib.hid hl
    have HO := Lib.hid ho
    have HBW := Lib.hid hb
    have hll : l.length = B.length + 1 + i := by rw [hl]; simp; omega
    have hn2 := HBL.out
    clear HH hg hl ho hb
    by_cases hlt : i < Zt
    · have hm : l.length % 64 ≠ 56 := by
        have := HZT.out
        unfold zerosTo at this
        omega
      have hlb : l.length ≤ 200 := by omega
      have hd : (((l.length : Nat) : Int) % 64 != 56) = true := bne_iff_ne.2 (by omega)
      have HLN := Lib.hid hll
      clear hll hm hn2
      go_wp2_with (at_builtin; have hz1 := HBW.out.size; refine app_u8 rfl (.tmp 31) (.tmp 32) rfl w.heap.size A c3 l rfl (own_ch HO.out (Ch.alloc (Ch.refl wr.heap.size (fun _ => False) wr) (Nat.le_refl _) _) (fun k hk => ⟨(own_row HO.out hk).2, fun h => h⟩)) wr.heap.size _ 0 rfl (World.cell?_alloc_new _ _ _ _) ?hu ?hl ?hb ?_; (case hu => rfl); (case hl => omega); (case hb => simp; omega); intro A4 c4 w4 ho4 hc4 hA4; have HO4 := Lib.hid ho4; have HB4 := Lib.hid (below_app HBW.out hz1 hc4 (fun k hk => (own_row HO.out hk).1)); clear ho4 hc4 hA4)
      go_roundg (Zt - (i + 1))
      case measure => have := HG.out; omega
      case rel => exact ⟨i + 1, A4, c4, l ++ [0], by first | rfl | (rw [List.length_append]; rfl), by omega, by omega, by rw [HLL.out, List.replicate_succ', List.append_assoc], HO4.out, HB4.out⟩
    · obtain rfl : i = Zt := by omega
      have hm : l.length % 64 = 56 := by
        have := HZT.out
        unfold zerosTo at this
        omega
      have hlb : l.length ≤ 200 := by omega
      have hd : (((l.length : Nat) : Int) % 64 != 56) = false := by
        rw [bne_eq_false_iff_eq]
        omega
      have HM := Lib.hid hm
      have HLN := Lib.hid hll
      clear hll hm hn2 hlt hi HG
      obtain ⟨l0, hl0⟩ : ∃ l0, l0 = l := ⟨_, rfl⟩
      rw [← hl0] at HLL HLN HM
      have HL0 := Lib.hid hl0
      clear hl0
      have c10 : wr.cell? ⟨x, 10, none⟩ = some (.int .u64 (z : Int)) := (HBW.out.cell (p := ⟨x, 10, none⟩) (by simp only; omega)).trans (HX.out.cell 10)
      go_wp2_with fail
      go_loopg [3, 4] 8 (fun g v3 v4 wr => ∃ (k : Nat) (A : Option Addr) (c3 : Nat) (l : List UInt8), v3 = .slice A l.length c3 ∧ v4 = .int .i64 (7 - (k : Int)) ∧ k ≤ 8 ∧ Hid (g + k = 8 ∧ l = l0 ++ (size8 z).take k ∧ OwnB wr w.heap.size A c3 l ∧ Below w.heap.size w wr))
      case atStart => exact ⟨0, A, c3, l, rfl, rfl, by omega, rfl, by rw [HL0.out]; simp, HO.out, HBW.out⟩
      case round =>
        clear HO HBW c10 HL0
        obtain ⟨k, A, c3, l, rfl, rfl, hk, HH⟩ := hrel
        obtain ⟨hg, hl, ho, hb⟩ := HH.out
        have HG := Lib.hid hg
        have HLL2 := Lib.hid hl
        have HO := Lib.hid ho
        have HBW := Lib.hid hb
        have hll : l.length = l0.length + k := by rw [hl]; simp [size8]; omega
        have hln0 := HLN.out
        have hn2 := HBL.out
        have c10 : wr.cell? ⟨x, 10, none⟩ = some (.int .u64 (z : Int)) := (hb.cell (p := ⟨x, 10, none⟩) (by simp only; omega)).trans (HX.out.cell 10)
        clear HH hg hl ho hb
        by_cases hlt : k < 8
        · have hlb : l.length ≤ 300 := by omega
          have hd8 : decide ((0 : Int) ≤ 7 - (k : Int)) = true := by simp; omega
          clear hll hln0 hn2
          go_wp2_with (at_builtin; have hz1 := HBW.out.size; refine app_u8 rfl (.tmp 38) (.tmp 48) rfl w.heap.size A c3 l rfl (own_ch HO.out (Ch.alloc (Ch.refl wr.heap.size (fun _ => False) wr) (Nat.le_refl _) _) (fun k hk => ⟨(own_row HO.out hk).2, fun h => h⟩)) wr.heap.size _ (byteOf z k) rfl (World.cell?_alloc_new _ _ _ _) ?hu ?hl ?hb ?_; (case hu => exact size8_val z k); (case hl => omega); (case hb => simp; omega); intro A4 c4 w4 ho4 hc4 hA4; have HO4 := Lib.hid ho4; have HB4 := Lib.hid (below_app HBW.out hz1 hc4 (fun k hk => (own_row HO.out hk).1)); clear ho4 hc4 hA4)
          go_roundg (8 - (k + 1))
          case measure => have := HG.out; omega
          case rel => exact ⟨k + 1, A4, c4, l ++ [byteOf z k], by first | rfl | (rw [List.length_append]; rfl), by go_num, by omega, by have := HG.out; omega, by rw [HLL2.out, size8_next z k hlt, List.append_assoc], HO4.out, HB4.out⟩
        · obtain rfl : k = 8 := by omega
          have hd8 : decide ((0 : Int) ≤ 7 - ((8 : Nat) : Int)) = false := by simp
          have hlm : l.length % 64 = 0 := by have := HM.out; omega
          have hpad : l = padB B z := by
            rw [HLL2.out, HLL.out, HZT.out, List.take_of_length_le (by simp [size8])]
            rfl
          have HPAD := Lib.hid hpad
          have HLM := Lib.hid hlm
          have hlb : l.length ≤ 300 := by omega
          have hb := HBW.out
          have HCR := Lib.hid (show wr.rangeAt x 1 (octA V).toList from (fun j v hj => (hb.cell (p := ⟨x, 1 + j, none⟩) (by simp only; omega)).trans (hash_range HX.out j v hj)))
          have hz1 := hb.size
          have HBX8 := Lib.hid (Box.new wr #[.int .u32 0, .int .u32 0, .int .u32 0, .int .u32 0, .int .u32 0, .int .u32 0, .int .u32 0, .int .u32 0] 286)
          obtain ⟨W4, hW4⟩ : ∃ W4, W4 = (wr.alloc (.cells #[.int .u32 0, .int .u32 0, .int .u32 0, .int .u32 0, .int .u32 0, .int .u32 0, .int .u32 0, .int .u32 0] 286)).setCells wr.heap.size 0 (octA V).toList := ⟨_, rfl⟩
          have HB4 := Lib.hid (show Below w.heap.size w W4 by rw [hW4]; exact (hb.alloc hz1 _).trans (below_setCells hz1 _ _ _))
          have HY4 := Lib.hid (show Box W4 wr.heap.size (octA V) 286 by rw [hW4]; exact HBX8.out.fill (octA V) rfl)
          have HO4 := Lib.hid (show OwnB W4 w.heap.size A c3 l by rw [hW4]; exact own_ch (own_ch HO.out (Ch.alloc (Ch.refl wr.heap.size (fun _ => False) wr) (Nat.le_refl _) _) (fun k hk => ⟨(own_row HO.out hk).2, fun h => h⟩)) (Ch.of_below (S := fun _ => False) (below_setCells (Nat.le_refl wr.heap.size) (octA V).toList 0 _)) (fun k hk => ⟨(own_row HO.out hk).2, fun h => h⟩))
          have hrowl : ∀ k, Row A k → w.heap.size ≤ k ∧ k < wr.heap.size := fun k hk => own_row HO.out hk
          have HRL := Lib.hid hrowl
          have HW4 := Lib.hid hW4
          clear hlm hpad hll hln0 hn2 hlt hk HG HLL2 hb hrowl hW4 HBW c10
          go_upto_region 11 with fail
          refine wp_region_list ?_
          refine wpList_plain rfl (fun K hK => wp_of_yield (v := .pointer (some ⟨x, 0, none⟩)) (by kernel_rfl) (hK _ _ ?_))
          clear hK
          try simp only [Act.put, List.setIfInBounds_toArray, List.set_cons_zero, List.set_cons_succ]
          refine wpList_plain rfl (fun K hK => wp_of_yield (v := .pointer (some ⟨x, 0, none⟩)) (by kernel_rfl) (hK _ _ ?_))
          clear hK
          try simp only [Act.put, List.setIfInBounds_toArray, List.set_cons_zero, List.set_cons_succ]
          refine wpList_plain rfl (fun K hK => wp_of_yield (v := .pointer (some ⟨x, 1, none⟩)) (by kernel_rfl) (hK _ _ ?_))
          clear hK
          try simp only [Act.put, List.setIfInBounds_toArray, List.set_cons_zero, List.set_cons_succ]
          refine wpList_load_mid rfl _ _ rfl x 1 rfl (octA V).toList _ HCR.out Try.underlying286 rfl size8u ?_
          try simp only [Act.put, List.setIfInBounds_toArray, List.set_cons_zero, List.set_cons_succ, Array.toArray_toList]
          refine wpList_plain rfl (fun K hK => ?_)
          go_simp
          refine hK _ _ ?_
          clear hK
          try simp only [Act.put, List.setIfInBounds_toArray, List.set_cons_zero, List.set_cons_succ]
          refine wpList_store_mid rfl _ _ _ rfl wr.heap.size 0 (octA V) rfl rfl HBX8.out.there size8u (octA_one V) ?_
          try simp only [Act.put]
          rw [← HW4.out]
          obtain ⟨y, hy⟩ : ∃ y, y = wr.heap.size := ⟨_, rfl⟩
          rw [← hy] at HY4 HRL hz1 ⊢
          go_wp2_with fail
          clear hy HO HW4 HCR HBX8
          go_loopg [3] (l.length / 64) (fun g v3 wq => ∃ (j : Nat) (A' : Option Addr) (n' c' : Nat), v3 = .slice A' n' c' ∧ Hid (g + j = l.length / 64 ∧ n' + 64 * j = l.length ∧ n' ≤ c' ∧ Sl wq 1 A' n' c' ((l.drop (64 * j)).map byteVal) ∧ Box wq y (octA (foldB V (l.take (64 * j)))) 286 ∧ Below w.heap.size w wq ∧ ∀ k, Row A' k → w.heap.size ≤ k ∧ k < y))
          case atStart => exact ⟨0, A, l.length, c3, rfl, rfl, rfl, own_cap8 HO4.out, by rw [Nat.mul_zero, List.drop_zero]; exact Sl.of_own HO4.out, by rw [Nat.mul_zero, List.take_zero, foldB_less (by simp)]; exact HY4.out, HB4.out, HRL.out⟩
          case round =>
            clear HB4 HY4 HO4 HRL
            obtain ⟨j, A', n', c', rfl, HH⟩ := hrel
            obtain ⟨hg, hn', hc', hs', hy', hb', hr'⟩ := HH.out
            have HG := Lib.hid hg
            have HN := Lib.hid hn'
            have HS := Lib.hid hs'
            have HB := Lib.hid hb'
            have HR := Lib.hid hr'
            have hfit := hs'.fits
            have hlm := HLM.out
            obtain ⟨U, hU⟩ : ∃ U, U = foldB V (l.take (64 * j)) := ⟨_, rfl⟩
            rw [← hU] at hy'
            have HY := Lib.hid hy'
            have HU := Lib.hid hU
            clear HH hg hs' hb' hr' hU hy'
            by_cases hlt : 0 < n'
            · have hn64 : 64 ≤ n' := by omega
              obtain ⟨a, rfl⟩ : ∃ a, A' = some a := by
                obtain ⟨a, e, _⟩ := HS.out.at_ 0 (byteVal ((l.drop (64 * j))[0]'(by rw [List.length_drop]; omega))) (by rw [List.getElem?_map, List.getElem?_eq_getElem (by rw [List.length_drop]; omega)]; rfl)
                exact ⟨a, e⟩
              obtain ⟨Lb, hLb⟩ : ∃ Lb, Lb = (l.drop (64 * j)).take 64 := ⟨_, rfl⟩
              have hLl : Lb.length = 64 := by rw [hLb, List.length_take, List.length_drop]; omega
              have hsl : Sl wr.drew 1 (some a) 64 c' (Lb.map byteVal) := by
                refine ⟨by rw [List.length_map, hLl], by omega, fun i u hi => ?_⟩
                refine HS.out.at_ i u ?_
                rw [hLb, List.map_take, List.getElem?_take] at hi
                split at hi
                · exact hi
                · cases hi
              have HMX := Lib.hid (mix_calls U (some a) c' Lb wr.drew hLl hsl)
              have HLB := Lib.hid hLb
              have hYD := HY.out.drew
              have i0 : (64 : Int) ≤ (n' : Int) := by omega
              have i1 : (64 : Int) ≤ (c' : Int) := by omega
              have hd6 : decide ((0 : Int) < (n' : Int)) = true := by simp; omega
              clear hLb hLl hsl hlm
              go_wp2_with fail
              refine AnyP.start [4] (fun w' => Box w' y (octA U) 286) (by kernel_rfl) hYD (n := 5) (listed := #[false, false, false, false, false]) (by kernel_rfl) (by kernel_rfl) (fun hHeld => ?_)
              refine AnyP.load (i := 0) (fuel := 4) (d := some 59) (listed' := #[true, false, false, false, false]) (oi := _) (v := .agg (octA U).toList.toArray) [4] rfl (by kernel_rfl) (by kernel_rfl) (by kernel_rfl) (by kernel_rfl) (by kernel_rfl) (by kernel_rfl) (fun _ _ _ h => h) (yieldsIf_load_mid (by rfl) _ _ rfl y 0 rfl (octA U).toList _ (fun _ h => h.range) Try.underlying286 rfl size8u) hHeld (by rfl) (by rfl) ?rest0m
              try simp only [Act.put, List.setIfInBounds_toArray, List.set_cons_zero, List.set_cons_succ, Array.toArray_toList]
              refine AnyP.take (i := 1) (fuel := 3) (d := some 60) (listed' := #[true, true, false, false, false]) (oi := _) (v := ?v1m) rfl (by kernel_rfl) (by kernel_rfl) (by kernel_rfl) (fun _ _ _ h => h) (Or.inl ⟨by rfl, ?hy1m⟩) (by rfl) (by rfl) ?rest1m
              case hy1m => intro w; go_simp; try with_reducible rfl
              try simp only [Act.put, List.setIfInBounds_toArray, List.set_cons_zero, List.set_cons_succ]
              refine AnyP.take (i := 2) (fuel := 2) (d := some 61) (listed' := #[true, true, true, false, false]) (oi := _) (v := ?v2m) rfl (by kernel_rfl) (by kernel_rfl) (by kernel_rfl) (fun _ _ _ h => h) (Or.inl ⟨by rfl, ?hy2m⟩) (by rfl) (by rfl) ?rest2m
              case hy2m => intro w; go_simp; try with_reducible rfl
              try simp only [Act.put, List.setIfInBounds_toArray, List.set_cons_zero, List.set_cons_succ]
              refine AnyP.one (i := 3) (o := ?o3m) (fuel := 1) (listed' := #[true, true, true, true, false]) (by kernel_rfl) ?ho3m (by rfl) (fun K' hK' => ?step3m)
              case ho3m => simp only [List.getElem?_toArray, List.getElem?_cons_succ, List.getElem?_cons_zero]; rfl
              go_simp
              go_at_call 226
              refine HMX.out.mono ?_
              rintro e w5 ⟨rfl, hb5⟩
              have HB5 := Lib.hid hb5
              have HY5 := Lib.hid (hYD.past hb5)
              clear hb5
              go_wp2_with fail
              refine hK'.out _ _ (fun _ => HY5.out) (fun hHeld => ?_)
              clear hK' K'
              try simp only [Act.put, List.setIfInBounds_toArray, List.set_cons_zero, List.set_cons_succ]
              refine AnyP.one (i := 4) (o := ?o4m) (fuel := 0) (listed' := #[true, true, true, true, true]) (by kernel_rfl) ?ho4m (by rfl) (fun K' hK' => ?step4m)
              case ho4m => simp only [List.getElem?_toArray, List.getElem?_cons_succ, List.getElem?_cons_zero]; rfl
              rw [if_pos (by rfl)]
              refine wp_store_mid _ _ _ rfl y 0 (octA (mixO U (wordAt Lb))) rfl rfl (octA_there HY5.out) size8u (octA_one _) ?_
              refine hK'.out _ _ (fun h => absurd (by decide) h) (fun hHeld => ?_)
              clear hK' K'
              try simp only [Act.put, List.setIfInBounds_toArray, List.set_cons_zero, List.set_cons_succ]
              refine AnyP.done (by kernel_rfl) ?_ _
              have HY6 := Lib.hid (octA_fill (V := mixO U (wordAt Lb)) HY5.out)
              have hyw : w.heap.size ≤ y := hz1
              have HB6 := Lib.hid (show Below w.heap.size w (w5.setCells y 0 (octA (mixO U (wordAt Lb))).toList) from ((((Ch.of_below (S := fun _ => False) HB.out).drew).step (Ch.of_below (S := fun _ => False) HB5.out) (by have := HB.out.size; simpa using this) (fun _ _ e => e)).below (fun _ _ e => e)).trans (below_setCells hyw _ _ _))
              have hsl3 := (show Sl wr.drew 1 (some a) n' c' ((l.drop (64 * j)).map byteVal) from ⟨HS.out.len, HS.out.fits, HS.out.at_⟩).ch ((Ch.of_below (B := wr.heap.size) (S := (· = y)) HB5.out).trans (ch_setCells (k := y) (S := (· = y)) (.inr rfl) (octA (mixO U (wordAt Lb))).toList 0 w5)) (fun k hk h => ⟨h, by have := HR.out k hk; omega⟩)
              have HS6 := Lib.hid hsl3
              obtain ⟨W6, hW6⟩ : ∃ W6, W6 = w5.setCells y 0 (octA (mixO U (wordAt Lb))).toList := ⟨_, rfl⟩
              rw [← hW6] at HY6 HB6 HS6 ⊢
              clear hW6 hsl3 hYD HMX HB5 HY5 hyw
              have hfold : foldB V (l.take (64 * (j + 1))) = mixO U (wordAt Lb) := by
                rw [show 64 * (j + 1) = 64 * j + 64 by omega, List.take_add, foldB_append _ _ _ (by rw [List.length_take]; omega), ← HU.out, ← HLB.out, foldB_more (by rw [HLB.out, List.length_take, List.length_drop]; omega), foldB_less (by rw [List.length_drop, HLB.out, List.length_take]; omega)]
              have HFO := Lib.hid hfold
              have HDR := Lib.hid (show l.drop (64 * (j + 1)) = (l.drop (64 * j)).drop 64 by rw [List.drop_drop]; congr 1)
              have HNN := Lib.hid (show n' - 64 + 64 * (j + 1) = l.length by omega)
              have hjn : j + 1 ≤ l.length / 64 := by omega
              clear hfold hn'
              by_cases hc64 : c' = 64
              · subst hc64
                obtain rfl : n' = 64 := by omega
                go_wp2_with fail
                go_roundg (l.length / 64 - (j + 1))
                case measure => have := HG.out; omega
                case rel =>
                  refine ⟨j + 1, some a, 0, 0, rfl, by have := HG.out; omega, by have := HNN.out; omega, by omega, ?_, by rw [HFO.out]; exact HY6.out, HB6.out, HR.out⟩
                  have e : l.drop (64 * (j + 1)) = [] := List.eq_nil_of_length_eq_zero (by rw [List.length_drop]; have := HNN.out; omega)
                  rw [e]
                  exact ⟨rfl, by omega, fun i u hi => by simp at hi⟩
              · have hc2 : ((c' : Int) - 64) = ((c' - 64 : Nat) : Int) := by omega
                go_wp2_with fail
                go_roundg (l.length / 64 - (j + 1))
                case measure => have := HG.out; omega
                case rel =>
                  refine ⟨j + 1, some ⟨a.block, a.off + 64, none⟩, n' - 64, c' - 64, rfl, by have := HG.out; omega, HNN.out, by omega, ?_, by rw [HFO.out]; exact HY6.out, HB6.out, fun k hk => HR.out k hk⟩
                  rw [HDR.out]
                  refine ⟨by rw [List.length_map, List.length_drop, List.length_drop]; have := HNN.out; omega, by omega, fun i u hi => ?_⟩
                  rw [List.map_drop, List.getElem?_drop] at hi
                  obtain ⟨a', ha', hc⟩ := HS6.out.at_ (64 + i) u hi
                  obtain rfl := Option.some.inj ha'
                  refine ⟨_, rfl, ?_⟩
                  rw [show (⟨a.block, a.off + 64, none⟩ : Addr).add i = a.add (64 + i) by unfold Addr.add; rw [if_neg (show ¬ 64 + i = 0 by omega)]; split <;> simp_all <;> omega]
                  exact hc
            · obtain rfl : n' = 0 := by omega
              have hd6 : decide ((0 : Int) < ((0 : Nat) : Int)) = false := by simp
              have hUl : U = foldB V (padB B z) := by
                rw [HU.out, ← HPAD.out]
                congr 1
                exact List.take_of_length_le (by omega)
              have HUL := Lib.hid hUl
              have hmk : ∀ w : World, (Instr.makeSlice 205 (.int .i64 0) (.int .i64 32)).run Try.prog w = .ok (.slice (some ⟨w.heap.size, 0, none⟩) 0 32) (w.alloc (.cells #[.int .u8 0, .int .u8 0, .int .u8 0, .int .u8 0, .int .u8 0, .int .u8 0, .int .u8 0, .int .u8 0, .int .u8 0, .int .u8 0, .int .u8 0, .int .u8 0, .int .u8 0, .int .u8 0, .int .u8 0, .int .u8 0, .int .u8 0, .int .u8 0, .int .u8 0, .int .u8 0, .int .u8 0, .int .u8 0, .int .u8 0, .int .u8 0, .int .u8 0, .int .u8 0, .int .u8 0, .int .u8 0, .int .u8 0, .int .u8 0, .int .u8 0, .int .u8 0] 5)) := fun _ => by kernel_rfl
              have HW7 := Lib.hid (Box.new wr #[.int .u8 0, .int .u8 0, .int .u8 0, .int .u8 0, .int .u8 0, .int .u8 0, .int .u8 0, .int .u8 0, .int .u8 0, .int .u8 0, .int .u8 0, .int .u8 0, .int .u8 0, .int .u8 0, .int .u8 0, .int .u8 0, .int .u8 0, .int .u8 0, .int .u8 0, .int .u8 0, .int .u8 0, .int .u8 0, .int .u8 0, .int .u8 0, .int .u8 0, .int .u8 0, .int .u8 0, .int .u8 0, .int .u8 0, .int .u8 0, .int .u8 0, .int .u8 0] 5)
              have hzz := HB.out.size
              obtain ⟨W7, hW7⟩ : ∃ W7, W7 = wr.alloc (.cells #[.int .u8 0, .int .u8 0, .int .u8 0, .int .u8 0, .int .u8 0, .int .u8 0, .int .u8 0, .int .u8 0, .int .u8 0, .int .u8 0, .int .u8 0, .int .u8 0, .int .u8 0, .int .u8 0, .int .u8 0, .int .u8 0, .int .u8 0, .int .u8 0, .int .u8 0, .int .u8 0, .int .u8 0, .int .u8 0, .int .u8 0, .int .u8 0, .int .u8 0, .int .u8 0, .int .u8 0, .int .u8 0, .int .u8 0, .int .u8 0, .int .u8 0, .int .u8 0] 5) := ⟨_, rfl⟩
              rw [← hW7] at HW7
              have HO7 := Lib.hid (show OwnB W7 w.heap.size (some ⟨wr.heap.size, 0, none⟩) 32 [] from ⟨rfl, .inr ⟨wr.heap.size, 32, _, rfl, hzz, HW7.out, by simp, by simp only [maxLen]; omega, rfl, rfl⟩⟩)
              have HB7 := Lib.hid (show Below w.heap.size w W7 by rw [hW7]; exact HB.out.alloc hzz _)
              have HY7 := Lib.hid (show Box W7 y (octA U) 286 by rw [hW7]; exact HY.out.alloc _)
              have HWW7 := Lib.hid hW7
              clear hlt hlm hUl hn' hc' HG HN HS HR HB HU HY hW7 HW7
              go_upto_region 16 with fail
              rw [← HWW7.out]
              refine wp_region_list ?_
              refine wpList_load_mid rfl _ _ rfl y 0 rfl (octA U).toList _ HY7.out.range Try.underlying286 rfl size8u ?_
              try simp only [Act.put, List.setIfInBounds_toArray, List.set_cons_zero, List.set_cons_succ, Array.toArray_toList]
              obtain ⟨MA, hMA⟩ : ∃ MA, MA = octA U := ⟨_, rfl⟩
              rw [← hMA]
              have HMA := Lib.hid (show ∀ k, k < 8 → MA[k]? = some (wv (U.nth k)) from fun k hk => by rw [hMA]; exact octA_get U k hk)
              have hM8 : MA.size = 8 := by rw [hMA]; rfl
              clear hMA HY7
              go_wp2_with fail
              go_loopg [6, 65] 8 (fun g v6 v65 wq => ∃ (k : Nat) (A' : Option Addr) (c' : Nat) (out : List UInt8), v6 = .slice A' out.length c' ∧ v65 = .int .i64 k ∧ k ≤ 8 ∧ out.length ≤ 32 ∧ Hid (g + k = 8 ∧ out = (outO U).take (4 * k) ∧ OwnB wq w.heap.size A' c' out ∧ Below w.heap.size w wq))
              case atStart => exact ⟨0, some ⟨wr.heap.size, 0, none⟩, 32, [], rfl, rfl, by omega, by simp, rfl, rfl, HO7.out, HB7.out⟩
              case round =>
                clear HO7 HB7
                obtain ⟨k, A', c', out, rfl, rfl, hk, ho32, HH⟩ := hrel
                obtain ⟨hg, hl, ho, hb⟩ := HH.out
                have HG := Lib.hid hg
                have HL8 := Lib.hid hl
                have HO8 := Lib.hid ho
                have HB8 := Lib.hid hb
                have hzz := hb.size
                clear HH hg hl ho hb
                by_cases hlt : k < 8
                · have hd8 : decide ((k : Int) < 8) = true := by simp; omega
                  have hx := HMA.out k hlt
                  obtain ⟨xw, hxw⟩ : ∃ x, x = U.nth k := ⟨_, rfl⟩
                  rw [← hxw] at hx
                  unfold wv at hx
                  obtain ⟨N, hN⟩ : ∃ N, N = xw.toNat := ⟨_, rfl⟩
                  rw [← hN] at hx
                  have HXW := Lib.hid (And.intro hxw hN)
                  have hidx := fun w => idx8 hlt hx w
                  have hnw := out_word xw
                  rw [← hN] at hnw
                  have HNW := Lib.hid (show (#[Value.int .u8 ((N : Int) / 16777216 % 256), .int .u8 ((N : Int) / 65536 % 256), .int .u8 ((N : Int) / 256 % 256), .int .u8 ((N : Int) % 256)]).toList = (outW xw).map byteVal from hnw)
                  have HNB := Lib.hid (fun j u (hu : ((outW xw).map byteVal)[j]? = some u) => news_box (Box.new wr #[Value.int .u8 ((N : Int) / 16777216 % 256), .int .u8 ((N : Int) / 65536 % 256), .int .u8 ((N : Int) / 256 % 256), .int .u8 ((N : Int) % 256)] 5) j u (by rw [HNW.out]; exact hu))
                  clear hnw
                  clear hx
                  have hi0 : (0 : Int) ≤ (k : Int) := by omega
                  have hi1 : (k : Int) < 8 := by omega
                  have hol : out.length ≤ 28 := by rw [HL8.out, List.length_take]; omega
                  clear hxw hN
                  go_wp2_with (at_builtin; refine app_row rfl (.tmp 68) (.tmp 80) 205 rfl w.heap.size 5 (.int .u8 0) 1 1 info_u8 Try.underlying205 rfl (by decide) A' c' out.length (out.map byteVal) rfl (own_ch HO8.out (Ch.alloc (Ch.refl wr.heap.size (fun _ => False) wr) (Nat.le_refl _) _) (fun k hk => ⟨(own_row HO8.out hk).2, fun h => h⟩)) ⟨wr.heap.size, 0, none⟩ 4 4 ((outW xw).map byteVal) rfl rfl HNB.out ?h1 (by omega) (by omega) (by simp; omega) ?_; (case h1 => intro u hu; obtain ⟨b, _, rfl⟩ := List.mem_map.1 hu; rfl); intro A9 c9' w9 ho9 hc9 hA9; have HO9 := Lib.hid (show OwnB w9 w.heap.size A9 c9' (out ++ outW xw) by unfold OwnB; rw [List.length_append, List.map_append]; exact ho9); have HB9 := Lib.hid (below_app HB8.out hzz hc9 (fun k hk => (own_row HO8.out hk).1)); clear ho9 hc9 hA9)
                  go_roundg (8 - (k + 1))
                  case measure => have := HG.out; omega
                  case rel => exact ⟨k + 1, A9, c9', out ++ outW xw, by first | rfl | (rw [List.length_append]; rfl), by go_num, by omega, by rw [List.length_append]; show out.length + 4 ≤ 32; omega, by have := HG.out; omega, by rw [HL8.out, HXW.out.1, out_next U k hlt], HO9.out, HB9.out⟩
                · obtain rfl : k = 8 := by omega
                  have hd8 : decide (((8 : Nat) : Int) < 8) = false := by simp
                  have hall : out = outO U := by rw [HL8.out]; rfl
                  have HALL := Lib.hid hall
                  have hst := own_to_string HO8.out
                  clear hall hlt
                  go_wp2
                  go_ret
                  refine ⟨?_, HB8.out⟩
                  rw [← HZ.out, HSUM.out, ← HUL.out, ← HALL.out]
                  rfl
end Go.Proofs.Ytfgpchffkpomoaa

/- A text's sum: the walk. -/
namespace Go.Proofs.Ytfgpchffkpomoaa
set_option linter.unusedSimpArgs false
set_option linter.unusedVariables false
open Go.RowKit

set_option maxRecDepth 100000 in
theorem sum_calls (s : ByteArray) (w : World) (hs : s.size ≤ 140737488351232) : Calls Try.prog 220 #[.string s] w (StrPost (shaP s) w) := by
  have HN := Lib.hid (fun w => hnew_calls w)
  have HW := Lib.hid (fun x w hb => hwrite_calls x s w hb hs)
  have HL := Lib.hid (show s.data.toList.length ≤ 140737488351232 by simpa using hs)
  have HP := Lib.hid (show shaP s = ⟨⟨outO (foldB oct0 (padB s.data.toList s.data.toList.length))⟩⟩ from rfl)
  obtain ⟨sp, hsp⟩ : ∃ sp, sp = shaP s := ⟨_, rfl⟩
  rw [← hsp] at HP ⊢
  clear hsp hs
  go_enter Try.func220, Try.ntmps220
  go_wp2_with fail
  refine (HN.out _).mono ?_
  rintro e w1 ⟨x, rfl, hb1, hx, hbox⟩
  have HB1 := Lib.hid hb1
  have HX := Lib.hid hbox
  have hz1 := hb1.size
  clear hb1 hbox
  have HW1 := Lib.hid (HW.out x w1 HX.out)
  go_wp2_with fail
  refine HW1.out.mono ?_
  rintro e w2 ⟨rfl, hc2, R, n, c, ht⟩
  have HC2 := Lib.hid hc2
  have hz2 := hc2.size
  have HS := Lib.hid (hsum_calls x s.data.toList R n c w2 ht HL.out)
  clear hc2 ht
  go_wp2_with fail
  refine HS.out.mono ?_
  rintro e w3 ⟨rfl, hb3⟩
  have HB3 := Lib.hid hb3
  clear hb3
  go_wp2
  go_ret
  exact ⟨ret_str HP.out.symm, (((Ch.of_below (S := fun _ => False) HB1.out).step HC2.out hz1 (fun i hi e => by omega)).step (Ch.of_below (S := fun _ => False) HB3.out) (by omega) (fun _ _ e => e)).below (fun _ _ e => e)⟩
end Go.Proofs.Ytfgpchffkpomoaa
