/- The writer: numbers, texts and messages are laid behind what it holds. -/
import Derived.Test.YtehbpjkeflcanaaSpec
import Derived.Test.YtehbpjkeflcanaaBits
import Derived.Test.YtehbpjkeflcanaaApp
import Derived.Outline
namespace Go.Proofs.Ytehbpjkeflcanaa
set_option linter.unusedSimpArgs false
set_option linter.unusedVariables false
open Go.RowKit

theorem info_u8 : (Try.prog.info? 5).map (fun i => (i.zero, i.size, i.bytes)) = some (some (.int .u8 0), 1, 1) := by kernel_rfl

abbrev byteVal (c : UInt8) : Value := .int .u8 c.toNat

/-- A slice of the call's own that holds the bytes l. -/
abbrev OwnB (w : World) (base : Nat) (A : Option Addr) (cap : Nat) (l : List UInt8) : Prop := w.ownsRow base 5 1 (.slice A l.length cap) l.length (l.map byteVal)

section
variable {ops : Array Oper} {rest : List Oper} {o : Oper} {a : Act} {Q : Exit → Act → World → Prop} {W : World}
/-- append(v, c), a byte. -/
theorem app_u8 (hgd : o.guard = none) (s x : Operand) (ho : o.op = .call { callee := .builtin .append, args := #[s, x], argTypes := #[89, 89] })
    (base : Nat) (A : Option Addr) (cap : Nat) (l : List UInt8) (hs : a.eval s = .slice A l.length cap) (hown : OwnB W base A cap l)
    (g : Nat) (u : Value) (c : UInt8) (hx : a.eval x = .slice (some ⟨g, 0, none⟩) 1 1) (hc : W.cell? ⟨g, 0, none⟩ = some u) (hu : u = byteVal c) (hlen : l.length + 1 ≤ 140737488355328) (hbase : base ≤ W.heap.size)
    (h : ∀ A' cap' w', OwnB w' base A' cap' (l ++ [c]) → Ch W.heap.size (Row A) W w' → (A' = A ∨ A' = some ⟨W.heap.size, 0, none⟩) → wpList Try.prog ops Q rest (a.put o.dst (.slice A' (l ++ [c]).length cap')) w') : wpList Try.prog ops Q (o :: rest) a W := by
  subst hu
  refine app_row hgd s x 89 ho base 5 (.int .u8 0) 1 1 info_u8 Try.underlying89 rfl (by decide) A cap l.length (l.map byteVal) hs hown ⟨g, 0, none⟩ 1 1 [byteVal c] hx rfl ?_ ?_ (by omega) hlen hbase ?_
  · intro j u hj
    cases j with
    | zero => simp at hj; subst hj; exact hc
    | succ j => simp at hj
  · intro u hu; simp at hu; subst hu; rfl
  · intro A' cap' w' ho' hc' hA
    have e1 : (l ++ [c]).length = l.length + 1 := by simp
    have e2 : (l ++ [c]).map byteVal = l.map byteVal ++ [byteVal c] := by simp
    have := h A' cap' w' (by unfold OwnB; rw [e1, e2]; exact ho') hc' hA
    rw [e1] at this
    exact this
/-- append(v, s...), a text. -/
theorem app_str (hgd : o.guard = none) (s x : Operand) (ho : o.op = .call { callee := .builtin .append, args := #[s, x], argTypes := #[89, 9] })
    (base : Nat) (A : Option Addr) (cap : Nat) (l : List UInt8) (hs : a.eval s = .slice A l.length cap) (hown : OwnB W base A cap l)
    (t : ByteArray) (hx : a.eval x = .string t) (hlen : l.length + t.size ≤ 140737488355328) (hbase : base ≤ W.heap.size)
    (h : ∀ A' cap' w', OwnB w' base A' cap' (l ++ t.data.toList) → Ch W.heap.size (Row A) W w' → (A' = A ∨ A' = some ⟨W.heap.size, 0, none⟩) → wpList Try.prog ops Q rest (a.put o.dst (.slice A' (l ++ t.data.toList).length cap')) w') : wpList Try.prog ops Q (o :: rest) a W := by
  refine app_row_string hgd s x 89 9 ho base 5 info_u8 Try.underlying89 Try.underlying9 A cap l.length (l.map byteVal) hs hown t hx hlen hbase ?_
  intro A' cap' w' ho' hc' hA
  have e1 : (l ++ t.data.toList).length = l.length + t.size := by simp
  have e2 : (l ++ t.data.toList).map byteVal = l.map byteVal ++ Lib.strCells t := by simp [Lib.strCells]
  have := h A' cap' w' (by unfold OwnB; rw [e1, e2]; exact ho') hc' hA
  rw [e1] at this
  exact this
end

/-- string(v), of a slice of the call's own. -/
theorem own_to_string {w : World} {base : Nat} {A : Option Addr} {cap : Nat} {l : List UInt8} (h : OwnB w base A cap l) :
    (convert 89 9 (.slice A l.length cap)).run Try.prog w = .ok (.string ⟨l.toArray⟩) w := by
  unfold OwnB at h
  rcases h.2 with ⟨e, hl⟩ | ⟨g, cap', cur, e, _⟩
  · obtain rfl := List.eq_nil_of_length_eq_zero hl
    obtain ⟨rfl, rfl⟩ : A = none ∧ cap = 0 := by simpa using e
    exact run_convert_bytes_nil w 89 5 Try.underlying89 Try.underlying5 0 0 9 Try.underlying9
  · obtain ⟨rfl, rfl⟩ : A = some ⟨g, 0, none⟩ ∧ cap = cap' := by simpa using e
    refine run_convert_bytes_back w 89 9 5 ⟨g, 0, none⟩ cap l Try.underlying89 Try.underlying5 Try.underlying9 ?_
    intro j hj
    refine h.cells (g := g) rfl j _ ?_
    simp [hj]

theorem cell_past {S : Nat → Prop} {B b i : Nat} {w w1 : World} {o : Obj} {v : Value} (hb : Ch B S (w.alloc o) w1) (hB : w.heap.size ≤ B) (hS : ¬ S b) (hc : w.cell? ⟨b, i, none⟩ = some v) : w1.cell? ⟨b, i, none⟩ = some v := by
  have hl := World.block_lt_of_cell? _ _ hc
  simp only at hl
  rw [hb.cell (p := ⟨b, i, none⟩) (Nat.lt_of_lt_of_le hl hB) hS, World.cell?_alloc_lt _ _ _ hl]; exact hc
theorem frozen_past {S : Nat → Prop} {B b i : Nat} {w w1 : World} {o : Obj} (hb : Ch B S (w.alloc o) w1) (hB : w.heap.size ≤ B) (hS : ¬ S b) (hl : b < w.heap.size) (hf : w.frozen? ⟨b, i, none⟩ = false) : w1.frozen? ⟨b, i, none⟩ = false := by
  rw [hb.frozen (p := ⟨b, i, none⟩) (Nat.lt_of_lt_of_le hl hB) hS, World.frozen?_alloc_old _ _ _ (Nat.ne_of_lt hl)]; exact hf

/-- A writer in block b that holds the bytes l. -/
structure Wr (w : World) (b : Nat) (A : Option Addr) (cap : Nat) (l : List UInt8) : Prop where
  cell : w.cell? ⟨b, 0, none⟩ = some (.slice A l.length cap)
  fr : w.frozen? ⟨b, 0, none⟩ = false
  own : OwnB w (b + 1) A cap l

/-- The slice is stored back. -/
theorem wr_store {w : World} {b : Nat} {x : Value} {A : Option Addr} {cap : Nat} {l : List UInt8} {n : Nat} (hn : n = l.length) (k1 : w.cell? ⟨b, 0, none⟩ = some x) (k2 : w.frozen? ⟨b, 0, none⟩ = false) (ho : OwnB w (b + 1) A cap l) :
    Wr (w.setCell ⟨b, 0, none⟩ (.slice A n cap)) b A cap l := by
  subst hn
  exact ⟨World.cell?_setCell_same _ _ _ k1, by rw [World.frozen?_setCell]; exact k2, ownsRow_setCell_below ho (Nat.lt_succ_self b) _⟩

/-- A number's bytes. -/
def putNum (n : Nat) : List UInt8 := if n < 128 then [UInt8.ofNat n] else UInt8.ofNat (128 + n % 128) :: putNum (n / 128)
  termination_by n
  decreasing_by omega

theorem putNum_small {n : Nat} (h : n < 128) : putNum n = [UInt8.ofNat n] := by rw [putNum, if_pos h]
theorem putNum_large {n : Nat} (h : ¬ n < 128) : putNum n = UInt8.ofNat (128 + n % 128) :: putNum (n / 128) := by rw [putNum, if_neg h]
theorem putNum_pos (n : Nat) : 0 < (putNum n).length := by
  rw [putNum]; split <;> simp
theorem putNum_len : ∀ (k n : Nat), n < 128 ^ (k + 1) → (putNum n).length ≤ k + 1
  | 0, n, h => by rw [putNum_small (by omega)]; simp
  | k + 1, n, h => by
    by_cases hs : n < 128
    · rw [putNum_small hs]; simp
    · rw [putNum_large hs, List.length_cons]
      have := putNum_len k (n / 128) (by rw [Nat.pow_succ] at h; omega)
      omega

/-- What a writer's step may change, and where its slice may lie then. -/
structure WrCh (b : Nat) (A A' : Option Addr) (w w' : World) : Prop where
  ch : Ch w.heap.size (fun k => k = b ∨ Row A k) w w'
  row : ∀ k, Row A' k → Row A k ∨ w.heap.size ≤ k
theorem WrCh.refl (b : Nat) (A : Option Addr) (w : World) : WrCh b A A w w := ⟨Ch.refl _ _ _, fun _ h => .inl h⟩
theorem WrCh.trans {b : Nat} {A A' A'' : Option Addr} {w w' w'' : World} (h : WrCh b A A' w w') (k : WrCh b A' A'' w' w'') : WrCh b A A'' w w'' := by
  refine ⟨h.ch.step k.ch h.ch.size ?_, ?_⟩
  · rintro i hi (rfl | hi')
    · exact .inl rfl
    · rcases h.row i hi' with h1 | h1
      · exact .inr h1
      · omega
  · intro i hi
    rcases k.row i hi with h1 | h1
    · exact h.row i h1
    · exact .inr (Nat.le_trans h.ch.size h1)
theorem WrCh.alloc (b : Nat) (A : Option Addr) (w : World) (o : Obj) : WrCh b A A w (w.alloc o) := ⟨(Ch.refl _ _ _).alloc (Nat.le_refl _) _, fun _ h => .inl h⟩
theorem WrCh.drewN (b : Nat) (A : Option Addr) (w : World) (n : Nat) : WrCh b A A w (w.drewN n) := ⟨(Ch.refl _ _ _).drewN _, fun _ h => .inl h⟩
theorem WrCh.append {b : Nat} {A A' : Option Addr} {w w' : World} (hc : Ch w.heap.size (Row A) w w') (hA : A' = A ∨ A' = some ⟨w.heap.size, 0, none⟩) : WrCh b A A' w w' := by
  refine ⟨hc.mono (Nat.le_refl _) (fun _ _ h => .inr h), fun k hk => ?_⟩
  rcases hA with rfl | rfl
  · exact .inl hk
  · right; simp [Row] at hk; omega
theorem WrCh.store (b : Nat) (A : Option Addr) (w : World) (v : Value) : WrCh b A A w (w.setCell ⟨b, 0, none⟩ v) := ⟨(Ch.refl _ _ _).setCell (p := ⟨b, 0, none⟩) (.inr (.inl rfl)) _, fun _ h => .inl h⟩

def WrPost (b : Nat) (A : Option Addr) (l : List UInt8) (w : World) (e : Ending) (w' : World) : Prop :=
  e = .returned (.pointer (some ⟨b, 0, none⟩)) ∧ ∃ A' cap, WrCh b A A' w w' ∧ Wr w' b A' cap l

theorem byteVal_of {z : Int} {c : Nat} (hz : z = c) (hc : c < 256) : Value.int .u8 z = byteVal (UInt8.ofNat c) := by
  subst hz
  show _ = Value.int .u8 (((UInt8.ofNat c).toNat : Nat) : Int)
  rw [UInt8.toNat_ofNat', Nat.mod_eq_of_lt hc]
theorem or128 (n : Nat) : bits .or .i64 ((n : Int) % 128) 128 = ((128 + n % 128 : Nat) : Int) := by
  have h := i64_or_nat (n % 128) 128 (by omega) (by decide)
  have e : n % 128 ||| 128 = n % 128 + 1 * 2 ^ 7 := or_digit (n % 128) 1 7 (by omega)
  have h2 : ((n % 128 : Nat) : Int) = (n : Int) % 128 := by omega
  rw [h2] at h
  refine h.trans ?_
  rw [e]; omega

set_option maxRecDepth 100000 in
theorem wnumber_calls (b : Nat) (A : Option Addr) (cap : Nat) (l : List UInt8) (n : Int) (w : World) (hn0 : 0 ≤ n) (hn1 : n ≤ 9007199254740992) (hl : l.length + (putNum n.toNat).length ≤ 140737488355328) (hw : Wr w b A cap l) :
    Calls Try.prog 64 #[.pointer (some ⟨b, 0, none⟩), .int .i64 n] w (WrPost b A (l ++ putNum n.toNat) w) := by
  obtain ⟨n, rfl⟩ := Int.eq_ofNat_of_zero_le hn0
  rw [Int.toNat_natCast] at *
  have HW := Lib.hid hw
  have HL := Lib.hid hl
  have hb0 := World.block_lt_of_cell? _ _ hw.cell
  clear hw hl
  go_enter Try.func64, Try.ntmps64
  go_wp2
  go_loopg [1] n (fun k vn wr => ∃ (m : Nat) (A' : Option Addr) (cap : Nat) (cur : List UInt8), vn = .int .i64 m ∧ m ≤ 9007199254740992 ∧ Hid (k = m ∧ Wr wr b A' cap cur ∧ WrCh b A A' w wr ∧ cur ++ putNum m = l ++ putNum n))
  case atStart => exact ⟨n, A, cap, l, rfl, by omega, rfl, HW.out, WrCh.refl _ _ _, rfl⟩
  case round =>
    clear HW
    obtain ⟨m, A1, cap, cur, rfl, hm, HH⟩ := hrel
    obtain ⟨rfl, hw, hb, he⟩ := HH.out
    obtain ⟨hc, hf, ho⟩ := hw
    have hbw := World.block_lt_of_cell? _ _ hc
    simp at hbw
    have HO := Lib.hid ho
    have HB := Lib.hid hb
    have HE := Lib.hid he
    have HLEN := Lib.hid (show cur.length + (putNum gk).length ≤ 140737488355328 by have := congrArg List.length he; simp only [List.length_append] at this; have := HL.out; omega)
    have hRb : ¬ Row A1 b := fun h => by have := own_row ho h; omega
    clear HH he ho hb
    by_cases hs : gk < 128
    · have hd : decide ((128 : Int) ≤ (gk : Int)) = false := by simp; omega
      go_wp2_with (first | (at_builtin; refine app_u8 rfl (.tmp 26) (.tmp 29) rfl (b + 1) A1 cap cur rfl (HO.out.alloc _) wr.heap.size _ (UInt8.ofNat gk) rfl (World.cell?_alloc_new _ _ _ _) ?hu ?hl ?hb ?_; (case hu => exact byteVal_of (by omega) (by omega)); (case hl => have := HLEN.out; have := putNum_pos gk; omega); (case hb => simp; omega); intro A' cap' w1 ho1 hb1 hA1; have k1 := cell_past hb1 (by simp) hRb hc; have k2 := frozen_past hb1 (by simp) hRb hbw hf; have HO1 := Lib.hid ho1; have HB1 := Lib.hid (((WrCh.alloc b A1 wr (.cells #[.int .u8 (gk : Nat)] 5)).trans (WrCh.append hb1 hA1)).trans (WrCh.store b A' w1 (.slice A' (cur.length + 1) cap'))); clear ho1 hb1 hA1))
      go_ret
      have HP := putNum_small hs
      refine ⟨rfl, A', cap', HB.out.trans HB1.out, ?_⟩
      · rw [← HE.out, putNum_small hs]
        exact wr_store (by simp) k1 k2 HO1.out
    · have hd : decide ((128 : Int) ≤ (gk : Int)) = true := by simp; omega
      have hand : bits .and .i64 (gk : Int) 127 = (gk : Int) % 128 := by rw [and127]; omega
      obtain ⟨u, hu⟩ : ∃ u : Nat, u = 128 + gk % 128 := ⟨_, rfl⟩
      have hor : bits .or .i64 ((gk : Int) % 128) 128 = (u : Int) := by rw [or128, hu]
      have hu1 : u ≤ 255 := by omega
      have hu2 : 128 ≤ u := by omega
      obtain ⟨m, hm'⟩ : ∃ m : Nat, m = gk / 128 := ⟨_, rfl⟩
      have h7 : (gk : Int) / 128 = (m : Int) := by omega
      have hm1 : m < gk := by omega
      have hpl := putNum_large hs
      rw [← hu, ← hm'] at hpl
      have HPL := Lib.hid hpl
      clear hpl hu hm'
      go_wp2_with (first | (at_builtin; refine app_u8 rfl (.tmp 11) (.tmp 16) rfl (b + 1) A1 cap cur rfl (HO.out.alloc _) wr.heap.size _ (UInt8.ofNat u) rfl (World.cell?_alloc_new _ _ _ _) ?hu ?hl ?hb ?_; (case hu => exact byteVal_of (by omega) (by omega)); (case hl => have := HLEN.out; have := putNum_pos gk; omega); (case hb => simp; omega); intro A' cap' w1 ho1 hb1 hA1; have k1 := cell_past hb1 (by simp) hRb hc; have k2 := frozen_past hb1 (by simp) hRb hbw hf; have HO1 := Lib.hid ho1; have HB1 := Lib.hid (((WrCh.alloc b A1 wr (.cells #[.int .u8 (u : Nat)] 5)).trans (WrCh.append hb1 hA1)).trans (WrCh.store b A' w1 (.slice A' (cur.length + 1) cap'))); clear ho1 hb1 hA1))
      go_roundg m
      case measure => omega
      case rel =>
        refine ⟨m, A', cap', cur ++ [UInt8.ofNat u], rfl, by omega, rfl, wr_store (by simp) k1 k2 HO1.out, HB.out.trans HB1.out, ?_⟩
        · rw [← HE.out, HPL.out]; simp

/-- A text's bytes, behind its length. -/
def putText (t : ByteArray) : List UInt8 := putNum t.size ++ t.data.toList
theorem putText_length (t : ByteArray) : (putText t).length = (putNum t.size).length + t.size := by simp [putText]

set_option maxRecDepth 100000 in
theorem wtext_calls (b : Nat) (A : Option Addr) (cap : Nat) (l : List UInt8) (t : ByteArray) (w : World) (ht : t.size ≤ 9007199254740992) (hl : l.length + (putText t).length ≤ 140737488355328) (hw : Wr w b A cap l) :
    Calls Try.prog 65 #[.pointer (some ⟨b, 0, none⟩), .string t] w (WrPost b A (l ++ putText t) w) := by
  rw [putText_length] at hl
  have HL := Lib.hid hl
  have hN := wnumber_calls b A cap l (t.size : Nat) w (by omega) (by omega) (by rw [Int.toNat_natCast]; omega) hw
  rw [Int.toNat_natCast] at hN
  have HN := Lib.hid hN
  have hb0 := World.block_lt_of_cell? _ _ hw.cell
  clear hw hl hN
  go_enter Try.func65, Try.ntmps65
  go_wp2_with fail
  refine HN.out.mono ?_
  rintro e w1 ⟨rfl, A1, cap1, hb, hw⟩
  obtain ⟨hc, hf, ho⟩ := hw
  have hbw := World.block_lt_of_cell? _ _ hc
  simp at hbw
  obtain ⟨l1, hl1⟩ : ∃ l1, l1 = l ++ putNum t.size := ⟨_, rfl⟩
  rw [← hl1] at hc ho
  have HO := Lib.hid ho
  have HB := Lib.hid hb
  have HL1 := Lib.hid hl1
  have hRb : ¬ Row A1 b := fun h => by have := own_row ho h; omega
  clear ho hb hl1
  go_wp2_with (first | (at_builtin; refine app_str rfl (.tmp 16) (.tmp 17) rfl (b + 1) A1 cap1 l1 rfl HO.out t rfl ?hl ?hb ?_; (case hl => rw [HL1.out, List.length_append]; have := HL.out; omega); (case hb => exact hbw); intro A' cap' w2 ho1 hb1 hA1; have k1 := (hb1.cell (p := ⟨b, 0, none⟩) hbw hRb).trans hc; have k2 := (hb1.frozen (p := ⟨b, 0, none⟩) hbw hRb).trans hf; have HO1 := Lib.hid ho1; have HB1 := Lib.hid ((WrCh.append hb1 hA1).trans (WrCh.store b A' w2 (.slice A' (l1.length + t.size) cap'))); clear ho1 hb1 hA1))
  go_ret
  refine ⟨rfl, A', cap', HB.out.trans HB1.out, ?_⟩
  · have e : l ++ putText t = l1 ++ t.data.toList := by rw [HL1.out, putText, List.append_assoc]
    rw [e]
    exact wr_store (by simp) k1 k2 HO1.out
end Go.Proofs.Ytehbpjkeflcanaa
