/- Texts of this proof, several in one file; each says ahead of it what it proves. -/
import Derived.Test.YtfgpchffkpomoaaPk01
import Derived.Outline
import Derived.Deep.RegionHeld3
import Derived.DataElems
/- The writer: numbers, texts and messages are laid behind what it holds. -/
namespace Go.Proofs.Ytfgpchffkpomoaa
set_option linter.unusedSimpArgs false
set_option linter.unusedVariables false
open Go.RowKit

theorem info_u8 : (Try.prog.info? 5).map (fun i => (i.zero, i.size, i.bytes)) = some (some (.int .u8 0), 1, 1) := by kernel_rfl

abbrev byteVal (c : UInt8) : Value := .int .u8 c.toNat

/-- A slice of the call's own that holds the bytes l. -/
abbrev OwnB (w : World) (base : Nat) (A : Option Addr) (cap : Nat) (l : List UInt8) : Prop := w.ownsRow base 5 1 (.slice A l.length cap) l.length (l.map byteVal)

section
variable {ops : Array Oper} {rest : List Oper} {o : Oper} {a : Act} {Q : Exit → Act → World → Prop} {W : World}
/-- append(v, c), a byte. -/
theorem app_u8 (hgd : o.guard = none) (s x : Operand) (ho : o.op = .call { callee := .builtin .append, args := #[s, x], argTypes := #[205, 205] })
    (base : Nat) (A : Option Addr) (cap : Nat) (l : List UInt8) (hs : a.eval s = .slice A l.length cap) (hown : OwnB W base A cap l)
    (g : Nat) (u : Value) (c : UInt8) (hx : a.eval x = .slice (some ⟨g, 0, none⟩) 1 1) (hc : W.cell? ⟨g, 0, none⟩ = some u) (hu : u = byteVal c) (hlen : l.length + 1 ≤ 140737488355328) (hbase : base ≤ W.heap.size)
    (h : ∀ A' cap' w', OwnB w' base A' cap' (l ++ [c]) → Ch W.heap.size (Row A) W w' → (A' = A ∨ A' = some ⟨W.heap.size, 0, none⟩) → wpList Try.prog ops Q rest (a.put o.dst (.slice A' (l ++ [c]).length cap')) w') : wpList Try.prog ops Q (o :: rest) a W := by
  subst hu
  refine app_row hgd s x 205 ho base 5 (.int .u8 0) 1 1 info_u8 Try.underlying205 rfl (by decide) A cap l.length (l.map byteVal) hs hown ⟨g, 0, none⟩ 1 1 [byteVal c] hx rfl ?_ ?_ (by omega) hlen hbase ?_
  · intro j u hj
    cases j with
    | zero => simp at hj; subst hj; exact hc
    | succ j => simp at hj
  · intro u hu; simp at hu; subst hu; rfl
  · intro A' cap' w' ho' hc' hA
    have e1 : (l ++ [c]).length = l.length + 1 := by simp
    have e2 : (l ++ [c]).map byteVal = l.map byteVal ++ [byteVal c] := by simp
    have := h A' cap' w' (by unfold OwnB; rw [e1, e2]; exact ho') hc' hA
    rw [e1] at this
    exact this
/-- append(v, s...), a text. -/
theorem app_str (hgd : o.guard = none) (s x : Operand) (ho : o.op = .call { callee := .builtin .append, args := #[s, x], argTypes := #[205, 9] })
    (base : Nat) (A : Option Addr) (cap : Nat) (l : List UInt8) (hs : a.eval s = .slice A l.length cap) (hown : OwnB W base A cap l)
    (t : ByteArray) (hx : a.eval x = .string t) (hlen : l.length + t.size ≤ 140737488355328) (hbase : base ≤ W.heap.size)
    (h : ∀ A' cap' w', OwnB w' base A' cap' (l ++ t.data.toList) → Ch W.heap.size (Row A) W w' → (A' = A ∨ A' = some ⟨W.heap.size, 0, none⟩) → wpList Try.prog ops Q rest (a.put o.dst (.slice A' (l ++ t.data.toList).length cap')) w') : wpList Try.prog ops Q (o :: rest) a W := by
  refine app_row_string hgd s x 205 9 ho base 5 info_u8 Try.underlying205 Try.underlying9 A cap l.length (l.map byteVal) hs hown t hx hlen hbase ?_
  intro A' cap' w' ho' hc' hA
  have e1 : (l ++ t.data.toList).length = l.length + t.size := by simp
  have e2 : (l ++ t.data.toList).map byteVal = l.map byteVal ++ Lib.strCells t := by simp [Lib.strCells]
  have := h A' cap' w' (by unfold OwnB; rw [e1, e2]; exact ho') hc' hA
  rw [e1] at this
  exact this
end

/-- string(v), of a slice of the call's own. -/
theorem own_to_string {w : World} {base : Nat} {A : Option Addr} {cap : Nat} {l : List UInt8} (h : OwnB w base A cap l) :
    (convert 205 9 (.slice A l.length cap)).run Try.prog w = .ok (.string ⟨l.toArray⟩) w := by
  unfold OwnB at h
  rcases h.2 with ⟨e, hl⟩ | ⟨g, cap', cur, e, _⟩
  · obtain rfl := List.eq_nil_of_length_eq_zero hl
    obtain ⟨rfl, rfl⟩ : A = none ∧ cap = 0 := by simpa using e
    exact run_convert_bytes_nil w 205 5 Try.underlying205 Try.underlying5 0 0 9 Try.underlying9
  · obtain ⟨rfl, rfl⟩ : A = some ⟨g, 0, none⟩ ∧ cap = cap' := by simpa using e
    refine run_convert_bytes_back w 205 9 5 ⟨g, 0, none⟩ cap l Try.underlying205 Try.underlying5 Try.underlying9 ?_
    intro j hj
    refine h.cells (g := g) rfl j _ ?_
    simp [hj]

theorem cell_past {S : Nat → Prop} {B b i : Nat} {w w1 : World} {o : Obj} {v : Value} (hb : Ch B S (w.alloc o) w1) (hB : w.heap.size ≤ B) (hS : ¬ S b) (hc : w.cell? ⟨b, i, none⟩ = some v) : w1.cell? ⟨b, i, none⟩ = some v := by
  have hl := World.block_lt_of_cell? _ _ hc
  simp only at hl
  rw [hb.cell (p := ⟨b, i, none⟩) (Nat.lt_of_lt_of_le hl hB) hS, World.cell?_alloc_lt _ _ _ hl]; exact hc
theorem frozen_past {S : Nat → Prop} {B b i : Nat} {w w1 : World} {o : Obj} (hb : Ch B S (w.alloc o) w1) (hB : w.heap.size ≤ B) (hS : ¬ S b) (hl : b < w.heap.size) (hf : w.frozen? ⟨b, i, none⟩ = false) : w1.frozen? ⟨b, i, none⟩ = false := by
  rw [hb.frozen (p := ⟨b, i, none⟩) (Nat.lt_of_lt_of_le hl hB) hS, World.frozen?_alloc_old _ _ _ (Nat.ne_of_lt hl)]; exact hf

/-- A writer in block b that holds the bytes l. -/
structure Wr (w : World) (b : Nat) (A : Option Addr) (cap : Nat) (l : List UInt8) : Prop where
  cell : w.cell? ⟨b, 0, none⟩ = some (.slice A l.length cap)
  fr : w.frozen? ⟨b, 0, none⟩ = false
  own : OwnB w (b + 1) A cap l

/-- The slice is stored back. -/
theorem wr_store {w : World} {b : Nat} {x : Value} {A : Option Addr} {cap : Nat} {l : List UInt8} {n : Nat} (hn : n = l.length) (k1 : w.cell? ⟨b, 0, none⟩ = some x) (k2 : w.frozen? ⟨b, 0, none⟩ = false) (ho : OwnB w (b + 1) A cap l) :
    Wr (w.setCell ⟨b, 0, none⟩ (.slice A n cap)) b A cap l := by
  subst hn
  exact ⟨World.cell?_setCell_same _ _ _ k1, by rw [World.frozen?_setCell]; exact k2, ownsRow_setCell_below ho (Nat.lt_succ_self b) _⟩

/-- A number's bytes. -/
def putNum (n : Nat) : List UInt8 := if n < 128 then [UInt8.ofNat n] else UInt8.ofNat (128 + n % 128) :: putNum (n / 128)
  termination_by n
  decreasing_by omega

theorem putNum_small {n : Nat} (h : n < 128) : putNum n = [UInt8.ofNat n] := by rw [putNum, if_pos h]
theorem putNum_large {n : Nat} (h : ¬ n < 128) : putNum n = UInt8.ofNat (128 + n % 128) :: putNum (n / 128) := by rw [putNum, if_neg h]
theorem putNum_pos (n : Nat) : 0 < (putNum n).length := by
  rw [putNum]; split <;> simp
theorem putNum_len : ∀ (k n : Nat), n < 128 ^ (k + 1) → (putNum n).length ≤ k + 1
  | 0, n, h => by rw [putNum_small (by omega)]; simp
  | k + 1, n, h => by
    by_cases hs : n < 128
    · rw [putNum_small hs]; simp
    · rw [putNum_large hs, List.length_cons]
      have := putNum_len k (n / 128) (by rw [Nat.pow_succ] at h; omega)
      omega

/-- What a writer's step may change, and where its slice may lie then. -/
structure WrCh (b : Nat) (A A' : Option Addr) (w w' : World) : Prop where
  ch : Ch w.heap.size (fun k => k = b ∨ Row A k) w w'
  row : ∀ k, Row A' k → Row A k ∨ w.heap.size ≤ k
theorem WrCh.refl (b : Nat) (A : Option Addr) (w : World) : WrCh b A A w w := ⟨Ch.refl _ _ _, fun _ h => .inl h⟩
theorem WrCh.trans {b : Nat} {A A' A'' : Option Addr} {w w' w'' : World} (h : WrCh b A A' w w') (k : WrCh b A' A'' w' w'') : WrCh b A A'' w w'' := by
  refine ⟨h.ch.step k.ch h.ch.size ?_, ?_⟩
  · rintro i hi (rfl | hi')
    · exact .inl rfl
    · rcases h.row i hi' with h1 | h1
      · exact .inr h1
      · omega
  · intro i hi
    rcases k.row i hi with h1 | h1
    · exact h.row i h1
    · exact .inr (Nat.le_trans h.ch.size h1)
theorem WrCh.alloc (b : Nat) (A : Option Addr) (w : World) (o : Obj) : WrCh b A A w (w.alloc o) := ⟨(Ch.refl _ _ _).alloc (Nat.le_refl _) _, fun _ h => .inl h⟩
theorem WrCh.drewN (b : Nat) (A : Option Addr) (w : World) (n : Nat) : WrCh b A A w (w.drewN n) := ⟨(Ch.refl _ _ _).drewN _, fun _ h => .inl h⟩
theorem WrCh.append {b : Nat} {A A' : Option Addr} {w w' : World} (hc : Ch w.heap.size (Row A) w w') (hA : A' = A ∨ A' = some ⟨w.heap.size, 0, none⟩) : WrCh b A A' w w' := by
  refine ⟨hc.mono (Nat.le_refl _) (fun _ _ h => .inr h), fun k hk => ?_⟩
  rcases hA with rfl | rfl
  · exact .inl hk
  · right; simp [Row] at hk; omega
theorem WrCh.store (b : Nat) (A : Option Addr) (w : World) (v : Value) : WrCh b A A w (w.setCell ⟨b, 0, none⟩ v) := ⟨(Ch.refl _ _ _).setCell (p := ⟨b, 0, none⟩) (.inr (.inl rfl)) _, fun _ h => .inl h⟩

def WrPost (b : Nat) (A : Option Addr) (l : List UInt8) (w : World) (e : Ending) (w' : World) : Prop :=
  e = .returned (.pointer (some ⟨b, 0, none⟩)) ∧ ∃ A' cap, WrCh b A A' w w' ∧ Wr w' b A' cap l

theorem byteVal_of {z : Int} {c : Nat} (hz : z = c) (hc : c < 256) : Value.int .u8 z = byteVal (UInt8.ofNat c) := by
  subst hz
  show _ = Value.int .u8 (((UInt8.ofNat c).toNat : Nat) : Int)
  rw [UInt8.toNat_ofNat', Nat.mod_eq_of_lt hc]
theorem or128 (n : Nat) : bits .or .i64 ((n : Int) % 128) 128 = ((128 + n % 128 : Nat) : Int) := by
  have h := i64_or_nat (n % 128) 128 (by omega) (by decide)
  have e : n % 128 ||| 128 = n % 128 + 1 * 2 ^ 7 := or_digit (n % 128) 1 7 (by omega)
  have h2 : ((n % 128 : Nat) : Int) = (n : Int) % 128 := by omega
  rw [h2] at h
  refine h.trans ?_
  rw [e]; omega

set_option maxRecDepth 100000 in
theorem wnumber_calls (b : Nat) (A : Option Addr) (cap : Nat) (l : List UInt8) (n : Int) (w : World) (hn0 : 0 ≤ n) (hn1 : n ≤ 9007199254740992) (hl : l.length + (putNum n.toNat).length ≤ 140737488355328) (hw : Wr w b A cap l) :
    Calls Try.prog 158 #[.pointer (some ⟨b, 0, none⟩), .int .i64 n] w (WrPost b A (l ++ putNum n.toNat) w) := by
  obtain ⟨n, rfl⟩ := Int.eq_ofNat_of_zero_le hn0
  rw [Int.toNat_natCast] at *
  have HW := Lib.hid hw
  have HL := Lib.hid hl
  have hb0 := World.block_lt_of_cell? _ _ hw.cell
  clear hw hl
  go_enter Try.func158, Try.ntmps158
  go_wp2
  go_loopg [1] n (fun k vn wr => ∃ (m : Nat) (A' : Option Addr) (cap : Nat) (cur : List UInt8), vn = .int .i64 m ∧ m ≤ 9007199254740992 ∧ Hid (k = m ∧ Wr wr b A' cap cur ∧ WrCh b A A' w wr ∧ cur ++ putNum m = l ++ putNum n))
  case atStart => exact ⟨n, A, cap, l, rfl, by omega, rfl, HW.out, WrCh.refl _ _ _, rfl⟩
  case round =>
    clear HW
    obtain ⟨m, A1, cap, cur, rfl, hm, HH⟩ := hrel
    obtain ⟨rfl, hw, hb, he⟩ := HH.out
    obtain ⟨hc, hf, ho⟩ := hw
    have hbw := World.block_lt_of_cell? _ _ hc
    simp at hbw
    have HO := Lib.hid ho
    have HB := Lib.hid hb
    have HE := Lib.hid he
    have HLEN := Lib.hid (show cur.length + (putNum gk).length ≤ 140737488355328 by have := congrArg List.length he; simp only [List.length_append] at this; have := HL.out; omega)
    have hRb : ¬ Row A1 b := fun h => by have := own_row ho h; omega
    clear HH he ho hb
    by_cases hs : gk < 128
    · have hd : decide ((128 : Int) ≤ (gk : Int)) = false := by simp; omega
      go_wp2_with (first | (at_builtin; refine app_u8 rfl (.tmp 26) (.tmp 29) rfl (b + 1) A1 cap cur rfl (HO.out.alloc _) wr.heap.size _ (UInt8.ofNat gk) rfl (World.cell?_alloc_new _ _ _ _) ?hu ?hl ?hb ?_; (case hu => exact byteVal_of (by omega) (by omega)); (case hl => have := HLEN.out; have := putNum_pos gk; omega); (case hb => simp; omega); intro A' cap' w1 ho1 hb1 hA1; have k1 := cell_past hb1 (by simp) hRb hc; have k2 := frozen_past hb1 (by simp) hRb hbw hf; have HO1 := Lib.hid ho1; have HB1 := Lib.hid (((WrCh.alloc b A1 wr (.cells #[.int .u8 (gk : Nat)] 5)).trans (WrCh.append hb1 hA1)).trans (WrCh.store b A' w1 (.slice A' (cur.length + 1) cap'))); clear ho1 hb1 hA1))
      go_ret
      have HP := putNum_small hs
      refine ⟨rfl, A', cap', HB.out.trans HB1.out, ?_⟩
      · rw [← HE.out, putNum_small hs]
        exact wr_store (by simp) k1 k2 HO1.out
    · have hd : decide ((128 : Int) ≤ (gk : Int)) = true := by simp; omega
      have hand : bits .and .i64 (gk : Int) 127 = (gk : Int) % 128 := by rw [and127]; omega
      obtain ⟨u, hu⟩ : ∃ u : Nat, u = 128 + gk % 128 := ⟨_, rfl⟩
      have hor : bits .or .i64 ((gk : Int) % 128) 128 = (u : Int) := by rw [or128, hu]
      have hu1 : u ≤ 255 := by omega
      have hu2 : 128 ≤ u := by omega
      obtain ⟨m, hm'⟩ : ∃ m : Nat, m = gk / 128 := ⟨_, rfl⟩
      have h7 : (gk : Int) / 128 = (m : Int) := by omega
      have hm1 : m < gk := by omega
      have hpl := putNum_large hs
      rw [← hu, ← hm'] at hpl
      have HPL := Lib.hid hpl
      clear hpl hu hm'
      go_wp2_with (first | (at_builtin; refine app_u8 rfl (.tmp 11) (.tmp 16) rfl (b + 1) A1 cap cur rfl (HO.out.alloc _) wr.heap.size _ (UInt8.ofNat u) rfl (World.cell?_alloc_new _ _ _ _) ?hu ?hl ?hb ?_; (case hu => exact byteVal_of (by omega) (by omega)); (case hl => have := HLEN.out; have := putNum_pos gk; omega); (case hb => simp; omega); intro A' cap' w1 ho1 hb1 hA1; have k1 := cell_past hb1 (by simp) hRb hc; have k2 := frozen_past hb1 (by simp) hRb hbw hf; have HO1 := Lib.hid ho1; have HB1 := Lib.hid (((WrCh.alloc b A1 wr (.cells #[.int .u8 (u : Nat)] 5)).trans (WrCh.append hb1 hA1)).trans (WrCh.store b A' w1 (.slice A' (cur.length + 1) cap'))); clear ho1 hb1 hA1))
      go_roundg m
      case measure => omega
      case rel =>
        refine ⟨m, A', cap', cur ++ [UInt8.ofNat u], rfl, by omega, rfl, wr_store (by simp) k1 k2 HO1.out, HB.out.trans HB1.out, ?_⟩
        · rw [← HE.out, HPL.out]; simp

/-- A text's bytes, behind its length. -/
def putText (t : ByteArray) : List UInt8 := putNum t.size ++ t.data.toList
theorem putText_length (t : ByteArray) : (putText t).length = (putNum t.size).length + t.size := by simp [putText]

set_option maxRecDepth 100000 in
theorem wtext_calls (b : Nat) (A : Option Addr) (cap : Nat) (l : List UInt8) (t : ByteArray) (w : World) (ht : t.size ≤ 9007199254740992) (hl : l.length + (putText t).length ≤ 140737488355328) (hw : Wr w b A cap l) :
    Calls Try.prog 159 #[.pointer (some ⟨b, 0, none⟩), .string t] w (WrPost b A (l ++ putText t) w) := by
  rw [putText_length] at hl
  have HL := Lib.hid hl
  have hN := wnumber_calls b A cap l (t.size : Nat) w (by omega) (by omega) (by rw [Int.toNat_natCast]; omega) hw
  rw [Int.toNat_natCast] at hN
  have HN := Lib.hid hN
  have hb0 := World.block_lt_of_cell? _ _ hw.cell
  clear hw hl hN
  go_enter Try.func159, Try.ntmps159
  go_wp2_with fail
  refine HN.out.mono ?_
  rintro e w1 ⟨rfl, A1, cap1, hb, hw⟩
  obtain ⟨hc, hf, ho⟩ := hw
  have hbw := World.block_lt_of_cell? _ _ hc
  simp at hbw
  obtain ⟨l1, hl1⟩ : ∃ l1, l1 = l ++ putNum t.size := ⟨_, rfl⟩
  rw [← hl1] at hc ho
  have HO := Lib.hid ho
  have HB := Lib.hid hb
  have HL1 := Lib.hid hl1
  have hRb : ¬ Row A1 b := fun h => by have := own_row ho h; omega
  clear ho hb hl1
  go_wp2_with (first | (at_builtin; refine app_str rfl (.tmp 16) (.tmp 17) rfl (b + 1) A1 cap1 l1 rfl HO.out t rfl ?hl ?hb ?_; (case hl => rw [HL1.out, List.length_append]; have := HL.out; omega); (case hb => exact hbw); intro A' cap' w2 ho1 hb1 hA1; have k1 := (hb1.cell (p := ⟨b, 0, none⟩) hbw hRb).trans hc; have k2 := (hb1.frozen (p := ⟨b, 0, none⟩) hbw hRb).trans hf; have HO1 := Lib.hid ho1; have HB1 := Lib.hid ((WrCh.append hb1 hA1).trans (WrCh.store b A' w2 (.slice A' (l1.length + t.size) cap'))); clear ho1 hb1 hA1))
  go_ret
  refine ⟨rfl, A', cap', HB.out.trans HB1.out, ?_⟩
  · have e : l ++ putText t = l1 ++ t.data.toList := by rw [HL1.out, putText, List.append_assoc]
    rw [e]
    exact wr_store (by simp) k1 k2 HO1.out
end Go.Proofs.Ytfgpchffkpomoaa

/- The writer's message. -/
namespace Go.Proofs.Ytfgpchffkpomoaa
set_option linter.unusedSimpArgs false
set_option linter.unusedVariables false
open Go.RowKit

def Sg.val (m : Sg) : Value := .agg #[.int .i64 m.who, .string m.body, .string m.sig]
def putSg (m : Sg) : List UInt8 := putNum m.who.toNat ++ (putText m.body ++ putText m.sig)

theorem Wr.other {w : World} {b : Nat} {A : Option Addr} {cap : Nat} {l : List UInt8} (h : Wr w b A cap l) {w' : World} {B : Nat} {S : Nat → Prop} (hc : Ch B S w w') (hb : b < B ∧ ¬ S b) (hA : ∀ k, Row A k → k < B ∧ ¬ S k) : Wr w' b A cap l :=
  ⟨(hc.cell (p := ⟨b, 0, none⟩) hb.1 hb.2).trans h.cell, (hc.frozen (p := ⟨b, 0, none⟩) hb.1 hb.2).trans h.fr, own_ch h.own hc hA⟩
theorem Wr.alloc {w : World} {b : Nat} {A : Option Addr} {cap : Nat} {l : List UInt8} (h : Wr w b A cap l) (o : Obj) : Wr (w.alloc o) b A cap l :=
  h.other (B := w.heap.size) (S := fun _ => False) ((Ch.refl _ _ _).alloc (Nat.le_refl _) o) ⟨World.block_lt_of_cell? _ _ h.cell, fun h => h⟩ (fun _ hk => ⟨(own_row h.own hk).2, fun h => h⟩)
theorem Wr.drewN {w : World} {b : Nat} {A : Option Addr} {cap : Nat} {l : List UInt8} (h : Wr w b A cap l) (n : Nat) : Wr (w.drewN n) b A cap l := ⟨h.1, h.2, h.3⟩
theorem Wr.drew {w : World} {b : Nat} {A : Option Addr} {cap : Nat} {l : List UInt8} (h : Wr w b A cap l) : Wr w.drew b A cap l := ⟨h.1, h.2, h.3⟩
theorem Wr.lt {w : World} {b : Nat} {A : Option Addr} {cap : Nat} {l : List UInt8} (h : Wr w b A cap l) : b < w.heap.size := World.block_lt_of_cell? _ _ h.cell

/-- A box that is none of the writer's blocks is none of them later. -/
theorem wr_ne {b k : Nat} {A A' : Option Addr} {w w' : World} (h : WrCh b A A' w w') (hk : k < w.heap.size) (hb : k ≠ b) (hA : ¬ Row A k) : ¬ (k = b ∨ Row A' k) := by
  rintro (e | e)
  · exact hb e
  · rcases h.row k e with h1 | h1
    · exact hA h1
    · omega
theorem cells3 {w : World} {k : Nat} {a b c : Value} {T : TypeId} (h : Box w k #[a, b, c] T) : w.cell? ⟨k, 0, none⟩ = some a ∧ w.cell? ⟨k, 1, none⟩ = some b ∧ w.cell? ⟨k, 2, none⟩ = some c := ⟨h.cell 0, h.cell 1, h.cell 2⟩

set_option maxRecDepth 100000 in
theorem wsigned_calls (b : Nat) (A : Option Addr) (cap : Nat) (l : List UInt8) (m : Sg) (w : World) (h0 : 0 ≤ m.who) (h1 : m.who ≤ 9007199254740992) (hb : m.body.size ≤ 9007199254740992) (hg : m.sig.size ≤ 9007199254740992)
    (hl : l.length + (putSg m).length ≤ 140737488355328) (hw : Wr w b A cap l) :
    Calls Try.prog 162 #[.pointer (some ⟨b, 0, none⟩), m.val] w (WrPost b A (l ++ putSg m) w) := by
  obtain ⟨who, body, sig⟩ := m
  unfold Sg.val
  simp only at *
  have HL := Lib.hid hl
  have HW := Lib.hid (hw.alloc (.cells #[.int .i64 who, .string body, .string sig] 61))
  have hbl := hw.lt
  have hRA : ¬ Row A w.heap.size := fun h => by have := (own_row hw.own h).2; omega
  have HB := Lib.hid (Box.new w #[.int .i64 who, .string body, .string sig] 61)
  clear hl hw
  have HL0 := Lib.hid (show l.length + (putNum who.toNat).length ≤ 140737488355328 by have := HL.out; simp only [putSg, List.length_append] at this; omega)
  have HL1 := Lib.hid (show (l ++ putNum who.toNat).length + (putText body).length ≤ 140737488355328 by have := HL.out; simp only [putSg, List.length_append] at this ⊢; omega)
  have HL2 := Lib.hid (show (l ++ putNum who.toNat ++ putText body).length + (putText sig).length ≤ 140737488355328 by have := HL.out; simp only [putSg, List.length_append] at this ⊢; omega)
  obtain ⟨W, hW⟩ : ∃ W, W = w.alloc (.cells #[.int .i64 who, .string body, .string sig] 61) := ⟨_, rfl⟩
  have hsz : w.heap.size < W.heap.size := by rw [hW]; simp
  have HA := Lib.hid (WrCh.alloc b A w (.cells #[.int .i64 who, .string body, .string sig] 61))
  rw [← hW] at HB HW HA
  have HWW := Lib.hid hW
  clear hW
  go_enter Try.func162, Try.ntmps162
  go_wp2_with fail
  rw [← HWW.out]
  go_region_held3 (fun w' => w'.cell? ⟨w.heap.size, 0, none⟩ = some (.int .i64 who) ∧ w'.cell? ⟨w.heap.size, 1, none⟩ = some (.string body) ∧ w'.cell? ⟨w.heap.size, 2, none⟩ = some (.string sig)) (first | exact cells3 (by assumption) | exact cells3 HB.out) (first | (go_at_call 158; refine (wnumber_calls b A cap l who _ h0 h1 HL0.out HW.out.drew).mono ?_; rintro e w1 ⟨rfl, A1, cap1, hc1, hw1⟩; have HC1 := Lib.hid ((WrCh.drewN b A W 1).trans hc1); have hb1 := HB.out.drew.ch hc1.ch (by exact hsz) (by exact wr_ne (WrCh.refl b A W) hsz (by omega) hRA); clear hc1; have t1 : True := trivial) | (go_at_call 159; have _t := t1; clear t1; refine (wtext_calls b A1 cap1 _ body _ hb HL1.out hw1).mono ?_; rintro e w2 ⟨rfl, A2, cap2, hc2, hw2⟩; have hb2 := hb1.ch hc2.ch (by exact hb1.lt) (by exact wr_ne HC1.out hsz (by omega) hRA); have HC2 := Lib.hid (HC1.out.trans hc2); clear hc2 hb1 hw1; have t2 : True := trivial) | (go_at_call 159; have _t := t2; clear t2; refine (wtext_calls b A2 cap2 _ sig _ hg HL2.out hw2).mono ?_; rintro e w3 ⟨rfl, A3, cap3, hc3, hw3⟩; have hb3 := hb2.ch hc3.ch (by exact hb2.lt) (by exact wr_ne HC2.out hsz (by omega) hRA); have HC3 := Lib.hid (HC2.out.trans hc3); clear hc3))
  have HW3 := Lib.hid hw3
  clear hw3 hb2 hb3 hw2
  go_wp2
  go_ret
  refine ⟨rfl, A3, cap3, HA.out.trans HC3.out, ?_⟩
  have e : l ++ putSg ⟨who, body, sig⟩ = l ++ putNum who.toNat ++ putText body ++ putText sig := by simp [putSg]
  rw [e]
  exact HW3.out
end Go.Proofs.Ytfgpchffkpomoaa

/- Slices that are read: their elements, a fixed number of cells each. -/
namespace Go.Proofs.Ytfgpchffkpomoaa
set_option linter.unusedSimpArgs false
set_option linter.unusedVariables false
open Go.RowKit

/-- A slice of n elements of sz cells each, that holds the cells xs. -/
structure Sl (w : World) (sz : Nat) (A : Option Addr) (n c : Nat) (xs : List Value) : Prop where
  len : xs.length = n * sz
  fits : n ≤ 9223372036854775807
  at_ : ∀ j u, xs[j]? = some u → ∃ a, A = some a ∧ w.cell? (a.add j) = some u

theorem add_field (a : Addr) (m j : Nat) (hj : 0 < j) : a.add (m + j) = ⟨(a.add m).block, (a.add m).off + j, none⟩ := by
  rw [← Addr.add_add]
  generalize a.add m = b
  unfold Addr.add
  rw [if_neg (by omega)]

theorem flat_get {α : Type} (f : α → List Value) (sz : Nat) (hf : ∀ x, (f x).length = sz) : ∀ (l : List α) (k j : Nat) (hk : k < l.length), j < sz → (l.flatMap f)[k * sz + j]? = (f l[k])[j]?
  | [], _, _, hk, _ => by simp at hk
  | x :: l, 0, j, _, hj => by
    simp only [List.flatMap_cons, Nat.zero_mul, Nat.zero_add, List.getElem_cons_zero]
    rw [List.getElem?_append_left (by rw [hf]; exact hj)]
  | x :: l, k + 1, j, hk, hj => by
    simp only [List.flatMap_cons, List.getElem_cons_succ]
    rw [List.getElem?_append_right (by rw [hf, Nat.succ_mul]; omega)]
    rw [show (k + 1) * sz + j - (f x).length = k * sz + j by rw [hf, Nat.succ_mul]; omega]
    exact flat_get f sz hf l k j (by simpa using hk) hj
theorem flat_len {α : Type} (f : α → List Value) (sz : Nat) (hf : ∀ x, (f x).length = sz) (l : List α) : (l.flatMap f).length = l.length * sz := by
  induction l with
  | nil => simp
  | cons x l ih => simp only [List.flatMap_cons, List.length_append, hf, ih, List.length_cons, Nat.succ_mul]; omega

namespace Sl
variable {w w' : World} {sz n c : Nat} {A : Option Addr} {xs : List Value}
theorem row_lt (h : Sl w sz A n c xs) (hn : 0 < xs.length) : ∀ k, Row A k → k < w.heap.size := by
  intro k hk
  obtain ⟨a, rfl, hc⟩ := h.at_ 0 xs[0] (by simp [hn])
  have := World.block_lt_of_cell? _ _ hc
  have e : (a.add 0) = a := by simp [Addr.add]
  rw [e] at this
  simp only [Row, Option.map_some, Option.some.injEq] at hk
  omega
theorem add_block (a : Addr) (j : Nat) : (a.add j).block = a.block := by unfold Addr.add; split <;> rfl
theorem ch {B : Nat} {S : Nat → Prop} (h : Sl w sz A n c xs) (hc : Ch B S w w') (hB : ∀ k, Row A k → k < w.heap.size → k < B ∧ ¬ S k) : Sl w' sz A n c xs := by
  refine ⟨h.len, h.fits, fun j u hj => ?_⟩
  obtain ⟨a, rfl, hca⟩ := h.at_ j u hj
  have hlt := World.block_lt_of_cell? _ _ hca
  have hr : Row (some a) (a.add j).block := by rw [add_block]; rfl
  have := hB _ hr hlt
  exact ⟨a, rfl, (hc.cell this.1 this.2).trans hca⟩
theorem below (h : Sl w sz A n c xs) (hb : Below w.heap.size w w') : Sl w' sz A n c xs :=
  h.ch (B := w.heap.size) (S := fun _ => False) (.of_below hb) (fun _ _ h => ⟨h, fun h => h⟩)
theorem of_own {base e : Nat} (h : w.ownsRow base e sz (.slice A n c) n xs) : Sl w sz A n c xs := by
  refine ⟨h.1, ?_, fun j u hj => ?_⟩
  · rcases h.2 with ⟨hv, rfl⟩ | ⟨g, cap, cur, hv, _, _, hnc, hcm, _⟩
    · omega
    · simp only [maxLen] at hcm; omega
  · rcases h.2 with ⟨hv, rfl⟩ | ⟨g, cap, cur, hv, _⟩
    · obtain rfl : xs = [] := List.eq_nil_of_length_eq_zero (by have := h.1; simpa using this)
      simp at hj
    · obtain ⟨rfl, rfl⟩ : A = some ⟨g, 0, none⟩ ∧ c = cap := by simpa using hv
      exact ⟨_, rfl, h.cells (g := g) rfl j u hj⟩
/-- The k-th element, its cells at the addresses as a walk spells them. -/
theorem elem {α : Type} {f : α → List Value} {l : List α} (h : Sl w sz A l.length c (l.flatMap f)) (hf : ∀ x, (f x).length = sz) (k : Nat) (hk : k < l.length) (hsz : 0 < sz) :
    ∃ a, A = some a ∧ (∀ u, (f l[k])[0]? = some u → w.cell? (a.add (k * sz)) = some u) ∧ (∀ j u, 0 < j → (f l[k])[j]? = some u → w.cell? ⟨(a.add (k * sz)).block, (a.add (k * sz)).off + j, none⟩ = some u) := by
  have hget : ∀ j u, (f l[k])[j]? = some u → (l.flatMap f)[k * sz + j]? = some u := fun j u hu => by
    have hj : j < sz := by rw [← hf l[k]]; exact (List.getElem?_eq_some_iff.1 hu).1
    rw [flat_get f sz hf l k j hk hj]; exact hu
  obtain ⟨a, rfl, _⟩ := h.at_ (k * sz + 0) _ (hget 0 _ (List.getElem?_eq_getElem (by rw [hf]; exact hsz)))
  refine ⟨a, rfl, fun u hu => ?_, fun j u hj hu => ?_⟩
  · obtain ⟨a', e, hc⟩ := h.at_ _ u (hget 0 u hu)
    obtain rfl := Option.some.inj e
    exact hc
  · obtain ⟨a', e, hc⟩ := h.at_ _ u (hget j u hu)
    obtain rfl := Option.some.inj e
    rw [← add_field _ _ _ hj]; exact hc
end Sl
end Go.Proofs.Ytfgpchffkpomoaa

/- Which messages may be: both texts, over one word. -/
namespace Go.Proofs.Ytfgpchffkpomoaa
set_option linter.unusedSimpArgs false
set_option linter.unusedVariables false
open Go.RowKit

def fitsB (m : Sg) : Bool := decide (0 ≤ m.who ∧ m.who ≤ 255 ∧ m.body.size ≤ 1048576 ∧ m.sig.size ≤ 32)

def BoolPost (b : Bool) (w : World) (e : Ending) (w' : World) : Prop := e = .returned (.bool b) ∧ Below w.heap.size w w'
theorem ret_bool {a b : Bool} (h : a = b) : Ending.returned (.bool a) = .returned (.bool b) := by rw [h]

theorem within_calls (n m : Int) (w : World) : Calls Try.prog 185 #[.int .i64 n, .int .i64 m] w fun e w' => e = .returned (.bool (decide (0 ≤ n ∧ n ≤ m))) ∧ w = w' := by
  by_cases h0 : 0 ≤ n
  · by_cases h1 : n ≤ m
    all_goals
      go_enter Try.func185, Try.ntmps185
      go_wp2
      go_ret
      exact ⟨by simp [h0, h1], rfl⟩
  · go_enter Try.func185, Try.ntmps185
    go_wp2
    go_ret
    exact ⟨ret_bool (by simp; omega), rfl⟩

theorem fits_calls (m : Sg) (w : World) : Calls Try.prog 173 #[m.val] w (BoolPost (fitsB m) w) := by
  obtain ⟨who, body, sig⟩ := m
  unfold Sg.val
  go_enter Try.func173, Try.ntmps173
  go_wp2_with (go_at_call 185; refine (within_calls _ _ _).mono ?_; rintro e w' ⟨rfl, rfl⟩)
  all_goals
    go_ret
    exact ⟨ret_bool (by unfold fitsB; rw [Bool.eq_iff_iff]; simp only [decide_eq_true_eq, Bool.false_eq_true, false_iff]; omega), (Below.refl _ _).alloc (Nat.le_refl _) _⟩

theorem rfits_calls (m : Sg) (w : World) : Calls Try.prog 148 #[m.val] w (BoolPost (fitsB m) w) := by
  obtain ⟨who, body, sig⟩ := m
  unfold Sg.val
  go_enter Try.func148, Try.ntmps148
  go_wp2
  all_goals
    go_ret
    exact ⟨ret_bool (by unfold fitsB; rw [Bool.eq_iff_iff]; simp only [decide_eq_true_eq, Bool.false_eq_true, false_iff]; omega), (Below.refl _ _).alloc (Nat.le_refl _) _⟩

def Sg.cells (m : Sg) : List Value := [.int .i64 m.who, .string m.body, .string m.sig]
theorem Sg.cells_len (m : Sg) : m.cells.length = 3 := rfl
/-- A list of messages, as a slice. -/
def SgS (w : World) (A : Option Addr) (c : Nat) (l : List Sg) : Prop := Sl w 3 A l.length c (l.flatMap Sg.cells)
theorem SgS.below {w w' : World} {A : Option Addr} {c : Nat} {l : List Sg} (h : SgS w A c l) (hb : Below w.heap.size w w') : SgS w' A c l := Sl.below h hb
theorem SgS.elem {w : World} {A : Option Addr} {c : Nat} {l : List Sg} (h : SgS w A c l) (k : Nat) (hk : k < l.length) : ∃ a, A = some a ∧ w.cell? (a.add (k * 3)) = some (.int .i64 l[k].who) ∧
    w.cell? ⟨(a.add (k * 3)).block, (a.add (k * 3)).off + 1, none⟩ = some (.string l[k].body) ∧ w.cell? ⟨(a.add (k * 3)).block, (a.add (k * 3)).off + 2, none⟩ = some (.string l[k].sig) := by
  obtain ⟨a, rfl, h0, h1⟩ := Sl.elem h Sg.cells_len k hk (by decide)
  exact ⟨a, rfl, h0 _ rfl, h1 1 _ (by decide) rfl, h1 2 _ (by decide) rfl⟩

theorem info_sg : (Try.prog.info? 61).map (fun i => (i.zero, i.size, i.bytes)) = some (some (.agg #[.int .i64 0, .string ⟨#[]⟩, .string ⟨#[]⟩]), 3, 40) := by kernel_rfl
theorem Sg.one (m : Sg) : ∀ u ∈ m.cells, u.oneCell' = true := by
  intro u hu
  simp [Sg.cells] at hu
  rcases hu with rfl | rfl | rfl <;> rfl

def fitAllB (l : List Sg) : Bool := l.all fitsB
theorem fitAll_no {l : List Sg} {k : Nat} (hk : k < l.length) (h : fitsB l[k] = false) : fitAllB l = false := by
  unfold fitAllB
  rw [List.all_eq_false]
  exact ⟨l[k], List.getElem_mem hk, by simp [h]⟩
theorem fitAll_take {l : List Sg} {k : Nat} (hk : k < l.length) (h : fitsB l[k] = true) (ht : fitAllB (l.take k) = true) : fitAllB (l.take (k + 1)) = true := by
  unfold fitAllB at *
  rw [List.take_succ_eq_append_getElem hk, List.all_append, ht]
  simp [h]

set_option maxRecDepth 100000 in
theorem fitAll_calls (A : Option Addr) (c : Nat) (l : List Sg) (w : World) (h : SgS w A c l) : Calls Try.prog 188 #[.slice A l.length c] w (BoolPost (fitAllB l) w) := by
  have HS := Lib.hid h
  have hfit := h.fits
  clear h
  go_enter Try.func188, Try.ntmps188
  go_wp2
  go_loopw [7] (fun vi wr => ∃ k : Nat, vi = .int .i64 k ∧ k ≤ l.length ∧ Hid (Below w.heap.size w wr ∧ fitAllB (l.take k) = true)) (fun vi _ => l.length - (intOf vi).toNat)
  case atStart => exact ⟨0, rfl, by omega, Below.refl _ _, rfl⟩
  case round =>
    obtain ⟨k, rfl, hk, HH⟩ := hrel
    obtain ⟨hb, ht⟩ := HH.out
    have HB := Lib.hid hb
    have HT := Lib.hid ht
    have hsz := hb.size
    clear HH hb ht
    by_cases hlt : k < l.length
    · have hd : decide ((k : Int) < (l.length : Int)) = true := by simp; omega
      obtain ⟨a, rfl, h0, h1, h2⟩ := (HS.out.below HB.out).elem k hlt
      have HC := Lib.hid (fits_calls l[k])
      obtain ⟨m, hm⟩ : ∃ m, m = l[k] := ⟨_, rfl⟩
      rw [← hm] at h0 h1 h2 HC
      have HM := Lib.hid hm
      clear hm
      obtain ⟨who, body, sig⟩ := m
      simp only at h0 h1 h2
      cases hf : fitsB ⟨who, body, sig⟩ with
      | true =>
        have HF := Lib.hid hf
        clear hf
        go_wp2_with (go_at_call 173; refine (HC.out _).mono ?_; rw [HF.out]; rintro e w1 ⟨rfl, hb1⟩; have HB1 := Lib.hid hb1; clear hb1)
        go_roundw
        case rel => exact ⟨k + 1, by go_num, by omega, (HB.out.alloc (by omega) _).trans (HB1.out.mono (by simp; omega)), fitAll_take hlt (by rw [← HM.out]; exact HF.out) HT.out⟩
        case measure => simp [intOf]; omega
      | false =>
        have HF := Lib.hid hf
        clear hf
        go_wp2_with (go_at_call 173; refine (HC.out _).mono ?_; rw [HF.out]; rintro e w1 ⟨rfl, hb1⟩; have HB1 := Lib.hid hb1; clear hb1)
        go_ret
        exact ⟨ret_bool (fitAll_no hlt (by rw [← HM.out]; exact HF.out)).symm, (HB.out.alloc (by omega) _).trans (HB1.out.mono (by simp; omega))⟩
    · have hd : decide ((k : Int) < (l.length : Int)) = false := by simp; omega
      go_wp2
      go_ret
      have := HT.out
      rw [List.take_of_length_le (by omega)] at this
      exact ⟨ret_bool this.symm, HB.out⟩
end Go.Proofs.Ytfgpchffkpomoaa

/- The document's numbers, texts and messages as bytes. -/
namespace Go.Proofs.Ytfgpchffkpomoaa
set_option linter.unusedSimpArgs false
set_option linter.unusedVariables false
open Go.RowKit

/-- Bytes as a string. -/
def bs (l : List UInt8) : ByteArray := ⟨l.toArray⟩
def StrPost (s : ByteArray) (w : World) (e : Ending) (w' : World) : Prop := e = .returned (.string s) ∧ Below w.heap.size w w'
theorem ret_str {a b : ByteArray} (h : a = b) : Ending.returned (.string a) = .returned (.string b) := by rw [h]
theorem bs_append (l m : List UInt8) : bs (l ++ m) = bs l ++ bs m := by
  apply ByteArray.ext
  simp [bs]
theorem bs_data (s : ByteArray) : bs s.data.toList = s := rfl
theorem bs_size (l : List UInt8) : (bs l).size = l.length := by simp [bs, ByteArray.size]

set_option maxRecDepth 100000 in
theorem rNumber_calls (n : Int) (w : World) (hn0 : 0 ≤ n) (hn1 : n ≤ 9007199254740992) : Calls Try.prog 101 #[.int .i64 n] w (StrPost (bs (putNum n.toNat)) w) := by
  obtain ⟨n, rfl⟩ := Int.eq_ofNat_of_zero_le hn0
  rw [Int.toNat_natCast]
  have HN := Lib.hid (putNum_len 8 n (by omega))
  go_enter Try.func101, Try.ntmps101
  go_wp2
  go_loopg [0, 3] n (fun k vn vs wr => ∃ (m : Nat) (A : Option Addr) (cap : Nat) (cur : List UInt8), vn = .int .i64 m ∧ vs = .slice A cur.length cap ∧ m ≤ 9007199254740992 ∧ Hid (k = m ∧ OwnB wr w.heap.size A cap cur ∧ Below w.heap.size w wr ∧ cur ++ putNum m = putNum n))
  case atStart => exact ⟨n, none, 0, [], rfl, rfl, by omega, rfl, World.ownsRow_nil _ _ _ _, Below.refl _ _, rfl⟩
  case round =>
    obtain ⟨m, A, cap, cur, rfl, rfl, hm, HH⟩ := hrel
    obtain ⟨rfl, ho, hb, he⟩ := HH.out
    have HO := Lib.hid ho
    have HB := Lib.hid hb
    have HE := Lib.hid he
    have hbs := hb.size
    have HLEN := Lib.hid (show cur.length + (putNum gk).length ≤ 9 by have := congrArg List.length he; simp only [List.length_append] at this; have := HN.out; omega)
    have hR : ∀ k, Row A k → w.heap.size ≤ k := fun k hk => (own_row ho hk).1
    clear HH he ho hb
    by_cases hs : gk < 128
    · have hd : decide ((127 : Int) < (gk : Int)) = false := by simp; omega
      go_wp2_with (first | (at_builtin; refine app_u8 rfl (.tmp 15) (.tmp 18) rfl w.heap.size A cap cur rfl (HO.out.alloc _) wr.heap.size _ (UInt8.ofNat gk) rfl (World.cell?_alloc_new _ _ _ _) ?hu ?hl ?hb ?_; (case hu => exact byteVal_of (by omega) (by omega)); (case hl => have := HLEN.out; omega); (case hb => simp; omega); intro A' cap' w1 ho1 hb1 hA1; have hst := own_to_string ho1; have HB2 := Lib.hid (below_app HB.out hbs hb1 hR); clear ho1 hb1 hA1; rw [List.length_append, List.length_singleton] at hst))
      go_ret
      exact ⟨ret_str (by rw [← HE.out, putNum_small hs]; rfl), HB2.out⟩
    · have hd : decide ((127 : Int) < (gk : Int)) = true := by simp; omega
      obtain ⟨u, hu⟩ : ∃ u : Nat, u = 128 + gk % 128 := ⟨_, rfl⟩
      have hu3 : 128 + (gk : Int) % 128 = (u : Int) := by omega
      have hu1 : u ≤ 255 := by omega
      have hu2 : 128 ≤ u := by omega
      obtain ⟨m, hm'⟩ : ∃ m : Nat, m = gk / 128 := ⟨_, rfl⟩
      have h7 : (gk : Int) / 128 = (m : Int) := by omega
      have hm1 : m < gk := by omega
      have hpl := putNum_large hs
      rw [← hu, ← hm'] at hpl
      have HPL := Lib.hid hpl
      clear hpl hu hm'
      go_wp2_with (first | (at_builtin; refine app_u8 rfl (.tmp 6) (.tmp 11) rfl w.heap.size A cap cur rfl (HO.out.alloc _) wr.heap.size _ (UInt8.ofNat u) rfl (World.cell?_alloc_new _ _ _ _) ?hu ?hl ?hb ?_; (case hu => exact byteVal_of (by omega) (by omega)); (case hl => have := HLEN.out; omega); (case hb => simp; omega); intro A' cap' w1 ho1 hb1 hA1; have HB2 := Lib.hid (below_app HB.out hbs hb1 hR); have HO1 := Lib.hid ho1; clear ho1 hb1 hA1))
      go_roundg m
      case measure => omega
      case rel => exact ⟨m, A', cap', cur ++ [UInt8.ofNat u], rfl, by simp, by omega, rfl, HO1.out, HB2.out, by rw [← HE.out, HPL.out]; simp⟩

set_option maxRecDepth 100000 in
theorem rLaid_calls (t : ByteArray) (w : World) (ht : t.size ≤ 9007199254740992) : Calls Try.prog 114 #[.string t] w (StrPost (bs (putText t)) w) := by
  have HN := Lib.hid (rNumber_calls (t.size : Nat) w (by omega) (by omega))
  have hl : (putNum t.size).length ≤ 9 := putNum_len 8 t.size (by omega)
  have hsz : (bs (putNum t.size)).size ≤ 9 := by rw [bs_size]; exact hl
  have HE := Lib.hid (bs_append (putNum t.size) t.data.toList)
  generalize hx : bs (putNum t.size) = x at *
  have HX := Lib.hid hx
  clear hx hl
  go_enter Try.func114, Try.ntmps114
  go_wp2_with fail
  refine HN.out.mono ?_
  rw [Int.toNat_natCast, HX.out]
  rintro e w1 ⟨rfl, hb⟩
  go_wp2
  go_ret
  refine ⟨ret_str ?_, hb⟩
  rw [putText, HE.out]
  rfl

set_option maxRecDepth 100000 in
theorem rOne_calls (m : Sg) (w : World) (h0 : 0 ≤ m.who) (h1 : m.who ≤ 9007199254740992) (hb : m.body.size ≤ 9007199254740992) (hg : m.sig.size ≤ 9007199254740992) :
    Calls Try.prog 77 #[m.val] w (StrPost (bs (putSg m)) w) := by
  obtain ⟨who, body, sig⟩ := m
  unfold Sg.val
  simp only at *
  have HE := Lib.hid (show bs (putSg ⟨who, body, sig⟩) = bs (putNum who.toNat) ++ bs (putText body) ++ bs (putText sig) by simp only [putSg]; rw [bs_append, bs_append, ByteArray.append_assoc])
  obtain ⟨W, hW⟩ : ∃ W, W = w.alloc (.cells #[.int .i64 who, .string body, .string sig] 61) := ⟨_, rfl⟩
  have HB := Lib.hid (Box.new w #[.int .i64 who, .string body, .string sig] 61)
  have hsz : w.heap.size < W.heap.size := by rw [hW]; simp
  have HA := Lib.hid ((Below.refl w.heap.size w).alloc (Nat.le_refl _) (.cells #[.int .i64 who, .string body, .string sig] 61))
  rw [← hW] at HB HA
  have HWW := Lib.hid hW
  clear hW
  obtain ⟨x, hx⟩ : ∃ x, x = bs (putNum who.toNat) := ⟨_, rfl⟩
  obtain ⟨y, hy⟩ : ∃ y, y = bs (putText body) := ⟨_, rfl⟩
  obtain ⟨z, hz⟩ : ∃ z, z = bs (putText sig) := ⟨_, rfl⟩
  rw [← hx, ← hy, ← hz] at HE
  have hxs : x.size ≤ 9 := by rw [hx, bs_size]; exact putNum_len 8 _ (by omega)
  have hys : y.size ≤ 9 + body.size := by rw [hy, bs_size, putText_length]; have := putNum_len 8 body.size (by omega); omega
  have hzs : z.size ≤ 9 + sig.size := by rw [hz, bs_size, putText_length]; have := putNum_len 8 sig.size (by omega); omega
  have hq1 : ¬ 9223372036854775807 < x.size + y.size := by omega
  have hq2 : ¬ 9223372036854775807 < x.size + y.size + z.size := by omega
  have HX := Lib.hid hx
  have HY := Lib.hid hy
  have HZ := Lib.hid hz
  clear hx hy hz
  go_enter Try.func77, Try.ntmps77
  go_wp2_with fail
  rw [← HWW.out]
  go_region_held3 (fun w' => w'.cell? ⟨w.heap.size, 0, none⟩ = some (.int .i64 who) ∧ w'.cell? ⟨w.heap.size, 1, none⟩ = some (.string body) ∧ w'.cell? ⟨w.heap.size, 2, none⟩ = some (.string sig)) (first | exact cells3 (by assumption) | exact cells3 HB.out) (first | (go_at_call 101; refine (rNumber_calls who _ h0 h1).mono ?_; rw [← HX.out]; rintro e w1 ⟨rfl, hc1⟩; have hb1 := HB.out.drew.ch (Ch.of_below (S := fun _ => False) hc1) (by exact hsz) (fun h => h); have HC1 := Lib.hid (HA.out.drew.trans (hc1.mono (by exact Nat.le_of_lt hsz))); clear hc1; have t1 : True := trivial) | (go_at_call 114; have _t := t1; clear t1; refine (rLaid_calls body _ hb).mono ?_; rw [← HY.out]; rintro e w2 ⟨rfl, hc2⟩; have hb2 := hb1.ch (Ch.of_below (S := fun _ => False) hc2) (by exact hb1.lt) (fun h => h); have HC2 := Lib.hid (HC1.out.trans (hc2.mono (by exact HC1.out.size))); clear hc2 hb1; have t2 : True := trivial) | (go_at_call 114; have _t := t2; clear t2; refine (rLaid_calls sig _ hg).mono ?_; rw [← HZ.out]; rintro e w3 ⟨rfl, hc3⟩; have hb3 := hb2.ch (Ch.of_below (S := fun _ => False) hc3) (by exact hb2.lt) (fun h => h); have HC3 := Lib.hid (HC2.out.trans (hc3.mono (by exact HC2.out.size))); clear hc3))
  clear hb2 hb3
  go_wp2
  go_ret
  exact ⟨ret_str HE.out.symm, HC3.out⟩
end Go.Proofs.Ytfgpchffkpomoaa
