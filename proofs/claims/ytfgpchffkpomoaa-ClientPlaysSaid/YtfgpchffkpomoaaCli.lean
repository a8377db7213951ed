/- A client in memory; whether it was made, whether it waits, what it was answered, and what it sends to all: the walks. -/
import Derived.Test.YtfgpchffkpomoaaTold
import Derived.Test.YtfgpchffkpomoaaPk03
import Derived.Test.YtfgpchffkpomoaaAppO
import Derived.Laws.Cover3
namespace Go.Proofs.Ytfgpchffkpomoaa
set_option linter.unusedSimpArgs false
set_option linter.unusedVariables false
open Go.RowKit

theorem wrap_near (n : Int) (h0 : -9223372036854775808 ≤ n) (h1 : n ≤ 9223372036854775807) : IntKind.i64.wrap n = n := by
  simp only [IntKind.wrap, IntKind.bits, IntKind.signed]
  simp
  omega
/-- What came of a request. -/
structure An where
  stamp : Int
  text : ByteArray
  deriving DecidableEq
def An.cells (x : An) : List Value := [.int .i64 x.stamp, .string x.text]
theorem An.cells_len (x : An) : x.cells.length = 2 := rfl
theorem an_one (x : An) : ∀ u ∈ x.cells, u.oneCell' = true := fun u hu => by
  simp only [An.cells, List.mem_cons, List.not_mem_nil, or_false] at hu
  rcases hu with rfl | rfl <;> rfl
theorem an_ones (l : List An) : ∀ u ∈ l.flatMap An.cells, u.oneCell' = true := fun u hu => by
  obtain ⟨x, _, hx⟩ := List.mem_flatMap.1 hu
  exact an_one x u hx
/-- What is sent. -/
structure Sn where
  to : Int
  text : ByteArray
def Sn.cells (x : Sn) : List Value := [.int .i64 x.to, .string x.text]
theorem Sn.cells_len (x : Sn) : x.cells.length = 2 := rfl
theorem sn_one (x : Sn) : ∀ u ∈ x.cells, u.oneCell' = true := fun u hu => by
  simp only [Sn.cells, List.mem_cons, List.not_mem_nil, or_false] at hu
  rcases hu with rfl | rfl <;> rfl
/-- A client: its consortium, its own number, and what stands with it. -/
structure Cl where
  F : Int
  C : Int
  G : Int
  P : Int
  id : Int
  stamp : Int
  asked : ByteArray
  waits : Bool
  ticks : Int
  told : List Td
  ans : List An
def Cl.cells (y : Cl) (b g : Nat) (AA : Option Addr) (ac : Nat) : Array Value := #[.int .i64 y.F, .int .i64 y.C, .int .i64 y.G, .int .i64 y.P, .int .i64 y.id, .pointer (some ⟨b, 0, none⟩), .int .i64 y.stamp, .string y.asked, .bool y.waits, .int .i64 y.ticks, .map (some g), .slice AA y.ans.length ac]
/-- A client in block x, its map in block g, its answers in a row of their own from block K on; its book. -/
structure CS (w : World) (x g K b t m n : Nat) (T : List ByteArray) (S : List Wd) (y : Cl) (AA : Option Addr) (ac : Nat) : Prop where
  bk : Bk w b t m n T S
  box : Box w x (y.cells b g AA ac) 209
  told : ToldS w g y.told
  ans : w.ownsRow K 118 2 (.slice AA y.ans.length ac) y.ans.length (y.ans.flatMap An.cells)
  lt : x < K ∧ g < K ∧ b < K ∧ t < K ∧ m < K ∧ n < K ∧ K ≤ w.heap.size
  ne : x ≠ g ∧ (x ≠ b ∧ x ≠ t ∧ x ≠ m ∧ x ≠ n) ∧ (g ≠ b ∧ g ≠ t ∧ g ≠ m ∧ g ≠ n)
section
variable {w w' : World} {x g K b t m n : Nat} {T : List ByteArray} {S : List Wd} {y : Cl} {AA : Option Addr} {ac : Nat}
theorem CS.xl (h : CS w x g K b t m n T S y AA ac) : x < w.heap.size := Box.lt h.box
theorem CS.row (h : CS w x g K b t m n T S y AA ac) {k : Nat} (hk : Row AA k) : K ≤ k ∧ k < w.heap.size := own_row h.ans hk
theorem CS.ch {B : Nat} {X : Nat → Prop} (h : CS w x g K b t m n T S y AA ac) (hc : Ch B X w w') (hB : w.heap.size ≤ B) (hX : ¬ X x ∧ ¬ X g ∧ ¬ X b ∧ ¬ X t ∧ ¬ X m ∧ ¬ X n) (hA : ∀ k, Row AA k → ¬ X k) (hz : w.heap.size ≤ w'.heap.size) : CS w' x g K b t m n T S y AA ac :=
  ⟨h.bk.ch hc hB ⟨hX.2.2.1, hX.2.2.2.1, hX.2.2.2.2.1, hX.2.2.2.2.2⟩, h.box.ch hc (by have := h.xl; omega) hX.1, h.told.ch hc (by have := h.told.lt; omega) hX.2.1, own_ch h.ans hc (fun k hk => ⟨by have := (h.row hk).2; omega, hA k hk⟩), by have := h.lt; omega, h.ne⟩
theorem CS.below (h : CS w x g K b t m n T S y AA ac) (hc : Below w.heap.size w w') : CS w' x g K b t m n T S y AA ac :=
  h.ch (Ch.of_below (S := fun _ => False) hc) (Nat.le_refl _) ⟨fun e => e, fun e => e, fun e => e, fun e => e, fun e => e, fun e => e⟩ (fun _ _ e => e) hc.size
theorem CS.drewN (h : CS w x g K b t m n T S y AA ac) (k : Nat) : CS (w.drewN k) x g K b t m n T S y AA ac :=
  ⟨h.bk.drewN k, h.box, h.told.drewN k, h.ans, h.lt, h.ne⟩
theorem CS.c0 (h : CS w x g K b t m n T S y AA ac) : w.cell? ⟨x, 0, none⟩ = some (.int .i64 y.F) := h.box.cell 0
theorem CS.c4 (h : CS w x g K b t m n T S y AA ac) : w.cell? ⟨x, 4, none⟩ = some (.int .i64 y.id) := h.box.cell 4
theorem CS.c5 (h : CS w x g K b t m n T S y AA ac) : w.cell? ⟨x, 5, none⟩ = some (.pointer (some ⟨b, 0, none⟩)) := h.box.cell 5
theorem CS.c6 (h : CS w x g K b t m n T S y AA ac) : w.cell? ⟨x, 6, none⟩ = some (.int .i64 y.stamp) := h.box.cell 6
theorem CS.c7 (h : CS w x g K b t m n T S y AA ac) : w.cell? ⟨x, 7, none⟩ = some (.string y.asked) := h.box.cell 7
theorem CS.c8 (h : CS w x g K b t m n T S y AA ac) : w.cell? ⟨x, 8, none⟩ = some (.bool y.waits) := h.box.cell 8
theorem CS.c9 (h : CS w x g K b t m n T S y AA ac) : w.cell? ⟨x, 9, none⟩ = some (.int .i64 y.ticks) := h.box.cell 9
theorem CS.c10 (h : CS w x g K b t m n T S y AA ac) : w.cell? ⟨x, 10, none⟩ = some (.map (some g)) := h.box.cell 10
theorem CS.c11 (h : CS w x g K b t m n T S y AA ac) : w.cell? ⟨x, 11, none⟩ = some (.slice AA y.ans.length ac) := h.box.cell 11
theorem CS.free (h : CS w x g K b t m n T S y AA ac) (i : Nat) : w.frozen? ⟨x, i, none⟩ = false := h.box.free i
end

set_option maxRecDepth 100000 in
theorem cmade_calls (x g K b t m n : Nat) (T : List ByteArray) (S : List Wd) (y : Cl) (AA : Option Addr) (ac : Nat) (w : World) (h : CS w x g K b t m n T S y AA ac) :
    Calls Try.prog 131 #[.pointer (some ⟨x, 0, none⟩)] w (fun e w' => e = .returned (.bool true) ∧ w' = w) := by
  have k10 := h.c10
  have hne := run_neq_map_nil (P := Try.prog) (w := w) 207 _ _ (some g) Try.underlying207
  clear h
  go_enter Try.func131, Try.ntmps131
  go_wp2
  go_ret
  exact ⟨rfl, rfl⟩
set_option maxRecDepth 100000 in
theorem cwaits_calls (x g K b t m n : Nat) (T : List ByteArray) (S : List Wd) (y : Cl) (AA : Option Addr) (ac : Nat) (w : World) (h : CS w x g K b t m n T S y AA ac) :
    Calls Try.prog 73 #[.pointer (some ⟨x, 0, none⟩)] w (fun e w' => e = .returned (.bool y.waits) ∧ w' = w) := by
  have k8 := h.c8
  have HM := Lib.hid (cmade_calls x g K b t m n T S y AA ac w h)
  clear h
  go_enter Try.func73, Try.ntmps73
  go_wp2_with fail
  refine HM.out.mono ?_
  rintro e wx ⟨rfl, hwx⟩
  obtain rfl := hwx.symm
  go_wp2
  go_ret
  exact ⟨rfl, rfl⟩

def AnsPost (w : World) (l : List An) (e : Ending) (w' : World) : Prop := ∃ A c, e = .returned (.slice A l.length c) ∧ Below w.heap.size w w' ∧ w'.ownsRow w.heap.size 118 2 (.slice A l.length c) l.length (l.flatMap An.cells)
theorem info_an : (Try.prog.info? 118).map (fun i => (i.zero, i.size, i.bytes)) = some (some (.agg #[.int .i64 0, .string ⟨#[]⟩]), 2, 24) := by kernel_rfl
theorem info_sn : (Try.prog.info? 211).map (fun i => (i.zero, i.size, i.bytes)) = some (some (.agg #[.int .i64 0, .string ⟨#[]⟩]), 2, 24) := by kernel_rfl
set_option maxHeartbeats 2000000 in
set_option maxRecDepth 100000 in
theorem answers_calls (x g K b t m n : Nat) (T : List ByteArray) (S : List Wd) (y : Cl) (AA : Option Addr) (ac : Nat) (w : World) (h : CS w x g K b t m n T S y AA ac) (hl : y.ans.length ≤ 100000) :
    Calls Try.prog 72 #[.pointer (some ⟨x, 0, none⟩)] w (AnsPost w y.ans) := by
  have HM := Lib.hid (cmade_calls x g K b t m n T S y AA ac w h)
  have hz := h.xl
  have hb1 := (Below.refl w.heap.size w).alloc (Nat.le_refl _) (.cells #[] 118)
  have HB1 := Lib.hid hb1
  have h1 := h.below hb1
  have HS := Lib.hid (Sl.of_own h1.ans)
  have HO := Lib.hid (World.ownsRow_lit (base := w.heap.size) (e := 118) (size := 2) w #[] 0 (Nat.le_refl _) (by decide) (by rfl))
  have k11 := h.c11
  have r11 := h1.c11
  clear h h1 hb1
  go_enter Try.func72, Try.ntmps72
  go_wp2_with fail
  refine HM.out.mono ?_
  rintro e wx ⟨rfl, hwx⟩
  obtain rfl := hwx.symm
  go_wp2_with (at_builtin; refine app_rowO rfl (.tmp 6) (.tmp 10) 115 rfl w.heap.size 118 _ 2 24 info_an Try.underlying115 rfl (by decide) (some ⟨w.heap.size, 0, none⟩) 0 0 [] rfl HO.out AA y.ans.length ac (y.ans.flatMap An.cells) rfl HS.out.len HS.out.at_ (an_ones y.ans) ?hb1 ?hb2 ?hb3 ?_; (case hb1 => omega); (case hb2 => omega); (case hb3 => simp); intro A2 c2 w6 ho hc hA; have HO6 := Lib.hid ho; have HC6 := Lib.hid hc; clear ho hc hA)
  go_ret
  have ho := HO6.out
  simp only [List.nil_append, Nat.zero_add] at ho
  have hb : Below w.heap.size w w6 := below_app0 HB1.out (by simp) HC6.out (fun k hk => by simp [Row] at hk; omega)
  exact ⟨A2, c2, by simp, hb, ho⟩

/-- The same bytes to each of so many. -/
def toAll (k : Nat) (s : ByteArray) : List Sn := (List.range k).map (fun (i : Nat) => ⟨(i : Int), s⟩)
theorem toAll_len (k : Nat) (s : ByteArray) : (toAll k s).length = k := by simp [toAll]
theorem toAll_snoc (k : Nat) (s : ByteArray) : toAll (k + 1) s = toAll k s ++ [⟨(k : Int), s⟩] := by
  unfold toAll; rw [List.range_succ, List.map_append]; rfl
def SentPost (w : World) (l : List Sn) (e : Ending) (w' : World) : Prop := ∃ A c, e = .returned (.slice A l.length c) ∧ Below w.heap.size w w' ∧ w'.ownsRow w.heap.size 211 2 (.slice A l.length c) l.length (l.flatMap Sn.cells)
/-- A list of what is sent, of one's own. -/
def SSt (w0 wr : World) (A : Option Addr) (c : Nat) (L : List Sn) : Prop := Below w0.heap.size w0 wr ∧ wr.ownsRow w0.heap.size 211 2 (.slice A L.length c) L.length (L.flatMap Sn.cells)
theorem SSt.app {w0 wr w6 : World} {A A2 : Option Addr} {c c2 : Nat} {L : List Sn} {o : Obj} {x : Sn} (h : SSt w0 wr A c L) (ho : w6.ownsRow w0.heap.size 211 2 (.slice A2 (L.length + 1) c2) (L.length + 1) (L.flatMap Sn.cells ++ x.cells)) (hc : Ch (wr.alloc o).heap.size (Row A) (wr.alloc o) w6) : SSt w0 w6 A2 c2 (L ++ [x]) := by
  refine ⟨below_app h.1 h.1.size hc (fun k hk => (own_row h.2 hk).1), ?_⟩
  rw [List.length_append, List.flatMap_append]
  simpa using ho
theorem SSt.nil (w : World) : SSt w w none 0 [] := ⟨Below.refl _ _, ⟨rfl, .inl ⟨rfl, rfl⟩⟩⟩
set_option maxHeartbeats 2000000 in
set_option maxRecDepth 100000 in
theorem all_calls (x g K b t m n : Nat) (T : List ByteArray) (S : List Wd) (y : Cl) (AA : Option Addr) (ac : Nat) (s : ByteArray) (f : Nat) (w : World) (h : CS w x g K b t m n T S y AA ac) (hf : y.F = (f : Int)) (hf4 : f ≤ 4) :
    Calls Try.prog 133 #[.pointer (some ⟨x, 0, none⟩), .string s] w (SentPost w (toAll (3 * f + 1) s)) := by
  have k0 := h.c0
  rw [hf] at k0
  have hw1 : IntKind.i64.wrap (3 * (f : Int)) = 3 * (f : Int) := wrap_near _ (by omega) (by omega)
  have hw2 : IntKind.i64.wrap (3 * (f : Int) + 1) = 3 * (f : Int) + 1 := wrap_near _ (by omega) (by omega)
  clear h
  go_enter Try.func133, Try.ntmps133
  go_wp2_with fail
  go_loopg [5, 14] (3 * f + 1) (fun g v5 v6 wr => ∃ (k : Nat) (A1 : Option Addr) (c1 : Nat), v5 = .slice A1 (toAll k s).length c1 ∧ v6 = .int .i64 k ∧ k ≤ 3 * f + 1 ∧ Hid (g + k = 3 * f + 1 ∧ SSt w wr A1 c1 (toAll k s)))
  case atStart => exact ⟨0, none, 0, rfl, rfl, by omega, by omega, SSt.nil w⟩
  case round =>
    obtain ⟨k, A1, c1, rfl, rfl, hk, HH⟩ := hrel
    obtain ⟨hg, hst⟩ := HH.out
    have HG := Lib.hid hg
    have hlen := toAll_len k s
    obtain ⟨L, hL⟩ : ∃ L, L = toAll k s := ⟨_, rfl⟩
    rw [← hL] at hst hlen ⊢
    have HST := Lib.hid hst
    have HL := Lib.hid hL
    clear HH hg hst hL
    by_cases hlt : k < 3 * f + 1
    · have hd2 : decide ((k : Int) < 3 * (f : Int) + 1) = true := by simp; omega
      go_wp2_with (at_builtin; refine app_row rfl (.tmp 17) (.tmp 21) 109 rfl w.heap.size 211 _ 2 24 info_sn Try.underlying109 rfl (by decide) A1 c1 L.length (L.flatMap Sn.cells) rfl (HST.out.2.alloc _) _ 1 1 (Sn.cells (⟨(k : Int), s⟩ : Sn)) rfl rfl (news_box (Box.new _ #[.int .i64 (⟨(k : Int), s⟩ : Sn).to, .string (⟨(k : Int), s⟩ : Sn).text] 211)) (sn_one (⟨(k : Int), s⟩ : Sn)) ?hb1 ?hb2 ?hb3 ?_; (case hb1 => (try simp only [List.length_append, List.length_cons, List.length_nil]); omega); (case hb2 => (try simp only [List.length_append, List.length_cons, List.length_nil]); omega); (case hb3 => have := HST.out.1.size; simp; omega); intro A2 c2 w6 ho hc hA; have HST2 := Lib.hid (SSt.app HST.out ho hc); clear ho hc hA)
      go_roundg (gk - 1)
      case measure => have := HG.out; omega
      case rel => exact ⟨k + 1, A2, c2, by rw [toAll_snoc, ← HL.out]; simp [hlen], by go_num, by omega, by have := HG.out; omega, by rw [toAll_snoc, ← HL.out]; exact HST2.out⟩
    · have hd2 : decide ((k : Int) < 3 * (f : Int) + 1) = false := by simp; omega
      obtain rfl : k = 3 * f + 1 := by omega
      go_wp2
      go_ret
      rw [HL.out]
      rw [HL.out] at HST
      exact ⟨A1, c1, rfl, HST.out⟩
end Go.Proofs.Ytfgpchffkpomoaa
