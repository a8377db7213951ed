/- Texts of this proof, several in one file; each says ahead of it what it proves. -/
import Derived.Test.YtfgpchffkpomoaaRows
import Derived.WalkKit
import Derived.WalkLawsBesides
import Derived.WalkSpells
import Derived.BigQuiet
import Derived.Deep.QuietTactic
import Derived.Deep.LoopGhost
import Derived.Below
import Derived.Lib.Hide
import Derived.Maps.OwnSet
import Derived.DeepKeys4
import Derived.Laws.BitsLemmas
import Derived.Laws.Bits128
import Derived.RowKit
import Derived.Laws.AppendOwn
import Derived.OwnWalk
import Derived.Lib.AppendStr
import Derived.Lib.ConvBytes
/- Words on worlds, shared by all walks of this seat: which blocks a call may have changed. -/
namespace Go.Proofs.Ytfgpchffkpomoaa
set_option linter.unusedSimpArgs false
set_option linter.unusedVariables false
open Go.RowKit

/-- Below block number B, and beside the blocks of S, the world w' is as w was. -/
structure Ch (B : Nat) (S : Nat → Prop) (w w' : World) : Prop where
  os : w'.os = w.os
  tape : w'.tape = w.tape
  output : w'.output = w.output
  size : w.heap.size ≤ w'.heap.size
  block : ∀ k, k < B → ¬ S k → w'.heap[k]? = w.heap[k]?

namespace Ch
variable {B B' : Nat} {S S' : Nat → Prop} {a b c w w' : World}
theorem refl (B : Nat) (S : Nat → Prop) (w : World) : Ch B S w w := ⟨rfl, rfl, rfl, Nat.le_refl _, fun _ _ _ => rfl⟩
theorem trans (h : Ch B S a b) (k : Ch B S b c) : Ch B S a c :=
  ⟨k.os.trans h.os, k.tape.trans h.tape, k.output.trans h.output, Nat.le_trans h.size k.size, fun i hi hs => (k.block i hi hs).trans (h.block i hi hs)⟩
theorem mono (h : Ch B S w w') (hB : B' ≤ B) (hS : ∀ k, k < B' → S k → S' k) : Ch B' S' w w' :=
  ⟨h.os, h.tape, h.output, h.size, fun k hk hs => h.block k (by omega) fun hs' => hs (hS k hk hs')⟩
theorem drew (h : Ch B S a w) : Ch B S a w.drew := ⟨h.os, h.tape, h.output, h.size, h.block⟩
theorem drewN (h : Ch B S a w) (n : Nat) : Ch B S a (w.drewN n) := ⟨h.os, h.tape, h.output, h.size, h.block⟩
theorem alloc (h : Ch B S a w) (hB : B ≤ w.heap.size) (o : Obj) : Ch B S a (w.alloc o) :=
  h.trans ⟨rfl, rfl, rfl, by simp, fun k hk _ => Below.heap_alloc _ _ _ (by omega)⟩
theorem setCell (h : Ch B S a w) {p : Addr} (hp : B ≤ p.block ∨ S p.block) (u : Value) : Ch B S a (w.setCell p u) :=
  h.trans ⟨rfl, rfl, rfl, by simp [World.setCell], fun k hk hs => Below.heap_setCell _ _ _ _ (by
    rintro rfl
    rcases hp with hp | hp
    · omega
    · exact hs hp)⟩
theorem below (h : Ch B S a b) (hS : ∀ k, k < B → ¬ S k) : Below B a b := ⟨h.os, h.tape, h.output, h.size, fun k hk => h.block k hk (hS k hk)⟩
theorem of_below (h : Below B a b) : Ch B S a b := ⟨h.os, h.tape, h.output, h.size, fun k hk _ => h.block k hk⟩
theorem cell (h : Ch B S w w') {p : Addr} (hp : p.block < B) (hs : ¬ S p.block) : w'.cell? p = w.cell? p := World.cell?_of_block (w := w) (h.block p.block hp hs)
theorem frozen (h : Ch B S w w') {p : Addr} (hp : p.block < B) (hs : ¬ S p.block) : w'.frozen? p = w.frozen? p := World.frozen?_of_block (w := w) (h.block p.block hp hs)
/-- A further step that changes only what is new, or in S. -/
theorem step (h : Ch B S a b) (k : Ch B' S' b c) (hB : B ≤ B') (hS : ∀ i, i < B → S' i → S i) : Ch B S a c := h.trans (k.mono hB hS)
end Ch

/-- A whole block of cells, none of them frozen. -/
def Box (w : World) (k : Nat) (cs : Array Value) (T : TypeId) : Prop := w.heap[k]? = some (.cells cs T (0, 0))
namespace Box
variable {w w' : World} {k : Nat} {cs : Array Value} {T : TypeId}
theorem cell (h : Box w k cs T) (i : Nat) : w.cell? ⟨k, i, none⟩ = cs[i]? := by
  unfold Box at h; simp [World.cell?, h]
theorem free (h : Box w k cs T) (i : Nat) : w.frozen? ⟨k, i, none⟩ = false := by
  unfold Box at h; simp [World.frozen?, h]
theorem lt (h : Box w k cs T) : k < w.heap.size := by
  unfold Box at h
  rcases Nat.lt_or_ge k w.heap.size with h' | h'
  · exact h'
  · rw [Array.getElem?_eq_none h'] at h; cases h
theorem set (h : Box w k cs T) (i : Nat) (v : Value) : Box (w.setCell ⟨k, i, none⟩ v) k (cs.setIfInBounds i v) T := by
  unfold Box at *; simp [World.setCell, Array.getElem?_modify, h]
theorem other (h : Box w k cs T) {a : Addr} (ha : a.block ≠ k) (v : Value) : Box (w.setCell a v) k cs T := by
  unfold Box at *; rw [Below.heap_setCell _ _ _ _ (fun e => ha e.symm)]; exact h
theorem alloc (h : Box w k cs T) (o : Obj) : Box (w.alloc o) k cs T := by
  have := h.lt
  unfold Box at *; rw [Below.heap_alloc _ _ _ this]; exact h
theorem new (w : World) (cs : Array Value) (T : TypeId) : Box (w.alloc (.cells cs T)) w.heap.size cs T := by
  show (w.heap.push _)[w.heap.size]? = _
  simp
theorem drewN (h : Box w k cs T) (n : Nat) : Box (w.drewN n) k cs T := h
theorem drew (h : Box w k cs T) : Box w.drew k cs T := h
theorem ch {B : Nat} {S : Nat → Prop} (h : Box w k cs T) (hc : Ch B S w w') (hk : k < B) (hs : ¬ S k) : Box w' k cs T := by
  unfold Box at *; rw [hc.block k hk hs]; exact h
theorem facts1 {a : Value} (h : Box w k #[a] T) : w.cell? ⟨k, 0, none⟩ = some a ∧ w.frozen? ⟨k, 0, none⟩ = false := ⟨h.cell 0, h.free 0⟩
theorem facts2 {a b : Value} (h : Box w k #[a, b] T) : w.cell? ⟨k, 0, none⟩ = some a ∧ w.cell? ⟨k, 1, none⟩ = some b ∧ w.frozen? ⟨k, 0, none⟩ = false ∧ w.frozen? ⟨k, 1, none⟩ = false :=
  ⟨h.cell 0, h.cell 1, h.free 0, h.free 1⟩
theorem facts3 {a b c : Value} (h : Box w k #[a, b, c] T) : w.cell? ⟨k, 0, none⟩ = some a ∧ w.cell? ⟨k, 1, none⟩ = some b ∧ w.cell? ⟨k, 2, none⟩ = some c ∧
    w.frozen? ⟨k, 0, none⟩ = false ∧ w.frozen? ⟨k, 1, none⟩ = false ∧ w.frozen? ⟨k, 2, none⟩ = false :=
  ⟨h.cell 0, h.cell 1, h.cell 2, h.free 0, h.free 1, h.free 2⟩
theorem facts4 {a b c d : Value} (h : Box w k #[a, b, c, d] T) : w.cell? ⟨k, 0, none⟩ = some a ∧ w.cell? ⟨k, 1, none⟩ = some b ∧ w.cell? ⟨k, 2, none⟩ = some c ∧ w.cell? ⟨k, 3, none⟩ = some d ∧
    w.frozen? ⟨k, 0, none⟩ = false ∧ w.frozen? ⟨k, 1, none⟩ = false ∧ w.frozen? ⟨k, 2, none⟩ = false ∧ w.frozen? ⟨k, 3, none⟩ = false :=
  ⟨h.cell 0, h.cell 1, h.cell 2, h.cell 3, h.free 0, h.free 1, h.free 2, h.free 3⟩
theorem facts5 {v0 v1 v2 v3 v4 : Value} (h : Box w k #[v0, v1, v2, v3, v4] T) : w.cell? ⟨k, 0, none⟩ = some v0 ∧ w.cell? ⟨k, 1, none⟩ = some v1 ∧ w.cell? ⟨k, 2, none⟩ = some v2 ∧ w.cell? ⟨k, 3, none⟩ = some v3 ∧ w.cell? ⟨k, 4, none⟩ = some v4 ∧ w.frozen? ⟨k, 0, none⟩ = false ∧ w.frozen? ⟨k, 1, none⟩ = false ∧ w.frozen? ⟨k, 2, none⟩ = false ∧ w.frozen? ⟨k, 3, none⟩ = false ∧ w.frozen? ⟨k, 4, none⟩ = false :=
  ⟨h.cell 0, h.cell 1, h.cell 2, h.cell 3, h.cell 4, h.free 0, h.free 1, h.free 2, h.free 3, h.free 4⟩
theorem facts6 {v0 v1 v2 v3 v4 v5 : Value} (h : Box w k #[v0, v1, v2, v3, v4, v5] T) : w.cell? ⟨k, 0, none⟩ = some v0 ∧ w.cell? ⟨k, 1, none⟩ = some v1 ∧ w.cell? ⟨k, 2, none⟩ = some v2 ∧ w.cell? ⟨k, 3, none⟩ = some v3 ∧ w.cell? ⟨k, 4, none⟩ = some v4 ∧ w.cell? ⟨k, 5, none⟩ = some v5 ∧ w.frozen? ⟨k, 0, none⟩ = false ∧ w.frozen? ⟨k, 1, none⟩ = false ∧ w.frozen? ⟨k, 2, none⟩ = false ∧ w.frozen? ⟨k, 3, none⟩ = false ∧ w.frozen? ⟨k, 4, none⟩ = false ∧ w.frozen? ⟨k, 5, none⟩ = false :=
  ⟨h.cell 0, h.cell 1, h.cell 2, h.cell 3, h.cell 4, h.cell 5, h.free 0, h.free 1, h.free 2, h.free 3, h.free 4, h.free 5⟩
theorem facts8 {v0 v1 v2 v3 v4 v5 v6 v7 : Value} (h : Box w k #[v0, v1, v2, v3, v4, v5, v6, v7] T) : w.cell? ⟨k, 0, none⟩ = some v0 ∧ w.cell? ⟨k, 1, none⟩ = some v1 ∧ w.cell? ⟨k, 2, none⟩ = some v2 ∧ w.cell? ⟨k, 3, none⟩ = some v3 ∧ w.cell? ⟨k, 4, none⟩ = some v4 ∧ w.cell? ⟨k, 5, none⟩ = some v5 ∧ w.cell? ⟨k, 6, none⟩ = some v6 ∧ w.cell? ⟨k, 7, none⟩ = some v7 ∧ w.frozen? ⟨k, 0, none⟩ = false ∧ w.frozen? ⟨k, 1, none⟩ = false ∧ w.frozen? ⟨k, 2, none⟩ = false ∧ w.frozen? ⟨k, 3, none⟩ = false ∧ w.frozen? ⟨k, 4, none⟩ = false ∧ w.frozen? ⟨k, 5, none⟩ = false ∧ w.frozen? ⟨k, 6, none⟩ = false ∧ w.frozen? ⟨k, 7, none⟩ = false :=
  ⟨h.cell 0, h.cell 1, h.cell 2, h.cell 3, h.cell 4, h.cell 5, h.cell 6, h.cell 7, h.free 0, h.free 1, h.free 2, h.free 3, h.free 4, h.free 5, h.free 6, h.free 7⟩
end Box

/-- The byte at a place, as a number; 0 beyond. -/
def byteAt (s : ByteArray) (q : Nat) : Nat := if h : q < s.size then s[q].toNat else 0
theorem byteAt_eq (s : ByteArray) (q : Nat) (h : q < s.size) : s[q].toNat = byteAt s q := by unfold byteAt; rw [dif_pos h]
theorem byteAt_lt (s : ByteArray) (q : Nat) : byteAt s q < 256 := by
  unfold byteAt
  split
  · exact UInt8.toNat_lt _
  · omega
end Go.Proofs.Ytfgpchffkpomoaa

/- A map whose keys are told in the order in which they came: looked up, measured, and one more put in. -/
namespace Go.Proofs.Ytfgpchffkpomoaa
set_option linter.unusedSimpArgs false
set_option linter.unusedVariables false
open Go.RowKit Go.ChangeMaps Go.MapKept
open Go.Maps (Keyed)

/-- Block b is a map of keys of type K; its entries, in the order in which they came, are kvs. -/
structure MapIs (K : TypeId) (w : World) (b : Nat) (kvs : List (Value × Value)) : Prop where
  entries : ∃ es clock, w.heap[b]? = some (.map es clock) ∧ es.toList.map (fun e => (e.key, e.val)) = kvs
  keys : ∀ p ∈ kvs, ∃ l, keyOf Try.prog K p.1 = some l
  apart : (kvs.map (·.1)).Nodup

section
variable {K E T : TypeId} {w w' : World} {b : Nat} {kvs : List (Value × Value)}

theorem MapIs.lt (h : MapIs K w b kvs) : b < w.heap.size := by
  obtain ⟨es, clock, hb, _⟩ := h.entries
  exact (Array.getElem?_eq_some_iff.1 hb).1
theorem MapIs.ch {B : Nat} {S : Nat → Prop} (h : MapIs K w b kvs) (hc : Ch B S w w') (hB : b < B) (hS : ¬ S b) : MapIs K w' b kvs := by
  obtain ⟨es, clock, hb, he⟩ := h.entries
  exact ⟨⟨es, clock, (hc.block b hB hS).trans hb, he⟩, h.keys, h.apart⟩
theorem MapIs.drewN (h : MapIs K w b kvs) (n : Nat) : MapIs K (w.drewN n) b kvs := ⟨h.entries, h.keys, h.apart⟩
theorem MapIs.drew (h : MapIs K w b kvs) : MapIs K w.drew b kvs := ⟨h.entries, h.keys, h.apart⟩
theorem MapIs.alloc (h : MapIs K w b kvs) (o : Obj) : MapIs K (w.alloc o) b kvs :=
  h.ch (B := w.heap.size) (S := fun _ => False) ((Ch.refl _ _ _).alloc (Nat.le_refl _) o) h.lt (fun h => h)
theorem MapIs.new (w : World) (K : TypeId) : MapIs K (w.alloc (.map #[] 0)) w.heap.size [] :=
  ⟨⟨#[], 0, (MapKept.heap_alloc w _).1, by simp⟩, by simp, by simp⟩

theorem map_entry {es : Array MapEntry} (he : es.toList.map (fun e => (e.key, e.val)) = kvs) {j : Nat} {e : MapEntry} (h : es[j]? = some e) : kvs[j]? = some (e.key, e.val) := by
  subst he
  simp [h]
theorem map_size {es : Array MapEntry} (he : es.toList.map (fun e => (e.key, e.val)) = kvs) : es.size = kvs.length := by
  have := congrArg List.length he
  simpa using this
theorem map_keys (h : ∀ p ∈ kvs, ∃ l, keyOf Try.prog K p.1 = some l) {es : Array MapEntry} (he : es.toList.map (fun e => (e.key, e.val)) = kvs) :
    ∀ e ∈ es.toList, ∃ l, keyOf Try.prog K e.key = some l := by
  intro e hm
  exact h (e.key, e.val) (by rw [← he]; exact List.mem_map.2 ⟨e, hm, rfl⟩)

/-- v, ok := m[key]; m[key]. -/
theorem MapIs.look (h : MapIs K w b kvs) (KL : Keyed Try.prog K) (ht : Try.prog.underlying T = some (.map K E)) {z : Value} (hz : (zeroValue E).run Try.prog w = .ok z w) {key : Value} {kl : Lit} (hkey : keyOf Try.prog K key = some kl) (c : Bool) :
    (∀ v, (key, v) ∈ kvs → (Instr.lookup T (.map (some b)) key c).run Try.prog w = .ok (if c then .tuple #[v, .bool true] else v) w) ∧
    ((∀ v, (key, v) ∉ kvs) → (Instr.lookup T (.map (some b)) key c).run Try.prog w = .ok (if c then .tuple #[z, .bool false] else z) w) := by
  obtain ⟨es, clock, hb, he⟩ := h.entries
  rcases KL.find w hkey es.toList (map_keys h.keys he) with ⟨h1, h2⟩ | ⟨j, e0, h1, h2, h3⟩
  · refine ⟨fun v hv => ?_, fun _ => by simp [Instr.lookup, run_underlying ht, MapKept.run_getObj_map hb, KL.check w _ hkey, h1, hz, Result.andThen]⟩
    exfalso
    rw [← he] at hv
    obtain ⟨e, hm, hev⟩ := List.mem_map.1 hv
    exact h2 e hm (Prod.mk.inj hev).1
  · have hj : es[j]? = some e0 := by simpa using h2
    have k1 := map_entry he hj
    rw [h3] at k1
    refine ⟨fun v hi => ?_, fun hn => ?_⟩
    · obtain ⟨i, hil, hiv⟩ := List.getElem_of_mem hi
      have hij : i = j := by
        refine (List.getElem?_inj (l := kvs.map (·.1)) (by simpa using hil) h.apart).1 ?_
        rw [List.getElem?_map, List.getElem?_map, k1, List.getElem?_eq_getElem hil, hiv]
        rfl
      subst hij
      rw [List.getElem?_eq_getElem hil, hiv] at k1
      obtain rfl : v = e0.val := by simpa using k1
      simp [Instr.lookup, run_underlying ht, MapKept.run_getObj_map hb, KL.check w _ hkey, h1, Result.andThen]
    · exact absurd (List.mem_of_getElem? k1) (hn _)

/-- len(m). -/
theorem MapIs.len (h : MapIs K w b kvs) (ht : Try.prog.underlying T = some (.map K E)) (ty : TypeId) : (Builtin.len_ #[T] ty #[.map (some b)]).run Try.prog w = .ok (.int .i64 (kvs.length : Int)) w := by
  obtain ⟨es, clock, hb, he⟩ := h.entries
  rw [← map_size he]
  simp [Builtin.len_, run_underlying ht, MapKept.run_getObj_map hb, goInt, Result.andThen]

/-- m[key] = v, of a key that is not there. -/
theorem MapIs.push (h : MapIs K w b kvs) (KL : Keyed Try.prog K) (ht : Try.prog.underlying T = some (.map K E)) {key v : Value} {kl : Lit} (hkey : keyOf Try.prog K key = some kl) (hn : ∀ v, (key, v) ∉ kvs) :
    ∃ w', (Instr.mapUpdate T (.map (some b)) key v).run Try.prog w = .ok () w' ∧ MapIs K w' b (kvs ++ [(key, v)]) ∧ Ch w.heap.size (· = b) w w' ∧ w'.heap.size = w.heap.size := by
  obtain ⟨es, clock, hb, he⟩ := h.entries
  rcases KL.find w hkey es.toList (map_keys h.keys he) with ⟨h1, h2⟩ | ⟨j, e0, h1, h2, h3⟩
  · refine ⟨setBlock w b (.map (es.push ⟨key, v, clock⟩) (clock + 1)), ?_, ⟨⟨_, _, heap_setBlock_same hb _, ?_⟩, ?_, ?_⟩, ?_, ?_⟩
    · simp [Instr.mapUpdate, run_underlying ht, MapKept.run_getObj_map hb, KL.check w false hkey, h1, MapKept.run_setObj_map _ hb, Result.andThen, setBlock]
    · rw [Array.toList_push, List.map_append, he]
      simp
    · intro k hk
      rcases List.mem_append.1 hk with hk | hk
      · exact h.keys k hk
      · obtain rfl := List.mem_singleton.1 hk
        exact ⟨kl, hkey⟩
    · rw [List.map_append, List.nodup_append]
      refine ⟨h.apart, by simp, ?_⟩
      intro a ha c hc
      obtain rfl : c = key := by simpa using hc
      rintro rfl
      obtain ⟨⟨k, u⟩, hp, rfl⟩ := List.mem_map.1 ha
      exact hn u hp
    · exact ⟨rfl, rfl, rfl, by simp [setBlock], fun i _ hi => heap_setBlock_other hb _ hi⟩
    · simp [setBlock]
  · exfalso
    have hj : es[j]? = some e0 := by simpa using h2
    have k1 := map_entry he hj
    rw [h3] at k1
    exact hn _ (List.mem_of_getElem? k1)

end

/-- m[key] = v, of a key that is not there, at the operation, for the walk. -/
theorem wpList_push {K E T : TypeId} {ops : Array Oper} {rest : List Oper} {o : Oper} {a : Act} {Q : Exit → Act → World → Prop} (w : World)
    (hg : o.guard = none) (m x v : Operand) (hop : o.op = Op.mapUpdate T m x v) (KL : Keyed Try.prog K) (ht : Try.prog.underlying T = some (.map K E)) (b : Nat) (kvs : List (Value × Value))
    (hm : a.eval m = .map (some b)) (hown : MapIs K w b kvs) (key val : Value) (kl : Lit) (hx : a.eval x = key) (hv : a.eval v = val) (hkey : keyOf Try.prog K key = some kl) (hn : ∀ v, (key, v) ∉ kvs)
    (hK : ∀ w', MapIs K w' b (kvs ++ [(key, val)]) → Ch w.heap.size (· = b) w w' → w'.heap.size = w.heap.size → wpList Try.prog ops Q rest (a.put o.dst undef) w') :
    wpList Try.prog ops Q (o :: rest) a w := by
  refine wpList_plain hg fun K' hK' => ?_
  obtain ⟨w', hrun, r1, r2, r3⟩ := hown.push KL ht (v := val) hkey hn
  unfold Oper.wp
  simp [execOp, hop, hm, hx, hv, hrun, Result.andThen]
  exact hK' _ _ (hK w' r1 r2 r3)
end Go.Proofs.Ytfgpchffkpomoaa

/- What the document says of bytes, in plain Lean: numbers and texts that are read from a place on. -/
namespace Go.Proofs.Ytfgpchffkpomoaa
set_option linter.unusedSimpArgs false
set_option linter.unusedVariables false

/-- A number from place q on, its i-th digit next, n so far; k digits may still come. -/
def rdNum (s : ByteArray) : Nat → Nat → Nat → Nat → Except Nat (Nat × Nat)
  | 0, _, _, _ => .error 11
  | k + 1, q, i, n =>
    if s.size ≤ q then .error 10
    else if 128 ≤ byteAt s q then (if i = 7 then .error 11 else rdNum s k (q + 1) (i + 1) (n + byteAt s q % 128 * 2 ^ (7 * i)))
    else if byteAt s q = 0 ∧ 0 < i then .error 11
    else if 9007199254740992 < n + byteAt s q % 128 * 2 ^ (7 * i) then .error 11
    else .ok (n + byteAt s q % 128 * 2 ^ (7 * i), q + 1)

def num (s : ByteArray) (q : Nat) : Except Nat (Nat × Nat) := rdNum s 8 q 0 0

/-- n bytes from place q on. -/
def take_ (s : ByteArray) (q n : Nat) : Except Nat (ByteArray × Nat) :=
  if s.size - q < n then .error 10 else .ok (s.extract q (q + n), q + n)

def text (s : ByteArray) (q : Nat) : Except Nat (ByteArray × Nat) :=
  match num s q with
  | .error e => .error e
  | .ok (n, p) => if 1048576 < n then .error 4 else take_ s p n

def count (s : ByteArray) (most : Nat) (q : Nat) : Except Nat (Nat × Nat) :=
  match num s q with
  | .error e => .error e
  | .ok (n, p) => if most < n then .error 2 else .ok (n, p)

/-- A message: who signed it, its bytes, and the signature. -/
structure Sg where
  who : Int
  body : ByteArray
  sig : ByteArray

def signed (s : ByteArray) (q : Nat) : Except Nat (Sg × Nat) :=
  match num s q with
  | .error e => .error e
  | .ok (n, p) => match text s p with
    | .error e => .error e
    | .ok (t, p) => match text s p with
      | .error e => .error e
      | .ok (g, p) => .ok (⟨n, t, g⟩, p)

theorem rdNum_bd (s : ByteArray) : ∀ (k q i n m p : Nat), rdNum s k q i n = .ok (m, p) → q < p ∧ p ≤ s.size ∧ m ≤ 9007199254740992
  | 0, _, _, _, _, _ => by simp [rdNum]
  | k + 1, q, i, n, m, p => by
    unfold rdNum
    intro h
    split at h
    · cases h
    · split at h
      · split at h
        · cases h
        · have := rdNum_bd s k _ _ _ _ _ h
          omega
      · split at h
        · cases h
        · split at h
          · cases h
          · simp only [Except.ok.injEq, Prod.mk.injEq] at h
            omega
theorem num_bd {s : ByteArray} {q m p : Nat} (h : num s q = .ok (m, p)) : q < p ∧ p ≤ s.size ∧ m ≤ 9007199254740992 := rdNum_bd s _ _ _ _ _ _ h
theorem text_bd {s t : ByteArray} {q p : Nat} (h : text s q = .ok (t, p)) : q < p ∧ p ≤ s.size ∧ t.size ≤ 1048576 ∧ t.size < p - q + 1 := by
  unfold text at h
  split at h
  · cases h
  · rename_i n p' hn
    have := num_bd hn
    split at h
    · cases h
    · unfold take_ at h
      split at h
      · cases h
      · simp only [Except.ok.injEq, Prod.mk.injEq] at h
        obtain ⟨rfl, rfl⟩ := h
        simp only [ByteArray.size_extract]
        omega
theorem count_bd {s : ByteArray} {most q m p : Nat} (h : count s most q = .ok (m, p)) : q < p ∧ p ≤ s.size ∧ m ≤ most := by
  unfold count at h
  split at h
  · cases h
  · rename_i n p' hn
    have := num_bd hn
    split at h
    · cases h
    · simp only [Except.ok.injEq, Prod.mk.injEq] at h
      omega
end Go.Proofs.Ytfgpchffkpomoaa

/- Bit arithmetic of an int that is built digit by digit, seven bits each. -/
namespace Go.Proofs.Ytfgpchffkpomoaa
set_option linter.unusedSimpArgs false
set_option linter.unusedVariables false
open Go.RowKit

theorem i64_or_nat (a b : Nat) (ha : a < 2 ^ 62) (hb : b < 2 ^ 62) : bits .or .i64 (a : Int) (b : Int) = ((a ||| b : Nat) : Int) := by
  have := (bits_nat .i64 62 (by decide) (fun n h0 h1 => by rw [IntKind.wrap_i64]; omega) a b ha hb)
  first | exact this | exact this.1 | exact this.2 | exact this.2.1 | exact this.2.2
theorem or_digit (n d i : Nat) (hn : n < 2 ^ i) : n ||| d * 2 ^ i = n + d * 2 ^ i := by
  have h := Nat.shiftLeft_add_eq_or_of_lt hn d
  rw [Nat.shiftLeft_eq] at h
  rw [Nat.or_comm, ← h, Nat.add_comm]
theorem and127 (c : Nat) : bits .and .i64 (c : Int) 127 = ((c % 128 : Nat) : Int) := by
  rw [i64_and127]; omega
theorem pow7_le (i : Nat) (h : i ≤ 7) : (2 : Nat) ^ (7 * i) ≤ 562949953421312 :=
  Nat.le_trans (Nat.pow_le_pow_right (by decide) (Nat.mul_le_mul_left 7 h)) (by decide)
theorem digit_lt (c i : Nat) (h : i ≤ 7) : c % 128 * 2 ^ (7 * i) < 72057594037927936 := by
  have h1 := pow7_le i h
  have h2 : c % 128 < 128 := Nat.mod_lt _ (by decide)
  calc c % 128 * 2 ^ (7 * i) ≤ 127 * 562949953421312 := Nat.mul_le_mul (by omega) h1
    _ < _ := by decide
theorem shl_digit (c i : Nat) (h : i ≤ 7) : wrap64 (((c % 128 : Nat) : Int) * 2 ^ (7 * i)) = ((c % 128 * 2 ^ (7 * i) : Nat) : Int) := by
  have h1 := digit_lt c i h
  have e : ((c % 128 : Nat) : Int) * 2 ^ (7 * i) = ((c % 128 * 2 ^ (7 * i) : Nat) : Int) := by
    rw [Int.natCast_mul, Int.natCast_pow]; rfl
  rw [e]
  unfold wrap64
  omega
theorem or_i64_digit (n c i : Nat) (h : i ≤ 7) (hn : n < 2 ^ (7 * i)) : bits .or .i64 (n : Int) ((c % 128 * 2 ^ (7 * i) : Nat) : Int) = ((n + c % 128 * 2 ^ (7 * i) : Nat) : Int) := by
  have h1 := digit_lt c i h
  have h2 := pow7_le i h
  rw [i64_or_nat _ _ (by omega) (by omega), or_digit _ _ _ hn]
theorem digits_lt (n c i : Nat) (hn : n < 2 ^ (7 * i)) : n + c % 128 * 2 ^ (7 * i) < 2 ^ (7 * (i + 1)) := by
  have h2 : c % 128 < 128 := Nat.mod_lt _ (by decide)
  have e : 7 * (i + 1) = 7 * i + 7 := by omega
  rw [e, Nat.pow_add]
  have : c % 128 * 2 ^ (7 * i) ≤ 127 * 2 ^ (7 * i) := Nat.mul_le_mul_right _ (by omega)
  omega
/-- One digit of seven bits, as the walk spells it. -/
theorem digit_step (n c i : Nat) (h : i ≤ 7) (hc : c < 256) (hn : n < 2 ^ (7 * i)) : ∃ u v : Nat, wrap64 (c : Int) = c ∧ bits .and .i64 (c : Int) 127 = (c : Int) % 128 ∧
    wrap64 ((c : Int) % 128 * 2 ^ (7 * i)) = (u : Int) ∧ bits .or .i64 (n : Int) (u : Int) = (v : Int) ∧ v < 2 ^ (7 * (i + 1)) ∧ v < 144115188075855872 ∧ Hid (v = n + c % 128 * 2 ^ (7 * i)) :=
  ⟨c % 128 * 2 ^ (7 * i), n + c % 128 * 2 ^ (7 * i), by unfold wrap64; omega, by rw [and127]; omega,
    by rw [← shl_digit c i h]; congr 2, or_i64_digit n c i h hn, digits_lt n c i hn, by have := pow7_le i h; have := digit_lt c i h; omega, rfl⟩
end Go.Proofs.Ytfgpchffkpomoaa

/- append on a slice of the call's own: what is held, which blocks may change, and where the slice lies then. -/
namespace Go.Proofs.Ytfgpchffkpomoaa
set_option linter.unusedSimpArgs false
set_option linter.unusedVariables false
open Go.RowKit

/-- The block in which a slice lies. -/
def Row (A : Option Addr) (k : Nat) : Prop := A.map Addr.block = some k

theorem own_shape {w : World} {base n : Nat} {e : TypeId} {size : Nat} {v : Value} {xs : List Value} (h : w.ownsRow base e size v n xs) : ∃ A c, v = .slice A n c := by
  rcases h.2 with ⟨rfl, rfl⟩ | ⟨g, cap, cur, rfl, _⟩
  · exact ⟨none, 0, rfl⟩
  · exact ⟨_, cap, rfl⟩
theorem ownBlock_slice (A : Option Addr) (n c : Nat) : Value.ownBlock (.slice A n c) = A.map Addr.block := by cases A <;> rfl
theorem own_row {w : World} {base n : Nat} {e : TypeId} {size : Nat} {A : Option Addr} {c : Nat} {xs : List Value} (h : w.ownsRow base e size (.slice A n c) n xs) {k : Nat} (hk : Row A k) : base ≤ k ∧ k < w.heap.size :=
  h.lt k (by rw [ownBlock_slice]; exact hk)
theorem grown_ch {w w' : World} {A : Option Addr} {n c : Nat} (hg : w.grownBy w' (Value.ownBlock (.slice A n c))) : Ch w.heap.size (Row A) w w' := by
  rw [ownBlock_slice] at hg
  exact ⟨hg.os, hg.tape, hg.output, hg.size, fun k hk hs => hg.block k hk (fun e => hs e.symm)⟩
/-- What is owned stays while another block changes. -/
theorem own_ch {w w' : World} {base n B : Nat} {S : Nat → Prop} {e : TypeId} {size : Nat} {A : Option Addr} {c : Nat} {xs : List Value} (h : w.ownsRow base e size (.slice A n c) n xs) (hc : Ch B S w w') (hB : ∀ k, Row A k → k < B ∧ ¬ S k) :
    w'.ownsRow base e size (.slice A n c) n xs := by
  refine ⟨h.1, ?_⟩
  rcases h.2 with hn | ⟨g, cap, cur, hv, hb, hg, rest⟩
  · exact .inl hn
  · obtain ⟨rfl, rfl⟩ : A = some ⟨g, 0, none⟩ ∧ c = cap := by simpa using hv
    have := hB g rfl
    exact .inr ⟨g, c, cur, rfl, hb, by rw [hc.block g this.1 this.2]; exact hg, rest⟩

theorem own_base {w : World} {base base' n : Nat} {e : TypeId} {size : Nat} {v : Value} {xs : List Value} (h : w.ownsRow base e size v n xs) (hb : base' ≤ base) : w.ownsRow base' e size v n xs := by
  refine ⟨h.1, ?_⟩
  rcases h.2 with hn | ⟨g, cap, cur, hv, hg, rest⟩
  · exact .inl hn
  · exact .inr ⟨g, cap, cur, hv, by omega, rest⟩
theorem below_app {B : Nat} {A : Option Addr} {w wr w1 : World} {o : Obj} (HB : Below B w wr) (hB : B ≤ wr.heap.size) (hb : Ch (wr.alloc o).heap.size (Row A) (wr.alloc o) w1) (hR : ∀ k, Row A k → B ≤ k) : Below B w w1 := by
  refine (HB.alloc hB o).trans ((hb.mono (B' := B) (S' := fun _ => False) (by simp; omega) ?_).below (fun _ _ h => h))
  intro k hk hr
  have := hR k hr
  omega
theorem below_app0 {B : Nat} {A : Option Addr} {w wr w1 : World} (HB : Below B w wr) (hB : B ≤ wr.heap.size) (hb : Ch wr.heap.size (Row A) wr w1) (hR : ∀ k, Row A k → B ≤ k) : Below B w w1 := by
  refine HB.trans ((hb.mono (B' := B) (S' := fun _ => False) hB ?_).below (fun _ _ h => h))
  intro k hk hr
  have := hR k hr
  omega
section
variable {P : Program} {w : World}
/-- append of cells: as the kit's law for an owned slice; and the new slice lies where the old one did, or in a new block. -/
theorem run_append_row (base : Nat) (t ty e : TypeId) (i : TypeInfo) (z : Value) (size bytes : Nat) (ht : P.underlying t = some (.slice e)) (hi : P.info? e = some i) (hz : i.zero = some z)
    (hsize : i.size = size) (hby : i.bytes = bytes) (hzs : z.cells.size = size) (hsz : 0 < size)
    (A : Option Addr) (cp n : Nat) (xs : List Value) (hown : w.ownsRow base e size (.slice A n cp) n xs)
    (a : Addr) (m c : Nat) (news : List Value) (hl : news.length = m * size) (hnews : ∀ j u, news[j]? = some u → w.cell? (a.add j) = some u) (h1 : ∀ u ∈ news, u.oneCell' = true)
    (hbytes : (n + m) * bytes ≤ 140737488355328) (h63 : n + m ≤ 140737488355328) (hbase : base ≤ w.heap.size) :
    ∃ A' cp' w', (Builtin.append_ #[t, t] ty #[.slice A n cp, .slice (some a) m c]).run P w = .ok (.slice A' (n + m) cp') w' ∧ w'.ownsRow base e size (.slice A' (n + m) cp') (n + m) (xs ++ news) ∧
      Ch w.heap.size (Row A) w w' ∧ (A' = A ∨ A' = some ⟨w.heap.size, 0, none⟩) := by
  obtain ⟨v', w', hr, ho, hg, hn⟩ := run_append_own (P := P) w base t ty e i z size bytes ht hi hz hsize hby hzs hsz _ n xs hown a m c news hl hnews h1 (by simp only [maxLen]; omega) hbytes hbase
  obtain ⟨A', cp', rfl⟩ := own_shape ho
  refine ⟨A', cp', w', hr, ho, grown_ch hg, ?_⟩
  subst hsize
  subst hby
  rcases hown.2 with ⟨hv, rfl⟩ | ⟨g, cap, cur, hv, _, hgg, _, _, hcs, htake⟩
  · obtain ⟨rfl, rfl⟩ : A = none ∧ cp = 0 := by simpa using hv
    rcases Nat.eq_zero_or_pos m with rfl | hm
    · left
      have := (hn.2 ⟨rfl, rfl⟩)
      injection this
    · right
      have := run_append_nil (P := P) w t ty e i z ht hi hz a m c news hl hnews hm (by omega) (by have hb := hbytes; simp only [Nat.zero_add] at hb; omega)
      rw [hr] at this
      injection this with e1 e2
      injection e1
  · obtain ⟨rfl, rfl⟩ : A = some ⟨g, 0, none⟩ ∧ cp = cap := by simpa using hv
    by_cases hroom : n + m ≤ cp
    · left
      have := run_append_room (P := P) w t ty e i ht hi g n cp cur hgg a m c news hl hnews h1 hroom (by rw [hl, hcs, ← Nat.add_mul]; exact Nat.mul_le_mul_right _ hroom)
      rw [hr] at this
      injection this with e1 e2
      injection e1
    · right
      have := run_append_grow (P := P) w t ty e i z ht hi hz ⟨g, 0, none⟩ n cp xs hown.1 (hown.cells (g := g) rfl) a m c news hl hnews (by omega) (by omega) (growslice_fits (by omega) hbytes)
      rw [hr] at this
      injection this with e1 e2
      injection e1
theorem run_append_row_string (base : Nat) (t u ty e : TypeId) (i : TypeInfo) (ht : P.underlying t = some (.slice e)) (hu : P.underlying u = some .string) (hi : P.info? e = some i) (hz : i.zero = some (.int .u8 0))
    (hsize : i.size = 1) (hby : i.bytes = 1)
    (A : Option Addr) (cp n : Nat) (xs : List Value) (hown : w.ownsRow base e 1 (.slice A n cp) n xs) (s : ByteArray)
    (hbytes : n + s.size ≤ 140737488355328) (hbase : base ≤ w.heap.size) :
    ∃ A' cp' w', (Builtin.append_ #[t, u] ty #[.slice A n cp, .string s]).run P w = .ok (.slice A' (n + s.size) cp') w' ∧ w'.ownsRow base e 1 (.slice A' (n + s.size) cp') (n + s.size) (xs ++ Lib.strCells s) ∧
      Ch w.heap.size (Row A) w w' ∧ (A' = A ∨ A' = some ⟨w.heap.size, 0, none⟩) := by
  obtain ⟨v', w', hr, ho, hg, hn⟩ := Lib.run_append_own_string (P := P) w base t u ty e i ht hu hi hz hsize hby _ n xs hown s (by simp only [maxLen]; omega) hbytes hbase
  obtain ⟨A', cp', rfl⟩ := own_shape ho
  refine ⟨A', cp', w', hr, ho, grown_ch hg, ?_⟩
  have hl : xs.length = n := by have := hown.1; omega
  rcases hown.2 with ⟨hv, rfl⟩ | ⟨g, cap, cur, hv, _, hgg, _, _, hcs, htake⟩
  · obtain ⟨rfl, rfl⟩ : A = none ∧ cp = 0 := by simpa using hv
    rcases Nat.eq_zero_or_pos s.size with hm | hm
    · left
      have := (hn.2 ⟨rfl, hm⟩)
      injection this
    · right
      have := run_append_nil_string (P := P) w t u ty e i (.int .u8 0) ht hu hi hz s hm (by omega) (by rw [hby]; omega)
      rw [hr] at this
      injection this with e1 e2
      injection e1
  · obtain ⟨rfl, rfl⟩ : A = some ⟨g, 0, none⟩ ∧ cp = cap := by simpa using hv
    by_cases hroom : n + s.size ≤ cp
    · left
      have := Lib.run_append_room_string (P := P) w t u ty e i ht hu hi hsize g n cp cur hgg s hroom (by omega)
      rw [hr] at this
      injection this with e1 e2
      injection e1
    · right
      have := Lib.run_append_grow_string (P := P) w t u ty e i (.int .u8 0) ht hu hi hz ⟨g, 0, none⟩ n cp xs (by rw [hsize]; simpa using hl) (hown.cells (g := g) rfl) s (by omega) (by omega) (by rw [hby]; exact growslice_fits (by omega) (by omega))
      rw [hr] at this
      injection this with e1 e2
      injection e1

variable {ops : Array Oper} {rest : List Oper} {o : Oper} {a : Act} {Q : Exit → Act → World → Prop}
theorem wp_app_row {K : Act → World → Prop} (s x : Operand) (t : TypeId) (ho : o.op = .call { callee := .builtin .append, args := #[s, x], argTypes := #[t, t] })
    (base : Nat) (e : TypeId) (z : Value) (size bytes : Nat) (hinfo : (P.info? e).map (fun i => (i.zero, i.size, i.bytes)) = some (some z, size, bytes)) (ht : P.underlying t = some (.slice e)) (hzs : z.cells.size = size) (hsz : 0 < size)
    (A : Option Addr) (cp n : Nat) (xs : List Value) (hs : a.eval s = .slice A n cp) (hown : w.ownsRow base e size (.slice A n cp) n xs)
    (ad : Addr) (m c : Nat) (news : List Value) (hx : a.eval x = .slice (some ad) m c) (hl : news.length = m * size) (hnews : ∀ j u, news[j]? = some u → w.cell? (ad.add j) = some u) (h1 : ∀ u ∈ news, u.oneCell' = true)
    (hbytes : (n + m) * bytes ≤ 140737488355328) (h63 : n + m ≤ 140737488355328) (hbase : base ≤ w.heap.size)
    (h : ∀ A' cp' w', w'.ownsRow base e size (.slice A' (n + m) cp') (n + m) (xs ++ news) → Ch w.heap.size (Row A) w w' → (A' = A ∨ A' = some ⟨w.heap.size, 0, none⟩) → K (a.put o.dst (.slice A' (n + m) cp')) w') : o.wp P a w K Q := by
  obtain ⟨i, hi, hz, hsize, hby⟩ := info_parts hinfo
  obtain ⟨A', cp', w', hr, h2, h3, h4⟩ := run_append_row (P := P) (w := w) base t o.type e i z size bytes ht hi hz hsize hby hzs hsz A cp n xs hown ad m c news hl hnews h1 hbytes h63 hbase
  unfold Oper.wp execOp
  simp only [ho, resolve, invoke, builtin, Sem.run_bind, Sem.run_pure, Result.andThen_ok, List.map_toArray, List.map_cons, List.map_nil, hs, hx, hr]
  exact h A' cp' w' h2 h3 h4
/-- THE OPERATION, for the walk. -/
theorem app_row (hgd : o.guard = none) (s x : Operand) (t : TypeId) (ho : o.op = .call { callee := .builtin .append, args := #[s, x], argTypes := #[t, t] })
    (base : Nat) (e : TypeId) (z : Value) (size bytes : Nat) (hinfo : (P.info? e).map (fun i => (i.zero, i.size, i.bytes)) = some (some z, size, bytes)) (ht : P.underlying t = some (.slice e)) (hzs : z.cells.size = size) (hsz : 0 < size)
    (A : Option Addr) (cp n : Nat) (xs : List Value) (hs : a.eval s = .slice A n cp) (hown : w.ownsRow base e size (.slice A n cp) n xs)
    (ad : Addr) (m c : Nat) (news : List Value) (hx : a.eval x = .slice (some ad) m c) (hl : news.length = m * size) (hnews : ∀ j u, news[j]? = some u → w.cell? (ad.add j) = some u) (h1 : ∀ u ∈ news, u.oneCell' = true)
    (hbytes : (n + m) * bytes ≤ 140737488355328) (h63 : n + m ≤ 140737488355328) (hbase : base ≤ w.heap.size)
    (h : ∀ A' cp' w', w'.ownsRow base e size (.slice A' (n + m) cp') (n + m) (xs ++ news) → Ch w.heap.size (Row A) w w' → (A' = A ∨ A' = some ⟨w.heap.size, 0, none⟩) → wpList P ops Q rest (a.put o.dst (.slice A' (n + m) cp')) w') : wpList P ops Q (o :: rest) a w :=
  wpList_plain hgd fun _ hK => wp_app_row s x t ho base e z size bytes hinfo ht hzs hsz A cp n xs hs hown ad m c news hx hl hnews h1 hbytes h63 hbase fun A' cp' w' h2 h3 h4 => hK _ _ (h A' cp' w' h2 h3 h4)
/-- .. in a region that draws its order. -/
theorem step_app_row {K : Act → World → Prop} {E : Prop} (hgd : o.guard = none) (s x : Operand) (t : TypeId) (ho : o.op = .call { callee := .builtin .append, args := #[s, x], argTypes := #[t, t] })
    (base : Nat) (e : TypeId) (z : Value) (size bytes : Nat) (hinfo : (P.info? e).map (fun i => (i.zero, i.size, i.bytes)) = some (some z, size, bytes)) (ht : P.underlying t = some (.slice e)) (hzs : z.cells.size = size) (hsz : 0 < size)
    (A : Option Addr) (cp n : Nat) (xs : List Value) (hs : a.eval s = .slice A n cp) (hown : w.ownsRow base e size (.slice A n cp) n xs)
    (ad : Addr) (m c : Nat) (news : List Value) (hx : a.eval x = .slice (some ad) m c) (hl : news.length = m * size) (hnews : ∀ j u, news[j]? = some u → w.cell? (ad.add j) = some u) (h1 : ∀ u ∈ news, u.oneCell' = true)
    (hbytes : (n + m) * bytes ≤ 140737488355328) (h63 : n + m ≤ 140737488355328) (hbase : base ≤ w.heap.size)
    (h : ∀ A' cp' w', w'.ownsRow base e size (.slice A' (n + m) cp') (n + m) (xs ++ news) → Ch w.heap.size (Row A) w w' → (A' = A ∨ A' = some ⟨w.heap.size, 0, none⟩) → K (a.put o.dst (.slice A' (n + m) cp')) w') :
    if Region.wanted o (yielded ops a.tmps) = true then Oper.wp P o a w K Q else E := by
  have hw : Region.wanted o (yielded ops a.tmps) = true := by simp [Region.wanted, hgd]
  rw [if_pos hw]
  exact wp_app_row s x t ho base e z size bytes hinfo ht hzs hsz A cp n xs hs hown ad m c news hx hl hnews h1 hbytes h63 hbase h
/-- The cells of a new block, to be appended. -/
theorem news_box {w : World} {k : Nat} {cs : Array Value} {T : TypeId} (hb : Box w k cs T) : ∀ j u, cs.toList[j]? = some u → w.cell? ((⟨k, 0, none⟩ : Addr).add j) = some u := fun j u hu => by
  have hadd : (⟨k, 0, none⟩ : Addr).add j = ⟨k, j, none⟩ := by unfold Addr.add; split <;> simp_all
  rw [hadd, hb.cell j]
  simpa using hu
theorem app_row_string (hgd : o.guard = none) (s x : Operand) (t u : TypeId) (ho : o.op = .call { callee := .builtin .append, args := #[s, x], argTypes := #[t, u] })
    (base : Nat) (e : TypeId) (hinfo : (P.info? e).map (fun i => (i.zero, i.size, i.bytes)) = some (some (.int .u8 0), 1, 1)) (ht : P.underlying t = some (.slice e)) (hu : P.underlying u = some .string)
    (A : Option Addr) (cp n : Nat) (xs : List Value) (hs : a.eval s = .slice A n cp) (hown : w.ownsRow base e 1 (.slice A n cp) n xs)
    (str : ByteArray) (hx : a.eval x = .string str) (hbytes : n + str.size ≤ 140737488355328) (hbase : base ≤ w.heap.size)
    (h : ∀ A' cp' w', w'.ownsRow base e 1 (.slice A' (n + str.size) cp') (n + str.size) (xs ++ Lib.strCells str) → Ch w.heap.size (Row A) w w' → (A' = A ∨ A' = some ⟨w.heap.size, 0, none⟩) → wpList P ops Q rest (a.put o.dst (.slice A' (n + str.size) cp')) w') : wpList P ops Q (o :: rest) a w := by
  obtain ⟨i, hi, hz, hsize, hby⟩ := info_parts hinfo
  refine wpList_plain hgd fun K hK => ?_
  obtain ⟨A', cp', w', hr, h2, h3, h4⟩ := run_append_row_string (P := P) (w := w) base t u o.type e i ht hu hi hz hsize hby A cp n xs hown str hbytes hbase
  unfold Oper.wp execOp
  simp only [ho, resolve, invoke, builtin, Sem.run_bind, Sem.run_pure, Result.andThen_ok, List.map_toArray, List.map_cons, List.map_nil, hs, hx, hr]
  exact hK _ _ (h A' cp' w' h2 h3 h4)
end
end Go.Proofs.Ytfgpchffkpomoaa
