/- A map whose keys are told in the order in which they came: looked up, measured, and one more put in. -/
import Derived.Test.YtfgpchffkpomoaaLib
import Derived.Maps.OwnSet
import Derived.DeepKeys4
namespace Go.Proofs.Ytfgpchffkpomoaa
set_option linter.unusedSimpArgs false
set_option linter.unusedVariables false
open Go.RowKit Go.ChangeMaps Go.MapKept
open Go.Maps (Keyed)

/-- Block b is a map of keys of type K; its entries, in the order in which they came, are kvs. -/
structure MapIs (K : TypeId) (w : World) (b : Nat) (kvs : List (Value × Value)) : Prop where
  entries : ∃ es clock, w.heap[b]? = some (.map es clock) ∧ es.toList.map (fun e => (e.key, e.val)) = kvs
  keys : ∀ p ∈ kvs, ∃ l, keyOf Try.prog K p.1 = some l
  apart : (kvs.map (·.1)).Nodup

section
variable {K E T : TypeId} {w w' : World} {b : Nat} {kvs : List (Value × Value)}

theorem MapIs.lt (h : MapIs K w b kvs) : b < w.heap.size := by
  obtain ⟨es, clock, hb, _⟩ := h.entries
  exact (Array.getElem?_eq_some_iff.1 hb).1
theorem MapIs.ch {B : Nat} {S : Nat → Prop} (h : MapIs K w b kvs) (hc : Ch B S w w') (hB : b < B) (hS : ¬ S b) : MapIs K w' b kvs := by
  obtain ⟨es, clock, hb, he⟩ := h.entries
  exact ⟨⟨es, clock, (hc.block b hB hS).trans hb, he⟩, h.keys, h.apart⟩
theorem MapIs.drewN (h : MapIs K w b kvs) (n : Nat) : MapIs K (w.drewN n) b kvs := ⟨h.entries, h.keys, h.apart⟩
theorem MapIs.drew (h : MapIs K w b kvs) : MapIs K w.drew b kvs := ⟨h.entries, h.keys, h.apart⟩
theorem MapIs.alloc (h : MapIs K w b kvs) (o : Obj) : MapIs K (w.alloc o) b kvs :=
  h.ch (B := w.heap.size) (S := fun _ => False) ((Ch.refl _ _ _).alloc (Nat.le_refl _) o) h.lt (fun h => h)
theorem MapIs.new (w : World) (K : TypeId) : MapIs K (w.alloc (.map #[] 0)) w.heap.size [] :=
  ⟨⟨#[], 0, (MapKept.heap_alloc w _).1, by simp⟩, by simp, by simp⟩

theorem map_entry {es : Array MapEntry} (he : es.toList.map (fun e => (e.key, e.val)) = kvs) {j : Nat} {e : MapEntry} (h : es[j]? = some e) : kvs[j]? = some (e.key, e.val) := by
  subst he
  simp [h]
theorem map_size {es : Array MapEntry} (he : es.toList.map (fun e => (e.key, e.val)) = kvs) : es.size = kvs.length := by
  have := congrArg List.length he
  simpa using this
theorem map_keys (h : ∀ p ∈ kvs, ∃ l, keyOf Try.prog K p.1 = some l) {es : Array MapEntry} (he : es.toList.map (fun e => (e.key, e.val)) = kvs) :
    ∀ e ∈ es.toList, ∃ l, keyOf Try.prog K e.key = some l := by
  intro e hm
  exact h (e.key, e.val) (by rw [← he]; exact List.mem_map.2 ⟨e, hm, rfl⟩)

/-- v, ok := m[key]; m[key]. -/
theorem MapIs.look (h : MapIs K w b kvs) (KL : Keyed Try.prog K) (ht : Try.prog.underlying T = some (.map K E)) {z : Value} (hz : (zeroValue E).run Try.prog w = .ok z w) {key : Value} {kl : Lit} (hkey : keyOf Try.prog K key = some kl) (c : Bool) :
    (∀ v, (key, v) ∈ kvs → (Instr.lookup T (.map (some b)) key c).run Try.prog w = .ok (if c then .tuple #[v, .bool true] else v) w) ∧
    ((∀ v, (key, v) ∉ kvs) → (Instr.lookup T (.map (some b)) key c).run Try.prog w = .ok (if c then .tuple #[z, .bool false] else z) w) := by
  obtain ⟨es, clock, hb, he⟩ := h.entries
  rcases KL.find w hkey es.toList (map_keys h.keys he) with ⟨h1, h2⟩ | ⟨j, e0, h1, h2, h3⟩
  · refine ⟨fun v hv => ?_, fun _ => by simp [Instr.lookup, run_underlying ht, MapKept.run_getObj_map hb, KL.check w _ hkey, h1, hz, Result.andThen]⟩
    exfalso
    rw [← he] at hv
    obtain ⟨e, hm, hev⟩ := List.mem_map.1 hv
    exact h2 e hm (Prod.mk.inj hev).1
  · have hj : es[j]? = some e0 := by simpa using h2
    have k1 := map_entry he hj
    rw [h3] at k1
    refine ⟨fun v hi => ?_, fun hn => ?_⟩
    · obtain ⟨i, hil, hiv⟩ := List.getElem_of_mem hi
      have hij : i = j := by
        refine (List.getElem?_inj (l := kvs.map (·.1)) (by simpa using hil) h.apart).1 ?_
        rw [List.getElem?_map, List.getElem?_map, k1, List.getElem?_eq_getElem hil, hiv]
        rfl
      subst hij
      rw [List.getElem?_eq_getElem hil, hiv] at k1
      obtain rfl : v = e0.val := by simpa using k1
      simp [Instr.lookup, run_underlying ht, MapKept.run_getObj_map hb, KL.check w _ hkey, h1, Result.andThen]
    · exact absurd (List.mem_of_getElem? k1) (hn _)

/-- len(m). -/
theorem MapIs.len (h : MapIs K w b kvs) (ht : Try.prog.underlying T = some (.map K E)) (ty : TypeId) : (Builtin.len_ #[T] ty #[.map (some b)]).run Try.prog w = .ok (.int .i64 (kvs.length : Int)) w := by
  obtain ⟨es, clock, hb, he⟩ := h.entries
  rw [← map_size he]
  simp [Builtin.len_, run_underlying ht, MapKept.run_getObj_map hb, goInt, Result.andThen]

/-- m[key] = v, of a key that is not there. -/
theorem MapIs.push (h : MapIs K w b kvs) (KL : Keyed Try.prog K) (ht : Try.prog.underlying T = some (.map K E)) {key v : Value} {kl : Lit} (hkey : keyOf Try.prog K key = some kl) (hn : ∀ v, (key, v) ∉ kvs) :
    ∃ w', (Instr.mapUpdate T (.map (some b)) key v).run Try.prog w = .ok () w' ∧ MapIs K w' b (kvs ++ [(key, v)]) ∧ Ch w.heap.size (· = b) w w' ∧ w'.heap.size = w.heap.size := by
  obtain ⟨es, clock, hb, he⟩ := h.entries
  rcases KL.find w hkey es.toList (map_keys h.keys he) with ⟨h1, h2⟩ | ⟨j, e0, h1, h2, h3⟩
  · refine ⟨setBlock w b (.map (es.push ⟨key, v, clock⟩) (clock + 1)), ?_, ⟨⟨_, _, heap_setBlock_same hb _, ?_⟩, ?_, ?_⟩, ?_, ?_⟩
    · simp [Instr.mapUpdate, run_underlying ht, MapKept.run_getObj_map hb, KL.check w false hkey, h1, MapKept.run_setObj_map _ hb, Result.andThen, setBlock]
    · rw [Array.toList_push, List.map_append, he]
      simp
    · intro k hk
      rcases List.mem_append.1 hk with hk | hk
      · exact h.keys k hk
      · obtain rfl := List.mem_singleton.1 hk
        exact ⟨kl, hkey⟩
    · rw [List.map_append, List.nodup_append]
      refine ⟨h.apart, by simp, ?_⟩
      intro a ha c hc
      obtain rfl : c = key := by simpa using hc
      rintro rfl
      obtain ⟨⟨k, u⟩, hp, rfl⟩ := List.mem_map.1 ha
      exact hn u hp
    · exact ⟨rfl, rfl, rfl, by simp [setBlock], fun i _ hi => heap_setBlock_other hb _ hi⟩
    · simp [setBlock]
  · exfalso
    have hj : es[j]? = some e0 := by simpa using h2
    have k1 := map_entry he hj
    rw [h3] at k1
    exact hn _ (List.mem_of_getElem? k1)

end

/-- m[key] = v, of a key that is not there, at the operation, for the walk. -/
theorem wpList_push {K E T : TypeId} {ops : Array Oper} {rest : List Oper} {o : Oper} {a : Act} {Q : Exit → Act → World → Prop} (w : World)
    (hg : o.guard = none) (m x v : Operand) (hop : o.op = Op.mapUpdate T m x v) (KL : Keyed Try.prog K) (ht : Try.prog.underlying T = some (.map K E)) (b : Nat) (kvs : List (Value × Value))
    (hm : a.eval m = .map (some b)) (hown : MapIs K w b kvs) (key val : Value) (kl : Lit) (hx : a.eval x = key) (hv : a.eval v = val) (hkey : keyOf Try.prog K key = some kl) (hn : ∀ v, (key, v) ∉ kvs)
    (hK : ∀ w', MapIs K w' b (kvs ++ [(key, val)]) → Ch w.heap.size (· = b) w w' → w'.heap.size = w.heap.size → wpList Try.prog ops Q rest (a.put o.dst undef) w') :
    wpList Try.prog ops Q (o :: rest) a w := by
  refine wpList_plain hg fun K' hK' => ?_
  obtain ⟨w', hrun, r1, r2, r3⟩ := hown.push KL ht (v := val) hkey hn
  unfold Oper.wp
  simp [execOp, hop, hm, hx, hv, hrun, Result.andThen]
  exact hK' _ _ (hK w' r1 r2 r3)
end Go.Proofs.Ytfgpchffkpomoaa
