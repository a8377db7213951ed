/- What was told: a map of numbers to texts; one more put in, all taken out, and counted. -/
import Derived.Test.YtfgpchffkpomoaaPk01
import Derived.Laws.IdiomRangeMap
namespace Go.Proofs.Ytfgpchffkpomoaa
set_option linter.unusedSimpArgs false
set_option linter.unusedVariables false
open Go.RowKit Go.ChangeMaps Go.MapKept
open Go.Maps (Keyed)

theorem keyTold : Keyed Try.prog 3 := Go.Maps.int_keyed Try.underlying3
abbrev Td := Int × ByteArray
def tdKv (x : Td) : Value × Value := (.int .i64 x.1, .string x.2)
theorem told_key {k : Int} (h0 : 0 ≤ k) (h1 : k ≤ 255) : ∃ l, keyOf Try.prog 3 (.int .i64 k) = some l := by
  have hw : (Lit.int .i64 k).wf = true := by
    show (decide (IntKind.i64.min ≤ k) && decide (k ≤ IntKind.i64.max)) = true
    rw [show IntKind.i64.min = -9223372036854775808 by decide, show IntKind.i64.max = 9223372036854775807 by decide]
    simp; omega
  refine ⟨.int .i64 k, ?_⟩
  unfold keyOf
  rw [Try.underlying3]
  simp [mapKey, Try.underlying3, hw]

structure ToldS (w : World) (g : Nat) (l : List Td) : Prop where
  entries : ∃ es clock, w.heap[g]? = some (.map es clock) ∧ es.toList.map (fun e => (e.key, e.val)) = l.map tdKv ∧ Stamped es clock
  small : ∀ x ∈ l, 0 ≤ x.1 ∧ x.1 ≤ 255

section
variable {w w' : World} {g : Nat} {l : List Td} {E T : TypeId}
theorem ToldS.is (h : ToldS w g l) : MapIs 3 w g (l.map tdKv) := by
  obtain ⟨es, clock, hb, he, hst⟩ := h.entries
  refine ⟨⟨es, clock, hb, he⟩, fun p hp => ?_, ?_⟩
  · obtain ⟨x, hx, rfl⟩ := List.mem_map.1 hp
    exact told_key (h.small x hx).1 (h.small x hx).2
  · rw [← he, List.map_map]
    have := ((stamped_iff es clock).1 hst).2.2
    unfold List.Nodup
    rw [List.pairwise_map]
    exact this
theorem ToldS.lt (h : ToldS w g l) : g < w.heap.size := h.is.lt
theorem ToldS.ch {B : Nat} {S : Nat → Prop} (h : ToldS w g l) (hc : Ch B S w w') (hB : g < B) (hS : ¬ S g) : ToldS w' g l := by
  obtain ⟨es, clock, hb, he⟩ := h.entries
  exact ⟨⟨es, clock, (hc.block g hB hS).trans hb, he⟩, h.small⟩
theorem ToldS.alloc (h : ToldS w g l) (o : Obj) : ToldS (w.alloc o) g l :=
  h.ch (B := w.heap.size) (S := fun _ => False) ((Ch.refl _ _ _).alloc (Nat.le_refl _) o) h.lt (fun h => h)
theorem ToldS.drewN (h : ToldS w g l) (n : Nat) : ToldS (w.drewN n) g l := ⟨h.entries, h.small⟩
theorem ToldS.drew (h : ToldS w g l) : ToldS w.drew g l := ⟨h.entries, h.small⟩
theorem ToldS.new (w : World) : ToldS (w.alloc (.map #[] 0)) w.heap.size [] :=
  ⟨⟨#[], 0, (MapKept.heap_alloc w _).1, by simp, stamped_empty 0⟩, by simp⟩
theorem told_not {k : Int} (h : ∀ x ∈ l, x.1 ≠ k) : ∀ v, ((Value.int .i64 k), v) ∉ l.map tdKv := fun v hv => by
  obtain ⟨x, hx, he⟩ := List.mem_map.1 hv
  refine h x hx ?_
  unfold tdKv at he
  simpa using (Prod.mk.inj he).1
theorem ToldS.push (h : ToldS w g l) (ht : Try.prog.underlying T = some (.map 3 E)) {k : Int} {t : ByteArray} (h0 : 0 ≤ k) (h1 : k ≤ 255) (hn : ∀ x ∈ l, x.1 ≠ k) :
    ∃ w', (Instr.mapUpdate T (.map (some g)) (.int .i64 k) (.string t)).run Try.prog w = .ok () w' ∧ ToldS w' g (l ++ [(k, t)]) ∧ Ch w.heap.size (· = g) w w' ∧ w'.heap.size = w.heap.size := by
  obtain ⟨es, clock, hb, he, hst⟩ := h.entries
  obtain ⟨kl, hkey⟩ := told_key h0 h1
  have hno := told_not hn
  rcases keyTold.find w hkey es.toList (map_keys h.is.keys he) with ⟨h1', h2⟩ | ⟨j, e0, h1', h2, h3⟩
  · refine ⟨setBlock w g (.map (es.push ⟨.int .i64 k, .string t, clock⟩) (clock + 1)), ?_, ⟨⟨_, _, heap_setBlock_same hb _, ?_, stamped_push hst h2⟩, ?_⟩, ?_, ?_⟩
    · simp [Instr.mapUpdate, run_underlying ht, MapKept.run_getObj_map hb, keyTold.check w false hkey, h1', MapKept.run_setObj_map _ hb, Result.andThen, setBlock]
    · rw [Array.toList_push, List.map_append, he, List.map_append]
      rfl
    · intro x hx
      rcases List.mem_append.1 hx with hx | hx
      · exact h.small x hx
      · obtain rfl := List.mem_singleton.1 hx
        exact ⟨h0, h1⟩
    · exact ⟨rfl, rfl, rfl, by simp [setBlock], fun i _ hi => heap_setBlock_other hb _ hi⟩
    · simp [setBlock]
  · exfalso
    have hj : es[j]? = some e0 := by simpa using h2
    have k1 := map_entry he hj
    rw [h3] at k1
    exact hno _ (List.mem_of_getElem? k1)
theorem ToldS.clear (h : ToldS w g l) (ht : Try.prog.underlying T = some (.map 3 E)) :
    ∃ w', (∀ ty, (Builtin.clear_ #[T] ty #[.map (some g)]).run Try.prog w = .ok (.tuple #[]) w') ∧ ToldS w' g [] ∧ Ch w.heap.size (· = g) w w' ∧ w'.heap.size = w.heap.size := by
  obtain ⟨es, clock, hb, he, hst⟩ := h.entries
  refine ⟨setBlock w g (.map #[] clock), ?_, ⟨⟨_, _, heap_setBlock_same hb _, by simp, stamped_empty clock⟩, by simp⟩, ?_, ?_⟩
  · intro ty
    simp [Builtin.clear_, run_underlying ht, MapKept.run_getObj_map hb, MapKept.run_setObj_map _ hb, Result.andThen, setBlock]
  · exact ⟨rfl, rfl, rfl, by simp [setBlock], fun i _ hi => heap_setBlock_other hb _ hi⟩
  · simp [setBlock]
end

/-! Counting those that say alike, in whatever order. -/
def cntV (t : ByteArray) : Value → Int
  | .string s => if s = t then 1 else 0
  | _ => 0
def markE (t : ByteArray) (e : MapEntry) : MapEntry := { e with val := .int .i64 (cntV t e.val) }
def alike (t : ByteArray) (l : List Td) : Nat := (l.filter (fun x => decide (x.2 = t))).length
/-- Those of the entries seen that say t. -/
def cntS (t : ByteArray) (es : Array MapEntry) (seen : Array Nat) : Int := seenSum (es.toList.map (markE t)) seen
theorem cntS_none (t : ByteArray) (es : Array MapEntry) : cntS t es #[] = 0 := seenSum_none _
theorem mark_born (t : ByteArray) (l : List MapEntry) : (l.map (markE t)).map (·.born) = l.map (·.born) := by
  rw [List.map_map]; rfl
theorem cntS_push {t : ByteArray} {es : Array MapEntry} {seen : Array Nat} {e : MapEntry} (hn : (es.toList.map (·.born)).Nodup) (he : e ∈ (leftOf es seen).toList) : cntS t es (seen.push e.born) = cntS t es seen + cntV t e.val :=
  seenSum_push seen (markE t e) (mem_left he).2 _ (by rw [mark_born]; exact hn) (List.mem_map.2 ⟨e, (mem_left he).1, rfl⟩)
theorem cnt_sum (t : ByteArray) : ∀ (es : List MapEntry) (l : List Td), es.map (fun e => (e.key, e.val)) = l.map tdKv → ((es.map (markE t)).map fun e => valOf e.val).sum = (alike t l : Int)
  | [], [], _ => rfl
  | [], x :: l, h => by simp at h
  | e :: es, [], h => by simp at h
  | e :: es, x :: l, h => by
    simp only [List.map_cons, List.cons.injEq] at h
    have hv : e.val = .string x.2 := (Prod.mk.inj h.1).2
    have ih := cnt_sum t es l h.2
    simp only [List.map_cons, List.sum_cons, ih]
    have e1 : valOf (markE t e).val = if x.2 = t then 1 else 0 := by
      unfold markE
      rw [hv]
      rfl
    rw [e1]
    unfold alike
    rw [List.filter_cons]
    by_cases hx : x.2 = t
    · simp [hx]; omega
    · simp [hx]
theorem cntS_all {t : ByteArray} {es : Array MapEntry} {seen : Array Nat} {l : List Td} (h : (leftOf es seen).size = 0) (he : es.toList.map (fun e => (e.key, e.val)) = l.map tdKv) : cntS t es seen = (alike t l : Int) := by
  unfold cntS
  rw [seenSum_full seen _ (fun x hx => by
    obtain ⟨y, hy, rfl⟩ := List.mem_map.1 hx
    exact all_seen es seen h y hy), cnt_sum t _ _ he]
theorem seen_bounds (t : ByteArray) (seen : Array Nat) : ∀ (es : List MapEntry), 0 ≤ seenSum (es.map (markE t)) seen ∧ seenSum (es.map (markE t)) seen ≤ (es.length : Int)
  | [] => ⟨by simp [seenSum], by simp [seenSum]⟩
  | e :: es => by
    have ih := seen_bounds t seen es
    have hv : 0 ≤ valOf (markE t e).val ∧ valOf (markE t e).val ≤ 1 := by
      show 0 ≤ cntV t e.val ∧ cntV t e.val ≤ 1
      unfold cntV
      split
      · split <;> omega
      · omega
    simp only [List.map_cons, seenSum, List.length_cons]
    split <;> omega
theorem cntS_bounds (t : ByteArray) (es : Array MapEntry) (seen : Array Nat) : 0 ≤ cntS t es seen ∧ cntS t es seen ≤ (es.size : Int) := seen_bounds t seen es.toList
theorem entry_text {es : Array MapEntry} {l : List Td} (he : es.toList.map (fun e => (e.key, e.val)) = l.map tdKv) {e : MapEntry} (h : e ∈ es.toList) : ∃ x ∈ l, e.key = .int .i64 x.1 ∧ e.val = .string x.2 := by
  have : (e.key, e.val) ∈ l.map tdKv := by rw [← he]; exact List.mem_map.2 ⟨e, h, rfl⟩
  obtain ⟨x, hx, hxe⟩ := List.mem_map.1 this
  unfold tdKv at hxe
  exact ⟨x, hx, (Prod.mk.inj hxe).1.symm, (Prod.mk.inj hxe).2.symm⟩

/-! A step of a loop over a map leaves the tape as it is. -/
def Calm {α : Type} (m : Sem α) : Prop := ∀ (P : Program) (w w' : World) (v : α), m.run P w = .ok v w' → w'.tape = w.tape
theorem Calm.bind {α β : Type} {m : Sem α} {f : α → Sem β} (hm : Calm m) (hf : ∀ a, Calm (f a)) : Calm (m >>= f) := fun P w w' v h => by
  rw [Sem.run_bind] at h
  cases hr : m.run P w with
  | ok a w1 =>
    rw [hr] at h
    exact (hf a P w1 w' v h).trans (hm P w w1 a hr)
  | _ => rw [hr] at h; cases h
theorem Calm.pure {α : Type} (a : α) : Calm (Pure.pure a : Sem α) := fun P w w' v h => by
  cases h; rfl
theorem Calm.stuck {α : Type} (s : String) : Calm (Go.stuck s : Sem α) := fun P w w' v h => by
  cases h
theorem Calm.unsupported {α : Type} (s : Unsupported) : Calm (Go.unsupported s : Sem α) := fun P w w' v h => by
  cases h
theorem Calm.getObj (r : Nat) : Calm (Go.getObj r) := fun P w w' v h => by
  simp only [Go.getObj, Sem.run] at h
  split at h <;> cases h <;> rfl
theorem Calm.setObj (r : Nat) (o : Obj) : Calm (Go.setObj r o) := fun P w w' v h => by
  simp only [Go.setObj, Sem.run] at h
  split at h <;> cases h <;> rfl
theorem Calm.choose (q : Question) : Calm (Go.choose q) := fun P w w' v h => by
  simp only [Go.choose, Sem.run] at h
  split at h <;> cases h <;> rfl
theorem Calm.next (it : Value) (ty : TypeId) : Calm (Instr.next it false ty) := by
  unfold Instr.next
  repeat' (first | exact Calm.pure _ | exact Calm.stuck _ | exact Calm.unsupported _ | exact Calm.getObj _ | exact Calm.setObj _ _ | exact Calm.choose _ | (refine Calm.bind ?_ (fun _ => ?_)) | split)
end Go.Proofs.Ytfgpchffkpomoaa
