/- Texts of this proof, several in one file; each says ahead of it what it proves. -/
import Derived.Test.YtfgpchffkpomoaaPk01
import Derived.Laws.IdiomRangeMap
import Derived.Test.YtfgpchffkpomoaaPk03
import Derived.Laws.Cover3
/- What was told: a map of numbers to texts; one more put in, all taken out, and counted. -/
namespace Go.Proofs.Ytfgpchffkpomoaa
set_option linter.unusedSimpArgs false
set_option linter.unusedVariables false
open Go.RowKit Go.ChangeMaps Go.MapKept
open Go.Maps (Keyed)

theorem keyTold : Keyed Try.prog 3 := Go.Maps.int_keyed Try.underlying3
abbrev Td := Int × ByteArray
def tdKv (x : Td) : Value × Value := (.int .i64 x.1, .string x.2)
theorem told_key {k : Int} (h0 : 0 ≤ k) (h1 : k ≤ 255) : ∃ l, keyOf Try.prog 3 (.int .i64 k) = some l := by
  have hw : (Lit.int .i64 k).wf = true := by
    show (decide (IntKind.i64.min ≤ k) && decide (k ≤ IntKind.i64.max)) = true
    rw [show IntKind.i64.min = -9223372036854775808 by decide, show IntKind.i64.max = 9223372036854775807 by decide]
    simp; omega
  refine ⟨.int .i64 k, ?_⟩
  unfold keyOf
  rw [Try.underlying3]
  simp [mapKey, Try.underlying3, hw]

structure ToldS (w : World) (g : Nat) (l : List Td) : Prop where
  entries : ∃ es clock, w.heap[g]? = some (.map es clock) ∧ es.toList.map (fun e => (e.key, e.val)) = l.map tdKv ∧ Stamped es clock
  small : ∀ x ∈ l, 0 ≤ x.1 ∧ x.1 ≤ 255

section
variable {w w' : World} {g : Nat} {l : List Td} {E T : TypeId}
theorem ToldS.is (h : ToldS w g l) : MapIs 3 w g (l.map tdKv) := by
  obtain ⟨es, clock, hb, he, hst⟩ := h.entries
  refine ⟨⟨es, clock, hb, he⟩, fun p hp => ?_, ?_⟩
  · obtain ⟨x, hx, rfl⟩ := List.mem_map.1 hp
    exact told_key (h.small x hx).1 (h.small x hx).2
  · rw [← he, List.map_map]
    have := ((stamped_iff es clock).1 hst).2.2
    unfold List.Nodup
    rw [List.pairwise_map]
    exact this
theorem ToldS.lt (h : ToldS w g l) : g < w.heap.size := h.is.lt
theorem ToldS.ch {B : Nat} {S : Nat → Prop} (h : ToldS w g l) (hc : Ch B S w w') (hB : g < B) (hS : ¬ S g) : ToldS w' g l := by
  obtain ⟨es, clock, hb, he⟩ := h.entries
  exact ⟨⟨es, clock, (hc.block g hB hS).trans hb, he⟩, h.small⟩
theorem ToldS.alloc (h : ToldS w g l) (o : Obj) : ToldS (w.alloc o) g l :=
  h.ch (B := w.heap.size) (S := fun _ => False) ((Ch.refl _ _ _).alloc (Nat.le_refl _) o) h.lt (fun h => h)
theorem ToldS.drewN (h : ToldS w g l) (n : Nat) : ToldS (w.drewN n) g l := ⟨h.entries, h.small⟩
theorem ToldS.drew (h : ToldS w g l) : ToldS w.drew g l := ⟨h.entries, h.small⟩
theorem ToldS.new (w : World) : ToldS (w.alloc (.map #[] 0)) w.heap.size [] :=
  ⟨⟨#[], 0, (MapKept.heap_alloc w _).1, by simp, stamped_empty 0⟩, by simp⟩
theorem told_not {k : Int} (h : ∀ x ∈ l, x.1 ≠ k) : ∀ v, ((Value.int .i64 k), v) ∉ l.map tdKv := fun v hv => by
  obtain ⟨x, hx, he⟩ := List.mem_map.1 hv
  refine h x hx ?_
  unfold tdKv at he
  simpa using (Prod.mk.inj he).1
theorem ToldS.push (h : ToldS w g l) (ht : Try.prog.underlying T = some (.map 3 E)) {k : Int} {t : ByteArray} (h0 : 0 ≤ k) (h1 : k ≤ 255) (hn : ∀ x ∈ l, x.1 ≠ k) :
    ∃ w', (Instr.mapUpdate T (.map (some g)) (.int .i64 k) (.string t)).run Try.prog w = .ok () w' ∧ ToldS w' g (l ++ [(k, t)]) ∧ Ch w.heap.size (· = g) w w' ∧ w'.heap.size = w.heap.size := by
  obtain ⟨es, clock, hb, he, hst⟩ := h.entries
  obtain ⟨kl, hkey⟩ := told_key h0 h1
  have hno := told_not hn
  rcases keyTold.find w hkey es.toList (map_keys h.is.keys he) with ⟨h1', h2⟩ | ⟨j, e0, h1', h2, h3⟩
  · refine ⟨setBlock w g (.map (es.push ⟨.int .i64 k, .string t, clock⟩) (clock + 1)), ?_, ⟨⟨_, _, heap_setBlock_same hb _, ?_, stamped_push hst h2⟩, ?_⟩, ?_, ?_⟩
    · simp [Instr.mapUpdate, run_underlying ht, MapKept.run_getObj_map hb, keyTold.check w false hkey, h1', MapKept.run_setObj_map _ hb, Result.andThen, setBlock]
    · rw [Array.toList_push, List.map_append, he, List.map_append]
      rfl
    · intro x hx
      rcases List.mem_append.1 hx with hx | hx
      · exact h.small x hx
      · obtain rfl := List.mem_singleton.1 hx
        exact ⟨h0, h1⟩
    · exact ⟨rfl, rfl, rfl, by simp [setBlock], fun i _ hi => heap_setBlock_other hb _ hi⟩
    · simp [setBlock]
  · exfalso
    have hj : es[j]? = some e0 := by simpa using h2
    have k1 := map_entry he hj
    rw [h3] at k1
    exact hno _ (List.mem_of_getElem? k1)
theorem ToldS.clear (h : ToldS w g l) (ht : Try.prog.underlying T = some (.map 3 E)) :
    ∃ w', (∀ ty, (Builtin.clear_ #[T] ty #[.map (some g)]).run Try.prog w = .ok (.tuple #[]) w') ∧ ToldS w' g [] ∧ Ch w.heap.size (· = g) w w' ∧ w'.heap.size = w.heap.size := by
  obtain ⟨es, clock, hb, he, hst⟩ := h.entries
  refine ⟨setBlock w g (.map #[] clock), ?_, ⟨⟨_, _, heap_setBlock_same hb _, by simp, stamped_empty clock⟩, by simp⟩, ?_, ?_⟩
  · intro ty
    simp [Builtin.clear_, run_underlying ht, MapKept.run_getObj_map hb, MapKept.run_setObj_map _ hb, Result.andThen, setBlock]
  · exact ⟨rfl, rfl, rfl, by simp [setBlock], fun i _ hi => heap_setBlock_other hb _ hi⟩
  · simp [setBlock]
end

/-! Counting those that say alike, in whatever order. -/
def cntV (t : ByteArray) : Value → Int
  | .string s => if s = t then 1 else 0
  | _ => 0
def markE (t : ByteArray) (e : MapEntry) : MapEntry := { e with val := .int .i64 (cntV t e.val) }
def alike (t : ByteArray) (l : List Td) : Nat := (l.filter (fun x => decide (x.2 = t))).length
/-- Those of the entries seen that say t. -/
def cntS (t : ByteArray) (es : Array MapEntry) (seen : Array Nat) : Int := seenSum (es.toList.map (markE t)) seen
theorem cntS_none (t : ByteArray) (es : Array MapEntry) : cntS t es #[] = 0 := seenSum_none _
theorem mark_born (t : ByteArray) (l : List MapEntry) : (l.map (markE t)).map (·.born) = l.map (·.born) := by
  rw [List.map_map]; rfl
theorem cntS_push {t : ByteArray} {es : Array MapEntry} {seen : Array Nat} {e : MapEntry} (hn : (es.toList.map (·.born)).Nodup) (he : e ∈ (leftOf es seen).toList) : cntS t es (seen.push e.born) = cntS t es seen + cntV t e.val :=
  seenSum_push seen (markE t e) (mem_left he).2 _ (by rw [mark_born]; exact hn) (List.mem_map.2 ⟨e, (mem_left he).1, rfl⟩)
theorem cnt_sum (t : ByteArray) : ∀ (es : List MapEntry) (l : List Td), es.map (fun e => (e.key, e.val)) = l.map tdKv → ((es.map (markE t)).map fun e => valOf e.val).sum = (alike t l : Int)
  | [], [], _ => rfl
  | [], x :: l, h => by simp at h
  | e :: es, [], h => by simp at h
  | e :: es, x :: l, h => by
    simp only [List.map_cons, List.cons.injEq] at h
    have hv : e.val = .string x.2 := (Prod.mk.inj h.1).2
    have ih := cnt_sum t es l h.2
    simp only [List.map_cons, List.sum_cons, ih]
    have e1 : valOf (markE t e).val = if x.2 = t then 1 else 0 := by
      unfold markE
      rw [hv]
      rfl
    rw [e1]
    unfold alike
    rw [List.filter_cons]
    by_cases hx : x.2 = t
    · simp [hx]; omega
    · simp [hx]
theorem cntS_all {t : ByteArray} {es : Array MapEntry} {seen : Array Nat} {l : List Td} (h : (leftOf es seen).size = 0) (he : es.toList.map (fun e => (e.key, e.val)) = l.map tdKv) : cntS t es seen = (alike t l : Int) := by
  unfold cntS
  rw [seenSum_full seen _ (fun x hx => by
    obtain ⟨y, hy, rfl⟩ := List.mem_map.1 hx
    exact all_seen es seen h y hy), cnt_sum t _ _ he]
theorem seen_bounds (t : ByteArray) (seen : Array Nat) : ∀ (es : List MapEntry), 0 ≤ seenSum (es.map (markE t)) seen ∧ seenSum (es.map (markE t)) seen ≤ (es.length : Int)
  | [] => ⟨by simp [seenSum], by simp [seenSum]⟩
  | e :: es => by
    have ih := seen_bounds t seen es
    have hv : 0 ≤ valOf (markE t e).val ∧ valOf (markE t e).val ≤ 1 := by
      show 0 ≤ cntV t e.val ∧ cntV t e.val ≤ 1
      unfold cntV
      split
      · split <;> omega
      · omega
    simp only [List.map_cons, seenSum, List.length_cons]
    split <;> omega
theorem cntS_bounds (t : ByteArray) (es : Array MapEntry) (seen : Array Nat) : 0 ≤ cntS t es seen ∧ cntS t es seen ≤ (es.size : Int) := seen_bounds t seen es.toList
theorem entry_text {es : Array MapEntry} {l : List Td} (he : es.toList.map (fun e => (e.key, e.val)) = l.map tdKv) {e : MapEntry} (h : e ∈ es.toList) : ∃ x ∈ l, e.key = .int .i64 x.1 ∧ e.val = .string x.2 := by
  have : (e.key, e.val) ∈ l.map tdKv := by rw [← he]; exact List.mem_map.2 ⟨e, h, rfl⟩
  obtain ⟨x, hx, hxe⟩ := List.mem_map.1 this
  unfold tdKv at hxe
  exact ⟨x, hx, (Prod.mk.inj hxe).1.symm, (Prod.mk.inj hxe).2.symm⟩

/-! A step of a loop over a map leaves the tape as it is. -/
def Calm {α : Type} (m : Sem α) : Prop := ∀ (P : Program) (w w' : World) (v : α), m.run P w = .ok v w' → w'.tape = w.tape
theorem Calm.bind {α β : Type} {m : Sem α} {f : α → Sem β} (hm : Calm m) (hf : ∀ a, Calm (f a)) : Calm (m >>= f) := fun P w w' v h => by
  rw [Sem.run_bind] at h
  cases hr : m.run P w with
  | ok a w1 =>
    rw [hr] at h
    exact (hf a P w1 w' v h).trans (hm P w w1 a hr)
  | _ => rw [hr] at h; cases h
theorem Calm.pure {α : Type} (a : α) : Calm (Pure.pure a : Sem α) := fun P w w' v h => by
  cases h; rfl
theorem Calm.stuck {α : Type} (s : String) : Calm (Go.stuck s : Sem α) := fun P w w' v h => by
  cases h
theorem Calm.unsupported {α : Type} (s : Unsupported) : Calm (Go.unsupported s : Sem α) := fun P w w' v h => by
  cases h
theorem Calm.getObj (r : Nat) : Calm (Go.getObj r) := fun P w w' v h => by
  simp only [Go.getObj, Sem.run] at h
  split at h <;> cases h <;> rfl
theorem Calm.setObj (r : Nat) (o : Obj) : Calm (Go.setObj r o) := fun P w w' v h => by
  simp only [Go.setObj, Sem.run] at h
  split at h <;> cases h <;> rfl
theorem Calm.choose (q : Question) : Calm (Go.choose q) := fun P w w' v h => by
  simp only [Go.choose, Sem.run] at h
  split at h <;> cases h <;> rfl
theorem Calm.next (it : Value) (ty : TypeId) : Calm (Instr.next it false ty) := by
  unfold Instr.next
  repeat' (first | exact Calm.pure _ | exact Calm.stuck _ | exact Calm.unsupported _ | exact Calm.getObj _ | exact Calm.setObj _ _ | exact Calm.choose _ | (refine Calm.bind ?_ (fun _ => ?_)) | split)
end Go.Proofs.Ytfgpchffkpomoaa

/- append of a slice that may be nothing: as app_row, for a slice that Sl tells of. -/
namespace Go.Proofs.Ytfgpchffkpomoaa
set_option linter.unusedSimpArgs false
set_option linter.unusedVariables false
open Go.RowKit
section
variable {P : Program} {w : World}
theorem run_append_none (t ty e : TypeId) (i : TypeInfo) (ht : P.underlying t = some (.slice e)) (hi : P.info? e = some i)
    (A : Option Addr) (n cp c : Nat) (hroom : n ≤ cp) (hA : A = none → cp = 0) :
    (Builtin.append_ #[t, t] ty #[.slice A n cp, .slice none 0 c]).run P w = .ok (.slice A n cp) w := by
  cases A with
  | none =>
    obtain rfl := hA rfl
    obtain rfl : n = 0 := by omega
    simp [Builtin.append_, run_underlying ht, sizeOf, typeInfo, hi, Builtin.lenOf, run_firstCells_none]
  | some a =>
    simp [Builtin.append_, run_underlying ht, sizeOf, typeInfo, hi, Builtin.lenOf, hroom, run_firstCells_none, storeCells]
theorem run_append_rowO (base : Nat) (t ty e : TypeId) (i : TypeInfo) (z : Value) (size bytes : Nat) (ht : P.underlying t = some (.slice e)) (hi : P.info? e = some i) (hz : i.zero = some z)
    (hsize : i.size = size) (hby : i.bytes = bytes) (hzs : z.cells.size = size) (hsz : 0 < size)
    (A : Option Addr) (cp n : Nat) (xs : List Value) (hown : w.ownsRow base e size (.slice A n cp) n xs)
    (A1 : Option Addr) (m c : Nat) (news : List Value) (hl : news.length = m * size) (hnews : ∀ j u, news[j]? = some u → ∃ a, A1 = some a ∧ w.cell? (a.add j) = some u) (h1 : ∀ u ∈ news, u.oneCell' = true)
    (hbytes : (n + m) * bytes ≤ 140737488355328) (h63 : n + m ≤ 140737488355328) (hbase : base ≤ w.heap.size) :
    ∃ A' cp' w', (Builtin.append_ #[t, t] ty #[.slice A n cp, .slice A1 m c]).run P w = .ok (.slice A' (n + m) cp') w' ∧ w'.ownsRow base e size (.slice A' (n + m) cp') (n + m) (xs ++ news) ∧
      Ch w.heap.size (Row A) w w' ∧ (A' = A ∨ A' = some ⟨w.heap.size, 0, none⟩) := by
  cases A1 with
  | some a => exact run_append_row base t ty e i z size bytes ht hi hz hsize hby hzs hsz A cp n xs hown a m c news hl (fun j u hj => by obtain ⟨a', e, h⟩ := hnews j u hj; obtain rfl := Option.some.inj e; exact h) h1 hbytes h63 hbase
  | none =>
    have hn0 : news = [] := by
      cases news with
      | nil => rfl
      | cons x l => obtain ⟨a, ha, _⟩ := hnews 0 x rfl; cases ha
    subst hn0
    obtain rfl : m = 0 := by
      rcases Nat.eq_zero_or_pos m with h | h
      · exact h
      · have := Nat.mul_pos h hsz
        simp at hl
        omega
    refine ⟨A, cp, w, ?_, by simpa using hown, Ch.refl _ _ _, .inl rfl⟩
    rw [Nat.add_zero]
    refine run_append_none t ty e i ht hi A n cp c ?_ ?_
    · rcases hown.2 with ⟨hv, rfl⟩ | ⟨g, cap, cur, hv, _, _, h, _⟩
      · omega
      · obtain ⟨rfl, rfl⟩ : A = some ⟨g, 0, none⟩ ∧ cp = cap := by simpa using hv
        omega
    · rintro rfl
      rcases hown.2 with ⟨hv, rfl⟩ | ⟨g, cap, cur, hv, _⟩
      · simpa using hv
      · simp at hv
variable {ops : Array Oper} {rest : List Oper} {o : Oper} {a : Act} {Q : Exit → Act → World → Prop}
theorem wp_app_rowO {K : Act → World → Prop} (s x : Operand) (t : TypeId) (ho : o.op = .call { callee := .builtin .append, args := #[s, x], argTypes := #[t, t] })
    (base : Nat) (e : TypeId) (z : Value) (size bytes : Nat) (hinfo : (P.info? e).map (fun i => (i.zero, i.size, i.bytes)) = some (some z, size, bytes)) (ht : P.underlying t = some (.slice e)) (hzs : z.cells.size = size) (hsz : 0 < size)
    (A : Option Addr) (cp n : Nat) (xs : List Value) (hs : a.eval s = .slice A n cp) (hown : w.ownsRow base e size (.slice A n cp) n xs)
    (ad : Option Addr) (m c : Nat) (news : List Value) (hx : a.eval x = .slice ad m c) (hl : news.length = m * size) (hnews : ∀ j u, news[j]? = some u → ∃ a, ad = some a ∧ w.cell? (a.add j) = some u) (h1 : ∀ u ∈ news, u.oneCell' = true)
    (hbytes : (n + m) * bytes ≤ 140737488355328) (h63 : n + m ≤ 140737488355328) (hbase : base ≤ w.heap.size)
    (h : ∀ A' cp' w', w'.ownsRow base e size (.slice A' (n + m) cp') (n + m) (xs ++ news) → Ch w.heap.size (Row A) w w' → (A' = A ∨ A' = some ⟨w.heap.size, 0, none⟩) → K (a.put o.dst (.slice A' (n + m) cp')) w') : o.wp P a w K Q := by
  obtain ⟨i, hi, hz, hsize, hby⟩ := info_parts hinfo
  obtain ⟨A', cp', w', hr, h2, h3, h4⟩ := run_append_rowO (P := P) (w := w) base t o.type e i z size bytes ht hi hz hsize hby hzs hsz A cp n xs hown ad m c news hl hnews h1 hbytes h63 hbase
  unfold Oper.wp execOp
  simp only [ho, resolve, invoke, builtin, Sem.run_bind, Sem.run_pure, Result.andThen_ok, List.map_toArray, List.map_cons, List.map_nil, hs, hx, hr]
  exact h A' cp' w' h2 h3 h4
/-- THE OPERATION, for the walk. -/
theorem app_rowO (hgd : o.guard = none) (s x : Operand) (t : TypeId) (ho : o.op = .call { callee := .builtin .append, args := #[s, x], argTypes := #[t, t] })
    (base : Nat) (e : TypeId) (z : Value) (size bytes : Nat) (hinfo : (P.info? e).map (fun i => (i.zero, i.size, i.bytes)) = some (some z, size, bytes)) (ht : P.underlying t = some (.slice e)) (hzs : z.cells.size = size) (hsz : 0 < size)
    (A : Option Addr) (cp n : Nat) (xs : List Value) (hs : a.eval s = .slice A n cp) (hown : w.ownsRow base e size (.slice A n cp) n xs)
    (ad : Option Addr) (m c : Nat) (news : List Value) (hx : a.eval x = .slice ad m c) (hl : news.length = m * size) (hnews : ∀ j u, news[j]? = some u → ∃ a, ad = some a ∧ w.cell? (a.add j) = some u) (h1 : ∀ u ∈ news, u.oneCell' = true)
    (hbytes : (n + m) * bytes ≤ 140737488355328) (h63 : n + m ≤ 140737488355328) (hbase : base ≤ w.heap.size)
    (h : ∀ A' cp' w', w'.ownsRow base e size (.slice A' (n + m) cp') (n + m) (xs ++ news) → Ch w.heap.size (Row A) w w' → (A' = A ∨ A' = some ⟨w.heap.size, 0, none⟩) → wpList P ops Q rest (a.put o.dst (.slice A' (n + m) cp')) w') : wpList P ops Q (o :: rest) a w :=
  wpList_plain hgd fun _ hK => wp_app_rowO s x t ho base e z size bytes hinfo ht hzs hsz A cp n xs hs hown ad m c news hx hl hnews h1 hbytes h63 hbase fun A' cp' w' h2 h3 h4 => hK _ _ (h A' cp' w' h2 h3 h4)
theorem step_app_rowO {K : Act → World → Prop} {E : Prop} (hgd : o.guard = none) (s x : Operand) (t : TypeId) (ho : o.op = .call { callee := .builtin .append, args := #[s, x], argTypes := #[t, t] })
    (base : Nat) (e : TypeId) (z : Value) (size bytes : Nat) (hinfo : (P.info? e).map (fun i => (i.zero, i.size, i.bytes)) = some (some z, size, bytes)) (ht : P.underlying t = some (.slice e)) (hzs : z.cells.size = size) (hsz : 0 < size)
    (A : Option Addr) (cp n : Nat) (xs : List Value) (hs : a.eval s = .slice A n cp) (hown : w.ownsRow base e size (.slice A n cp) n xs)
    (ad : Option Addr) (m c : Nat) (news : List Value) (hx : a.eval x = .slice ad m c) (hl : news.length = m * size) (hnews : ∀ j u, news[j]? = some u → ∃ a, ad = some a ∧ w.cell? (a.add j) = some u) (h1 : ∀ u ∈ news, u.oneCell' = true)
    (hbytes : (n + m) * bytes ≤ 140737488355328) (h63 : n + m ≤ 140737488355328) (hbase : base ≤ w.heap.size)
    (h : ∀ A' cp' w', w'.ownsRow base e size (.slice A' (n + m) cp') (n + m) (xs ++ news) → Ch w.heap.size (Row A) w w' → (A' = A ∨ A' = some ⟨w.heap.size, 0, none⟩) → K (a.put o.dst (.slice A' (n + m) cp')) w') :
    if Region.wanted o (yielded ops a.tmps) = true then Oper.wp P o a w K Q else E := by
  have hw : Region.wanted o (yielded ops a.tmps) = true := by simp [Region.wanted, hgd]
  rw [if_pos hw]
  exact wp_app_rowO s x t ho base e z size bytes hinfo ht hzs hsz A cp n xs hs hown ad m c news hx hl hnews h1 hbytes h63 hbase h
end
end Go.Proofs.Ytfgpchffkpomoaa

/- A client in memory; whether it was made, whether it waits, what it was answered, and what it sends to all: the walks. -/
namespace Go.Proofs.Ytfgpchffkpomoaa
set_option linter.unusedSimpArgs false
set_option linter.unusedVariables false
open Go.RowKit

theorem wrap_near (n : Int) (h0 : -9223372036854775808 ≤ n) (h1 : n ≤ 9223372036854775807) : IntKind.i64.wrap n = n := by
  simp only [IntKind.wrap, IntKind.bits, IntKind.signed]
  simp
  omega
/-- What came of a request. -/
structure An where
  stamp : Int
  text : ByteArray
  deriving DecidableEq
def An.cells (x : An) : List Value := [.int .i64 x.stamp, .string x.text]
theorem An.cells_len (x : An) : x.cells.length = 2 := rfl
theorem an_one (x : An) : ∀ u ∈ x.cells, u.oneCell' = true := fun u hu => by
  simp only [An.cells, List.mem_cons, List.not_mem_nil, or_false] at hu
  rcases hu with rfl | rfl <;> rfl
theorem an_ones (l : List An) : ∀ u ∈ l.flatMap An.cells, u.oneCell' = true := fun u hu => by
  obtain ⟨x, _, hx⟩ := List.mem_flatMap.1 hu
  exact an_one x u hx
/-- What is sent. -/
structure Sn where
  to : Int
  text : ByteArray
def Sn.cells (x : Sn) : List Value := [.int .i64 x.to, .string x.text]
theorem Sn.cells_len (x : Sn) : x.cells.length = 2 := rfl
theorem sn_one (x : Sn) : ∀ u ∈ x.cells, u.oneCell' = true := fun u hu => by
  simp only [Sn.cells, List.mem_cons, List.not_mem_nil, or_false] at hu
  rcases hu with rfl | rfl <;> rfl
/-- A client: its consortium, its own number, and what stands with it. -/
structure Cl where
  F : Int
  C : Int
  G : Int
  P : Int
  id : Int
  stamp : Int
  asked : ByteArray
  waits : Bool
  ticks : Int
  told : List Td
  ans : List An
def Cl.cells (y : Cl) (b g : Nat) (AA : Option Addr) (ac : Nat) : Array Value := #[.int .i64 y.F, .int .i64 y.C, .int .i64 y.G, .int .i64 y.P, .int .i64 y.id, .pointer (some ⟨b, 0, none⟩), .int .i64 y.stamp, .string y.asked, .bool y.waits, .int .i64 y.ticks, .map (some g), .slice AA y.ans.length ac]
/-- A client in block x, its map in block g, its answers in a row of their own from block K on; its book. -/
structure CS (w : World) (x g K b t m n : Nat) (T : List ByteArray) (S : List Wd) (y : Cl) (AA : Option Addr) (ac : Nat) : Prop where
  bk : Bk w b t m n T S
  box : Box w x (y.cells b g AA ac) 209
  told : ToldS w g y.told
  ans : w.ownsRow K 118 2 (.slice AA y.ans.length ac) y.ans.length (y.ans.flatMap An.cells)
  lt : x < K ∧ g < K ∧ b < K ∧ t < K ∧ m < K ∧ n < K ∧ K ≤ w.heap.size
  ne : x ≠ g ∧ (x ≠ b ∧ x ≠ t ∧ x ≠ m ∧ x ≠ n) ∧ (g ≠ b ∧ g ≠ t ∧ g ≠ m ∧ g ≠ n)
section
variable {w w' : World} {x g K b t m n : Nat} {T : List ByteArray} {S : List Wd} {y : Cl} {AA : Option Addr} {ac : Nat}
theorem CS.xl (h : CS w x g K b t m n T S y AA ac) : x < w.heap.size := Box.lt h.box
theorem CS.row (h : CS w x g K b t m n T S y AA ac) {k : Nat} (hk : Row AA k) : K ≤ k ∧ k < w.heap.size := own_row h.ans hk
theorem CS.ch {B : Nat} {X : Nat → Prop} (h : CS w x g K b t m n T S y AA ac) (hc : Ch B X w w') (hB : w.heap.size ≤ B) (hX : ¬ X x ∧ ¬ X g ∧ ¬ X b ∧ ¬ X t ∧ ¬ X m ∧ ¬ X n) (hA : ∀ k, Row AA k → ¬ X k) (hz : w.heap.size ≤ w'.heap.size) : CS w' x g K b t m n T S y AA ac :=
  ⟨h.bk.ch hc hB ⟨hX.2.2.1, hX.2.2.2.1, hX.2.2.2.2.1, hX.2.2.2.2.2⟩, h.box.ch hc (by have := h.xl; omega) hX.1, h.told.ch hc (by have := h.told.lt; omega) hX.2.1, own_ch h.ans hc (fun k hk => ⟨by have := (h.row hk).2; omega, hA k hk⟩), by have := h.lt; omega, h.ne⟩
theorem CS.below (h : CS w x g K b t m n T S y AA ac) (hc : Below w.heap.size w w') : CS w' x g K b t m n T S y AA ac :=
  h.ch (Ch.of_below (S := fun _ => False) hc) (Nat.le_refl _) ⟨fun e => e, fun e => e, fun e => e, fun e => e, fun e => e, fun e => e⟩ (fun _ _ e => e) hc.size
theorem CS.drewN (h : CS w x g K b t m n T S y AA ac) (k : Nat) : CS (w.drewN k) x g K b t m n T S y AA ac :=
  ⟨h.bk.drewN k, h.box, h.told.drewN k, h.ans, h.lt, h.ne⟩
theorem CS.c0 (h : CS w x g K b t m n T S y AA ac) : w.cell? ⟨x, 0, none⟩ = some (.int .i64 y.F) := h.box.cell 0
theorem CS.c4 (h : CS w x g K b t m n T S y AA ac) : w.cell? ⟨x, 4, none⟩ = some (.int .i64 y.id) := h.box.cell 4
theorem CS.c5 (h : CS w x g K b t m n T S y AA ac) : w.cell? ⟨x, 5, none⟩ = some (.pointer (some ⟨b, 0, none⟩)) := h.box.cell 5
theorem CS.c6 (h : CS w x g K b t m n T S y AA ac) : w.cell? ⟨x, 6, none⟩ = some (.int .i64 y.stamp) := h.box.cell 6
theorem CS.c7 (h : CS w x g K b t m n T S y AA ac) : w.cell? ⟨x, 7, none⟩ = some (.string y.asked) := h.box.cell 7
theorem CS.c8 (h : CS w x g K b t m n T S y AA ac) : w.cell? ⟨x, 8, none⟩ = some (.bool y.waits) := h.box.cell 8
theorem CS.c9 (h : CS w x g K b t m n T S y AA ac) : w.cell? ⟨x, 9, none⟩ = some (.int .i64 y.ticks) := h.box.cell 9
theorem CS.c10 (h : CS w x g K b t m n T S y AA ac) : w.cell? ⟨x, 10, none⟩ = some (.map (some g)) := h.box.cell 10
theorem CS.c11 (h : CS w x g K b t m n T S y AA ac) : w.cell? ⟨x, 11, none⟩ = some (.slice AA y.ans.length ac) := h.box.cell 11
theorem CS.free (h : CS w x g K b t m n T S y AA ac) (i : Nat) : w.frozen? ⟨x, i, none⟩ = false := h.box.free i
end

set_option maxRecDepth 100000 in
theorem cmade_calls (x g K b t m n : Nat) (T : List ByteArray) (S : List Wd) (y : Cl) (AA : Option Addr) (ac : Nat) (w : World) (h : CS w x g K b t m n T S y AA ac) :
    Calls Try.prog 131 #[.pointer (some ⟨x, 0, none⟩)] w (fun e w' => e = .returned (.bool true) ∧ w' = w) := by
  have k10 := h.c10
  have hne := run_neq_map_nil (P := Try.prog) (w := w) 207 _ _ (some g) Try.underlying207
  clear h
  go_enter Try.func131, Try.ntmps131
  go_wp2
  go_ret
  exact ⟨rfl, rfl⟩
set_option maxRecDepth 100000 in
theorem cwaits_calls (x g K b t m n : Nat) (T : List ByteArray) (S : List Wd) (y : Cl) (AA : Option Addr) (ac : Nat) (w : World) (h : CS w x g K b t m n T S y AA ac) :
    Calls Try.prog 73 #[.pointer (some ⟨x, 0, none⟩)] w (fun e w' => e = .returned (.bool y.waits) ∧ w' = w) := by
  have k8 := h.c8
  have HM := Lib.hid (cmade_calls x g K b t m n T S y AA ac w h)
  clear h
  go_enter Try.func73, Try.ntmps73
  go_wp2_with fail
  refine HM.out.mono ?_
  rintro e wx ⟨rfl, hwx⟩
  obtain rfl := hwx.symm
  go_wp2
  go_ret
  exact ⟨rfl, rfl⟩

def AnsPost (w : World) (l : List An) (e : Ending) (w' : World) : Prop := ∃ A c, e = .returned (.slice A l.length c) ∧ Below w.heap.size w w' ∧ w'.ownsRow w.heap.size 118 2 (.slice A l.length c) l.length (l.flatMap An.cells)
theorem info_an : (Try.prog.info? 118).map (fun i => (i.zero, i.size, i.bytes)) = some (some (.agg #[.int .i64 0, .string ⟨#[]⟩]), 2, 24) := by kernel_rfl
theorem info_sn : (Try.prog.info? 211).map (fun i => (i.zero, i.size, i.bytes)) = some (some (.agg #[.int .i64 0, .string ⟨#[]⟩]), 2, 24) := by kernel_rfl
set_option maxHeartbeats 2000000 in
set_option maxRecDepth 100000 in
theorem answers_calls (x g K b t m n : Nat) (T : List ByteArray) (S : List Wd) (y : Cl) (AA : Option Addr) (ac : Nat) (w : World) (h : CS w x g K b t m n T S y AA ac) (hl : y.ans.length ≤ 100000) :
    Calls Try.prog 72 #[.pointer (some ⟨x, 0, none⟩)] w (AnsPost w y.ans) := by
  have HM := Lib.hid (cmade_calls x g K b t m n T S y AA ac w h)
  have hz := h.xl
  have hb1 := (Below.refl w.heap.size w).alloc (Nat.le_refl _) (.cells #[] 118)
  have HB1 := Lib.hid hb1
  have h1 := h.below hb1
  have HS := Lib.hid (Sl.of_own h1.ans)
  have HO := Lib.hid (World.ownsRow_lit (base := w.heap.size) (e := 118) (size := 2) w #[] 0 (Nat.le_refl _) (by decide) (by rfl))
  have k11 := h.c11
  have r11 := h1.c11
  clear h h1 hb1
  go_enter Try.func72, Try.ntmps72
  go_wp2_with fail
  refine HM.out.mono ?_
  rintro e wx ⟨rfl, hwx⟩
  obtain rfl := hwx.symm
  go_wp2_with (at_builtin; refine app_rowO rfl (.tmp 6) (.tmp 10) 115 rfl w.heap.size 118 _ 2 24 info_an Try.underlying115 rfl (by decide) (some ⟨w.heap.size, 0, none⟩) 0 0 [] rfl HO.out AA y.ans.length ac (y.ans.flatMap An.cells) rfl HS.out.len HS.out.at_ (an_ones y.ans) ?hb1 ?hb2 ?hb3 ?_; (case hb1 => omega); (case hb2 => omega); (case hb3 => simp); intro A2 c2 w6 ho hc hA; have HO6 := Lib.hid ho; have HC6 := Lib.hid hc; clear ho hc hA)
  go_ret
  have ho := HO6.out
  simp only [List.nil_append, Nat.zero_add] at ho
  have hb : Below w.heap.size w w6 := below_app0 HB1.out (by simp) HC6.out (fun k hk => by simp [Row] at hk; omega)
  exact ⟨A2, c2, by simp, hb, ho⟩

/-- The same bytes to each of so many. -/
def toAll (k : Nat) (s : ByteArray) : List Sn := (List.range k).map (fun (i : Nat) => ⟨(i : Int), s⟩)
theorem toAll_len (k : Nat) (s : ByteArray) : (toAll k s).length = k := by simp [toAll]
theorem toAll_snoc (k : Nat) (s : ByteArray) : toAll (k + 1) s = toAll k s ++ [⟨(k : Int), s⟩] := by
  unfold toAll; rw [List.range_succ, List.map_append]; rfl
def SentPost (w : World) (l : List Sn) (e : Ending) (w' : World) : Prop := ∃ A c, e = .returned (.slice A l.length c) ∧ Below w.heap.size w w' ∧ w'.ownsRow w.heap.size 211 2 (.slice A l.length c) l.length (l.flatMap Sn.cells)
/-- A list of what is sent, of one's own. -/
def SSt (w0 wr : World) (A : Option Addr) (c : Nat) (L : List Sn) : Prop := Below w0.heap.size w0 wr ∧ wr.ownsRow w0.heap.size 211 2 (.slice A L.length c) L.length (L.flatMap Sn.cells)
theorem SSt.app {w0 wr w6 : World} {A A2 : Option Addr} {c c2 : Nat} {L : List Sn} {o : Obj} {x : Sn} (h : SSt w0 wr A c L) (ho : w6.ownsRow w0.heap.size 211 2 (.slice A2 (L.length + 1) c2) (L.length + 1) (L.flatMap Sn.cells ++ x.cells)) (hc : Ch (wr.alloc o).heap.size (Row A) (wr.alloc o) w6) : SSt w0 w6 A2 c2 (L ++ [x]) := by
  refine ⟨below_app h.1 h.1.size hc (fun k hk => (own_row h.2 hk).1), ?_⟩
  rw [List.length_append, List.flatMap_append]
  simpa using ho
theorem SSt.nil (w : World) : SSt w w none 0 [] := ⟨Below.refl _ _, ⟨rfl, .inl ⟨rfl, rfl⟩⟩⟩
set_option maxHeartbeats 2000000 in
set_option maxRecDepth 100000 in
theorem all_calls (x g K b t m n : Nat) (T : List ByteArray) (S : List Wd) (y : Cl) (AA : Option Addr) (ac : Nat) (s : ByteArray) (f : Nat) (w : World) (h : CS w x g K b t m n T S y AA ac) (hf : y.F = (f : Int)) (hf4 : f ≤ 4) :
    Calls Try.prog 133 #[.pointer (some ⟨x, 0, none⟩), .string s] w (SentPost w (toAll (3 * f + 1) s)) := by
  have k0 := h.c0
  rw [hf] at k0
  have hw1 : IntKind.i64.wrap (3 * (f : Int)) = 3 * (f : Int) := wrap_near _ (by omega) (by omega)
  have hw2 : IntKind.i64.wrap (3 * (f : Int) + 1) = 3 * (f : Int) + 1 := wrap_near _ (by omega) (by omega)
  clear h
  go_enter Try.func133, Try.ntmps133
  go_wp2_with fail
  go_loopg [5, 14] (3 * f + 1) (fun g v5 v6 wr => ∃ (k : Nat) (A1 : Option Addr) (c1 : Nat), v5 = .slice A1 (toAll k s).length c1 ∧ v6 = .int .i64 k ∧ k ≤ 3 * f + 1 ∧ Hid (g + k = 3 * f + 1 ∧ SSt w wr A1 c1 (toAll k s)))
  case atStart => exact ⟨0, none, 0, rfl, rfl, by omega, by omega, SSt.nil w⟩
  case round =>
    obtain ⟨k, A1, c1, rfl, rfl, hk, HH⟩ := hrel
    obtain ⟨hg, hst⟩ := HH.out
    have HG := Lib.hid hg
    have hlen := toAll_len k s
    obtain ⟨L, hL⟩ : ∃ L, L = toAll k s := ⟨_, rfl⟩
    rw [← hL] at hst hlen ⊢
    have HST := Lib.hid hst
    have HL := Lib.hid hL
    clear HH hg hst hL
    by_cases hlt : k < 3 * f + 1
    · have hd2 : decide ((k : Int) < 3 * (f : Int) + 1) = true := by simp; omega
      go_wp2_with (at_builtin; refine app_row rfl (.tmp 17) (.tmp 21) 109 rfl w.heap.size 211 _ 2 24 info_sn Try.underlying109 rfl (by decide) A1 c1 L.length (L.flatMap Sn.cells) rfl (HST.out.2.alloc _) _ 1 1 (Sn.cells (⟨(k : Int), s⟩ : Sn)) rfl rfl (news_box (Box.new _ #[.int .i64 (⟨(k : Int), s⟩ : Sn).to, .string (⟨(k : Int), s⟩ : Sn).text] 211)) (sn_one (⟨(k : Int), s⟩ : Sn)) ?hb1 ?hb2 ?hb3 ?_; (case hb1 => (try simp only [List.length_append, List.length_cons, List.length_nil]); omega); (case hb2 => (try simp only [List.length_append, List.length_cons, List.length_nil]); omega); (case hb3 => have := HST.out.1.size; simp; omega); intro A2 c2 w6 ho hc hA; have HST2 := Lib.hid (SSt.app HST.out ho hc); clear ho hc hA)
      go_roundg (gk - 1)
      case measure => have := HG.out; omega
      case rel => exact ⟨k + 1, A2, c2, by rw [toAll_snoc, ← HL.out]; simp [hlen], by go_num, by omega, by have := HG.out; omega, by rw [toAll_snoc, ← HL.out]; exact HST2.out⟩
    · have hd2 : decide ((k : Int) < 3 * (f : Int) + 1) = false := by simp; omega
      obtain rfl : k = 3 * f + 1 := by omega
      go_wp2
      go_ret
      rw [HL.out]
      rw [HL.out] at HST
      exact ⟨A1, c1, rfl, HST.out⟩
end Go.Proofs.Ytfgpchffkpomoaa
