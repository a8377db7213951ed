/- The document's book: what stands in memory, and the walks through Eight, Digest, At, Sign, Check. -/
import Derived.Test.YtfgpchffkpomoaaApart3
namespace Go.Proofs.Ytfgpchffkpomoaa
set_option linter.unusedSimpArgs false
set_option linter.unusedVariables false
open Go.RowKit

def wordCells (x : Wd) : List Value := [.int .i64 x.1, .string x.2]
theorem wordCells_len (x : Wd) : (wordCells x).length = 2 := rfl
theorem info_word : (Try.prog.info? 245).map (fun i => (i.zero, i.size, i.bytes)) = some (some (.agg #[.int .i64 0, .string ⟨#[]⟩]), 2, 24) := by kernel_rfl
theorem word_one (s : Wd) : ∀ u ∈ wordCells s, u.oneCell' = true := by
  intro u hu
  simp [wordCells] at hu
  rcases hu with rfl | rfl <;> rfl
/-- The document's book in block b: its two lists, in blocks of their own from base on. -/
structure RBk (w : World) (b base : Nat) (T : List ByteArray) (S : List Wd) : Prop where
  lt : b < base
  le : base ≤ w.heap.size
  rows : ∃ A c B d, Box w b #[.slice A T.length c, .slice B S.length d] 90 ∧
    w.ownsRow base 9 1 (.slice A T.length c) T.length (T.flatMap textCells) ∧ w.ownsRow base 245 2 (.slice B S.length d) S.length (S.flatMap wordCells) ∧ (∀ k, Row A k → ¬ Row B k)
theorem RBk.grow {w w1 : World} {b base B : Nat} {X : Nat → Prop} {T : List ByteArray} {S : List Wd} (h : RBk w b base T S) (hc : Ch B X w w1) (hB : w.heap.size ≤ B) (hX : ¬ X b ∧ ∀ k, base ≤ k → ¬ X k) : RBk w1 b base T S := by
  obtain ⟨A, c, C, d, h1, h2, h3, h4⟩ := h.rows
  have hl := h1.lt
  exact ⟨h.lt, Nat.le_trans h.le hc.size, A, c, C, d, h1.ch hc (by omega) hX.1, own_ch h2 hc (fun k hk => ⟨by have := (own_row h2 hk).2; omega, hX.2 k (own_row h2 hk).1⟩), own_ch h3 hc (fun k hk => ⟨by have := (own_row h3 hk).2; omega, hX.2 k (own_row h3 hk).1⟩), h4⟩
theorem RBk.below {w w' : World} {b base : Nat} {T : List ByteArray} {S : List Wd} (h : RBk w b base T S) (hb : Below w.heap.size w w') : RBk w' b base T S :=
  h.grow (X := fun _ => False) (Ch.of_below hb) (Nat.le_refl _) ⟨fun h => h, fun _ _ h => h⟩
theorem RBk.ch {w w' : World} {b base x : Nat} {T : List ByteArray} {S : List Wd} (h : RBk w b base T S) (hc : Ch w.heap.size (· = x) w w') (hx : x < b) : RBk w' b base T S :=
  h.grow hc (Nat.le_refl _) ⟨by omega, fun k hk => by have := h.lt; omega⟩
theorem own_at {w : World} {base n b i : Nat} {e : TypeId} {size : Nat} {A : Option Addr} {c : Nat} {xs : List Value} (h : w.ownsRow base e size (.slice A n c) n xs) (hb : b < base) (v : Value) : (w.setCell ⟨b, i, none⟩ v).ownsRow base e size (.slice A n c) n xs :=
  own_ch h (B := w.heap.size) (S := (· = b)) (Ch.setCell (p := ⟨b, i, none⟩) (Ch.refl w.heap.size (· = b) w) (.inr rfl) v) fun k hk => ⟨(own_row h hk).2, by have := (own_row h hk).1; omega⟩
theorem RBk.setT {w : World} {b base c d : Nat} {A C : Option Addr} {v : Value} {T : List ByteArray} {S : List Wd} {s : ByteArray} (hl : b < base) (he : base ≤ w.heap.size) (hx : Box w b #[v, .slice C S.length d] 90)
    (h1 : w.ownsRow base 9 1 (.slice A (T.length + 1) c) (T.length + 1) (T.flatMap textCells ++ textCells s)) (h2 : w.ownsRow base 245 2 (.slice C S.length d) S.length (S.flatMap wordCells)) (h3 : ∀ k, Row A k → ¬ Row C k) :
    RBk (w.setCell ⟨b, 0, none⟩ (.slice A (T.length + 1) c)) b base (T ++ [s]) S := by
  refine ⟨hl, by simpa using he, A, c, C, d, ?_, ?_, own_at h2 hl _, h3⟩
  · have h := hx.set 0 (.slice A (T.length + 1) c)
    simpa using h
  · have h := own_at (i := 0) h1 hl (.slice A (T.length + 1) c)
    simpa using h
theorem RBk.setS {w : World} {b base c d : Nat} {A C : Option Addr} {v : Value} {T : List ByteArray} {S : List Wd} {s : Wd} (hl : b < base) (he : base ≤ w.heap.size) (hx : Box w b #[.slice A T.length c, v] 90)
    (h1 : w.ownsRow base 9 1 (.slice A T.length c) T.length (T.flatMap textCells)) (h2 : w.ownsRow base 245 2 (.slice C (S.length + 1) d) (S.length + 1) (S.flatMap wordCells ++ wordCells s)) (h3 : ∀ k, Row A k → ¬ Row C k) :
    RBk (w.setCell ⟨b, 1, none⟩ (.slice C (S.length + 1) d)) b base T (S ++ [s]) := by
  refine ⟨hl, by simpa using he, A, c, C, d, ?_, own_at h1 hl _, ?_, h3⟩
  · have h := hx.set 1 (.slice C (S.length + 1) d)
    simpa using h
  · have h := own_at (i := 1) h2 hl (.slice C (S.length + 1) d)
    simpa using h

/-- k bytes of a number, the lowest first. -/
def le : Nat → Nat → List UInt8
  | 0, _ => []
  | k + 1, n => le k n ++ [UInt8.ofNat (n / 256 ^ k % 256)]
theorem le_length : ∀ k n, (le k n).length = k
  | 0, _ => rfl
  | k + 1, n => by simp [le, le_length k]
theorem be_le (n : Nat) : be 8 n = (le 8 n).reverse := by
  rw [be8]; simp [le]

set_option maxHeartbeats 1000000 in
set_option maxRecDepth 100000 in
theorem rEight_calls (n : Nat) (w : World) (hn : n ≤ 1152921504606846976) : Calls Try.prog 124 #[.int .i64 n] w fun e w' => e = .returned (.string (eight n)) ∧ Below w.heap.size w w' := by
  have HB := Lib.hid (Below.refl w.heap.size w)
  go_enter Try.func124, Try.ntmps124
  go_wp2_with fail
  go_loopg [0, 3, 4] 8 (fun g v0 v3 v4 wr => ∃ (k m : Nat) (A : Option Addr) (c : Nat) (p : List UInt8), v0 = .int .i64 m ∧ v3 = .slice A p.length c ∧ v4 = .int .i64 k ∧ k ≤ 8 ∧ m ≤ 1152921504606846976 ∧ p.length ≤ 8 ∧ Hid (g + k = 8 ∧ m = n / 256 ^ k ∧ Below w.heap.size w wr ∧ OwnB wr w.heap.size A c p ∧ p = le k n))
  case atStart => exact ⟨0, n, none, 0, [], rfl, rfl, rfl, by omega, hn, by simp, rfl, by simp, HB.out, ⟨rfl, .inl ⟨rfl, rfl⟩⟩, rfl⟩
  case round =>
    clear HB
    obtain ⟨k, m, A, c, p, rfl, rfl, rfl, hk, hm, hp, HH⟩ := hrel
    obtain ⟨hg, hmm, hb, ho, hpe⟩ := HH.out
    have HG := Lib.hid hg
    have HB := Lib.hid hb
    have HO := Lib.hid ho
    have HPE := Lib.hid hpe
    have HM := Lib.hid hmm
    clear HH hg hb ho hpe hmm
    by_cases hlt : k < 8
    · have hd : decide ((k : Int) < 8) = true := by simp; omega
      obtain ⟨u, hu⟩ : ∃ u : Nat, u = m % 256 := ⟨_, rfl⟩
      have hu2 : (m : Int) % 256 = (u : Int) := by omega
      have hu3 : u < 256 := by omega
      obtain ⟨m2, hm2⟩ : ∃ u : Nat, u = m / 256 := ⟨_, rfl⟩
      have hm3 : (m : Int) / 256 = (m2 : Int) := by omega
      have hm4 : m2 ≤ 1152921504606846976 := by omega
      have HM2 := Lib.hid (show m2 = n / 256 ^ (k + 1) by rw [hm2, HM.out, Nat.div_div_eq_div_mul, ← Nat.pow_succ])
      have HP2 := Lib.hid (show p ++ [UInt8.ofNat u] = le (k + 1) n by rw [le, ← HPE.out, hu, HM.out])
      have hrow : ∀ k, Row A k → w.heap.size ≤ k ∧ k < wr.heap.size := fun k hk => own_row HO.out hk
      clear hu hm2
      go_wp2_with (first | (at_builtin; refine app_u8 rfl (.tmp 11) (.tmp 15) rfl w.heap.size A c p rfl (HO.out.alloc _) wr.heap.size _ (UInt8.ofNat u) rfl (World.cell?_alloc_new _ _ _ _) ?hu ?hl ?hb ?_; (case hu => exact byteVal_of (by omega) (by omega)); (case hl => omega); (case hb => have := HB.out.size; simp; omega); intro A' c' w1 ho1 hb1 hA1; have HO1 := Lib.hid ho1; have HB1 := Lib.hid (below_app HB.out HB.out.size hb1 (fun k hk => (hrow k hk).1)); clear ho1 hb1 hA1))
      go_roundg (8 - (k + 1))
      case measure => have := HG.out; omega
      case rel => exact ⟨k + 1, m2, A', c', p ++ [UInt8.ofNat u], rfl, by simp, by go_num, by omega, hm4, by simp; have := HP2.out; have hh := congrArg List.length this; rw [le_length] at hh; simp at hh; omega, by omega, HM2.out, HB1.out, HO1.out, HP2.out⟩
    · have hd : decide ((k : Int) < 8) = false := by simp; omega
      have HK8 := Lib.hid (show k = 8 by omega)
      have HPE := Lib.hid (show p = le 8 n by rw [HPE.out, HK8.out])
      have h8 : 8 ≤ p.length := by rw [HPE.out, le_length]; omega
      have HS := Lib.hid (show ∀ (w' : World), OwnB w' w.heap.size A c p → ∀ z (hz : z < p.length), ∃ a, A = some a ∧ w'.cell? (a.add z) = some (byteVal p[z]) from fun w' ho z hz => by
        have h := (Sl.of_own (show w'.ownsRow w.heap.size 5 1 (.slice A p.length c) p.length (p.map byteVal) from ho)).at_ z (byteVal p[z]) (by simp [hz])
        exact h)
      obtain ⟨wo, hwo⟩ : ∃ wo : World, wo = wr := ⟨_, rfl⟩
      rw [← hwo] at HB HO ⊢
      clear hwo
      have HLE := Lib.hid HB.out.size
      have HRA := Lib.hid (show ∀ k, Row A k → w.heap.size ≤ k ∧ k < wo.heap.size from fun k hk => own_row HO.out hk)
      go_wp2_with fail
      go_loopg [5, 6] 8 (fun g v5 v6 wr => ∃ (y : Nat) (B : Option Addr) (d : Nat) (q : List UInt8), v5 = .slice B q.length d ∧ v6 = .int .i64 ((y : Int) - 1) ∧ y ≤ 8 ∧ q.length ≤ 8 ∧ Hid (g = y ∧ Below w.heap.size w wr ∧ OwnB wr w.heap.size A c p ∧ OwnB wr wo.heap.size B d q ∧ q = (le 8 n).reverse.take (8 - y) ∧ wo.heap.size ≤ wr.heap.size))
      case atStart => exact ⟨8, none, 0, [], rfl, rfl, by omega, by simp, rfl, HB.out, HO.out, ⟨rfl, .inl ⟨rfl, rfl⟩⟩, by simp, Nat.le_refl _⟩
      case round =>
        clear HB HO HG HM
        obtain ⟨y, B, d, q, rfl, rfl, hy, hq, HH⟩ := hrel
        obtain ⟨hg, hb, ho, ho2, hqe, hsz⟩ := HH.out
        have HG := Lib.hid hg
        have HB := Lib.hid hb
        have HO := Lib.hid ho
        have HO2 := Lib.hid ho2
        have HQ := Lib.hid hqe
        clear HH hg hb ho ho2 hqe
        cases y with
        | zero =>
          have hd2 : decide ((0 : Int) ≤ -1) = false := by decide
          have HFIN := Lib.hid (show q = be 8 n by rw [HQ.out, be_le]; exact List.take_of_length_le (by simp [le_length]))
          have hst := own_to_string HO2.out
          go_wp2
          go_ret
          exact ⟨by rw [HFIN.out]; rfl, HB.out⟩
        | succ z =>
          have hz0 : ((z + 1 : Nat) : Int) - 1 = (z : Int) := by omega
          rw [hz0]
          have hzp : z < p.length := by omega
          obtain ⟨a, rfl, e0⟩ := HS.out _ HO.out z hzp
          have HQ2 := Lib.hid (show q ++ [p[z]] = (le 8 n).reverse.take (8 - z) by
            have hl : 8 - (z + 1) < (le 8 n).reverse.length := by simp [le_length]; omega
            rw [HQ.out, show 8 - z = 8 - (z + 1) + 1 by omega, List.take_succ_eq_append_getElem hl]
            congr 2
            rw [List.getElem_reverse]
            simp only [HPE.out]
            congr 1
            rw [le_length]; omega)
          obtain ⟨x, hx⟩ : ∃ x, x = p[z] := ⟨_, rfl⟩
          rw [← hx] at e0 HQ2
          clear hx hz0
          have hrow : ∀ k, Row B k → wo.heap.size ≤ k ∧ k < wr.heap.size := fun k hk => own_row HO2.out hk
          unfold byteVal at e0
          go_wp2_with (first | (at_builtin; refine app_u8 rfl (.tmp 23) (.tmp 28) rfl wo.heap.size B d q rfl (HO2.out.alloc _) wr.heap.size _ x rfl (World.cell?_alloc_new _ _ _ _) ?hu ?hl ?hb ?_; (case hu => rfl); (case hl => omega); (case hb => simp; omega); intro B' d' w1 ho1 hb1 hA1; have HO1 := Lib.hid ho1; have HB1 := Lib.hid (below_app HB.out HB.out.size hb1 (fun k hk => by have := (hrow k hk).1; have := HB.out.size; have := HLE.out; omega)); have HOA := Lib.hid (own_ch (HO.out.alloc _) hb1 (fun k hk => ⟨by have := (HRA.out k hk).2; simp; omega, fun h => by have := (HRA.out k hk).2; have := (hrow k h).1; omega⟩)); have hs1 := hb1.size; clear ho1 hb1 hA1))
          go_roundg z
          case measure => have := HG.out; omega
          case rel => exact ⟨z, B', d', q ++ [x], by simp, rfl, by omega, by have hh := congrArg List.length HQ2.out; simp [le_length] at hh; simp; omega, rfl, HB1.out, HOA.out, HO1.out, HQ2.out, by simp at hs1; omega⟩

theorem place_at {α : Type} [DecidableEq α] {x : α} {l : List α} {i : Nat} (h : l[i]? = some x) (hf : ∀ j, j < i → l[j]? ≠ some x) : place x l = some i := by
  obtain ⟨k, hk⟩ := place_some (List.mem_of_getElem? h)
  have h1 := place_get hk
  have h2 := place_first hk
  rcases Nat.lt_trichotomy i k with h3 | h3 | h3
  · exact absurd h (h2 i h3)
  · rw [hk, h3]
  · exact absurd h1 (hf k h3)
theorem place_nowhere {α : Type} [DecidableEq α] {x : α} {l : List α} (hf : ∀ j, j < l.length → l[j]? ≠ some x) : place x l = none := by
  refine place_not fun h => ?_
  obtain ⟨j, hj, e⟩ := List.getElem_of_mem h
  exact hf j hj (by rw [List.getElem?_eq_getElem hj, e])
theorem texts_elem {w : World} {base : Nat} {A : Option Addr} {c : Nat} {T : List ByteArray} (ho : w.ownsRow base 9 1 (.slice A T.length c) T.length (T.flatMap textCells)) {i : Nat} (hi : i < T.length) : ∃ a, A = some a ∧ w.cell? (a.add i) = some (.string T[i]) :=
  (Sl.of_own ho).at_ i _ (texts_get (List.getElem?_eq_getElem hi))
theorem words_elem {w : World} {base : Nat} {A : Option Addr} {c : Nat} {S : List Wd} (ho : w.ownsRow base 245 2 (.slice A S.length c) S.length (S.flatMap wordCells)) {i : Nat} (hi : i < S.length) :
    ∃ a, A = some a ∧ w.cell? (a.add (i * 2)) = some (.int .i64 S[i].1) ∧ w.cell? ⟨(a.add (i * 2)).block, (a.add (i * 2)).off + 1, none⟩ = some (.string S[i].2) := by
  obtain ⟨a, rfl, h0, h1⟩ := Sl.elem (Sl.of_own ho) wordCells_len i hi (by decide)
  exact ⟨a, rfl, h0 _ rfl, h1 1 _ (by decide) rfl⟩
theorem dis_app {A A' B : Option Addr} {n : Nat} (hA : A' = A ∨ A' = some ⟨n, 0, none⟩) (h : ∀ k, Row A k → ¬ Row B k) (h2 : ∀ k, Row B k → k < n) : ∀ k, Row A' k → ¬ Row B k := by
  intro k hk hb
  rcases hA with rfl | rfl
  · exact h k hk hb
  · have e := h2 k hb
    have e2 : n = k := by simpa [Row] using hk
    omega
/-- What is neither the book nor a row of its kinds stays. -/
def Others (b : Nat) (w w' : World) : Prop := ∀ k cs ty, Box w k cs ty → k ≠ b → ty ≠ 9 → ty ≠ 245 → Box w' k cs ty
theorem own_typed {w : World} {base n : Nat} {e ty : TypeId} {size : Nat} {A : Option Addr} {c k : Nat} {xs : List Value} {cs : Array Value} (h : w.ownsRow base e size (.slice A n c) n xs) (hk : Row A k) (hx : Box w k cs ty) : ty = e := by
  rcases h.2 with ⟨hn, _⟩ | ⟨g, cap, cur, hv, hg, hh, rest⟩
  · obtain ⟨rfl, _⟩ : A = none ∧ _ := by simpa using hn
    cases hk
  · obtain ⟨rfl, rfl⟩ : A = some ⟨g, 0, none⟩ ∧ c = cap := by simpa using hv
    have e2 : g = k := by simpa [Row] using hk
    subst e2
    unfold Box at hx
    rw [hh] at hx
    injection hx with hx
    injection hx with _ h2 _
    exact h2.symm
theorem Others.of_below {b : Nat} {w w' : World} (h : Below w.heap.size w w') : Others b w w' := fun _ _ _ hx _ _ _ => hx.call h
theorem Others.end {b i : Nat} {w w1 w2 : World} {v : Value} (h : Others b w w1) (h2 : Below (w1.setCell ⟨b, i, none⟩ v).heap.size (w1.setCell ⟨b, i, none⟩ v) w2) : Others b w w2 := fun k cs ty hx hk h3 h4 =>
  ((h k cs ty hx hk h3 h4).other (a := ⟨b, i, none⟩) (fun e => hk e.symm) v).call h2
/-- What a step of the document's book answers: a text; what is below its block stays. -/
def RTextPost (s : ByteArray) (b base : Nat) (T : List ByteArray) (S : List Wd) (w : World) (e : Ending) (w' : World) : Prop := e = .returned (.string s) ∧ Below b w w' ∧ RBk w' b base T S ∧ Others b w w'
set_option maxHeartbeats 1000000 in
set_option maxRecDepth 100000 in
theorem rDigest_calls (b base : Nat) (T : List ByteArray) (S : List Wd) (s : ByteArray) (w : World) (hr : RBk w b base T S) (hT : T.length ≤ 1000000) :
    Calls Try.prog 121 #[.pointer (some ⟨b, 0, none⟩), .string s] w (RTextPost (digS T s).1 b base (digS T s).2 S w) := by
  have HR := Lib.hid hr
  obtain ⟨A, c, B, d, hx, ho1, ho2, hdis⟩ := hr.rows
  obtain ⟨k0, k1, f0, f1⟩ := hx.facts2
  have HX := Lib.hid hx
  have hlt := hr.lt
  have hle := hr.le
  have HO1 := Lib.hid ho1
  have HO2 := Lib.hid ho2
  have HDIS := Lib.hid hdis
  have HD := Lib.hid (show digS T s = match place s T with | some i => (eight (i + 1), T) | none => (eight (T.length + 1), T ++ [s]) from rfl)
  clear hr ho1 ho2 hdis hx
  go_enter Try.func121, Try.ntmps121
  go_wp2_with fail
  go_loopg [5] T.length (fun g v5 wr => ∃ (k : Nat), v5 = .int .i64 k ∧ k ≤ T.length ∧ Hid (g + k = T.length ∧ wr = w ∧ ∀ j, j < k → T[j]? ≠ some s))
  case atStart => exact ⟨0, rfl, Nat.zero_le _, rfl, rfl, fun j hj => by omega⟩
  case round =>
    obtain ⟨k, rfl, hk, HH⟩ := hrel
    obtain ⟨hg, hw, hno⟩ := HH.out
    subst hw
    have HG := Lib.hid hg
    have HN := Lib.hid hno
    clear HH hg hno
    by_cases hl : k < T.length
    · obtain ⟨a, rfl, e0⟩ := texts_elem HO1.out hl
      have hgt : T[k]? = some T[k] := List.getElem?_eq_getElem hl
      obtain ⟨x, hx⟩ : ∃ x, x = T[k] := ⟨_, rfl⟩
      rw [← hx] at e0 hgt
      have HGT := Lib.hid hgt
      clear hx hgt
      by_cases hxs : x = s
      · have hq : (x.toList == s.toList) = true := by rw [beq_list]; simpa using hxs
        have hge := HD.out
        rw [place_at (by rw [HGT.out, hxs]) HN.out] at hge
        have HGE := Lib.hid hge
        have HE := Lib.hid (fun w => rEight_calls (k + 1) w (by omega))
        clear hge hxs
        go_wp2_with fail
        refine (HE.out _).mono ?_
        rintro e w1 ⟨rfl, hb1⟩
        have HB1 := Lib.hid hb1
        clear hb1
        go_wp2
        go_ret
        have hbl := World.block_lt_of_cell? _ _ k0
        unfold RTextPost
        rw [HGE.out]
        exact ⟨rfl, HB1.out.mono (by simp only at hbl; omega), HR.out.below HB1.out, Others.of_below HB1.out⟩
      · have hq : (x.toList == s.toList) = false := by rw [beq_list]; simpa using hxs
        have HN2 := Lib.hid (show ∀ j, j < k + 1 → T[j]? ≠ some s from fun j hj => by
          rcases Nat.lt_or_ge j k with h | h
          · exact HN.out j h
          · obtain rfl : j = k := by omega
            rw [HGT.out]; simpa using hxs)
        clear hxs
        go_wp2_with fail
        go_roundg (T.length - (k + 1))
        case measure => have := HG.out; omega
        case rel => exact ⟨k + 1, by go_num, by omega, by omega, rfl, HN2.out⟩
    · have hge := HD.out
      rw [place_nowhere (fun j hj => HN.out j (by omega))] at hge
      have HGE := Lib.hid hge
      have HE := Lib.hid (show ∀ w, Calls Try.prog 124 #[.int .i64 ((T.length : Int) + 1)] w (fun e w' => e = .returned (.string (eight (T.length + 1))) ∧ Below w.heap.size w w') from fun w => rEight_calls (T.length + 1) w (by omega))
      clear hge
      have hrow : ∀ k, Row A k → base ≤ k ∧ k < wr.heap.size := fun k hk => own_row HO1.out hk
      have hro2 : ∀ k, Row B k → base ≤ k ∧ k < wr.heap.size := fun k hk => own_row HO2.out hk
      clear HN HG
      go_wp2_with (at_builtin; refine app_row rfl (.tmp 31) (.tmp 33) 54 rfl base 9 _ 1 16 info_str Try.underlying54 rfl (by decide) A c T.length (T.flatMap textCells) rfl (HO1.out.alloc _) ⟨wr.heap.size, 0, none⟩ 1 1 (textCells s) rfl rfl (news_box (Box.new wr #[.string s] 9)) (text_one s) ?hb1 ?hb2 ?hb3 ?_; (case hb1 => omega); (case hb2 => omega); (case hb3 => simp; omega); intro A' c' w1 ho hc hA; have HO3 := Lib.hid ho; have HC := Lib.hid hc; have HA := Lib.hid hA; have HX1 := Lib.hid ((HX.out.alloc (.cells #[.string s] 9)).ch hc (by have := HX.out.lt; simp; omega) (fun h => by have := (hrow _ h).1; omega)); have HO4 := Lib.hid (own_ch (HO2.out.alloc (.cells #[.string s] 9)) hc (fun k hk => ⟨by have := (hro2 k hk).2; simp; omega, fun h => HDIS.out k h hk⟩)); have hs1 := hc.size; have HD1 := Lib.hid (show ∀ k, Row A' k → ¬ Row B k from dis_app hA HDIS.out (fun k hk => by have := (hro2 k hk).2; simp; omega)); have HB1 := Lib.hid (below_app (B := b) (Below.refl b wr) (by omega) hc (fun k hk => by have := (hrow k hk).1; omega)); have HOT := Lib.hid (show Others b wr _ from fun k cs ty hx hb h1 h2 => (hx.alloc _).ch hc (by have := hx.lt; simp; omega) (fun h => h1 (own_typed HO1.out h hx))); clear k0 k1 f0 f1; obtain ⟨k0, k1, f0, f1⟩ := HX1.out.facts2; clear ho hc hA)

      have HRN := Lib.hid (RBk.setT (s := s) hlt (by simp at hs1; omega) HX1.out HO3.out HO4.out HD1.out)
      have HBN := Lib.hid (HB1.out.setCell (p := ⟨b, 0, none⟩) (Nat.le_refl _) (.slice A' (T.length + 1) c'))
      refine (HE.out _).mono ?_
      rintro e w2 ⟨rfl, hb2⟩
      have HB2 := Lib.hid hb2
      clear hb2
      go_wp2
      go_ret
      unfold RTextPost
      rw [HGE.out]
      exact ⟨rfl, HBN.out.trans (HB2.out.mono (by simp at hs1 ⊢; omega)), HRN.out.below HB2.out, HOT.out.end HB2.out⟩

/-- Where a signed text stands, as the document's book answers. -/
def atE (S : List Wd) (x : Wd) : Int := match place x S with | some i => (i : Int) | none => -1
set_option maxHeartbeats 1000000 in
set_option maxRecDepth 100000 in
theorem rAt_calls (b base : Nat) (T : List ByteArray) (S : List Wd) (who : Int) (s : ByteArray) (w : World) (hr : RBk w b base T S) (hS : S.length ≤ 1000000) :
    Calls Try.prog 123 #[.pointer (some ⟨b, 0, none⟩), .int .i64 who, .string s] w fun e w' => e = .returned (.int .i64 (atE S (who, s))) ∧ w' = w := by
  obtain ⟨A, c, B, d, hx, ho1, ho2, hdis⟩ := hr.rows
  obtain ⟨k0, k1, f0, f1⟩ := hx.facts2
  have HO2 := Lib.hid ho2
  have HD := Lib.hid (show atE S (who, s) = match place (who, s) S with | some i => (i : Int) | none => -1 from rfl)
  clear hr ho1 ho2 hdis hx
  go_enter Try.func123, Try.ntmps123
  go_wp2_with fail
  go_loopg [7] S.length (fun g v5 wr => ∃ (k : Nat), v5 = .int .i64 k ∧ k ≤ S.length ∧ Hid (g + k = S.length ∧ wr = w ∧ ∀ j, j < k → S[j]? ≠ some (who, s)))
  case atStart => exact ⟨0, rfl, Nat.zero_le _, rfl, rfl, fun j hj => by omega⟩
  case round =>
    obtain ⟨k, rfl, hk, HH⟩ := hrel
    obtain ⟨hg, hw, hno⟩ := HH.out
    subst hw
    have HG := Lib.hid hg
    have HN := Lib.hid hno
    clear HH hg hno
    by_cases hl : k < S.length
    · obtain ⟨a, rfl, e0, e1⟩ := words_elem HO2.out hl
      have hgt : S[k]? = some S[k] := List.getElem?_eq_getElem hl
      obtain ⟨⟨x, y⟩, hx⟩ : ∃ x, x = S[k] := ⟨_, rfl⟩
      rw [← hx] at e0 e1 hgt
      simp only at e0 e1
      have HGT := Lib.hid hgt
      clear hx hgt
      by_cases h1 : x = who
      · subst h1
        by_cases h2 : y = s
        · subst h2
          have hq : (y.toList == y.toList) = true := by simp
          have HGE := Lib.hid (show atE S (x, y) = (k : Int) by rw [HD.out, place_at HGT.out HN.out])
          go_wp2_with fail
          go_ret
          exact ⟨by rw [HGE.out]; rfl, rfl⟩
        · have hq : (y.toList == s.toList) = false := by rw [beq_list]; simpa using h2
          have HN2 := Lib.hid (show ∀ j, j < k + 1 → S[j]? ≠ some (x, s) from fun j hj => by
            rcases Nat.lt_or_ge j k with h | h
            · exact HN.out j h
            · obtain rfl : j = k := by omega
              rw [HGT.out]; simpa using h2)
          clear h2
          go_wp2_with fail
          go_roundg (S.length - (k + 1))
          case measure => have := HG.out; omega
          case rel => exact ⟨k + 1, by go_num, by omega, by omega, rfl, HN2.out⟩
      · have hd : decide (x = who) = false := by simpa using h1
        have HN2 := Lib.hid (show ∀ j, j < k + 1 → S[j]? ≠ some (who, s) from fun j hj => by
          rcases Nat.lt_or_ge j k with h | h
          · exact HN.out j h
          · obtain rfl : j = k := by omega
            rw [HGT.out]; intro h; exact h1 (by simpa using congrArg Prod.fst (Option.some.inj h)))
        go_wp2_with fail
        go_roundg (S.length - (k + 1))
        case measure => have := HG.out; omega
        case rel => exact ⟨k + 1, by go_num, by omega, by omega, rfl, HN2.out⟩
    · have HGE := Lib.hid (show atE S (who, s) = -1 by rw [HD.out, place_nowhere (fun j hj => HN.out j (by omega))])
      go_wp2_with fail
      go_ret
      exact ⟨by rw [HGE.out]; rfl, rfl⟩

set_option maxHeartbeats 1000000 in
set_option maxRecDepth 100000 in
theorem rSign_calls (b base : Nat) (T : List ByteArray) (S : List Wd) (who : Int) (s : ByteArray) (w : World) (hr : RBk w b base T S) (hS : S.length ≤ 1000000) :
    Calls Try.prog 122 #[.pointer (some ⟨b, 0, none⟩), .int .i64 who, .string s] w (RTextPost (signS S (who, s)).1 b base T (signS S (who, s)).2 w) := by
  have HR := Lib.hid hr
  obtain ⟨A, c, B, d, hx, ho1, ho2, hdis⟩ := hr.rows
  obtain ⟨k0, k1, f0, f1⟩ := hx.facts2
  have HX := Lib.hid hx
  have hlt := hr.lt
  have hle := hr.le
  have HO1 := Lib.hid ho1
  have HO2 := Lib.hid ho2
  have HDIS := Lib.hid hdis
  have HA := Lib.hid (rAt_calls b base T S who s w hr hS)
  clear hr ho1 ho2 hdis hx
  cases hp : place (who, s) S with
  | some i =>
    have hi : i < S.length := place_lt hp
    have HAE := Lib.hid (show atE S (who, s) = (i : Int) by unfold atE; rw [hp])
    have HGE := Lib.hid (show signS S (who, s) = (sigOf i, S) by unfold signS; rw [hp])
    have HE := Lib.hid (show ∀ w, Calls Try.prog 124 #[.int .i64 ((i : Int) + 1)] w (fun e w' => e = .returned (.string (eight (i + 1))) ∧ Below w.heap.size w w') from fun w => rEight_calls (i + 1) w (by omega))
    clear hp
    rw [HAE.out] at HA
    go_enter Try.func122, Try.ntmps122
    go_wp2_with fail
    refine HA.out.mono ?_
    rintro e w1 ⟨rfl, rfl⟩
    go_wp2_with fail
    refine (HE.out _).mono ?_
    rintro e w2 ⟨rfl, hb2⟩
    have HB2 := Lib.hid hb2
    clear hb2
    have hsz : (eight (i + 1)).size = 8 := eight_size _
    go_wp2
    go_ret
    unfold RTextPost
    rw [HGE.out]
    exact ⟨by unfold sigOf; rfl, HB2.out.mono (by omega), HR.out.below HB2.out, Others.of_below HB2.out⟩
  | none =>
    have HAE := Lib.hid (show atE S (who, s) = -1 by unfold atE; rw [hp])
    have HGE := Lib.hid (show signS S (who, s) = (sigOf S.length, S ++ [(who, s)]) by unfold signS; rw [hp])
    have HE := Lib.hid (show ∀ w, Calls Try.prog 124 #[.int .i64 ((S.length : Int) + 1)] w (fun e w' => e = .returned (.string (eight (S.length + 1))) ∧ Below w.heap.size w w') from fun w => rEight_calls (S.length + 1) w (by omega))
    clear hp
    rw [HAE.out] at HA
    go_enter Try.func122, Try.ntmps122
    go_wp2_with fail
    refine HA.out.mono ?_
    rintro e w1 ⟨rfl, rfl⟩
    have hrow : ∀ k, Row B k → base ≤ k ∧ k < w1.heap.size := fun k hk => own_row HO2.out hk
    have hro2 : ∀ k, Row A k → base ≤ k ∧ k < w1.heap.size := fun k hk => own_row HO1.out hk
    go_wp2_with (at_builtin; refine app_row rfl (.tmp 23) (.tmp 27) 88 rfl base 245 _ 2 24 info_word Try.underlying88 rfl (by decide) B d S.length (S.flatMap wordCells) rfl (HO2.out.alloc _) ⟨w1.heap.size, 0, none⟩ 1 1 (wordCells (who, s)) rfl rfl (news_box (Box.new w1 #[.int .i64 who, .string s] 245)) (word_one (who, s)) ?hb1 ?hb2 ?hb3 ?_; (case hb1 => omega); (case hb2 => omega); (case hb3 => simp; omega); intro B' d' w2 ho hc hA; have HO3 := Lib.hid ho; have HC := Lib.hid hc; have HX1 := Lib.hid ((HX.out.alloc (.cells #[.int .i64 who, .string s] 245)).ch hc (by have := HX.out.lt; simp; omega) (fun h => by have := (hrow _ h).1; omega)); have HO4 := Lib.hid (own_ch (HO1.out.alloc (.cells #[.int .i64 who, .string s] 245)) hc (fun k hk => ⟨by have := (hro2 k hk).2; simp; omega, fun h => HDIS.out k hk h⟩)); have hs1 := hc.size; have HD1 := Lib.hid (show ∀ k, Row A k → ¬ Row B' k from fun k hk h2 => dis_app hA (fun k h1 h2 => HDIS.out k h2 h1) (fun k hk => by have := (hro2 k hk).2; simp; omega) k h2 hk); have HB1 := Lib.hid (below_app (B := b) (Below.refl b w1) (by omega) hc (fun k hk => by have := (hrow k hk).1; omega)); have HOT := Lib.hid (show Others b w1 _ from fun k cs ty hx hb h1 h2 => (hx.alloc _).ch hc (by have := hx.lt; simp; omega) (fun h => h2 (own_typed HO2.out h hx))); clear k0 k1 f0 f1; obtain ⟨k0, k1, f0, f1⟩ := HX1.out.facts2; clear ho hc hA)
    have HRN := Lib.hid (RBk.setS (s := (who, s)) hlt (by simp at hs1; omega) HX1.out HO4.out HO3.out HD1.out)
    have HBN := Lib.hid (HB1.out.setCell (p := ⟨b, 1, none⟩) (Nat.le_refl _) (.slice B' (S.length + 1) d'))
    refine (HE.out _).mono ?_
    rintro e w3 ⟨rfl, hb2⟩
    have HB2 := Lib.hid hb2
    clear hb2
    have hsz : (eight (S.length + 1)).size = 8 := eight_size _
    go_wp2
    go_ret
    unfold RTextPost
    rw [HGE.out]
    exact ⟨by unfold sigOf; rfl, HBN.out.trans (HB2.out.mono (by simp at hs1 ⊢; omega)), HRN.out.below HB2.out, HOT.out.end HB2.out⟩

set_option maxHeartbeats 1000000 in
set_option maxRecDepth 100000 in
theorem rCheck_calls (b base : Nat) (T : List ByteArray) (S : List Wd) (who : Int) (s sig : ByteArray) (w : World) (hr : RBk w b base T S) (hS : S.length ≤ 1000000) :
    Calls Try.prog 125 #[.pointer (some ⟨b, 0, none⟩), .int .i64 who, .string s, .string sig] w (BoolPost (checkS S (who, s) sig) w) := by
  have HA := Lib.hid (rAt_calls b base T S who s w hr hS)
  clear hr
  cases hp : place (who, s) S with
  | some i =>
    have hi : i < S.length := place_lt hp
    have HAE := Lib.hid (show atE S (who, s) = (i : Int) by unfold atE; rw [hp])
    have HGE := Lib.hid (show checkS S (who, s) sig = decide (sig = sigOf i) by unfold checkS; rw [hp])
    have HE := Lib.hid (show ∀ w, Calls Try.prog 124 #[.int .i64 ((i : Int) + 1)] w (fun e w' => e = .returned (.string (eight (i + 1))) ∧ Below w.heap.size w w') from fun w => rEight_calls (i + 1) w (by omega))
    clear hp
    rw [HAE.out] at HA
    go_enter Try.func125, Try.ntmps125
    go_wp2_with fail
    refine HA.out.mono ?_
    rintro e w1 ⟨rfl, rfl⟩
    go_wp2_with fail
    refine (HE.out _).mono ?_
    rintro e w2 ⟨rfl, hb2⟩
    have HB2 := Lib.hid hb2
    clear hb2
    have hsz : (eight (i + 1)).size = 8 := eight_size _
    go_wp2
    go_ret
    exact ⟨ret_bool (by rw [HGE.out, beq_list]; rfl), HB2.out⟩
  | none =>
    have HAE := Lib.hid (show atE S (who, s) = -1 by unfold atE; rw [hp])
    have HGE := Lib.hid (show checkS S (who, s) sig = false by unfold checkS; rw [hp])
    clear hp
    rw [HAE.out] at HA
    go_enter Try.func125, Try.ntmps125
    go_wp2_with fail
    refine HA.out.mono ?_
    rintro e w1 ⟨rfl, rfl⟩
    go_wp2_with fail
    go_ret
    exact ⟨ret_bool HGE.out.symm, Below.refl _ _⟩
end Go.Proofs.Ytfgpchffkpomoaa
