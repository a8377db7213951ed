/- Which records show what there is at a key, by the document: the walk. -/
import Derived.Test.YtfgpchffkpomoaaPk20
namespace Go.Proofs.Ytfgpchffkpomoaa
set_option linter.unusedSimpArgs false
set_option linter.unusedVariables false
open Go.RowKit

def intCells (n : Nat) : List Value := [.int .i64 n]
theorem intCells_len (n : Nat) : (intCells n).length = 1 := rfl
def IntS (w : World) (A : Option Addr) (c : Nat) (l : List Nat) : Prop := Sl w 1 A l.length c (l.flatMap intCells)
theorem IntS.elem {w : World} {A : Option Addr} {c : Nat} {l : List Nat} (h : IntS w A c l) (k : Nat) (hk : k < l.length) : ∃ a, A = some a ∧ w.cell? (a.add k) = some (.int .i64 l[k]) := by
  obtain ⟨a, rfl, h0, _⟩ := Sl.elem h intCells_len k hk (by decide)
  have := h0 _ rfl
  rw [Nat.mul_one] at this
  exact ⟨a, rfl, this⟩
def ShownPost (l : List Rc) (key : ByteArray) (w : World) (e : Ending) (w' : World) : Prop :=
  ∃ B cc, e = .returned (.slice B (shownP l key).length cc) ∧ Below w.heap.size w w' ∧ IntS w' B cc (shownP l key) ∧ ∀ q, Row B q → w.heap.size ≤ q
theorem box_ints {w : World} {k : Nat} {cs : Array Value} {T : TypeId} {c : Nat} {l : List Nat} (h : Box w k cs T) (hc : cs.toList = l.flatMap intCells) (hl : l.length ≤ 1000) : IntS w (some ⟨k, 0, none⟩) c l :=
  ⟨flat_len intCells 1 intCells_len l, by omega, fun j u hj => ⟨_, rfl, news_box h j u (by rw [hc]; exact hj)⟩⟩

set_option maxHeartbeats 4000000 in
set_option maxRecDepth 100000 in
theorem shown_calls (A : Option Addr) (c : Nat) (l : List Rc) (key : ByteArray) (w : World) (hs : RcS w A c l) (hl : l.length ≤ 4096) (hr : Rising l) : Calls Try.prog 104 #[.slice A l.length c, .string key] w (ShownPost l key w) := by
  have HS := Lib.hid hs
  have HR := Lib.hid hr
  have hfit := hs.fits
  have hple := plc_le l key
  obtain ⟨p, hp⟩ : ∃ p, p = placeP l key := ⟨_, rfl⟩
  rw [← hp] at hple
  have HP := Lib.hid hp
  clear hs hr hp
  go_enter Try.func104, Try.ntmps104
  go_wp2_with fail
  go_loopg [5, 6] l.length (fun g v5 v6 wr => ∃ k u : Nat, v5 = .int .i64 u ∧ v6 = .int .i64 k ∧ k ≤ l.length ∧ u ≤ l.length ∧ Hid (g + k = l.length ∧ wr = w ∧ u = min k p ∧ ∀ j y, j < k → l[j]? = some y → y.key ≠ key))
  case atStart => exact ⟨0, 0, rfl, rfl, by omega, by omega, by omega, rfl, by omega, fun j y h => by omega⟩
  case round =>
    obtain ⟨k, u, rfl, rfl, hk, hu, HH⟩ := hrel
    obtain ⟨hg, hw, hum, hn⟩ := HH.out
    subst hw
    have HG := Lib.hid hg
    have HUM := Lib.hid hum
    have HN := Lib.hid hn
    clear HH hg hum hn
    by_cases hlt : k < l.length
    · have hd2 : decide ((k : Int) < (l.length : Int)) = true := by simp; omega
      obtain ⟨a, rfl, e0, e1⟩ := HS.out.elem k hlt
      obtain ⟨x, hx⟩ : ∃ x, x = l[k] := ⟨_, rfl⟩
      rw [← hx] at e0 e1
      have hxk : l[k]? = some x := by rw [List.getElem?_eq_getElem hlt, hx]
      have HX := Lib.hid hxk
      clear hx e1
      obtain ⟨xk, xv⟩ := x
      simp only at e0 hxk
      have hbq := beq_list xk key
      by_cases he : xk = key
      · rw [decide_eq_true he] at hbq
        have hpk : p = k := by
          rw [HP.out]
          exact plc_eq (by omega) (fun j y hj hy => by
            have := HR.out j k y _ hj hy hxk
            rwa [he] at this) (fun y hy => by
            obtain rfl := Option.some.inj (hy.symm.trans hxk)
            rw [he]; exact lsB_irrefl _)
        have hsh : shownP l key = [k] := by
          unfold shownP isP
          rw [← HP.out, hpk, hxk]
          simp [he]
        have HSH := Lib.hid hsh
        have HBX := Lib.hid (Box.new wr #[.int .i64 k] 3)
        clear he hpk hsh hxk
        go_wp2
        go_ret
        refine ⟨some ⟨wr.heap.size, 0, none⟩, 1, by rw [HSH.out]; rfl, (Below.refl _ _).alloc (Nat.le_refl _) _, ?_, fun q hq => ?_⟩
        · rw [HSH.out]
          exact box_ints HBX.out rfl (by simp)
        · obtain rfl : wr.heap.size = q := by simpa [Row] using hq
          exact Nat.le_refl _
      · rw [decide_eq_false he] at hbq
        have HE := Lib.hid he
        cases hls : lsB xk key with
        | true =>
          have hq : Op.bytesLess xk.toList key.toList = true := hls
          have hkp : k < p := by
            rcases Nat.lt_or_ge k p with h | h
            · exact h
            · rw [HP.out] at h
              have := plc_above HR.out h hxk
              rw [hls] at this; cases this
          have HKP := Lib.hid hkp
          clear he hls hkp hxk
          go_wp2
          go_roundg (gk - 1)
          case measure => have := HG.out; omega
          case rel => exact ⟨k + 1, u + 1, by go_num, by go_num, by omega, by have := HUM.out; have := HKP.out; omega, by have := HG.out; omega, rfl, by have := HUM.out; have := HKP.out; omega, fun j y hj hy => by
            rcases Nat.lt_or_ge j k with h | h
            · exact HN.out j y h hy
            · obtain rfl : j = k := by omega
              obtain rfl := Option.some.inj (hy.symm.trans HX.out)
              exact HE.out⟩
        | false =>
          have hq : Op.bytesLess xk.toList key.toList = false := hls
          have hkp : p ≤ k := by
            rcases Nat.lt_or_ge k p with h | h
            · rw [HP.out] at h
              have := plc_below h hxk
              rw [hls] at this; cases this
            · exact h
          have HKP := Lib.hid hkp
          clear he hls hkp hxk
          go_wp2
          go_roundg (gk - 1)
          case measure => have := HG.out; omega
          case rel => exact ⟨k + 1, u, rfl, by go_num, by omega, by omega, by have := HG.out; omega, rfl, by have := HUM.out; have := HKP.out; omega, fun j y hj hy => by
            rcases Nat.lt_or_ge j k with h | h
            · exact HN.out j y h hy
            · obtain rfl : j = k := by omega
              obtain rfl := Option.some.inj (hy.symm.trans HX.out)
              exact HE.out⟩
    · have hd2 : decide ((k : Int) < (l.length : Int)) = false := by simp; omega
      obtain rfl : k = l.length := by omega
      have hup : u = p := by have := HUM.out; omega
      have hno : isP l key = false := by
        cases hi : isP l key with
        | false => rfl
        | true =>
          obtain ⟨x, hx, hk⟩ := isP_some hi
          exact absurd hk (HN.out _ x (List.getElem?_eq_some_iff.1 hx).1 hx)
      have HSU := Lib.hid (show shownP l key = if l.length = 0 then [] else if u = 0 then [0] else if u = l.length then [u - 1] else [u - 1, u] by unfold shownP; rw [hno, ← HP.out, hup]; rfl)
      clear HN HUM hno hup
      by_cases h0 : l.length = 0
      · have hd3 : (((l.length : Nat) : Int) == 0) = true := by rw [beq_iff_eq]; omega
        have hsh := HSU.out
        rw [if_pos h0] at hsh
        have HSH := Lib.hid hsh
        have H0 := Lib.hid h0
        clear h0 hsh
        go_wp2
        go_ret
        refine ⟨none, 0, by rw [HSH.out]; rfl, Below.refl _ _, ?_, fun q hq => by simp [Row] at hq⟩
        rw [HSH.out]
        exact ⟨rfl, by simp, fun j u hj => by simp at hj⟩
      · have hd3 : (((l.length : Nat) : Int) == 0) = false := by rw [beq_eq_false_iff_ne]; omega
        have hs1 := HSU.out
        rw [if_neg h0] at hs1
        by_cases hu0 : u = 0
        · rw [if_pos hu0] at hs1
          have HSH := Lib.hid hs1
          have HBX := Lib.hid (Box.new wr #[.int .i64 0] 3)
          subst hu0
          clear hs1
          go_wp2
          go_ret
          refine ⟨some ⟨wr.heap.size, 0, none⟩, 1, by rw [HSH.out]; rfl, (Below.refl _ _).alloc (Nat.le_refl _) _, ?_, fun q hq => ?_⟩
          · rw [HSH.out]
            exact box_ints HBX.out rfl (by simp)
          · obtain rfl : wr.heap.size = q := by simpa [Row] using hq
            exact Nat.le_refl _
        · rw [if_neg hu0] at hs1
          obtain ⟨v, rfl⟩ : ∃ v, u = v + 1 := ⟨u - 1, by omega⟩
          have hd4 : ((v : Int) + 1 == 0) = false := by rw [beq_eq_false_iff_ne]; omega
          have hwv : IntKind.i64.wrap (v : Int) = (v : Int) := wrap_small _ (by omega) (by omega)
          by_cases hul : v + 1 = l.length
          · have hd5 : ((v : Int) + 1 == (l.length : Int)) = true := by rw [beq_iff_eq]; omega
            rw [if_pos hul] at hs1
            have HSH := Lib.hid (show shownP l key = [v] from hs1)
            have HBX := Lib.hid (Box.new wr #[.int .i64 v] 3)
            have HUL := Lib.hid hul
            clear hs1 hul
            go_wp2
            go_ret
            refine ⟨some ⟨wr.heap.size, 0, none⟩, 1, by rw [HSH.out]; rfl, (Below.refl _ _).alloc (Nat.le_refl _) _, ?_, fun q hq => ?_⟩
            · rw [HSH.out]
              exact box_ints HBX.out rfl (by simp)
            · obtain rfl : wr.heap.size = q := by simpa [Row] using hq
              exact Nat.le_refl _
          · have hd5 : ((v : Int) + 1 == (l.length : Int)) = false := by rw [beq_eq_false_iff_ne]; omega
            rw [if_neg hul] at hs1
            have HSH := Lib.hid (show shownP l key = [v, v + 1] from hs1)
            have HBX := Lib.hid (Box.new wr #[.int .i64 v, .int .i64 ((v : Int) + 1)] 3)
            clear hs1 hul
            go_wp2
            go_ret
            refine ⟨some ⟨wr.heap.size, 0, none⟩, 2, by rw [HSH.out]; rfl, (Below.refl _ _).alloc (Nat.le_refl _) _, ?_, fun q hq => ?_⟩
            · rw [HSH.out]
              exact box_ints HBX.out rfl (by simp)
            · obtain rfl : wr.heap.size = q := by simpa [Row] using hq
              exact Nat.le_refl _
end Go.Proofs.Ytfgpchffkpomoaa
