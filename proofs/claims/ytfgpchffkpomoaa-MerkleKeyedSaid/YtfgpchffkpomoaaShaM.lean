/- SHA-256's mixing of a block into the state, of the program: the walk. -/
import Derived.Test.YtfgpchffkpomoaaPk35
import Derived.Test.YtfgpchffkpomoaaPk02
import Derived.Test.YtfgpchffkpomoaaPk36
import Derived.Deep.RegionHeld3
import Derived.Deep.CutBlock
import Derived.Deep.DeepCutAuto
import Derived.StillTailTactics
namespace Go.Proofs.Ytfgpchffkpomoaa
set_option linter.unusedSimpArgs false
set_option linter.unusedVariables false
open Go.RowKit

def octA (v : Oct) : Array Value := #[wv v.a, wv v.b, wv v.c, wv v.d, wv v.e, wv v.f, wv v.g, wv v.h]
/-- So many of the drawn words stand. -/
def Drawn (cs : Array Value) (b : Nat → W32) (k : Nat) : Prop := cs.size = 64 ∧ ∀ i, i < k → cs[i]? = some (wv (sched b i))
theorem Drawn.next {cs : Array Value} {b : Nat → W32} {k : Nat} (h : Drawn cs b k) (hk : k < 64) : Drawn (cs.setIfInBounds k (wv (sched b k))) b (k + 1) := by
  refine ⟨by rw [Array.size_setIfInBounds]; exact h.1, fun i hi => ?_⟩
  rw [Array.getElem?_setIfInBounds]
  split
  · rename_i e
    subst e
    rw [if_pos (by rw [h.1]; exact hk)]
  · exact h.2 i (by omega)
/-- The memory of the mixing. -/
structure MixW (w : World) (H : Nat) (cv cw : Array Value) (w' : World) : Prop where
  b : Below H w w'
  h : Box w' H cv 286
  r : ∃ cr, cr.size = 8 ∧ Box w' (H + 1) cr 286
  w : Box w' (H + 1 + 1) cw 292
theorem MixW.store {w w' : World} {H : Nat} {cv cw : Array Value} (h : MixW w H cv cw w') (k : Nat) (x : Value) : MixW w H cv (cw.setIfInBounds k x) (w'.setCell ⟨H + 1 + 1, k, none⟩ x) := by
  obtain ⟨cr, hz, hr⟩ := h.r
  exact ⟨h.b.setCell (by simp only; omega) _, h.h.other (by simp only; omega) _, ⟨cr, hz, hr.other (by simp only; omega) _⟩, h.w.set k x⟩
theorem MixW.drewN {w w' : World} {H : Nat} {cv cw : Array Value} (h : MixW w H cv cw w') (k : Nat) : MixW w H cv cw (w'.drewN k) :=
  ⟨⟨h.b.os, h.b.tape, h.b.output, h.b.size, h.b.block⟩, h.h, h.r, h.w⟩
theorem MixW.drew {w w' : World} {H : Nat} {cv cw : Array Value} (h : MixW w H cv cw w') : MixW w H cv cw w'.drew := h.drewN 1
theorem MixW.new (w : World) (O : Array Value) : MixW w w.heap.size O #[.int .u32 0, .int .u32 0, .int .u32 0, .int .u32 0, .int .u32 0, .int .u32 0, .int .u32 0, .int .u32 0, .int .u32 0, .int .u32 0, .int .u32 0, .int .u32 0, .int .u32 0, .int .u32 0, .int .u32 0, .int .u32 0, .int .u32 0, .int .u32 0, .int .u32 0, .int .u32 0, .int .u32 0, .int .u32 0, .int .u32 0, .int .u32 0, .int .u32 0, .int .u32 0, .int .u32 0, .int .u32 0, .int .u32 0, .int .u32 0, .int .u32 0, .int .u32 0, .int .u32 0, .int .u32 0, .int .u32 0, .int .u32 0, .int .u32 0, .int .u32 0, .int .u32 0, .int .u32 0, .int .u32 0, .int .u32 0, .int .u32 0, .int .u32 0, .int .u32 0, .int .u32 0, .int .u32 0, .int .u32 0, .int .u32 0, .int .u32 0, .int .u32 0, .int .u32 0, .int .u32 0, .int .u32 0, .int .u32 0, .int .u32 0, .int .u32 0, .int .u32 0, .int .u32 0, .int .u32 0, .int .u32 0, .int .u32 0, .int .u32 0, .int .u32 0] (((w.alloc (.cells O 286)).alloc (.cells #[.int .u32 0, .int .u32 0, .int .u32 0, .int .u32 0, .int .u32 0, .int .u32 0, .int .u32 0, .int .u32 0] 286)).alloc (.cells #[.int .u32 0, .int .u32 0, .int .u32 0, .int .u32 0, .int .u32 0, .int .u32 0, .int .u32 0, .int .u32 0, .int .u32 0, .int .u32 0, .int .u32 0, .int .u32 0, .int .u32 0, .int .u32 0, .int .u32 0, .int .u32 0, .int .u32 0, .int .u32 0, .int .u32 0, .int .u32 0, .int .u32 0, .int .u32 0, .int .u32 0, .int .u32 0, .int .u32 0, .int .u32 0, .int .u32 0, .int .u32 0, .int .u32 0, .int .u32 0, .int .u32 0, .int .u32 0, .int .u32 0, .int .u32 0, .int .u32 0, .int .u32 0, .int .u32 0, .int .u32 0, .int .u32 0, .int .u32 0, .int .u32 0, .int .u32 0, .int .u32 0, .int .u32 0, .int .u32 0, .int .u32 0, .int .u32 0, .int .u32 0, .int .u32 0, .int .u32 0, .int .u32 0, .int .u32 0, .int .u32 0, .int .u32 0, .int .u32 0, .int .u32 0, .int .u32 0, .int .u32 0, .int .u32 0, .int .u32 0, .int .u32 0, .int .u32 0, .int .u32 0, .int .u32 0] 292)) := by
  refine ⟨(((Below.refl w.heap.size w).alloc (Nat.le_refl _) _).alloc (by simp) _).alloc (by simp; omega) _, ((Box.new w O _).alloc _).alloc _, ⟨#[.int .u32 0, .int .u32 0, .int .u32 0, .int .u32 0, .int .u32 0, .int .u32 0, .int .u32 0, .int .u32 0], rfl, ?_⟩, ?_⟩
  · have h := Box.new (w.alloc (.cells O 286)) #[.int .u32 0, .int .u32 0, .int .u32 0, .int .u32 0, .int .u32 0, .int .u32 0, .int .u32 0, .int .u32 0] 286
    rw [World.size_alloc] at h
    exact h.alloc _
  · have h := Box.new ((w.alloc (.cells O 286)).alloc (.cells #[.int .u32 0, .int .u32 0, .int .u32 0, .int .u32 0, .int .u32 0, .int .u32 0, .int .u32 0, .int .u32 0] 286)) #[.int .u32 0, .int .u32 0, .int .u32 0, .int .u32 0, .int .u32 0, .int .u32 0, .int .u32 0, .int .u32 0, .int .u32 0, .int .u32 0, .int .u32 0, .int .u32 0, .int .u32 0, .int .u32 0, .int .u32 0, .int .u32 0, .int .u32 0, .int .u32 0, .int .u32 0, .int .u32 0, .int .u32 0, .int .u32 0, .int .u32 0, .int .u32 0, .int .u32 0, .int .u32 0, .int .u32 0, .int .u32 0, .int .u32 0, .int .u32 0, .int .u32 0, .int .u32 0, .int .u32 0, .int .u32 0, .int .u32 0, .int .u32 0, .int .u32 0, .int .u32 0, .int .u32 0, .int .u32 0, .int .u32 0, .int .u32 0, .int .u32 0, .int .u32 0, .int .u32 0, .int .u32 0, .int .u32 0, .int .u32 0, .int .u32 0, .int .u32 0, .int .u32 0, .int .u32 0, .int .u32 0, .int .u32 0, .int .u32 0, .int .u32 0, .int .u32 0, .int .u32 0, .int .u32 0, .int .u32 0, .int .u32 0, .int .u32 0, .int .u32 0, .int .u32 0] 292
    rw [World.size_alloc, World.size_alloc] at h
    exact h
theorem shr_int (x : W32) (k : Nat) (z : Int) (h : z = ((2 ^ k : Nat) : Int)) : (x.toNat : Int) / z = ((x >>> k).toNat : Int) := by
  rw [shr_nat, h, Int.natCast_ediv]
theorem sgA_bits (x : W32) : bits .xor .u32 (bits .xor .u32 ((rotR x 7).toNat : Int) ((rotR x 18).toNat : Int)) ((x.toNat : Int) / 8) = ((sgA x).toNat : Int) := by
  rw [w_xor, shr_int x 3 8 rfl, w_xor]
  rfl
theorem sgB_bits (x : W32) : bits .xor .u32 (bits .xor .u32 ((rotR x 17).toNat : Int) ((rotR x 19).toNat : Int)) ((x.toNat : Int) / 1024) = ((sgB x).toNat : Int) := by
  rw [w_xor, shr_int x 10 1024 rfl, w_xor]
  rfl
theorem w_plus (x y : W32) : IntKind.u32.wrap ((x.toNat : Int) + (y.toNat : Int)) = ((x + y).toNat : Int) := by rw [IntKind.wrap_u32, w_add]
theorem sched_bits (s16 s15 s7 s2 : W32) : IntKind.u32.wrap (IntKind.u32.wrap (IntKind.u32.wrap ((s16.toNat : Int) + bits .xor .u32 (bits .xor .u32 ((rotR s15 7).toNat : Int) ((rotR s15 18).toNat : Int)) ((s15.toNat : Int) / 8)) + (s7.toNat : Int)) + bits .xor .u32 (bits .xor .u32 ((rotR s2 17).toNat : Int) ((rotR s2 19).toNat : Int)) ((s2.toNat : Int) / 1024)) = ((s16 + sgA s15 + s7 + sgB s2).toNat : Int) := by
  rw [sgA_bits, sgB_bits, w_plus, w_plus, w_plus]
theorem w_not (x : W32) : bits .xor .u32 IntKind.u32.max (x.toNat : Int) = ((~~~x).toNat : Int) := by
  rw [show IntKind.u32.max = (((BitVec.allOnes 32 : W32).toNat : Nat) : Int) by decide, w_xor]
  rw [BitVec.allOnes_xor]
theorem tee_bits (v : Oct) (k s : W32) : IntKind.u32.wrap (IntKind.u32.wrap (IntKind.u32.wrap (IntKind.u32.wrap ((v.h.toNat : Int) + bits .xor .u32 (bits .xor .u32 ((rotR v.e 6).toNat : Int) ((rotR v.e 11).toNat : Int)) ((rotR v.e 25).toNat : Int)) + bits .xor .u32 (bits .and .u32 (v.e.toNat : Int) (v.f.toNat : Int)) (bits .and .u32 (bits .xor .u32 IntKind.u32.max (v.e.toNat : Int)) (v.g.toNat : Int))) + (k.toNat : Int)) + (s.toNat : Int)) = ((tee v k s).toNat : Int) := by
  rw [w_not, w_and, w_and, w_xor, w_xor, w_xor, w_plus, w_plus, w_plus, w_plus]
  rfl
theorem you_bits (v : Oct) : IntKind.u32.wrap (bits .xor .u32 (bits .xor .u32 ((rotR v.a 2).toNat : Int) ((rotR v.a 13).toNat : Int)) ((rotR v.a 22).toNat : Int) + bits .xor .u32 (bits .xor .u32 (bits .and .u32 (v.a.toNat : Int) (v.b.toNat : Int)) (bits .and .u32 (v.a.toNat : Int) (v.c.toNat : Int))) (bits .and .u32 (v.b.toNat : Int) (v.c.toNat : Int))) = ((you v).toNat : Int) := by
  rw [w_and, w_and, w_and, w_xor, w_xor, w_xor, w_xor, w_plus]
  rfl
theorem wrap_byte (b : UInt8) : IntKind.u32.wrap (b.toNat : Int) = (b.toNat : Int) := by
  have := b.toNat_lt
  rw [IntKind.wrap_u32]
  omega
/-- Four bytes, as the program puts them together. -/
theorem quad_bits (a b c d : UInt8) : bits .or .u32 (bits .or .u32 (bits .or .u32 ((a.toNat : Int) * 16777216 % 4294967296) ((b.toNat : Int) * 65536 % 4294967296)) ((c.toNat : Int) * 256 % 4294967296)) (d.toNat : Int) = ((quad a b c d).toNat : Int) := by
  have ha := a.toNat_lt
  have hb := b.toNat_lt
  have hc := c.toNat_lt
  have hd := d.toNat_lt
  have join := fun (i : Nat) (x y : Int) h0 h1 h2 h3 h4 h5 => bits_join .u32 32 (by decide) (fun n h0 h1 => by rw [IntKind.wrap_u32]; omega) i x y h0 h1 h2 h3 h4 h5
  rw [show (a.toNat : Int) * 16777216 % 4294967296 = (a.toNat : Int) * 16777216 by omega, show (b.toNat : Int) * 65536 % 4294967296 = (b.toNat : Int) * 65536 by omega, show (c.toNat : Int) * 256 % 4294967296 = (c.toNat : Int) * 256 by omega]
  rw [join 24 ((a.toNat : Int) * 16777216) ((b.toNat : Int) * 65536) (by omega) (by omega) (by omega) (by omega) (by omega) (by omega), join 16 ((a.toNat : Int) * 16777216 + (b.toNat : Int) * 65536) ((c.toNat : Int) * 256) (by omega) (by omega) (by omega) (by omega) (by omega) (by omega), join 8 ((a.toNat : Int) * 16777216 + (b.toNat : Int) * 65536 + (c.toNat : Int) * 256) (d.toNat : Int) (by omega) (by omega) (by omega) (by omega) (by omega) (by omega)]
  unfold quad
  rw [BitVec.toNat_ofNat]
  omega
theorem Box.past {w w1 : World} {k : Nat} {cs : Array Value} {T : TypeId} (h : Box w k cs T) (hb : Below w.heap.size w w1) : Box w1 k cs T := h.ch (Ch.of_below (S := fun _ => False) hb) h.lt (fun h => h)
theorem MixW.call {w w1 w2 : World} {H : Nat} {cv cw : Array Value} (h : MixW w H cv cw w1) (hb : Below w1.heap.size w1 w2) : MixW w H cv cw w2 := by
  obtain ⟨cr, hz, hr⟩ := h.r
  exact ⟨h.b.trans (hb.mono (by have := h.w.lt; omega)), h.h.past hb, ⟨cr, hz, hr.past hb⟩, h.w.past hb⟩
theorem MixW.alloc {w w1 : World} {H : Nat} {cv cw : Array Value} (h : MixW w H cv cw w1) (o : Obj) : MixW w H cv cw (w1.alloc o) := h.call ((Below.refl _ _).alloc (Nat.le_refl _) o)
theorem Box.apart {w : World} {k g : Nat} {cs : Array Value} {T : TypeId} (h : Box w k cs T) (hg : k ≠ g) : ∀ (vs : List Value) (o : Nat), Box (w.setCells g o vs) k cs T := by
  intro vs
  induction vs generalizing w with
  | nil => exact fun _ => h
  | cons v vs ih => exact fun o => ih (h.other (a := ⟨g, o, none⟩) (by simp only; omega) v) (o + 1)
theorem MixW.cells {w w1 : World} {H k : Nat} {cv cw : Array Value} (h : MixW w H cv cw w1) (hk : H + 1 + 1 < k) (vs : List Value) : MixW w H cv cw (w1.setCells k 0 vs) := by
  obtain ⟨cr, hz, hr⟩ := h.r
  exact ⟨h.b.trans (below_setCells (by omega) _ _ _), h.h.apart (by omega) _ _, ⟨cr, hz, hr.apart (by omega) _ _⟩, h.w.apart (by omega) _ _⟩
/-- The two arrays of the rounds. -/
structure MixV (w : World) (H : Nat) (cv cw : Array Value) (p q : Nat) (cp cq : Array Value) (w' : World) : Prop where
  m : MixW w H cv cw w'
  bp : Box w' p cp 286
  bq : Box w' q cq 292
  lp : H + 1 + 1 < p
  lq : H + 1 + 1 < q
  ne : p ≠ q
theorem MixV.fillP {w w' : World} {H p q : Nat} {cv cw cp cq vs : Array Value} (h : MixV w H cv cw p q cp cq w') (hs : vs.size = cp.size) : MixV w H cv cw p q vs cq (w'.setCells p 0 vs.toList) :=
  ⟨h.m.cells h.lp _, h.bp.fill vs hs, h.bq.apart (Ne.symm h.ne) _ _, h.lp, h.lq, h.ne⟩
theorem MixV.fillQ {w w' : World} {H p q : Nat} {cv cw cp cq vs : Array Value} (h : MixV w H cv cw p q cp cq w') (hs : vs.size = cq.size) : MixV w H cv cw p q cp vs (w'.setCells q 0 vs.toList) :=
  ⟨h.m.cells h.lq _, h.bp.apart h.ne _ _, h.bq.fill vs hs, h.lp, h.lq, h.ne⟩
theorem MixV.drew {w w' : World} {H p q : Nat} {cv cw cp cq : Array Value} (h : MixV w H cv cw p q cp cq w') : MixV w H cv cw p q cp cq w'.drew := ⟨h.m.drew, h.bp, h.bq, h.lp, h.lq, h.ne⟩
theorem MixV.storeH {w w' : World} {H p q : Nat} {cv cw cp cq : Array Value} (h : MixV w H cv cw p q cp cq w') (k : Nat) (x : Value) : MixV w H (cv.setIfInBounds k x) cw p q cp cq (w'.setCell ⟨H, k, none⟩ x) := by
  have l1 := h.lp
  have l2 := h.lq
  obtain ⟨cr, hz, hr⟩ := h.m.r
  exact ⟨⟨h.m.b.setCell (by simp only; omega) _, h.m.h.set k x, ⟨cr, hz, hr.other (by simp only; omega) _⟩, h.m.w.other (by simp only; omega) _⟩, h.bp.other (by simp only; omega) _, h.bq.other (by simp only; omega) _, l1, l2, h.ne⟩
theorem octA_get (v : Oct) (k : Nat) (hk : k < 8) : (octA v)[k]? = some (wv (v.nth k)) := by
  have h8 : k = 0 ∨ k = 1 ∨ k = 2 ∨ k = 3 ∨ k = 4 ∨ k = 5 ∨ k = 6 ∨ k = 7 := by omega
  rcases h8 with rfl | rfl | rfl | rfl | rfl | rfl | rfl | rfl <;> rfl
/-- So many words of the state are added. -/
structure Added (cs : Array Value) (v u : Oct) (k : Nat) : Prop where
  size : cs.size = 8
  done : ∀ i, i < k → i < 8 → cs[i]? = some (wv (v.nth i + u.nth i))
  later : ∀ i, k ≤ i → i < 8 → cs[i]? = some (wv (v.nth i))
theorem added_none (v u : Oct) : Added (octA v) v u 0 := ⟨rfl, fun i h => by omega, fun i _ h => octA_get v i h⟩
theorem Added.next {cs : Array Value} {v u : Oct} {k : Nat} (h : Added cs v u k) (hk : k < 8) : Added (cs.setIfInBounds k (.int .u32 ((v.nth k + u.nth k).toNat : Int))) v u (k + 1) := by
  refine ⟨by rw [Array.size_setIfInBounds]; exact h.size, fun i hi h8 => ?_, fun i hi h8 => ?_⟩
  · rw [Array.getElem?_setIfInBounds]
    split
    · rename_i e
      subst e
      rw [if_pos (by rw [h.size]; exact hk)]
      rfl
    · exact h.done i (by omega) h8
  · rw [Array.getElem?_setIfInBounds, if_neg (by omega)]
    exact h.later i (by omega) h8
theorem Added.all {cs : Array Value} {v u : Oct} (h : Added cs v u 8) : cs = octA (addO v u) := by
  refine Array.ext_getElem? fun i => ?_
  rcases Nat.lt_or_ge i 8 with hi | hi
  · rw [h.done i hi hi, octA_get _ i hi]
    have h8 : i = 0 ∨ i = 1 ∨ i = 2 ∨ i = 3 ∨ i = 4 ∨ i = 5 ∨ i = 6 ∨ i = 7 := by omega
    rcases h8 with rfl | rfl | rfl | rfl | rfl | rfl | rfl | rfl <;> rfl
  · rw [Array.getElem?_eq_none (by rw [h.size]; exact hi), Array.getElem?_eq_none (by show 8 ≤ i; exact hi)]
theorem size8u : (Try.prog.info? 286).map (·.size) = some 8 := by kernel_rfl
theorem octA_one (v : Oct) : (octA v).all (·.oneCell') = true := by simp [octA, wv, Value.oneCell']
set_option maxHeartbeats 8000000 in
set_option maxRecDepth 100000 in
theorem mix_calls (v : Oct) (A : Option Addr) (c : Nat) (l : List UInt8) (w : World) (hl : l.length = 64) (hs : Sl w 1 A 64 c (l.map byteVal)) :
    Calls Try.prog 226 #[.agg (octA v), .slice A 64 c] w fun e w' => e = .returned (.agg (octA (mixO v (wordAt l)))) ∧ Below w.heap.size w w' := by
  obtain ⟨a, rfl, -⟩ := hs.at_ 0 (byteVal (l[0]'(by omega))) (by rw [List.getElem?_map, List.getElem?_eq_getElem (by omega)]; rfl)
  have HS := Lib.hid hs
  have HL := Lib.hid hl
  obtain ⟨O, hO⟩ : ∃ O, O = octA v := ⟨_, rfl⟩
  rw [← hO]
  have HO := Lib.hid hO
  have HM := Lib.hid (MixW.new w O)
  obtain ⟨W0, hW0⟩ : ∃ W0, W0 = (((w.alloc (.cells O 286)).alloc (.cells #[.int .u32 0, .int .u32 0, .int .u32 0, .int .u32 0, .int .u32 0, .int .u32 0, .int .u32 0, .int .u32 0] 286)).alloc (.cells #[.int .u32 0, .int .u32 0, .int .u32 0, .int .u32 0, .int .u32 0, .int .u32 0, .int .u32 0, .int .u32 0, .int .u32 0, .int .u32 0, .int .u32 0, .int .u32 0, .int .u32 0, .int .u32 0, .int .u32 0, .int .u32 0, .int .u32 0, .int .u32 0, .int .u32 0, .int .u32 0, .int .u32 0, .int .u32 0, .int .u32 0, .int .u32 0, .int .u32 0, .int .u32 0, .int .u32 0, .int .u32 0, .int .u32 0, .int .u32 0, .int .u32 0, .int .u32 0, .int .u32 0, .int .u32 0, .int .u32 0, .int .u32 0, .int .u32 0, .int .u32 0, .int .u32 0, .int .u32 0, .int .u32 0, .int .u32 0, .int .u32 0, .int .u32 0, .int .u32 0, .int .u32 0, .int .u32 0, .int .u32 0, .int .u32 0, .int .u32 0, .int .u32 0, .int .u32 0, .int .u32 0, .int .u32 0, .int .u32 0, .int .u32 0, .int .u32 0, .int .u32 0, .int .u32 0, .int .u32 0, .int .u32 0, .int .u32 0, .int .u32 0, .int .u32 0] 292)) := ⟨_, rfl⟩
  rw [← hW0] at HM
  have HWW := Lib.hid hW0
  obtain ⟨cz, hcz⟩ : ∃ cz : Array Value, cz = #[.int .u32 0, .int .u32 0, .int .u32 0, .int .u32 0, .int .u32 0, .int .u32 0, .int .u32 0, .int .u32 0, .int .u32 0, .int .u32 0, .int .u32 0, .int .u32 0, .int .u32 0, .int .u32 0, .int .u32 0, .int .u32 0, .int .u32 0, .int .u32 0, .int .u32 0, .int .u32 0, .int .u32 0, .int .u32 0, .int .u32 0, .int .u32 0, .int .u32 0, .int .u32 0, .int .u32 0, .int .u32 0, .int .u32 0, .int .u32 0, .int .u32 0, .int .u32 0, .int .u32 0, .int .u32 0, .int .u32 0, .int .u32 0, .int .u32 0, .int .u32 0, .int .u32 0, .int .u32 0, .int .u32 0, .int .u32 0, .int .u32 0, .int .u32 0, .int .u32 0, .int .u32 0, .int .u32 0, .int .u32 0, .int .u32 0, .int .u32 0, .int .u32 0, .int .u32 0, .int .u32 0, .int .u32 0, .int .u32 0, .int .u32 0, .int .u32 0, .int .u32 0, .int .u32 0, .int .u32 0, .int .u32 0, .int .u32 0, .int .u32 0, .int .u32 0] := ⟨_, rfl⟩
  rw [← hcz] at HM
  have HCZ := Lib.hid (show cz.size = 64 by rw [hcz]; rfl)
  clear hO hs hW0 hl hcz
  go_enter Try.func226, Try.ntmps226
  go_wp2_with fail
  rw [← HWW.out]
  go_loopg [18] 16 (fun g v18 wr => ∃ (k : Nat) (cw : Array Value), v18 = .int .i64 k ∧ k ≤ 16 ∧ Hid (g + k = 16 ∧ MixW w w.heap.size O cw wr ∧ Drawn cw (wordAt l) k))
  case atStart => exact ⟨0, cz, rfl, by omega, rfl, HM.out, HCZ.out, fun i hi => by omega⟩
  case round =>
    obtain ⟨k, cw, rfl, hk, HH⟩ := hrel
    obtain ⟨hg, hm, hd⟩ := HH.out
    have HG := Lib.hid hg
    have HMW := Lib.hid hm
    have HD := Lib.hid hd
    clear HH hg hm hd
    by_cases hlt : k < 16
    · have hlt2 : decide ((k : Int) < 16) = true := by simp; omega
      have hbw := HS.out.below HMW.out.b
      have hby : ∀ (j : Nat) (x : UInt8), l[j]? = some x → wr.cell? (a.add j) = some (byteVal x) := by
        intro j x hx
        obtain ⟨a', ha', hc⟩ := hbw.at_ j (byteVal x) (by rw [List.getElem?_map, hx]; rfl)
        obtain rfl := Option.some.inj ha'
        exact hc
      obtain ⟨j0, hj0⟩ : ∃ j, j = 4 * k := ⟨_, rfl⟩
      obtain ⟨j1, hj1⟩ : ∃ j, j = 4 * k + 1 := ⟨_, rfl⟩
      obtain ⟨j2, hj2⟩ : ∃ j, j = 4 * k + 2 := ⟨_, rfl⟩
      obtain ⟨j3, hj3⟩ : ∃ j, j = 4 * k + 3 := ⟨_, rfl⟩
      have hl64 := HL.out
      obtain ⟨b0, hb0⟩ : ∃ x, l[j0]? = some x := ⟨_, List.getElem?_eq_getElem (by omega)⟩
      obtain ⟨b1, hb1⟩ : ∃ x, l[j1]? = some x := ⟨_, List.getElem?_eq_getElem (by omega)⟩
      obtain ⟨b2, hb2⟩ : ∃ x, l[j2]? = some x := ⟨_, List.getElem?_eq_getElem (by omega)⟩
      obtain ⟨b3, hb3⟩ : ∃ x, l[j3]? = some x := ⟨_, List.getElem?_eq_getElem (by omega)⟩
      have hword : wordAt l k = quad b0 b1 b2 b3 := by
        unfold wordAt byteD
        rw [List.getD_eq_getElem?_getD, List.getD_eq_getElem?_getD, List.getD_eq_getElem?_getD, List.getD_eq_getElem?_getD, ← hj1, ← hj2, ← hj3, ← hj0, hb0, hb1, hb2, hb3]
        rfl
      have c0 : wr.drew.cell? (a.add j0) = some (.int .u8 (b0.toNat : Int)) := hby j0 b0 hb0
      have c1 : wr.drew.cell? (a.add j1) = some (.int .u8 (b1.toNat : Int)) := hby j1 b1 hb1
      have c2 : wr.drew.cell? (a.add j2) = some (.int .u8 (b2.toNat : Int)) := hby j2 b2 hb2
      have c3 : wr.drew.cell? (a.add j3) = some (.int .u8 (b3.toNat : Int)) := hby j3 b3 hb3
      have HQ := Lib.hid (show bits .or .u32 (bits .or .u32 (bits .or .u32 (IntKind.u32.wrap (IntKind.u32.wrap (b0.toNat : Int) * 16777216)) (IntKind.u32.wrap (IntKind.u32.wrap (b1.toNat : Int) * 65536))) (IntKind.u32.wrap (IntKind.u32.wrap (b2.toNat : Int) * 256))) (IntKind.u32.wrap (b3.toNat : Int)) = ((sched (wordAt l) k).toNat : Int) by
        rw [sched_lo hlt, hword, ← quad_bits b0 b1 b2 b3, wrap_byte b0, wrap_byte b1, wrap_byte b2, wrap_byte b3, IntKind.wrap_u32, IntKind.wrap_u32, IntKind.wrap_u32])
      have hw0 : IntKind.i64.wrap (4 * (k : Int)) = (j0 : Int) := by rw [IntKind.wrap_i64]; omega
      have hw1 : IntKind.i64.wrap ((j0 : Int) + 1) = (j1 : Int) := by rw [IntKind.wrap_i64]; omega
      have hw2 : IntKind.i64.wrap ((j0 : Int) + 2) = (j2 : Int) := by rw [IntKind.wrap_i64]; omega
      have hw3 : IntKind.i64.wrap ((j0 : Int) + 3) = (j3 : Int) := by rw [IntKind.wrap_i64]; omega
      have i0 : (0 : Int) ≤ (j0 : Int) ∧ (j0 : Int) < 64 := by omega
      have i1 : (0 : Int) ≤ (j1 : Int) ∧ (j1 : Int) < 64 := by omega
      have i2 : (0 : Int) ≤ (j2 : Int) ∧ (j2 : Int) < 64 := by omega
      have i3 : (0 : Int) ≤ (j3 : Int) ∧ (j3 : Int) < 64 := by omega
      have hx0 : (k : Int) < 64 := by omega
      have hx1 : (0 : Int) ≤ (k : Int) := by omega
      have HI := Lib.hid (And.intro hj0 (And.intro hj1 (And.intro hj2 hj3)))
      have v0 := b0.toNat_lt
      have v1 := b1.toNat_lt
      have v2 := b2.toNat_lt
      have v3 := b3.toNat_lt
      obtain ⟨n0, hn0⟩ : ∃ n, n = b0.toNat := ⟨_, rfl⟩
      obtain ⟨n1, hn1⟩ : ∃ n, n = b1.toNat := ⟨_, rfl⟩
      obtain ⟨n2, hn2⟩ : ∃ n, n = b2.toNat := ⟨_, rfl⟩
      obtain ⟨n3, hn3⟩ : ∃ n, n = b3.toNat := ⟨_, rfl⟩
      rw [← hn0] at c0 HQ v0
      rw [← hn1] at c1 HQ v1
      rw [← hn2] at c2 HQ v2
      rw [← hn3] at c3 HQ v3
      obtain ⟨rr, hrr⟩ : ∃ r, r = (sched (wordAt l) k).toNat := ⟨_, rfl⟩
      rw [← hrr] at HQ
      have HRR := Lib.hid hrr
      clear hbw hby hb0 hb1 hb2 hb3 hword hj0 hj1 hj2 hj3 hl64 hn0 hn1 hn2 hn3 hrr
      have hfz := HMW.out.w.free k
      obtain ⟨old, hold⟩ : ∃ v, wr.cell? ⟨w.heap.size + 1 + 1, k, none⟩ = some v := by
        rw [HMW.out.w.cell k]
        exact ⟨_, Array.getElem?_eq_getElem (by rw [HD.out.1]; omega)⟩
      have hoD : wr.drew.cell? ⟨w.heap.size + 1 + 1, k, none⟩ = some old := hold
      have hfD : wr.drew.frozen? ⟨w.heap.size + 1 + 1, k, none⟩ = false := hfz
      go_wp2_with fail
      refine AnyP.start [35] (fun w' => w'.cell? (a.add j0) = some (.int .u8 (n0 : Int)) ∧ w'.cell? (a.add j1) = some (.int .u8 (n1 : Int)) ∧ w'.cell? (a.add j2) = some (.int .u8 (n2 : Int)) ∧ w'.cell? (a.add j3) = some (.int .u8 (n3 : Int))) (by kernel_rfl) ⟨c0, c1, c2, c3⟩ (n := 36) (listed := #[false, false, false, false, false, false, false, false, false, false, false, false, false, false, false, false, false, false, false, false, false, false, false, false, false, false, false, false, false, false, false, false, false, false, false, false]) (by kernel_rfl) (by kernel_rfl) (fun hHeld => ?_)
      refine AnyP.take (i := 0) (fuel := 35) (d := some 21) (listed' := #[true, false, false, false, false, false, false, false, false, false, false, false, false, false, false, false, false, false, false, false, false, false, false, false, false, false, false, false, false, false, false, false, false, false, false, false]) (oi := _) (v := ?v0) rfl (by kernel_rfl) (by kernel_rfl) (by kernel_rfl) (fun _ _ _ h => h) (Or.inl ⟨by rfl, ?hy0⟩) (by rfl) (by rfl) ?rest0
      case hy0 => intro w; go_simp; try with_reducible rfl
      try simp only [Act.put, List.setIfInBounds_toArray, List.set_cons_zero, List.set_cons_succ]
      refine AnyP.take (i := 1) (fuel := 34) (d := some 22) (listed' := #[true, true, false, false, false, false, false, false, false, false, false, false, false, false, false, false, false, false, false, false, false, false, false, false, false, false, false, false, false, false, false, false, false, false, false, false]) (oi := _) (v := ?v1) rfl (by kernel_rfl) (by kernel_rfl) (by kernel_rfl) (fun _ _ _ h => h) (Or.inl ⟨by rfl, ?hy1⟩) (by rfl) (by rfl) ?rest1
      case hy1 => intro w; go_simp; try with_reducible rfl
      try simp only [Act.put, List.setIfInBounds_toArray, List.set_cons_zero, List.set_cons_succ]
      refine AnyP.take (i := 2) (fuel := 33) (d := some 23) (listed' := #[true, true, true, false, false, false, false, false, false, false, false, false, false, false, false, false, false, false, false, false, false, false, false, false, false, false, false, false, false, false, false, false, false, false, false, false]) (oi := _) (v := ?v2) rfl (by kernel_rfl) (by kernel_rfl) (by kernel_rfl) (fun _ _ _ h => h) (Or.inl ⟨by rfl, ?hy2⟩) (by rfl) (by rfl) ?rest2
      case hy2 => intro w; go_simp; try with_reducible rfl
      try simp only [Act.put, List.setIfInBounds_toArray, List.set_cons_zero, List.set_cons_succ]
      refine AnyP.take (i := 3) (fuel := 32) (d := some 24) (listed' := #[true, true, true, true, false, false, false, false, false, false, false, false, false, false, false, false, false, false, false, false, false, false, false, false, false, false, false, false, false, false, false, false, false, false, false, false]) (oi := _) (v := ?v3) rfl (by kernel_rfl) (by kernel_rfl) (by kernel_rfl) (fun _ _ _ h => h) (Or.inl ⟨by rfl, ?hy3⟩) (by rfl) (by rfl) ?rest3
      case hy3 => intro w; go_simp; try with_reducible rfl
      try simp only [Act.put, List.setIfInBounds_toArray, List.set_cons_zero, List.set_cons_succ]
      refine AnyP.take (i := 4) (fuel := 31) (d := some 25) (listed' := #[true, true, true, true, true, false, false, false, false, false, false, false, false, false, false, false, false, false, false, false, false, false, false, false, false, false, false, false, false, false, false, false, false, false, false, false]) (oi := _) (v := ?v4) rfl (by kernel_rfl) (by kernel_rfl) (by kernel_rfl) (fun _ _ _ h => h) (Or.inl ⟨by rfl, ?hy4⟩) (by rfl) (by rfl) ?rest4
      case hy4 => intro w; go_simp; try with_reducible rfl
      try simp only [Act.put, List.setIfInBounds_toArray, List.set_cons_zero, List.set_cons_succ]
      refine AnyP.load (i := 5) (fuel := 30) (d := some 26) (listed' := #[true, true, true, true, true, true, false, false, false, false, false, false, false, false, false, false, false, false, false, false, false, false, false, false, false, false, false, false, false, false, false, false, false, false, false, false]) (oi := _) (v := ?v5) [35] rfl (by kernel_rfl) (by kernel_rfl) (by kernel_rfl) (by kernel_rfl) (by kernel_rfl) (by kernel_rfl) (fun _ _ _ h => h) (Or.inl ⟨by rfl, ?hy5⟩) hHeld (by rfl) (by rfl) ?rest5
      case hy5 => intro w hSw; (try dsimp only at hSw); go_simp; try with_reducible rfl
      try simp only [Act.put, List.setIfInBounds_toArray, List.set_cons_zero, List.set_cons_succ]
      refine AnyP.take (i := 6) (fuel := 29) (d := some 27) (listed' := #[true, true, true, true, true, true, true, false, false, false, false, false, false, false, false, false, false, false, false, false, false, false, false, false, false, false, false, false, false, false, false, false, false, false, false, false]) (oi := _) (v := ?v6) rfl (by kernel_rfl) (by kernel_rfl) (by kernel_rfl) (fun _ _ _ h => h) (Or.inl ⟨by rfl, ?hy6⟩) (by rfl) (by rfl) ?rest6
      case hy6 => intro w; go_simp; try with_reducible rfl
      try simp only [Act.put, List.setIfInBounds_toArray, List.set_cons_zero, List.set_cons_succ]
      refine AnyP.take (i := 7) (fuel := 28) (d := some 28) (listed' := #[true, true, true, true, true, true, true, true, false, false, false, false, false, false, false, false, false, false, false, false, false, false, false, false, false, false, false, false, false, false, false, false, false, false, false, false]) (oi := _) (v := ?v7) rfl (by kernel_rfl) (by kernel_rfl) (by kernel_rfl) (fun _ _ _ h => h) (Or.inl ⟨by rfl, ?hy7⟩) (by rfl) (by rfl) ?rest7
      case hy7 => intro w; go_simp; try with_reducible rfl
      try simp only [Act.put, List.setIfInBounds_toArray, List.set_cons_zero, List.set_cons_succ]
      refine AnyP.take (i := 8) (fuel := 27) (d := some 29) (listed' := #[true, true, true, true, true, true, true, true, true, false, false, false, false, false, false, false, false, false, false, false, false, false, false, false, false, false, false, false, false, false, false, false, false, false, false, false]) (oi := _) (v := ?v8) rfl (by kernel_rfl) (by kernel_rfl) (by kernel_rfl) (fun _ _ _ h => h) (Or.inl ⟨by rfl, ?hy8⟩) (by rfl) (by rfl) ?rest8
      case hy8 => intro w; go_simp; try with_reducible rfl
      try simp only [Act.put, List.setIfInBounds_toArray, List.set_cons_zero, List.set_cons_succ]
      refine AnyP.take (i := 9) (fuel := 26) (d := some 30) (listed' := #[true, true, true, true, true, true, true, true, true, true, false, false, false, false, false, false, false, false, false, false, false, false, false, false, false, false, false, false, false, false, false, false, false, false, false, false]) (oi := _) (v := ?v9) rfl (by kernel_rfl) (by kernel_rfl) (by kernel_rfl) (fun _ _ _ h => h) (Or.inl ⟨by rfl, ?hy9⟩) (by rfl) (by rfl) ?rest9
      case hy9 => intro w; go_simp; try with_reducible rfl
      try simp only [Act.put, List.setIfInBounds_toArray, List.set_cons_zero, List.set_cons_succ]
      refine AnyP.take (i := 10) (fuel := 25) (d := some 31) (listed' := #[true, true, true, true, true, true, true, true, true, true, true, false, false, false, false, false, false, false, false, false, false, false, false, false, false, false, false, false, false, false, false, false, false, false, false, false]) (oi := _) (v := ?v10) rfl (by kernel_rfl) (by kernel_rfl) (by kernel_rfl) (fun _ _ _ h => h) (Or.inl ⟨by rfl, ?hy10⟩) (by rfl) (by rfl) ?rest10
      case hy10 => intro w; go_simp; try with_reducible rfl
      try simp only [Act.put, List.setIfInBounds_toArray, List.set_cons_zero, List.set_cons_succ]
      refine AnyP.take (i := 11) (fuel := 24) (d := some 32) (listed' := #[true, true, true, true, true, true, true, true, true, true, true, true, false, false, false, false, false, false, false, false, false, false, false, false, false, false, false, false, false, false, false, false, false, false, false, false]) (oi := _) (v := ?v11) rfl (by kernel_rfl) (by kernel_rfl) (by kernel_rfl) (fun _ _ _ h => h) (Or.inl ⟨by rfl, ?hy11⟩) (by rfl) (by rfl) ?rest11
      case hy11 => intro w; go_simp; try with_reducible rfl
      try simp only [Act.put, List.setIfInBounds_toArray, List.set_cons_zero, List.set_cons_succ]
      refine AnyP.take (i := 12) (fuel := 23) (d := some 33) (listed' := #[true, true, true, true, true, true, true, true, true, true, true, true, true, false, false, false, false, false, false, false, false, false, false, false, false, false, false, false, false, false, false, false, false, false, false, false]) (oi := _) (v := ?v12) rfl (by kernel_rfl) (by kernel_rfl) (by kernel_rfl) (fun _ _ _ h => h) (Or.inl ⟨by rfl, ?hy12⟩) (by rfl) (by rfl) ?rest12
      case hy12 => intro w; go_simp; try with_reducible rfl
      try simp only [Act.put, List.setIfInBounds_toArray, List.set_cons_zero, List.set_cons_succ]
      refine AnyP.load (i := 13) (fuel := 22) (d := some 34) (listed' := #[true, true, true, true, true, true, true, true, true, true, true, true, true, true, false, false, false, false, false, false, false, false, false, false, false, false, false, false, false, false, false, false, false, false, false, false]) (oi := _) (v := ?v13) [35] rfl (by kernel_rfl) (by kernel_rfl) (by kernel_rfl) (by kernel_rfl) (by kernel_rfl) (by kernel_rfl) (fun _ _ _ h => h) (Or.inl ⟨by rfl, ?hy13⟩) hHeld (by rfl) (by rfl) ?rest13
      case hy13 => intro w hSw; (try dsimp only at hSw); go_simp; try with_reducible rfl
      try simp only [Act.put, List.setIfInBounds_toArray, List.set_cons_zero, List.set_cons_succ]
      refine AnyP.take (i := 14) (fuel := 21) (d := some 35) (listed' := #[true, true, true, true, true, true, true, true, true, true, true, true, true, true, true, false, false, false, false, false, false, false, false, false, false, false, false, false, false, false, false, false, false, false, false, false]) (oi := _) (v := ?v14) rfl (by kernel_rfl) (by kernel_rfl) (by kernel_rfl) (fun _ _ _ h => h) (Or.inl ⟨by rfl, ?hy14⟩) (by rfl) (by rfl) ?rest14
      case hy14 => intro w; go_simp; try with_reducible rfl
      try simp only [Act.put, List.setIfInBounds_toArray, List.set_cons_zero, List.set_cons_succ]
      refine AnyP.take (i := 15) (fuel := 20) (d := some 36) (listed' := #[true, true, true, true, true, true, true, true, true, true, true, true, true, true, true, true, false, false, false, false, false, false, false, false, false, false, false, false, false, false, false, false, false, false, false, false]) (oi := _) (v := ?v15) rfl (by kernel_rfl) (by kernel_rfl) (by kernel_rfl) (fun _ _ _ h => h) (Or.inl ⟨by rfl, ?hy15⟩) (by rfl) (by rfl) ?rest15
      case hy15 => intro w; go_simp; try with_reducible rfl
      try simp only [Act.put, List.setIfInBounds_toArray, List.set_cons_zero, List.set_cons_succ]
      refine AnyP.take (i := 16) (fuel := 19) (d := some 37) (listed' := #[true, true, true, true, true, true, true, true, true, true, true, true, true, true, true, true, true, false, false, false, false, false, false, false, false, false, false, false, false, false, false, false, false, false, false, false]) (oi := _) (v := ?v16) rfl (by kernel_rfl) (by kernel_rfl) (by kernel_rfl) (fun _ _ _ h => h) (Or.inl ⟨by rfl, ?hy16⟩) (by rfl) (by rfl) ?rest16
      case hy16 => intro w; go_simp; try with_reducible rfl
      try simp only [Act.put, List.setIfInBounds_toArray, List.set_cons_zero, List.set_cons_succ]
      refine AnyP.take (i := 17) (fuel := 18) (d := some 38) (listed' := #[true, true, true, true, true, true, true, true, true, true, true, true, true, true, true, true, true, true, false, false, false, false, false, false, false, false, false, false, false, false, false, false, false, false, false, false]) (oi := _) (v := ?v17) rfl (by kernel_rfl) (by kernel_rfl) (by kernel_rfl) (fun _ _ _ h => h) (Or.inl ⟨by rfl, ?hy17⟩) (by rfl) (by rfl) ?rest17
      case hy17 => intro w; go_simp; try with_reducible rfl
      try simp only [Act.put, List.setIfInBounds_toArray, List.set_cons_zero, List.set_cons_succ]
      refine AnyP.take (i := 18) (fuel := 17) (d := some 39) (listed' := #[true, true, true, true, true, true, true, true, true, true, true, true, true, true, true, true, true, true, true, false, false, false, false, false, false, false, false, false, false, false, false, false, false, false, false, false]) (oi := _) (v := ?v18) rfl (by kernel_rfl) (by kernel_rfl) (by kernel_rfl) (fun _ _ _ h => h) (Or.inl ⟨by rfl, ?hy18⟩) (by rfl) (by rfl) ?rest18
      case hy18 => intro w; go_simp; try with_reducible rfl
      try simp only [Act.put, List.setIfInBounds_toArray, List.set_cons_zero, List.set_cons_succ]
      refine AnyP.take (i := 19) (fuel := 16) (d := some 40) (listed' := #[true, true, true, true, true, true, true, true, true, true, true, true, true, true, true, true, true, true, true, true, false, false, false, false, false, false, false, false, false, false, false, false, false, false, false, false]) (oi := _) (v := ?v19) rfl (by kernel_rfl) (by kernel_rfl) (by kernel_rfl) (fun _ _ _ h => h) (Or.inl ⟨by rfl, ?hy19⟩) (by rfl) (by rfl) ?rest19
      case hy19 => intro w; go_simp; try with_reducible rfl
      try simp only [Act.put, List.setIfInBounds_toArray, List.set_cons_zero, List.set_cons_succ]
      refine AnyP.take (i := 20) (fuel := 15) (d := some 41) (listed' := #[true, true, true, true, true, true, true, true, true, true, true, true, true, true, true, true, true, true, true, true, true, false, false, false, false, false, false, false, false, false, false, false, false, false, false, false]) (oi := _) (v := ?v20) rfl (by kernel_rfl) (by kernel_rfl) (by kernel_rfl) (fun _ _ _ h => h) (Or.inl ⟨by rfl, ?hy20⟩) (by rfl) (by rfl) ?rest20
      case hy20 => intro w; go_simp; try with_reducible rfl
      try simp only [Act.put, List.setIfInBounds_toArray, List.set_cons_zero, List.set_cons_succ]
      refine AnyP.take (i := 21) (fuel := 14) (d := some 42) (listed' := #[true, true, true, true, true, true, true, true, true, true, true, true, true, true, true, true, true, true, true, true, true, true, false, false, false, false, false, false, false, false, false, false, false, false, false, false]) (oi := _) (v := ?v21) rfl (by kernel_rfl) (by kernel_rfl) (by kernel_rfl) (fun _ _ _ h => h) (Or.inl ⟨by rfl, ?hy21⟩) (by rfl) (by rfl) ?rest21
      case hy21 => intro w; go_simp; try with_reducible rfl
      try simp only [Act.put, List.setIfInBounds_toArray, List.set_cons_zero, List.set_cons_succ]
      refine AnyP.load (i := 22) (fuel := 13) (d := some 43) (listed' := #[true, true, true, true, true, true, true, true, true, true, true, true, true, true, true, true, true, true, true, true, true, true, true, false, false, false, false, false, false, false, false, false, false, false, false, false]) (oi := _) (v := ?v22) [35] rfl (by kernel_rfl) (by kernel_rfl) (by kernel_rfl) (by kernel_rfl) (by kernel_rfl) (by kernel_rfl) (fun _ _ _ h => h) (Or.inl ⟨by rfl, ?hy22⟩) hHeld (by rfl) (by rfl) ?rest22
      case hy22 => intro w hSw; (try dsimp only at hSw); go_simp; try with_reducible rfl
      try simp only [Act.put, List.setIfInBounds_toArray, List.set_cons_zero, List.set_cons_succ]
      refine AnyP.take (i := 23) (fuel := 12) (d := some 44) (listed' := #[true, true, true, true, true, true, true, true, true, true, true, true, true, true, true, true, true, true, true, true, true, true, true, true, false, false, false, false, false, false, false, false, false, false, false, false]) (oi := _) (v := ?v23) rfl (by kernel_rfl) (by kernel_rfl) (by kernel_rfl) (fun _ _ _ h => h) (Or.inl ⟨by rfl, ?hy23⟩) (by rfl) (by rfl) ?rest23
      case hy23 => intro w; go_simp; try with_reducible rfl
      try simp only [Act.put, List.setIfInBounds_toArray, List.set_cons_zero, List.set_cons_succ]
      refine AnyP.take (i := 24) (fuel := 11) (d := some 45) (listed' := #[true, true, true, true, true, true, true, true, true, true, true, true, true, true, true, true, true, true, true, true, true, true, true, true, true, false, false, false, false, false, false, false, false, false, false, false]) (oi := _) (v := ?v24) rfl (by kernel_rfl) (by kernel_rfl) (by kernel_rfl) (fun _ _ _ h => h) (Or.inl ⟨by rfl, ?hy24⟩) (by rfl) (by rfl) ?rest24
      case hy24 => intro w; go_simp; try with_reducible rfl
      try simp only [Act.put, List.setIfInBounds_toArray, List.set_cons_zero, List.set_cons_succ]
      refine AnyP.take (i := 25) (fuel := 10) (d := some 46) (listed' := #[true, true, true, true, true, true, true, true, true, true, true, true, true, true, true, true, true, true, true, true, true, true, true, true, true, true, false, false, false, false, false, false, false, false, false, false]) (oi := _) (v := ?v25) rfl (by kernel_rfl) (by kernel_rfl) (by kernel_rfl) (fun _ _ _ h => h) (Or.inl ⟨by rfl, ?hy25⟩) (by rfl) (by rfl) ?rest25
      case hy25 => intro w; go_simp; try with_reducible rfl
      try simp only [Act.put, List.setIfInBounds_toArray, List.set_cons_zero, List.set_cons_succ]
      refine AnyP.take (i := 26) (fuel := 9) (d := some 47) (listed' := #[true, true, true, true, true, true, true, true, true, true, true, true, true, true, true, true, true, true, true, true, true, true, true, true, true, true, true, false, false, false, false, false, false, false, false, false]) (oi := _) (v := ?v26) rfl (by kernel_rfl) (by kernel_rfl) (by kernel_rfl) (fun _ _ _ h => h) (Or.inl ⟨by rfl, ?hy26⟩) (by rfl) (by rfl) ?rest26
      case hy26 => intro w; go_simp; try with_reducible rfl
      try simp only [Act.put, List.setIfInBounds_toArray, List.set_cons_zero, List.set_cons_succ]
      refine AnyP.take (i := 27) (fuel := 8) (d := some 48) (listed' := #[true, true, true, true, true, true, true, true, true, true, true, true, true, true, true, true, true, true, true, true, true, true, true, true, true, true, true, true, false, false, false, false, false, false, false, false]) (oi := _) (v := ?v27) rfl (by kernel_rfl) (by kernel_rfl) (by kernel_rfl) (fun _ _ _ h => h) (Or.inl ⟨by rfl, ?hy27⟩) (by rfl) (by rfl) ?rest27
      case hy27 => intro w; go_simp; try with_reducible rfl
      try simp only [Act.put, List.setIfInBounds_toArray, List.set_cons_zero, List.set_cons_succ]
      refine AnyP.take (i := 28) (fuel := 7) (d := some 49) (listed' := #[true, true, true, true, true, true, true, true, true, true, true, true, true, true, true, true, true, true, true, true, true, true, true, true, true, true, true, true, true, false, false, false, false, false, false, false]) (oi := _) (v := ?v28) rfl (by kernel_rfl) (by kernel_rfl) (by kernel_rfl) (fun _ _ _ h => h) (Or.inl ⟨by rfl, ?hy28⟩) (by rfl) (by rfl) ?rest28
      case hy28 => intro w; go_simp; try with_reducible rfl
      try simp only [Act.put, List.setIfInBounds_toArray, List.set_cons_zero, List.set_cons_succ]
      refine AnyP.take (i := 29) (fuel := 6) (d := some 50) (listed' := #[true, true, true, true, true, true, true, true, true, true, true, true, true, true, true, true, true, true, true, true, true, true, true, true, true, true, true, true, true, true, false, false, false, false, false, false]) (oi := _) (v := ?v29) rfl (by kernel_rfl) (by kernel_rfl) (by kernel_rfl) (fun _ _ _ h => h) (Or.inl ⟨by rfl, ?hy29⟩) (by rfl) (by rfl) ?rest29
      case hy29 => intro w; go_simp; try with_reducible rfl
      try simp only [Act.put, List.setIfInBounds_toArray, List.set_cons_zero, List.set_cons_succ]
      refine AnyP.take (i := 30) (fuel := 5) (d := some 51) (listed' := #[true, true, true, true, true, true, true, true, true, true, true, true, true, true, true, true, true, true, true, true, true, true, true, true, true, true, true, true, true, true, true, false, false, false, false, false]) (oi := _) (v := ?v30) rfl (by kernel_rfl) (by kernel_rfl) (by kernel_rfl) (fun _ _ _ h => h) (Or.inl ⟨by rfl, ?hy30⟩) (by rfl) (by rfl) ?rest30
      case hy30 => intro w; go_simp; try with_reducible rfl
      try simp only [Act.put, List.setIfInBounds_toArray, List.set_cons_zero, List.set_cons_succ]
      refine AnyP.load (i := 31) (fuel := 4) (d := some 52) (listed' := #[true, true, true, true, true, true, true, true, true, true, true, true, true, true, true, true, true, true, true, true, true, true, true, true, true, true, true, true, true, true, true, true, false, false, false, false]) (oi := _) (v := ?v31) [35] rfl (by kernel_rfl) (by kernel_rfl) (by kernel_rfl) (by kernel_rfl) (by kernel_rfl) (by kernel_rfl) (fun _ _ _ h => h) (Or.inl ⟨by rfl, ?hy31⟩) hHeld (by rfl) (by rfl) ?rest31
      case hy31 => intro w hSw; (try dsimp only at hSw); go_simp; try with_reducible rfl
      try simp only [Act.put, List.setIfInBounds_toArray, List.set_cons_zero, List.set_cons_succ]
      refine AnyP.take (i := 32) (fuel := 3) (d := some 53) (listed' := #[true, true, true, true, true, true, true, true, true, true, true, true, true, true, true, true, true, true, true, true, true, true, true, true, true, true, true, true, true, true, true, true, true, false, false, false]) (oi := _) (v := ?v32) rfl (by kernel_rfl) (by kernel_rfl) (by kernel_rfl) (fun _ _ _ h => h) (Or.inl ⟨by rfl, ?hy32⟩) (by rfl) (by rfl) ?rest32
      case hy32 => intro w; go_simp; try with_reducible rfl
      try simp only [Act.put, List.setIfInBounds_toArray, List.set_cons_zero, List.set_cons_succ]
      refine AnyP.take (i := 33) (fuel := 2) (d := some 54) (listed' := #[true, true, true, true, true, true, true, true, true, true, true, true, true, true, true, true, true, true, true, true, true, true, true, true, true, true, true, true, true, true, true, true, true, true, false, false]) (oi := _) (v := ?v33) rfl (by kernel_rfl) (by kernel_rfl) (by kernel_rfl) (fun _ _ _ h => h) (Or.inl ⟨by rfl, ?hy33⟩) (by rfl) (by rfl) ?rest33
      case hy33 => intro w; go_simp; try with_reducible rfl
      try simp only [Act.put, List.setIfInBounds_toArray, List.set_cons_zero, List.set_cons_succ]
      refine AnyP.take (i := 34) (fuel := 1) (d := some 55) (listed' := #[true, true, true, true, true, true, true, true, true, true, true, true, true, true, true, true, true, true, true, true, true, true, true, true, true, true, true, true, true, true, true, true, true, true, true, false]) (oi := _) (v := ?v34) rfl (by kernel_rfl) (by kernel_rfl) (by kernel_rfl) (fun _ _ _ h => h) (Or.inl ⟨by rfl, ?hy34⟩) (by rfl) (by rfl) ?rest34
      case hy34 => intro w; go_simp; try with_reducible rfl
      try simp only [Act.put, List.setIfInBounds_toArray, List.set_cons_zero, List.set_cons_succ]
      refine AnyP.one (i := 35) (o := ?o35) (fuel := 0) (listed' := #[true, true, true, true, true, true, true, true, true, true, true, true, true, true, true, true, true, true, true, true, true, true, true, true, true, true, true, true, true, true, true, true, true, true, true, true]) (by kernel_rfl) ?ho35 (by rfl) (fun K' hK' => ?step35)
      case ho35 => simp only [List.getElem?_toArray, List.getElem?_cons_succ, List.getElem?_cons_zero]; rfl
      go_simp
      refine hK'.out _ _ (fun h => absurd (by decide) h) (fun hHeld => ?_)
      clear hK' K'
      try simp only [Act.put, List.setIfInBounds_toArray, List.set_cons_zero, List.set_cons_succ]
      refine AnyP.done (by kernel_rfl) ?_ _
      rw [HQ.out]
      go_wp2_with fail
      go_roundg (16 - (k + 1))
      case measure => have := HG.out; omega
      case rel =>
        refine ⟨k + 1, _, by go_num, by omega, by omega, (HMW.out.store k (.int .u32 (rr : Int))).drew, ?_⟩
        rw [HRR.out]
        exact HD.out.next (by omega)
    · obtain rfl : k = 16 := by omega
      have hlt2 : decide ((16 : Int) < 16) = false := by simp
      clear hlt
      go_wp2_with fail
      go_loopg [7] 48 (fun g v7 wr => ∃ (k : Nat) (cw : Array Value), v7 = .int .i64 k ∧ 16 ≤ k ∧ k ≤ 64 ∧ Hid (g + k = 64 ∧ MixW w w.heap.size O cw wr ∧ Drawn cw (wordAt l) k))
      case atStart => exact ⟨16, cw, rfl, by omega, by omega, rfl, HMW.out, HD.out⟩
      case round =>
        clear HG HMW HD hk
        obtain ⟨k, cw, rfl, hk0, hk, HH⟩ := hrel
        obtain ⟨hg, hm, hd⟩ := HH.out
        have HG := Lib.hid hg
        have HMW := Lib.hid hm
        have HD := Lib.hid hd
        clear HH hg hm hd
        by_cases hlt : k < 64
        · have hlt2 : decide ((k : Int) < 64) = true := by simp; omega
          obtain ⟨k16, hk16⟩ : ∃ j, k = j + 16 := ⟨k - 16, by omega⟩
          obtain ⟨k15, hk15⟩ : ∃ j, k = j + 15 := ⟨k - 15, by omega⟩
          obtain ⟨k7, hk7⟩ : ∃ j, k = j + 7 := ⟨k - 7, by omega⟩
          obtain ⟨k2, hk2⟩ : ∃ j, k = j + 2 := ⟨k - 2, by omega⟩
          have cell : ∀ j, j < k → wr.cell? ⟨w.heap.size + 1 + 1, j, none⟩ = some (.int .u32 ((sched (wordAt l) j).toNat : Int)) := fun j hj => (HMW.out.w.cell j).trans (HD.out.2 j hj)
          have c16 := cell k16 (by omega)
          have c15 := cell k15 (by omega)
          have c7 := cell k7 (by omega)
          have c2 := cell k2 (by omega)
          have hs : sched (wordAt l) k = sched (wordAt l) k16 + sgA (sched (wordAt l) k15) + sched (wordAt l) k7 + sgB (sched (wordAt l) k2) := by
            rw [sched_hi (by omega), show k - 16 = k16 by omega, show k - 15 = k15 by omega, show k - 7 = k7 by omega, show k - 2 = k2 by omega]
          obtain ⟨s16, hs16⟩ : ∃ x, x = sched (wordAt l) k16 := ⟨_, rfl⟩
          obtain ⟨s15, hs15⟩ : ∃ x, x = sched (wordAt l) k15 := ⟨_, rfl⟩
          obtain ⟨s7, hs7⟩ : ∃ x, x = sched (wordAt l) k7 := ⟨_, rfl⟩
          obtain ⟨s2, hs2⟩ : ∃ x, x = sched (wordAt l) k2 := ⟨_, rfl⟩
          rw [← hs16] at c16 hs
          rw [← hs15] at c15 hs
          rw [← hs7] at c7 hs
          rw [← hs2] at c2 hs
          have hq := sched_bits s16 s15 s7 s2
          rw [← hs] at hq
          have R7 := rot_calls s15 (-7) 7 rfl (by decide) (by decide)
          have R18 := rot_calls s15 (-18) 18 rfl (by decide) (by decide)
          have R17 := rot_calls s2 (-17) 17 rfl (by decide) (by decide)
          have R19 := rot_calls s2 (-19) 19 rfl (by decide) (by decide)
          unfold Same1 wv at R7 R18 R17 R19
          obtain ⟨n16, hn16⟩ : ∃ x, x = s16.toNat := ⟨_, rfl⟩
          obtain ⟨n15, hn15⟩ : ∃ x, x = s15.toNat := ⟨_, rfl⟩
          obtain ⟨n7, hn7⟩ : ∃ x, x = s7.toNat := ⟨_, rfl⟩
          obtain ⟨n2, hn2⟩ : ∃ x, x = s2.toNat := ⟨_, rfl⟩
          obtain ⟨q7, hq7⟩ : ∃ x, x = (rotR s15 7).toNat := ⟨_, rfl⟩
          obtain ⟨q18, hq18⟩ : ∃ x, x = (rotR s15 18).toNat := ⟨_, rfl⟩
          obtain ⟨q17, hq17⟩ : ∃ x, x = (rotR s2 17).toNat := ⟨_, rfl⟩
          obtain ⟨q19, hq19⟩ : ∃ x, x = (rotR s2 19).toNat := ⟨_, rfl⟩
          obtain ⟨rr, hrr⟩ : ∃ x, x = (sched (wordAt l) k).toNat := ⟨_, rfl⟩
          rw [← hn16] at c16 hq
          rw [← hn15] at c15 hq R7 R18
          rw [← hn7] at c7 hq
          rw [← hn2] at c2 hq R17 R19
          rw [← hq7] at hq R7
          rw [← hq18] at hq R18
          rw [← hq17] at hq R17
          rw [← hq19] at hq R19
          rw [← hrr] at hq
          have HQ := Lib.hid hq
          have HRR := Lib.hid hrr
          have HR7 := Lib.hid R7
          have HR18 := Lib.hid R18
          have HR17 := Lib.hid R17
          have HR19 := Lib.hid R19
          have hw16 : IntKind.i64.wrap ((k : Int) - 16) = (k16 : Int) := by rw [IntKind.wrap_i64]; omega
          have hw15 : IntKind.i64.wrap ((k : Int) - 15) = (k15 : Int) := by rw [IntKind.wrap_i64]; omega
          have hw7 : IntKind.i64.wrap ((k : Int) - 7) = (k7 : Int) := by rw [IntKind.wrap_i64]; omega
          have hw2 : IntKind.i64.wrap ((k : Int) - 2) = (k2 : Int) := by rw [IntKind.wrap_i64]; omega
          have i16 : (0 : Int) ≤ (k16 : Int) ∧ (k16 : Int) < 64 := by omega
          have i15 : (0 : Int) ≤ (k15 : Int) ∧ (k15 : Int) < 64 := by omega
          have i7 : (0 : Int) ≤ (k7 : Int) ∧ (k7 : Int) < 64 := by omega
          have i2 : (0 : Int) ≤ (k2 : Int) ∧ (k2 : Int) < 64 := by omega
          have hx0 : (k : Int) < 64 := by omega
          have hx1 : (0 : Int) ≤ (k : Int) := by omega
          have HNE := Lib.hid (show k ≠ k16 ∧ k ≠ k7 by omega)
          have hfz := HMW.out.w.free k
          obtain ⟨old, hold⟩ : ∃ v, wr.cell? ⟨w.heap.size + 1 + 1, k, none⟩ = some v := by
            rw [HMW.out.w.cell k]
            exact ⟨_, Array.getElem?_eq_getElem (by rw [HD.out.1]; omega)⟩
          clear hk16 hk15 hk7 hk2 hs16 hs15 hs7 hs2 hs hn16 hn15 hn7 hn2 hq7 hq18 hq17 hq19 hrr hq R7 R18 R17 R19 cell
          go_wp2_with fail
          go_quiet (fail)
          obtain ⟨WN, hWN⟩ : ∃ WN, WN = wr.drewN nq := ⟨_, rfl⟩
          have HMN := Lib.hid (HMW.out.drewN nq)
          have d16 : WN.drew.cell? ⟨w.heap.size + 1 + 1, k16, none⟩ = some (.int .u32 (n16 : Int)) := by rw [hWN]; exact c16
          have d7 : WN.drew.cell? ⟨w.heap.size + 1 + 1, k7, none⟩ = some (.int .u32 (n7 : Int)) := by rw [hWN]; exact c7
          have dO : WN.drew.cell? ⟨w.heap.size + 1 + 1, k, none⟩ = some old := by rw [hWN]; exact hold
          have dF : WN.drew.frozen? ⟨w.heap.size + 1 + 1, k, none⟩ = false := by rw [hWN]; exact hfz
          rw [← hWN] at HMN ⊢
          clear hWN c16 c15 c7 c2 hfz hold
          go_wp2_with fail
          refine AnyP.start [29] (fun w' => w'.cell? ⟨w.heap.size + 1 + 1, k16, none⟩ = some (.int .u32 (n16 : Int)) ∧ w'.cell? ⟨w.heap.size + 1 + 1, k7, none⟩ = some (.int .u32 (n7 : Int))) (by kernel_rfl) ⟨d16, d7⟩ (n := 30) (listed := #[false, false, false, false, false, false, false, false, false, false, false, false, false, false, false, false, false, false, false, false, false, false, false, false, false, false, false, false, false, false]) (by kernel_rfl) (by kernel_rfl) (fun hHeld => ?_)
          refine AnyP.take (i := 0) (fuel := 29) (d := some 69) (listed' := #[true, false, false, false, false, false, false, false, false, false, false, false, false, false, false, false, false, false, false, false, false, false, false, false, false, false, false, false, false, false]) (oi := _) (v := ?v0l2) rfl (by kernel_rfl) (by kernel_rfl) (by kernel_rfl) (fun _ _ _ h => h) (Or.inl ⟨by rfl, ?hy0l2⟩) (by rfl) (by rfl) ?rest0l2
          case hy0l2 => intro w; go_simp; try with_reducible rfl
          try simp only [Act.put, List.setIfInBounds_toArray, List.set_cons_zero, List.set_cons_succ]
          refine AnyP.take (i := 1) (fuel := 28) (d := some 70) (listed' := #[true, true, false, false, false, false, false, false, false, false, false, false, false, false, false, false, false, false, false, false, false, false, false, false, false, false, false, false, false, false]) (oi := _) (v := ?v1l2) rfl (by kernel_rfl) (by kernel_rfl) (by kernel_rfl) (fun _ _ _ h => h) (Or.inl ⟨by rfl, ?hy1l2⟩) (by rfl) (by rfl) ?rest1l2
          case hy1l2 => intro w; go_simp; try with_reducible rfl
          try simp only [Act.put, List.setIfInBounds_toArray, List.set_cons_zero, List.set_cons_succ]
          refine AnyP.take (i := 2) (fuel := 27) (d := some 71) (listed' := #[true, true, true, false, false, false, false, false, false, false, false, false, false, false, false, false, false, false, false, false, false, false, false, false, false, false, false, false, false, false]) (oi := _) (v := ?v2l2) rfl (by kernel_rfl) (by kernel_rfl) (by kernel_rfl) (fun _ _ _ h => h) (Or.inl ⟨by rfl, ?hy2l2⟩) (by rfl) (by rfl) ?rest2l2
          case hy2l2 => intro w; go_simp; try with_reducible rfl
          try simp only [Act.put, List.setIfInBounds_toArray, List.set_cons_zero, List.set_cons_succ]
          refine AnyP.take (i := 3) (fuel := 26) (d := some 72) (listed' := #[true, true, true, true, false, false, false, false, false, false, false, false, false, false, false, false, false, false, false, false, false, false, false, false, false, false, false, false, false, false]) (oi := _) (v := ?v3l2) rfl (by kernel_rfl) (by kernel_rfl) (by kernel_rfl) (fun _ _ _ h => h) (Or.inl ⟨by rfl, ?hy3l2⟩) (by rfl) (by rfl) ?rest3l2
          case hy3l2 => intro w; go_simp; try with_reducible rfl
          try simp only [Act.put, List.setIfInBounds_toArray, List.set_cons_zero, List.set_cons_succ]
          refine AnyP.load (i := 4) (fuel := 25) (d := some 73) (listed' := #[true, true, true, true, true, false, false, false, false, false, false, false, false, false, false, false, false, false, false, false, false, false, false, false, false, false, false, false, false, false]) (oi := _) (v := ?v4l2) [29] rfl (by kernel_rfl) (by kernel_rfl) (by kernel_rfl) (by kernel_rfl) (by kernel_rfl) (by kernel_rfl) (fun _ _ _ h => h) (Or.inl ⟨by rfl, ?hy4l2⟩) hHeld (by rfl) (by rfl) ?rest4l2
          case hy4l2 => intro w hSw; (try dsimp only at hSw); go_simp; try with_reducible rfl
          try simp only [Act.put, List.setIfInBounds_toArray, List.set_cons_zero, List.set_cons_succ]
          refine AnyP.take (i := 5) (fuel := 24) (d := some 74) (listed' := #[true, true, true, true, true, true, false, false, false, false, false, false, false, false, false, false, false, false, false, false, false, false, false, false, false, false, false, false, false, false]) (oi := _) (v := ?v5l2) rfl (by kernel_rfl) (by kernel_rfl) (by kernel_rfl) (fun _ _ _ h => h) (Or.inl ⟨by rfl, ?hy5l2⟩) (by rfl) (by rfl) ?rest5l2
          case hy5l2 => intro w; go_simp; try with_reducible rfl
          try simp only [Act.put, List.setIfInBounds_toArray, List.set_cons_zero, List.set_cons_succ]
          refine AnyP.take (i := 7) (fuel := 23) (d := some 76) (listed' := #[true, true, true, true, true, true, false, true, false, false, false, false, false, false, false, false, false, false, false, false, false, false, false, false, false, false, false, false, false, false]) (oi := _) (v := ?v7l2) rfl (by kernel_rfl) (by kernel_rfl) (by kernel_rfl) (fun _ _ _ h => h) (Or.inl ⟨by rfl, ?hy7l2⟩) (by rfl) (by rfl) ?rest7l2
          case hy7l2 => intro w; go_simp; try with_reducible rfl
          try simp only [Act.put, List.setIfInBounds_toArray, List.set_cons_zero, List.set_cons_succ]
          refine AnyP.take (i := 10) (fuel := 22) (d := some 79) (listed' := #[true, true, true, true, true, true, false, true, false, false, true, false, false, false, false, false, false, false, false, false, false, false, false, false, false, false, false, false, false, false]) (oi := _) (v := ?v10l2) rfl (by kernel_rfl) (by kernel_rfl) (by kernel_rfl) (fun _ _ _ h => h) (Or.inl ⟨by rfl, ?hy10l2⟩) (by rfl) (by rfl) ?rest10l2
          case hy10l2 => intro w; go_simp; try with_reducible rfl
          try simp only [Act.put, List.setIfInBounds_toArray, List.set_cons_zero, List.set_cons_succ]
          refine AnyP.take (i := 11) (fuel := 21) (d := some 80) (listed' := #[true, true, true, true, true, true, false, true, false, false, true, true, false, false, false, false, false, false, false, false, false, false, false, false, false, false, false, false, false, false]) (oi := _) (v := ?v11l2) rfl (by kernel_rfl) (by kernel_rfl) (by kernel_rfl) (fun _ _ _ h => h) (Or.inl ⟨by rfl, ?hy11l2⟩) (by rfl) (by rfl) ?rest11l2
          case hy11l2 => intro w; go_simp; try with_reducible rfl
          try simp only [Act.put, List.setIfInBounds_toArray, List.set_cons_zero, List.set_cons_succ]
          refine AnyP.take (i := 14) (fuel := 20) (d := some 83) (listed' := #[true, true, true, true, true, true, false, true, false, false, true, true, false, false, true, false, false, false, false, false, false, false, false, false, false, false, false, false, false, false]) (oi := _) (v := ?v14l2) rfl (by kernel_rfl) (by kernel_rfl) (by kernel_rfl) (fun _ _ _ h => h) (Or.inl ⟨by rfl, ?hy14l2⟩) (by rfl) (by rfl) ?rest14l2
          case hy14l2 => intro w; go_simp; try with_reducible rfl
          try simp only [Act.put, List.setIfInBounds_toArray, List.set_cons_zero, List.set_cons_succ]
          refine AnyP.take (i := 15) (fuel := 19) (d := some 84) (listed' := #[true, true, true, true, true, true, false, true, false, false, true, true, false, false, true, true, false, false, false, false, false, false, false, false, false, false, false, false, false, false]) (oi := _) (v := ?v15l2) rfl (by kernel_rfl) (by kernel_rfl) (by kernel_rfl) (fun _ _ _ h => h) (Or.inl ⟨by rfl, ?hy15l2⟩) (by rfl) (by rfl) ?rest15l2
          case hy15l2 => intro w; go_simp; try with_reducible rfl
          try simp only [Act.put, List.setIfInBounds_toArray, List.set_cons_zero, List.set_cons_succ]
          refine AnyP.take (i := 16) (fuel := 18) (d := some 85) (listed' := #[true, true, true, true, true, true, false, true, false, false, true, true, false, false, true, true, true, false, false, false, false, false, false, false, false, false, false, false, false, false]) (oi := _) (v := ?v16l2) rfl (by kernel_rfl) (by kernel_rfl) (by kernel_rfl) (fun _ _ _ h => h) (Or.inl ⟨by rfl, ?hy16l2⟩) (by rfl) (by rfl) ?rest16l2
          case hy16l2 => intro w; go_simp; try with_reducible rfl
          try simp only [Act.put, List.setIfInBounds_toArray, List.set_cons_zero, List.set_cons_succ]
          refine AnyP.load (i := 17) (fuel := 17) (d := some 86) (listed' := #[true, true, true, true, true, true, false, true, false, false, true, true, false, false, true, true, true, true, false, false, false, false, false, false, false, false, false, false, false, false]) (oi := _) (v := ?v17l2) [29] rfl (by kernel_rfl) (by kernel_rfl) (by kernel_rfl) (by kernel_rfl) (by kernel_rfl) (by kernel_rfl) (fun _ _ _ h => h) (Or.inl ⟨by rfl, ?hy17l2⟩) hHeld (by rfl) (by rfl) ?rest17l2
          case hy17l2 => intro w hSw; (try dsimp only at hSw); go_simp; try with_reducible rfl
          try simp only [Act.put, List.setIfInBounds_toArray, List.set_cons_zero, List.set_cons_succ]
          refine AnyP.take (i := 19) (fuel := 16) (d := some 88) (listed' := #[true, true, true, true, true, true, false, true, false, false, true, true, false, false, true, true, true, true, false, true, false, false, false, false, false, false, false, false, false, false]) (oi := _) (v := ?v19l2) rfl (by kernel_rfl) (by kernel_rfl) (by kernel_rfl) (fun _ _ _ h => h) (Or.inl ⟨by rfl, ?hy19l2⟩) (by rfl) (by rfl) ?rest19l2
          case hy19l2 => intro w; go_simp; try with_reducible rfl
          try simp only [Act.put, List.setIfInBounds_toArray, List.set_cons_zero, List.set_cons_succ]
          refine AnyP.take (i := 21) (fuel := 15) (d := some 90) (listed' := #[true, true, true, true, true, true, false, true, false, false, true, true, false, false, true, true, true, true, false, true, false, true, false, false, false, false, false, false, false, false]) (oi := _) (v := ?v21l2) rfl (by kernel_rfl) (by kernel_rfl) (by kernel_rfl) (fun _ _ _ h => h) (Or.inl ⟨by rfl, ?hy21l2⟩) (by rfl) (by rfl) ?rest21l2
          case hy21l2 => intro w; go_simp; try with_reducible rfl
          try simp only [Act.put, List.setIfInBounds_toArray, List.set_cons_zero, List.set_cons_succ]
          refine AnyP.take (i := 24) (fuel := 14) (d := some 93) (listed' := #[true, true, true, true, true, true, false, true, false, false, true, true, false, false, true, true, true, true, false, true, false, true, false, false, true, false, false, false, false, false]) (oi := _) (v := ?v24l2) rfl (by kernel_rfl) (by kernel_rfl) (by kernel_rfl) (fun _ _ _ h => h) (Or.inl ⟨by rfl, ?hy24l2⟩) (by rfl) (by rfl) ?rest24l2
          case hy24l2 => intro w; go_simp; try with_reducible rfl
          try simp only [Act.put, List.setIfInBounds_toArray, List.set_cons_zero, List.set_cons_succ]
          refine AnyP.take (i := 25) (fuel := 13) (d := some 94) (listed' := #[true, true, true, true, true, true, false, true, false, false, true, true, false, false, true, true, true, true, false, true, false, true, false, false, true, true, false, false, false, false]) (oi := _) (v := ?v25l2) rfl (by kernel_rfl) (by kernel_rfl) (by kernel_rfl) (fun _ _ _ h => h) (Or.inl ⟨by rfl, ?hy25l2⟩) (by rfl) (by rfl) ?rest25l2
          case hy25l2 => intro w; go_simp; try with_reducible rfl
          try simp only [Act.put, List.setIfInBounds_toArray, List.set_cons_zero, List.set_cons_succ]
          refine AnyP.one (i := 6) (o := ?o6l2) (fuel := 12) (listed' := #[true, true, true, true, true, true, true, true, false, false, true, true, false, false, true, true, true, true, false, true, false, true, false, false, true, true, false, false, false, false]) (by kernel_rfl) ?ho6l2 (by rfl) (fun K' hK' => ?step6l2)
          case ho6l2 => simp only [List.getElem?_toArray, List.getElem?_cons_succ, List.getElem?_cons_zero]; rfl
          go_simp
          go_at_call 227
          refine (HR7.out _).mono ?_
          rintro e wx ⟨rfl, hwx⟩
          subst hwx
          go_wp2_with fail
          refine hK'.out _ _ (fun _ => ⟨d16, d7⟩) (fun hHeld => ?_)
          clear hK' K'
          try simp only [Act.put, List.setIfInBounds_toArray, List.set_cons_zero, List.set_cons_succ]
          refine AnyP.one (i := 8) (o := ?o8l2) (fuel := 11) (listed' := #[true, true, true, true, true, true, true, true, true, false, true, true, false, false, true, true, true, true, false, true, false, true, false, false, true, true, false, false, false, false]) (by kernel_rfl) ?ho8l2 (by rfl) (fun K' hK' => ?step8l2)
          case ho8l2 => simp only [List.getElem?_toArray, List.getElem?_cons_succ, List.getElem?_cons_zero]; rfl
          go_simp
          go_at_call 227
          refine (HR18.out _).mono ?_
          rintro e wx ⟨rfl, hwx⟩
          subst hwx
          go_wp2_with fail
          refine hK'.out _ _ (fun _ => ⟨d16, d7⟩) (fun hHeld => ?_)
          clear hK' K'
          try simp only [Act.put, List.setIfInBounds_toArray, List.set_cons_zero, List.set_cons_succ]
          refine AnyP.take (i := 9) (fuel := 10) (d := some 78) (listed' := #[true, true, true, true, true, true, true, true, true, true, true, true, false, false, true, true, true, true, false, true, false, true, false, false, true, true, false, false, false, false]) (oi := _) (v := ?v9l2) rfl (by kernel_rfl) (by kernel_rfl) (by kernel_rfl) (fun _ _ _ h => h) (Or.inl ⟨by rfl, ?hy9l2⟩) (by rfl) (by rfl) ?rest9l2
          case hy9l2 => intro w; go_simp; try with_reducible rfl
          try simp only [Act.put, List.setIfInBounds_toArray, List.set_cons_zero, List.set_cons_succ]
          refine AnyP.take (i := 12) (fuel := 9) (d := some 81) (listed' := #[true, true, true, true, true, true, true, true, true, true, true, true, true, false, true, true, true, true, false, true, false, true, false, false, true, true, false, false, false, false]) (oi := _) (v := ?v12l2) rfl (by kernel_rfl) (by kernel_rfl) (by kernel_rfl) (fun _ _ _ h => h) (Or.inl ⟨by rfl, ?hy12l2⟩) (by rfl) (by rfl) ?rest12l2
          case hy12l2 => intro w; go_simp; try with_reducible rfl
          try simp only [Act.put, List.setIfInBounds_toArray, List.set_cons_zero, List.set_cons_succ]
          refine AnyP.take (i := 13) (fuel := 8) (d := some 82) (listed' := #[true, true, true, true, true, true, true, true, true, true, true, true, true, true, true, true, true, true, false, true, false, true, false, false, true, true, false, false, false, false]) (oi := _) (v := ?v13l2) rfl (by kernel_rfl) (by kernel_rfl) (by kernel_rfl) (fun _ _ _ h => h) (Or.inl ⟨by rfl, ?hy13l2⟩) (by rfl) (by rfl) ?rest13l2
          case hy13l2 => intro w; go_simp; try with_reducible rfl
          try simp only [Act.put, List.setIfInBounds_toArray, List.set_cons_zero, List.set_cons_succ]
          refine AnyP.take (i := 18) (fuel := 7) (d := some 87) (listed' := #[true, true, true, true, true, true, true, true, true, true, true, true, true, true, true, true, true, true, true, true, false, true, false, false, true, true, false, false, false, false]) (oi := _) (v := ?v18l2) rfl (by kernel_rfl) (by kernel_rfl) (by kernel_rfl) (fun _ _ _ h => h) (Or.inl ⟨by rfl, ?hy18l2⟩) (by rfl) (by rfl) ?rest18l2
          case hy18l2 => intro w; go_simp; try with_reducible rfl
          try simp only [Act.put, List.setIfInBounds_toArray, List.set_cons_zero, List.set_cons_succ]
          refine AnyP.one (i := 20) (o := ?o20l2) (fuel := 6) (listed' := #[true, true, true, true, true, true, true, true, true, true, true, true, true, true, true, true, true, true, true, true, true, true, false, false, true, true, false, false, false, false]) (by kernel_rfl) ?ho20l2 (by rfl) (fun K' hK' => ?step20l2)
          case ho20l2 => simp only [List.getElem?_toArray, List.getElem?_cons_succ, List.getElem?_cons_zero]; rfl
          go_simp
          go_at_call 227
          refine (HR17.out _).mono ?_
          rintro e wx ⟨rfl, hwx⟩
          subst hwx
          go_wp2_with fail
          refine hK'.out _ _ (fun _ => ⟨d16, d7⟩) (fun hHeld => ?_)
          clear hK' K'
          try simp only [Act.put, List.setIfInBounds_toArray, List.set_cons_zero, List.set_cons_succ]
          refine AnyP.one (i := 22) (o := ?o22l2) (fuel := 5) (listed' := #[true, true, true, true, true, true, true, true, true, true, true, true, true, true, true, true, true, true, true, true, true, true, true, false, true, true, false, false, false, false]) (by kernel_rfl) ?ho22l2 (by rfl) (fun K' hK' => ?step22l2)
          case ho22l2 => simp only [List.getElem?_toArray, List.getElem?_cons_succ, List.getElem?_cons_zero]; rfl
          go_simp
          go_at_call 227
          refine (HR19.out _).mono ?_
          rintro e wx ⟨rfl, hwx⟩
          subst hwx
          go_wp2_with fail
          refine hK'.out _ _ (fun _ => ⟨d16, d7⟩) (fun hHeld => ?_)
          clear hK' K'
          try simp only [Act.put, List.setIfInBounds_toArray, List.set_cons_zero, List.set_cons_succ]
          refine AnyP.take (i := 23) (fuel := 4) (d := some 92) (listed' := #[true, true, true, true, true, true, true, true, true, true, true, true, true, true, true, true, true, true, true, true, true, true, true, true, true, true, false, false, false, false]) (oi := _) (v := ?v23l2) rfl (by kernel_rfl) (by kernel_rfl) (by kernel_rfl) (fun _ _ _ h => h) (Or.inl ⟨by rfl, ?hy23l2⟩) (by rfl) (by rfl) ?rest23l2
          case hy23l2 => intro w; go_simp; try with_reducible rfl
          try simp only [Act.put, List.setIfInBounds_toArray, List.set_cons_zero, List.set_cons_succ]
          refine AnyP.take (i := 26) (fuel := 3) (d := some 95) (listed' := #[true, true, true, true, true, true, true, true, true, true, true, true, true, true, true, true, true, true, true, true, true, true, true, true, true, true, true, false, false, false]) (oi := _) (v := ?v26l2) rfl (by kernel_rfl) (by kernel_rfl) (by kernel_rfl) (fun _ _ _ h => h) (Or.inl ⟨by rfl, ?hy26l2⟩) (by rfl) (by rfl) ?rest26l2
          case hy26l2 => intro w; go_simp; try with_reducible rfl
          try simp only [Act.put, List.setIfInBounds_toArray, List.set_cons_zero, List.set_cons_succ]
          refine AnyP.take (i := 27) (fuel := 2) (d := some 96) (listed' := #[true, true, true, true, true, true, true, true, true, true, true, true, true, true, true, true, true, true, true, true, true, true, true, true, true, true, true, true, false, false]) (oi := _) (v := ?v27l2) rfl (by kernel_rfl) (by kernel_rfl) (by kernel_rfl) (fun _ _ _ h => h) (Or.inl ⟨by rfl, ?hy27l2⟩) (by rfl) (by rfl) ?rest27l2
          case hy27l2 => intro w; go_simp; try with_reducible rfl
          try simp only [Act.put, List.setIfInBounds_toArray, List.set_cons_zero, List.set_cons_succ]
          refine AnyP.take (i := 28) (fuel := 1) (d := some 97) (listed' := #[true, true, true, true, true, true, true, true, true, true, true, true, true, true, true, true, true, true, true, true, true, true, true, true, true, true, true, true, true, false]) (oi := _) (v := ?v28l2) rfl (by kernel_rfl) (by kernel_rfl) (by kernel_rfl) (fun _ _ _ h => h) (Or.inl ⟨by rfl, ?hy28l2⟩) (by rfl) (by rfl) ?rest28l2
          case hy28l2 => intro w; go_simp; try with_reducible rfl
          try simp only [Act.put, List.setIfInBounds_toArray, List.set_cons_zero, List.set_cons_succ]
          refine AnyP.one (i := 29) (o := ?o29l2) (fuel := 0) (listed' := #[true, true, true, true, true, true, true, true, true, true, true, true, true, true, true, true, true, true, true, true, true, true, true, true, true, true, true, true, true, true]) (by kernel_rfl) ?ho29l2 (by rfl) (fun K' hK' => ?step29l2)
          case ho29l2 => simp only [List.getElem?_toArray, List.getElem?_cons_succ, List.getElem?_cons_zero]; rfl
          go_simp
          refine hK'.out _ _ (fun h => absurd (by decide) h) (fun hHeld => ?_)
          clear hK' K'
          try simp only [Act.put, List.setIfInBounds_toArray, List.set_cons_zero, List.set_cons_succ]
          refine AnyP.done (by kernel_rfl) ?_ _
          rw [HQ.out]
          go_wp2_with fail
          go_roundg (64 - (k + 1))
          case measure => have := HG.out; omega
          case rel =>
            refine ⟨k + 1, _, by go_num, by omega, by omega, by omega, (HMN.out.store k (.int .u32 (rr : Int))).drew, ?_⟩
            rw [HRR.out]
            exact HD.out.next (by omega)
        · obtain rfl : k = 64 := by omega
          have hlt2 : decide ((64 : Int) < 64) = false := by simp
          clear hlt
          have HRO := Lib.hid (fun w => rounds_calls w)
          have hO8 : O.size = 8 := by rw [HO.out]; rfl
          have hO1 : O.all (·.oneCell') = true := by rw [HO.out]; exact octA_one v
          clear hk0 hk HG
          go_wp2_with fail
          go_cut [10, 11] (fun s10 s11 wx => ∃ p q, s10 = .pointer (some ⟨p, 0, none⟩) ∧ s11 = .pointer (some ⟨q, 0, none⟩) ∧ Hid (MixV w w.heap.size O cw p q O kArr wx))
          case first =>
            have HMD := Lib.hid HMW.out.drew
            have hHD := HMD.out.h
            obtain ⟨WD, hWD⟩ : ∃ WD, WD = wr.drew := ⟨_, rfl⟩
            refine AnyP.start [4, 5] (fun w' => Box w' w.heap.size O 286) (by kernel_rfl) hHD (n := 6) (listed := #[false, false, false, false, false, false]) (by kernel_rfl) (by kernel_rfl) (fun hHeld => ?_)
            refine AnyP.load (i := 0) (fuel := 5) (d := some 98) (listed' := #[true, false, false, false, false, false]) (oi := _) (v := .agg O.toList.toArray) [4, 5] rfl (by kernel_rfl) (by kernel_rfl) (by kernel_rfl) (by kernel_rfl) (by kernel_rfl) (by kernel_rfl) (fun _ _ _ h => h) (yieldsIf_load_mid (by rfl) _ _ rfl w.heap.size 0 rfl O.toList _ (fun _ h => h.range) Try.underlying286 rfl (by rw [Array.length_toList, hO8]; exact size8u)) hHeld (by rfl) (by rfl) ?_
            try simp only [Act.put, List.setIfInBounds_toArray, List.set_cons_zero, List.set_cons_succ, Array.toArray_toList]
            rw [← hWD] at HMD hHD ⊢
            clear hWD hHeld
            refine AnyP.three (i := 1) (j := 2) (m := 3) (oi := ?oa) (oj := ?ob) (om := ?oc) (fuel := 4) (listed1 := #[true, true, false, false, false, false]) (listed2 := #[true, false, true, false, false, false]) (listed3 := #[true, false, false, true, false, false]) (by kernel_rfl) ?hoa ?hob ?hoc (by rfl) (by rfl) (by rfl) (fun K' hK' => ?sC) (fun K' hK' => ?sA) (fun K' hK' => ?sB)
            case hoa => simp only [List.getElem?_toArray, List.getElem?_cons_succ, List.getElem?_cons_zero]; rfl
            case hob => simp only [List.getElem?_toArray, List.getElem?_cons_succ, List.getElem?_cons_zero]; rfl
            case hoc => simp only [List.getElem?_toArray, List.getElem?_cons_succ, List.getElem?_cons_zero]; rfl
            case' sC =>
              go_simp
              go_at_call 228
              refine (HRO.out _).mono ?_
              rintro e WC ⟨rfl, hbC⟩
              go_wp2_with fail
              have HMC := Lib.hid (HMD.out.call hbC)
              have hlC := HMC.out.w.lt
              have hzC := hbC.size
              refine hK'.out _ _ (fun _ => HMC.out.h) (fun hHeld => ?_)
              clear hK' K'
              try simp only [Act.put, List.setIfInBounds_toArray, List.set_cons_zero, List.set_cons_succ, Array.toArray_toList]
              refine AnyP.two (i := 2) (j := 3) (oi := ?oiC) (oj := ?ojC) (fuel := 3) (listed1 := #[true, true, true, false, false, false]) (listed2 := #[true, true, false, true, false, false]) (by kernel_rfl) ?hoiC ?hojC (by rfl) (by rfl) (fun K' hK' => ?tCA) (fun K' hK' => ?tCB)
              case hoiC => simp only [List.getElem?_toArray, List.getElem?_cons_succ, List.getElem?_cons_zero]; rfl
              case hojC => simp only [List.getElem?_toArray, List.getElem?_cons_succ, List.getElem?_cons_zero]; rfl
              case' tCA =>
                go_simp
                obtain ⟨WCA, hWCA⟩ : ∃ WCA, WCA = WC.alloc (.cells #[.int .u32 0, .int .u32 0, .int .u32 0, .int .u32 0, .int .u32 0, .int .u32 0, .int .u32 0, .int .u32 0] 286) := ⟨_, rfl⟩
                have hbCA : Below WC.heap.size WC WCA := by rw [hWCA]; exact (Below.refl _ _).alloc (Nat.le_refl _) _
                have hsCA : WCA.heap.size = WC.heap.size + 1 := by rw [hWCA]; simp
                have HMCA := Lib.hid (HMC.out.call hbCA)
                have HACA := Lib.hid (show Box WCA (WC.heap.size) (Array.replicate 8 (.int .u32 0)) 286 by rw [hWCA]; exact Box.new WC _ _)
                rw [← hWCA]
                clear hWCA
                have hlCA := HMCA.out.w.lt
                have hzCA := hbCA.size
                refine hK'.out _ _ (fun _ => HMCA.out.h) (fun hHeld => ?_)
                clear hK' K'
                try simp only [Act.put, List.setIfInBounds_toArray, List.set_cons_zero, List.set_cons_succ, Array.toArray_toList]
                refine AnyP.one (i := 3) (o := ?ozCAB) (fuel := 2) (listed' := #[true, true, true, true, false, false]) (by kernel_rfl) ?hozCAB (by rfl) (fun K' hK' => ?szCAB)
                case hozCAB => simp only [List.getElem?_toArray, List.getElem?_cons_succ, List.getElem?_cons_zero]; rfl
                go_simp
                obtain ⟨WCAB, hWCAB⟩ : ∃ WCAB, WCAB = WCA.alloc (.cells #[.int .u32 0, .int .u32 0, .int .u32 0, .int .u32 0, .int .u32 0, .int .u32 0, .int .u32 0, .int .u32 0, .int .u32 0, .int .u32 0, .int .u32 0, .int .u32 0, .int .u32 0, .int .u32 0, .int .u32 0, .int .u32 0, .int .u32 0, .int .u32 0, .int .u32 0, .int .u32 0, .int .u32 0, .int .u32 0, .int .u32 0, .int .u32 0, .int .u32 0, .int .u32 0, .int .u32 0, .int .u32 0, .int .u32 0, .int .u32 0, .int .u32 0, .int .u32 0, .int .u32 0, .int .u32 0, .int .u32 0, .int .u32 0, .int .u32 0, .int .u32 0, .int .u32 0, .int .u32 0, .int .u32 0, .int .u32 0, .int .u32 0, .int .u32 0, .int .u32 0, .int .u32 0, .int .u32 0, .int .u32 0, .int .u32 0, .int .u32 0, .int .u32 0, .int .u32 0, .int .u32 0, .int .u32 0, .int .u32 0, .int .u32 0, .int .u32 0, .int .u32 0, .int .u32 0, .int .u32 0, .int .u32 0, .int .u32 0, .int .u32 0, .int .u32 0] 292) := ⟨_, rfl⟩
                have hbCAB : Below WCA.heap.size WCA WCAB := by rw [hWCAB]; exact (Below.refl _ _).alloc (Nat.le_refl _) _
                have hsCAB : WCAB.heap.size = WCA.heap.size + 1 := by rw [hWCAB]; simp
                have HMCAB := Lib.hid (HMCA.out.call hbCAB)
                have HBCAB := Lib.hid (show Box WCAB (WC.heap.size + 1) (Array.replicate 64 (.int .u32 0)) 292 by have hx := Box.new WCA #[.int .u32 0, .int .u32 0, .int .u32 0, .int .u32 0, .int .u32 0, .int .u32 0, .int .u32 0, .int .u32 0, .int .u32 0, .int .u32 0, .int .u32 0, .int .u32 0, .int .u32 0, .int .u32 0, .int .u32 0, .int .u32 0, .int .u32 0, .int .u32 0, .int .u32 0, .int .u32 0, .int .u32 0, .int .u32 0, .int .u32 0, .int .u32 0, .int .u32 0, .int .u32 0, .int .u32 0, .int .u32 0, .int .u32 0, .int .u32 0, .int .u32 0, .int .u32 0, .int .u32 0, .int .u32 0, .int .u32 0, .int .u32 0, .int .u32 0, .int .u32 0, .int .u32 0, .int .u32 0, .int .u32 0, .int .u32 0, .int .u32 0, .int .u32 0, .int .u32 0, .int .u32 0, .int .u32 0, .int .u32 0, .int .u32 0, .int .u32 0, .int .u32 0, .int .u32 0, .int .u32 0, .int .u32 0, .int .u32 0, .int .u32 0, .int .u32 0, .int .u32 0, .int .u32 0, .int .u32 0, .int .u32 0, .int .u32 0, .int .u32 0, .int .u32 0] 292; rw [hsCA] at hx; rw [hWCAB]; exact hx)
                have HACAB := Lib.hid (HACA.out.past hbCAB)
                rw [← hWCAB]
                clear hWCAB
                have hlCAB := HMCAB.out.w.lt
                have hzCAB := hbCAB.size
                refine hK'.out _ _ (fun _ => HMCAB.out.h) (fun hHeld => ?_)
                clear hK' K'
                try simp only [Act.put, List.setIfInBounds_toArray, List.set_cons_zero, List.set_cons_succ, Array.toArray_toList]
                have HVCAB := Lib.hid (show MixV w w.heap.size O cw (WC.heap.size) (WC.heap.size + 1) (Array.replicate 8 (.int .u32 0)) (Array.replicate 64 (.int .u32 0)) WCAB from ⟨HMCAB.out, HACAB.out, HBCAB.out, by have := HMD.out.w.lt; omega, by have := HMD.out.w.lt; omega, by omega⟩)
                refine AnyP.one (i := 4) (o := ?o4CAB) (fuel := 1) (listed' := #[true, true, true, true, true, false]) (by kernel_rfl) ?ho4CAB (by rfl) (fun K' hK' => ?step4CAB)
                case ho4CAB => simp only [List.getElem?_toArray, List.getElem?_cons_succ, List.getElem?_cons_zero]; rfl
                rw [if_pos (by rfl)]
                refine wp_store_mid _ _ _ rfl (WC.heap.size) 0 O rfl rfl (by rw [hO8]; exact HVCAB.out.bp.there) (by rw [hO8]; exact size8u) hO1 ?_
                have HFCAB := Lib.hid (HVCAB.out.fillP (vs := O) hO8)
                refine hK'.out _ _ (fun h => absurd (by decide) h) (fun _ => ?_)
                clear hK' K'
                try simp only [Act.put, List.setIfInBounds_toArray, List.set_cons_zero, List.set_cons_succ, Array.toArray_toList]
                refine AnyP.one (i := 5) (o := ?o5CAB) (fuel := 0) (listed' := #[true, true, true, true, true, true]) (by kernel_rfl) ?ho5CAB (by rfl) (fun K' hK' => ?step5CAB)
                case ho5CAB => simp only [List.getElem?_toArray, List.getElem?_cons_succ, List.getElem?_cons_zero]; rfl
                rw [if_pos (by rfl)]
                refine wp_store_mid _ _ _ rfl (WC.heap.size + 1) 0 kArr rfl rfl (by rw [kArr_size]; exact HFCAB.out.bq.there) (by rw [kArr_size]; exact size64) kArr_one ?_
                refine hK'.out _ _ (fun h => absurd (by decide) h) (fun _ => ?_)
                clear hK' K'
                try simp only [Act.put, List.setIfInBounds_toArray, List.set_cons_zero, List.set_cons_succ, Array.toArray_toList]
                refine AnyP.done (by kernel_rfl) ?_ _
                go_wp2_with fail
                go_meet
                exact ⟨_, _, rfl, rfl, HFCAB.out.fillQ (vs := kArr) rfl⟩
              case' tCB =>
                go_simp
                obtain ⟨WCB, hWCB⟩ : ∃ WCB, WCB = WC.alloc (.cells #[.int .u32 0, .int .u32 0, .int .u32 0, .int .u32 0, .int .u32 0, .int .u32 0, .int .u32 0, .int .u32 0, .int .u32 0, .int .u32 0, .int .u32 0, .int .u32 0, .int .u32 0, .int .u32 0, .int .u32 0, .int .u32 0, .int .u32 0, .int .u32 0, .int .u32 0, .int .u32 0, .int .u32 0, .int .u32 0, .int .u32 0, .int .u32 0, .int .u32 0, .int .u32 0, .int .u32 0, .int .u32 0, .int .u32 0, .int .u32 0, .int .u32 0, .int .u32 0, .int .u32 0, .int .u32 0, .int .u32 0, .int .u32 0, .int .u32 0, .int .u32 0, .int .u32 0, .int .u32 0, .int .u32 0, .int .u32 0, .int .u32 0, .int .u32 0, .int .u32 0, .int .u32 0, .int .u32 0, .int .u32 0, .int .u32 0, .int .u32 0, .int .u32 0, .int .u32 0, .int .u32 0, .int .u32 0, .int .u32 0, .int .u32 0, .int .u32 0, .int .u32 0, .int .u32 0, .int .u32 0, .int .u32 0, .int .u32 0, .int .u32 0, .int .u32 0] 292) := ⟨_, rfl⟩
                have hbCB : Below WC.heap.size WC WCB := by rw [hWCB]; exact (Below.refl _ _).alloc (Nat.le_refl _) _
                have hsCB : WCB.heap.size = WC.heap.size + 1 := by rw [hWCB]; simp
                have HMCB := Lib.hid (HMC.out.call hbCB)
                have HBCB := Lib.hid (show Box WCB (WC.heap.size) (Array.replicate 64 (.int .u32 0)) 292 by rw [hWCB]; exact Box.new WC _ _)
                rw [← hWCB]
                clear hWCB
                have hlCB := HMCB.out.w.lt
                have hzCB := hbCB.size
                refine hK'.out _ _ (fun _ => HMCB.out.h) (fun hHeld => ?_)
                clear hK' K'
                try simp only [Act.put, List.setIfInBounds_toArray, List.set_cons_zero, List.set_cons_succ, Array.toArray_toList]
                refine AnyP.one (i := 2) (o := ?ozCBA) (fuel := 2) (listed' := #[true, true, true, true, false, false]) (by kernel_rfl) ?hozCBA (by rfl) (fun K' hK' => ?szCBA)
                case hozCBA => simp only [List.getElem?_toArray, List.getElem?_cons_succ, List.getElem?_cons_zero]; rfl
                go_simp
                obtain ⟨WCBA, hWCBA⟩ : ∃ WCBA, WCBA = WCB.alloc (.cells #[.int .u32 0, .int .u32 0, .int .u32 0, .int .u32 0, .int .u32 0, .int .u32 0, .int .u32 0, .int .u32 0] 286) := ⟨_, rfl⟩
                have hbCBA : Below WCB.heap.size WCB WCBA := by rw [hWCBA]; exact (Below.refl _ _).alloc (Nat.le_refl _) _
                have hsCBA : WCBA.heap.size = WCB.heap.size + 1 := by rw [hWCBA]; simp
                have HMCBA := Lib.hid (HMCB.out.call hbCBA)
                have HACBA := Lib.hid (show Box WCBA (WC.heap.size + 1) (Array.replicate 8 (.int .u32 0)) 286 by have hx := Box.new WCB #[.int .u32 0, .int .u32 0, .int .u32 0, .int .u32 0, .int .u32 0, .int .u32 0, .int .u32 0, .int .u32 0] 286; rw [hsCB] at hx; rw [hWCBA]; exact hx)
                have HBCBA := Lib.hid (HBCB.out.past hbCBA)
                rw [← hWCBA]
                clear hWCBA
                have hlCBA := HMCBA.out.w.lt
                have hzCBA := hbCBA.size
                refine hK'.out _ _ (fun _ => HMCBA.out.h) (fun hHeld => ?_)
                clear hK' K'
                try simp only [Act.put, List.setIfInBounds_toArray, List.set_cons_zero, List.set_cons_succ, Array.toArray_toList]
                have HVCBA := Lib.hid (show MixV w w.heap.size O cw (WC.heap.size + 1) (WC.heap.size) (Array.replicate 8 (.int .u32 0)) (Array.replicate 64 (.int .u32 0)) WCBA from ⟨HMCBA.out, HACBA.out, HBCBA.out, by have := HMD.out.w.lt; omega, by have := HMD.out.w.lt; omega, by omega⟩)
                refine AnyP.one (i := 4) (o := ?o4CBA) (fuel := 1) (listed' := #[true, true, true, true, true, false]) (by kernel_rfl) ?ho4CBA (by rfl) (fun K' hK' => ?step4CBA)
                case ho4CBA => simp only [List.getElem?_toArray, List.getElem?_cons_succ, List.getElem?_cons_zero]; rfl
                rw [if_pos (by rfl)]
                refine wp_store_mid _ _ _ rfl (WC.heap.size + 1) 0 O rfl rfl (by rw [hO8]; exact HVCBA.out.bp.there) (by rw [hO8]; exact size8u) hO1 ?_
                have HFCBA := Lib.hid (HVCBA.out.fillP (vs := O) hO8)
                refine hK'.out _ _ (fun h => absurd (by decide) h) (fun _ => ?_)
                clear hK' K'
                try simp only [Act.put, List.setIfInBounds_toArray, List.set_cons_zero, List.set_cons_succ, Array.toArray_toList]
                refine AnyP.one (i := 5) (o := ?o5CBA) (fuel := 0) (listed' := #[true, true, true, true, true, true]) (by kernel_rfl) ?ho5CBA (by rfl) (fun K' hK' => ?step5CBA)
                case ho5CBA => simp only [List.getElem?_toArray, List.getElem?_cons_succ, List.getElem?_cons_zero]; rfl
                rw [if_pos (by rfl)]
                refine wp_store_mid _ _ _ rfl (WC.heap.size) 0 kArr rfl rfl (by rw [kArr_size]; exact HFCBA.out.bq.there) (by rw [kArr_size]; exact size64) kArr_one ?_
                refine hK'.out _ _ (fun h => absurd (by decide) h) (fun _ => ?_)
                clear hK' K'
                try simp only [Act.put, List.setIfInBounds_toArray, List.set_cons_zero, List.set_cons_succ, Array.toArray_toList]
                refine AnyP.done (by kernel_rfl) ?_ _
                go_wp2_with fail
                go_meet
                exact ⟨_, _, rfl, rfl, HFCBA.out.fillQ (vs := kArr) rfl⟩
            case' sA =>
              go_simp
              obtain ⟨WA, hWA⟩ : ∃ WA, WA = WD.alloc (.cells #[.int .u32 0, .int .u32 0, .int .u32 0, .int .u32 0, .int .u32 0, .int .u32 0, .int .u32 0, .int .u32 0] 286) := ⟨_, rfl⟩
              have hbA : Below WD.heap.size WD WA := by rw [hWA]; exact (Below.refl _ _).alloc (Nat.le_refl _) _
              have hsA : WA.heap.size = WD.heap.size + 1 := by rw [hWA]; simp
              have HMA := Lib.hid (HMD.out.call hbA)
              have HAA := Lib.hid (show Box WA (WD.heap.size) (Array.replicate 8 (.int .u32 0)) 286 by rw [hWA]; exact Box.new WD _ _)
              rw [← hWA]
              clear hWA
              have hlA := HMA.out.w.lt
              have hzA := hbA.size
              refine hK'.out _ _ (fun _ => HMA.out.h) (fun hHeld => ?_)
              clear hK' K'
              try simp only [Act.put, List.setIfInBounds_toArray, List.set_cons_zero, List.set_cons_succ, Array.toArray_toList]
              refine AnyP.two (i := 1) (j := 3) (oi := ?oiA) (oj := ?ojA) (fuel := 3) (listed1 := #[true, true, true, false, false, false]) (listed2 := #[true, false, true, true, false, false]) (by kernel_rfl) ?hoiA ?hojA (by rfl) (by rfl) (fun K' hK' => ?tAC) (fun K' hK' => ?tAB)
              case hoiA => simp only [List.getElem?_toArray, List.getElem?_cons_succ, List.getElem?_cons_zero]; rfl
              case hojA => simp only [List.getElem?_toArray, List.getElem?_cons_succ, List.getElem?_cons_zero]; rfl
              case' tAC =>
                go_simp
                go_at_call 228
                refine (HRO.out _).mono ?_
                rintro e WAC ⟨rfl, hbAC⟩
                go_wp2_with fail
                have HMAC := Lib.hid (HMA.out.call hbAC)
                have HAAC := Lib.hid (HAA.out.past hbAC)
                have hlAC := HMAC.out.w.lt
                have hzAC := hbAC.size
                refine hK'.out _ _ (fun _ => HMAC.out.h) (fun hHeld => ?_)
                clear hK' K'
                try simp only [Act.put, List.setIfInBounds_toArray, List.set_cons_zero, List.set_cons_succ, Array.toArray_toList]
                refine AnyP.one (i := 3) (o := ?ozACB) (fuel := 2) (listed' := #[true, true, true, true, false, false]) (by kernel_rfl) ?hozACB (by rfl) (fun K' hK' => ?szACB)
                case hozACB => simp only [List.getElem?_toArray, List.getElem?_cons_succ, List.getElem?_cons_zero]; rfl
                go_simp
                obtain ⟨WACB, hWACB⟩ : ∃ WACB, WACB = WAC.alloc (.cells #[.int .u32 0, .int .u32 0, .int .u32 0, .int .u32 0, .int .u32 0, .int .u32 0, .int .u32 0, .int .u32 0, .int .u32 0, .int .u32 0, .int .u32 0, .int .u32 0, .int .u32 0, .int .u32 0, .int .u32 0, .int .u32 0, .int .u32 0, .int .u32 0, .int .u32 0, .int .u32 0, .int .u32 0, .int .u32 0, .int .u32 0, .int .u32 0, .int .u32 0, .int .u32 0, .int .u32 0, .int .u32 0, .int .u32 0, .int .u32 0, .int .u32 0, .int .u32 0, .int .u32 0, .int .u32 0, .int .u32 0, .int .u32 0, .int .u32 0, .int .u32 0, .int .u32 0, .int .u32 0, .int .u32 0, .int .u32 0, .int .u32 0, .int .u32 0, .int .u32 0, .int .u32 0, .int .u32 0, .int .u32 0, .int .u32 0, .int .u32 0, .int .u32 0, .int .u32 0, .int .u32 0, .int .u32 0, .int .u32 0, .int .u32 0, .int .u32 0, .int .u32 0, .int .u32 0, .int .u32 0, .int .u32 0, .int .u32 0, .int .u32 0, .int .u32 0] 292) := ⟨_, rfl⟩
                have hbACB : Below WAC.heap.size WAC WACB := by rw [hWACB]; exact (Below.refl _ _).alloc (Nat.le_refl _) _
                have hsACB : WACB.heap.size = WAC.heap.size + 1 := by rw [hWACB]; simp
                have HMACB := Lib.hid (HMAC.out.call hbACB)
                have HBACB := Lib.hid (show Box WACB (WAC.heap.size) (Array.replicate 64 (.int .u32 0)) 292 by rw [hWACB]; exact Box.new WAC _ _)
                have HAACB := Lib.hid (HAAC.out.past hbACB)
                rw [← hWACB]
                clear hWACB
                have hlACB := HMACB.out.w.lt
                have hzACB := hbACB.size
                refine hK'.out _ _ (fun _ => HMACB.out.h) (fun hHeld => ?_)
                clear hK' K'
                try simp only [Act.put, List.setIfInBounds_toArray, List.set_cons_zero, List.set_cons_succ, Array.toArray_toList]
                have HVACB := Lib.hid (show MixV w w.heap.size O cw (WD.heap.size) (WAC.heap.size) (Array.replicate 8 (.int .u32 0)) (Array.replicate 64 (.int .u32 0)) WACB from ⟨HMACB.out, HAACB.out, HBACB.out, by have := HMD.out.w.lt; omega, by have := HMD.out.w.lt; omega, by omega⟩)
                refine AnyP.one (i := 4) (o := ?o4ACB) (fuel := 1) (listed' := #[true, true, true, true, true, false]) (by kernel_rfl) ?ho4ACB (by rfl) (fun K' hK' => ?step4ACB)
                case ho4ACB => simp only [List.getElem?_toArray, List.getElem?_cons_succ, List.getElem?_cons_zero]; rfl
                rw [if_pos (by rfl)]
                refine wp_store_mid _ _ _ rfl (WD.heap.size) 0 O rfl rfl (by rw [hO8]; exact HVACB.out.bp.there) (by rw [hO8]; exact size8u) hO1 ?_
                have HFACB := Lib.hid (HVACB.out.fillP (vs := O) hO8)
                refine hK'.out _ _ (fun h => absurd (by decide) h) (fun _ => ?_)
                clear hK' K'
                try simp only [Act.put, List.setIfInBounds_toArray, List.set_cons_zero, List.set_cons_succ, Array.toArray_toList]
                refine AnyP.one (i := 5) (o := ?o5ACB) (fuel := 0) (listed' := #[true, true, true, true, true, true]) (by kernel_rfl) ?ho5ACB (by rfl) (fun K' hK' => ?step5ACB)
                case ho5ACB => simp only [List.getElem?_toArray, List.getElem?_cons_succ, List.getElem?_cons_zero]; rfl
                rw [if_pos (by rfl)]
                refine wp_store_mid _ _ _ rfl (WAC.heap.size) 0 kArr rfl rfl (by rw [kArr_size]; exact HFACB.out.bq.there) (by rw [kArr_size]; exact size64) kArr_one ?_
                refine hK'.out _ _ (fun h => absurd (by decide) h) (fun _ => ?_)
                clear hK' K'
                try simp only [Act.put, List.setIfInBounds_toArray, List.set_cons_zero, List.set_cons_succ, Array.toArray_toList]
                refine AnyP.done (by kernel_rfl) ?_ _
                go_wp2_with fail
                go_meet
                exact ⟨_, _, rfl, rfl, HFACB.out.fillQ (vs := kArr) rfl⟩
              case' tAB =>
                go_simp
                obtain ⟨WAB, hWAB⟩ : ∃ WAB, WAB = WA.alloc (.cells #[.int .u32 0, .int .u32 0, .int .u32 0, .int .u32 0, .int .u32 0, .int .u32 0, .int .u32 0, .int .u32 0, .int .u32 0, .int .u32 0, .int .u32 0, .int .u32 0, .int .u32 0, .int .u32 0, .int .u32 0, .int .u32 0, .int .u32 0, .int .u32 0, .int .u32 0, .int .u32 0, .int .u32 0, .int .u32 0, .int .u32 0, .int .u32 0, .int .u32 0, .int .u32 0, .int .u32 0, .int .u32 0, .int .u32 0, .int .u32 0, .int .u32 0, .int .u32 0, .int .u32 0, .int .u32 0, .int .u32 0, .int .u32 0, .int .u32 0, .int .u32 0, .int .u32 0, .int .u32 0, .int .u32 0, .int .u32 0, .int .u32 0, .int .u32 0, .int .u32 0, .int .u32 0, .int .u32 0, .int .u32 0, .int .u32 0, .int .u32 0, .int .u32 0, .int .u32 0, .int .u32 0, .int .u32 0, .int .u32 0, .int .u32 0, .int .u32 0, .int .u32 0, .int .u32 0, .int .u32 0, .int .u32 0, .int .u32 0, .int .u32 0, .int .u32 0] 292) := ⟨_, rfl⟩
                have hbAB : Below WA.heap.size WA WAB := by rw [hWAB]; exact (Below.refl _ _).alloc (Nat.le_refl _) _
                have hsAB : WAB.heap.size = WA.heap.size + 1 := by rw [hWAB]; simp
                have HMAB := Lib.hid (HMA.out.call hbAB)
                have HBAB := Lib.hid (show Box WAB (WD.heap.size + 1) (Array.replicate 64 (.int .u32 0)) 292 by have hx := Box.new WA #[.int .u32 0, .int .u32 0, .int .u32 0, .int .u32 0, .int .u32 0, .int .u32 0, .int .u32 0, .int .u32 0, .int .u32 0, .int .u32 0, .int .u32 0, .int .u32 0, .int .u32 0, .int .u32 0, .int .u32 0, .int .u32 0, .int .u32 0, .int .u32 0, .int .u32 0, .int .u32 0, .int .u32 0, .int .u32 0, .int .u32 0, .int .u32 0, .int .u32 0, .int .u32 0, .int .u32 0, .int .u32 0, .int .u32 0, .int .u32 0, .int .u32 0, .int .u32 0, .int .u32 0, .int .u32 0, .int .u32 0, .int .u32 0, .int .u32 0, .int .u32 0, .int .u32 0, .int .u32 0, .int .u32 0, .int .u32 0, .int .u32 0, .int .u32 0, .int .u32 0, .int .u32 0, .int .u32 0, .int .u32 0, .int .u32 0, .int .u32 0, .int .u32 0, .int .u32 0, .int .u32 0, .int .u32 0, .int .u32 0, .int .u32 0, .int .u32 0, .int .u32 0, .int .u32 0, .int .u32 0, .int .u32 0, .int .u32 0, .int .u32 0, .int .u32 0] 292; rw [hsA] at hx; rw [hWAB]; exact hx)
                have HAAB := Lib.hid (HAA.out.past hbAB)
                rw [← hWAB]
                clear hWAB
                have hlAB := HMAB.out.w.lt
                have hzAB := hbAB.size
                refine hK'.out _ _ (fun _ => HMAB.out.h) (fun hHeld => ?_)
                clear hK' K'
                try simp only [Act.put, List.setIfInBounds_toArray, List.set_cons_zero, List.set_cons_succ, Array.toArray_toList]
                refine AnyP.one (i := 1) (o := ?ozABC) (fuel := 2) (listed' := #[true, true, true, true, false, false]) (by kernel_rfl) ?hozABC (by rfl) (fun K' hK' => ?szABC)
                case hozABC => simp only [List.getElem?_toArray, List.getElem?_cons_succ, List.getElem?_cons_zero]; rfl
                go_simp
                go_at_call 228
                refine (HRO.out _).mono ?_
                rintro e WABC ⟨rfl, hbABC⟩
                go_wp2_with fail
                have HMABC := Lib.hid (HMAB.out.call hbABC)
                have HAABC := Lib.hid (HAAB.out.past hbABC)
                have HBABC := Lib.hid (HBAB.out.past hbABC)
                have hlABC := HMABC.out.w.lt
                have hzABC := hbABC.size
                refine hK'.out _ _ (fun _ => HMABC.out.h) (fun hHeld => ?_)
                clear hK' K'
                try simp only [Act.put, List.setIfInBounds_toArray, List.set_cons_zero, List.set_cons_succ, Array.toArray_toList]
                have HVABC := Lib.hid (show MixV w w.heap.size O cw (WD.heap.size) (WD.heap.size + 1) (Array.replicate 8 (.int .u32 0)) (Array.replicate 64 (.int .u32 0)) WABC from ⟨HMABC.out, HAABC.out, HBABC.out, by have := HMD.out.w.lt; omega, by have := HMD.out.w.lt; omega, by omega⟩)
                refine AnyP.one (i := 4) (o := ?o4ABC) (fuel := 1) (listed' := #[true, true, true, true, true, false]) (by kernel_rfl) ?ho4ABC (by rfl) (fun K' hK' => ?step4ABC)
                case ho4ABC => simp only [List.getElem?_toArray, List.getElem?_cons_succ, List.getElem?_cons_zero]; rfl
                rw [if_pos (by rfl)]
                refine wp_store_mid _ _ _ rfl (WD.heap.size) 0 O rfl rfl (by rw [hO8]; exact HVABC.out.bp.there) (by rw [hO8]; exact size8u) hO1 ?_
                have HFABC := Lib.hid (HVABC.out.fillP (vs := O) hO8)
                refine hK'.out _ _ (fun h => absurd (by decide) h) (fun _ => ?_)
                clear hK' K'
                try simp only [Act.put, List.setIfInBounds_toArray, List.set_cons_zero, List.set_cons_succ, Array.toArray_toList]
                refine AnyP.one (i := 5) (o := ?o5ABC) (fuel := 0) (listed' := #[true, true, true, true, true, true]) (by kernel_rfl) ?ho5ABC (by rfl) (fun K' hK' => ?step5ABC)
                case ho5ABC => simp only [List.getElem?_toArray, List.getElem?_cons_succ, List.getElem?_cons_zero]; rfl
                rw [if_pos (by rfl)]
                refine wp_store_mid _ _ _ rfl (WD.heap.size + 1) 0 kArr rfl rfl (by rw [kArr_size]; exact HFABC.out.bq.there) (by rw [kArr_size]; exact size64) kArr_one ?_
                refine hK'.out _ _ (fun h => absurd (by decide) h) (fun _ => ?_)
                clear hK' K'
                try simp only [Act.put, List.setIfInBounds_toArray, List.set_cons_zero, List.set_cons_succ, Array.toArray_toList]
                refine AnyP.done (by kernel_rfl) ?_ _
                go_wp2_with fail
                go_meet
                exact ⟨_, _, rfl, rfl, HFABC.out.fillQ (vs := kArr) rfl⟩
            case' sB =>
              go_simp
              obtain ⟨WB, hWB⟩ : ∃ WB, WB = WD.alloc (.cells #[.int .u32 0, .int .u32 0, .int .u32 0, .int .u32 0, .int .u32 0, .int .u32 0, .int .u32 0, .int .u32 0, .int .u32 0, .int .u32 0, .int .u32 0, .int .u32 0, .int .u32 0, .int .u32 0, .int .u32 0, .int .u32 0, .int .u32 0, .int .u32 0, .int .u32 0, .int .u32 0, .int .u32 0, .int .u32 0, .int .u32 0, .int .u32 0, .int .u32 0, .int .u32 0, .int .u32 0, .int .u32 0, .int .u32 0, .int .u32 0, .int .u32 0, .int .u32 0, .int .u32 0, .int .u32 0, .int .u32 0, .int .u32 0, .int .u32 0, .int .u32 0, .int .u32 0, .int .u32 0, .int .u32 0, .int .u32 0, .int .u32 0, .int .u32 0, .int .u32 0, .int .u32 0, .int .u32 0, .int .u32 0, .int .u32 0, .int .u32 0, .int .u32 0, .int .u32 0, .int .u32 0, .int .u32 0, .int .u32 0, .int .u32 0, .int .u32 0, .int .u32 0, .int .u32 0, .int .u32 0, .int .u32 0, .int .u32 0, .int .u32 0, .int .u32 0] 292) := ⟨_, rfl⟩
              have hbB : Below WD.heap.size WD WB := by rw [hWB]; exact (Below.refl _ _).alloc (Nat.le_refl _) _
              have hsB : WB.heap.size = WD.heap.size + 1 := by rw [hWB]; simp
              have HMB := Lib.hid (HMD.out.call hbB)
              have HBB := Lib.hid (show Box WB (WD.heap.size) (Array.replicate 64 (.int .u32 0)) 292 by rw [hWB]; exact Box.new WD _ _)
              rw [← hWB]
              clear hWB
              have hlB := HMB.out.w.lt
              have hzB := hbB.size
              refine hK'.out _ _ (fun _ => HMB.out.h) (fun hHeld => ?_)
              clear hK' K'
              try simp only [Act.put, List.setIfInBounds_toArray, List.set_cons_zero, List.set_cons_succ, Array.toArray_toList]
              refine AnyP.two (i := 1) (j := 2) (oi := ?oiB) (oj := ?ojB) (fuel := 3) (listed1 := #[true, true, false, true, false, false]) (listed2 := #[true, false, true, true, false, false]) (by kernel_rfl) ?hoiB ?hojB (by rfl) (by rfl) (fun K' hK' => ?tBC) (fun K' hK' => ?tBA)
              case hoiB => simp only [List.getElem?_toArray, List.getElem?_cons_succ, List.getElem?_cons_zero]; rfl
              case hojB => simp only [List.getElem?_toArray, List.getElem?_cons_succ, List.getElem?_cons_zero]; rfl
              case' tBC =>
                go_simp
                go_at_call 228
                refine (HRO.out _).mono ?_
                rintro e WBC ⟨rfl, hbBC⟩
                go_wp2_with fail
                have HMBC := Lib.hid (HMB.out.call hbBC)
                have HBBC := Lib.hid (HBB.out.past hbBC)
                have hlBC := HMBC.out.w.lt
                have hzBC := hbBC.size
                refine hK'.out _ _ (fun _ => HMBC.out.h) (fun hHeld => ?_)
                clear hK' K'
                try simp only [Act.put, List.setIfInBounds_toArray, List.set_cons_zero, List.set_cons_succ, Array.toArray_toList]
                refine AnyP.one (i := 2) (o := ?ozBCA) (fuel := 2) (listed' := #[true, true, true, true, false, false]) (by kernel_rfl) ?hozBCA (by rfl) (fun K' hK' => ?szBCA)
                case hozBCA => simp only [List.getElem?_toArray, List.getElem?_cons_succ, List.getElem?_cons_zero]; rfl
                go_simp
                obtain ⟨WBCA, hWBCA⟩ : ∃ WBCA, WBCA = WBC.alloc (.cells #[.int .u32 0, .int .u32 0, .int .u32 0, .int .u32 0, .int .u32 0, .int .u32 0, .int .u32 0, .int .u32 0] 286) := ⟨_, rfl⟩
                have hbBCA : Below WBC.heap.size WBC WBCA := by rw [hWBCA]; exact (Below.refl _ _).alloc (Nat.le_refl _) _
                have hsBCA : WBCA.heap.size = WBC.heap.size + 1 := by rw [hWBCA]; simp
                have HMBCA := Lib.hid (HMBC.out.call hbBCA)
                have HABCA := Lib.hid (show Box WBCA (WBC.heap.size) (Array.replicate 8 (.int .u32 0)) 286 by rw [hWBCA]; exact Box.new WBC _ _)
                have HBBCA := Lib.hid (HBBC.out.past hbBCA)
                rw [← hWBCA]
                clear hWBCA
                have hlBCA := HMBCA.out.w.lt
                have hzBCA := hbBCA.size
                refine hK'.out _ _ (fun _ => HMBCA.out.h) (fun hHeld => ?_)
                clear hK' K'
                try simp only [Act.put, List.setIfInBounds_toArray, List.set_cons_zero, List.set_cons_succ, Array.toArray_toList]
                have HVBCA := Lib.hid (show MixV w w.heap.size O cw (WBC.heap.size) (WD.heap.size) (Array.replicate 8 (.int .u32 0)) (Array.replicate 64 (.int .u32 0)) WBCA from ⟨HMBCA.out, HABCA.out, HBBCA.out, by have := HMD.out.w.lt; omega, by have := HMD.out.w.lt; omega, by omega⟩)
                refine AnyP.one (i := 4) (o := ?o4BCA) (fuel := 1) (listed' := #[true, true, true, true, true, false]) (by kernel_rfl) ?ho4BCA (by rfl) (fun K' hK' => ?step4BCA)
                case ho4BCA => simp only [List.getElem?_toArray, List.getElem?_cons_succ, List.getElem?_cons_zero]; rfl
                rw [if_pos (by rfl)]
                refine wp_store_mid _ _ _ rfl (WBC.heap.size) 0 O rfl rfl (by rw [hO8]; exact HVBCA.out.bp.there) (by rw [hO8]; exact size8u) hO1 ?_
                have HFBCA := Lib.hid (HVBCA.out.fillP (vs := O) hO8)
                refine hK'.out _ _ (fun h => absurd (by decide) h) (fun _ => ?_)
                clear hK' K'
                try simp only [Act.put, List.setIfInBounds_toArray, List.set_cons_zero, List.set_cons_succ, Array.toArray_toList]
                refine AnyP.one (i := 5) (o := ?o5BCA) (fuel := 0) (listed' := #[true, true, true, true, true, true]) (by kernel_rfl) ?ho5BCA (by rfl) (fun K' hK' => ?step5BCA)
                case ho5BCA => simp only [List.getElem?_toArray, List.getElem?_cons_succ, List.getElem?_cons_zero]; rfl
                rw [if_pos (by rfl)]
                refine wp_store_mid _ _ _ rfl (WD.heap.size) 0 kArr rfl rfl (by rw [kArr_size]; exact HFBCA.out.bq.there) (by rw [kArr_size]; exact size64) kArr_one ?_
                refine hK'.out _ _ (fun h => absurd (by decide) h) (fun _ => ?_)
                clear hK' K'
                try simp only [Act.put, List.setIfInBounds_toArray, List.set_cons_zero, List.set_cons_succ, Array.toArray_toList]
                refine AnyP.done (by kernel_rfl) ?_ _
                go_wp2_with fail
                go_meet
                exact ⟨_, _, rfl, rfl, HFBCA.out.fillQ (vs := kArr) rfl⟩
              case' tBA =>
                go_simp
                obtain ⟨WBA, hWBA⟩ : ∃ WBA, WBA = WB.alloc (.cells #[.int .u32 0, .int .u32 0, .int .u32 0, .int .u32 0, .int .u32 0, .int .u32 0, .int .u32 0, .int .u32 0] 286) := ⟨_, rfl⟩
                have hbBA : Below WB.heap.size WB WBA := by rw [hWBA]; exact (Below.refl _ _).alloc (Nat.le_refl _) _
                have hsBA : WBA.heap.size = WB.heap.size + 1 := by rw [hWBA]; simp
                have HMBA := Lib.hid (HMB.out.call hbBA)
                have HABA := Lib.hid (show Box WBA (WD.heap.size + 1) (Array.replicate 8 (.int .u32 0)) 286 by have hx := Box.new WB #[.int .u32 0, .int .u32 0, .int .u32 0, .int .u32 0, .int .u32 0, .int .u32 0, .int .u32 0, .int .u32 0] 286; rw [hsB] at hx; rw [hWBA]; exact hx)
                have HBBA := Lib.hid (HBB.out.past hbBA)
                rw [← hWBA]
                clear hWBA
                have hlBA := HMBA.out.w.lt
                have hzBA := hbBA.size
                refine hK'.out _ _ (fun _ => HMBA.out.h) (fun hHeld => ?_)
                clear hK' K'
                try simp only [Act.put, List.setIfInBounds_toArray, List.set_cons_zero, List.set_cons_succ, Array.toArray_toList]
                refine AnyP.one (i := 1) (o := ?ozBAC) (fuel := 2) (listed' := #[true, true, true, true, false, false]) (by kernel_rfl) ?hozBAC (by rfl) (fun K' hK' => ?szBAC)
                case hozBAC => simp only [List.getElem?_toArray, List.getElem?_cons_succ, List.getElem?_cons_zero]; rfl
                go_simp
                go_at_call 228
                refine (HRO.out _).mono ?_
                rintro e WBAC ⟨rfl, hbBAC⟩
                go_wp2_with fail
                have HMBAC := Lib.hid (HMBA.out.call hbBAC)
                have HABAC := Lib.hid (HABA.out.past hbBAC)
                have HBBAC := Lib.hid (HBBA.out.past hbBAC)
                have hlBAC := HMBAC.out.w.lt
                have hzBAC := hbBAC.size
                refine hK'.out _ _ (fun _ => HMBAC.out.h) (fun hHeld => ?_)
                clear hK' K'
                try simp only [Act.put, List.setIfInBounds_toArray, List.set_cons_zero, List.set_cons_succ, Array.toArray_toList]
                have HVBAC := Lib.hid (show MixV w w.heap.size O cw (WD.heap.size + 1) (WD.heap.size) (Array.replicate 8 (.int .u32 0)) (Array.replicate 64 (.int .u32 0)) WBAC from ⟨HMBAC.out, HABAC.out, HBBAC.out, by have := HMD.out.w.lt; omega, by have := HMD.out.w.lt; omega, by omega⟩)
                refine AnyP.one (i := 4) (o := ?o4BAC) (fuel := 1) (listed' := #[true, true, true, true, true, false]) (by kernel_rfl) ?ho4BAC (by rfl) (fun K' hK' => ?step4BAC)
                case ho4BAC => simp only [List.getElem?_toArray, List.getElem?_cons_succ, List.getElem?_cons_zero]; rfl
                rw [if_pos (by rfl)]
                refine wp_store_mid _ _ _ rfl (WD.heap.size + 1) 0 O rfl rfl (by rw [hO8]; exact HVBAC.out.bp.there) (by rw [hO8]; exact size8u) hO1 ?_
                have HFBAC := Lib.hid (HVBAC.out.fillP (vs := O) hO8)
                refine hK'.out _ _ (fun h => absurd (by decide) h) (fun _ => ?_)
                clear hK' K'
                try simp only [Act.put, List.setIfInBounds_toArray, List.set_cons_zero, List.set_cons_succ, Array.toArray_toList]
                refine AnyP.one (i := 5) (o := ?o5BAC) (fuel := 0) (listed' := #[true, true, true, true, true, true]) (by kernel_rfl) ?ho5BAC (by rfl) (fun K' hK' => ?step5BAC)
                case ho5BAC => simp only [List.getElem?_toArray, List.getElem?_cons_succ, List.getElem?_cons_zero]; rfl
                rw [if_pos (by rfl)]
                refine wp_store_mid _ _ _ rfl (WD.heap.size) 0 kArr rfl rfl (by rw [kArr_size]; exact HFBAC.out.bq.there) (by rw [kArr_size]; exact size64) kArr_one ?_
                refine hK'.out _ _ (fun h => absurd (by decide) h) (fun _ => ?_)
                clear hK' K'
                try simp only [Act.put, List.setIfInBounds_toArray, List.set_cons_zero, List.set_cons_succ, Array.toArray_toList]
                refine AnyP.done (by kernel_rfl) ?_ _
                go_wp2_with fail
                go_meet
                exact ⟨_, _, rfl, rfl, HFBAC.out.fillQ (vs := kArr) rfl⟩
          case rest =>
            obtain ⟨p, q, rfl, rfl, HH⟩ := hcut
            have HV := Lib.hid HH.out
            clear HH
            go_wp2_with fail
            go_loopg [100] 64 (fun g v100 wr => ∃ (k : Nat) (V : Oct), v100 = .int .i64 k ∧ k ≤ 64 ∧ Hid (g + k = 64 ∧ V = stepsO (wordAt l) v k ∧ MixV w w.heap.size O cw p q (octA V) kArr wr))
            case atStart => exact ⟨0, v, rfl, by omega, rfl, rfl, by rw [← HO.out]; exact HV.out⟩
            case round =>
              clear HV
              obtain ⟨k, V, rfl, hk, HH⟩ := hrel
              obtain ⟨hg, hv, hm⟩ := HH.out
              have HG := Lib.hid hg
              have HVV := Lib.hid hv
              have HMV := Lib.hid hm
              clear HH hg hv hm
              by_cases hlt : k < 64
              · have hlt2 : decide ((k : Int) < 64) = true := by simp; omega
                have hx0 : (k : Int) < 64 := by omega
                have hx1 : (0 : Int) ≤ (k : Int) := by omega
                have hcw := (HMV.out.m.w.cell k).trans (HD.out.2 k hlt)
                have hck := (HMV.out.bq.cell k).trans (kArr_get k hlt)
                obtain ⟨va, vb, vc, vd, ve, vf, vg, vh⟩ := V
                have hpb := HMV.out.bp
                unfold octA at hpb
                simp only at hpb
                obtain ⟨c0, c1, c2, c3, c4, c5, c6, c7, f0, f1, f2, f3, f4, f5, f6, f7⟩ := hpb.facts8
                obtain ⟨sw, hsw⟩ : ∃ x, x = sched (wordAt l) k := ⟨_, rfl⟩
                obtain ⟨kw, hkw⟩ : ∃ x, x = kW k := ⟨_, rfl⟩
                rw [← hsw] at hcw
                rw [← hkw] at hck
                have HSW := Lib.hid hsw
                have HKW := Lib.hid hkw
                have R6 := rot_calls ve (-6) 6 rfl (by decide) (by decide)
                have R11 := rot_calls ve (-11) 11 rfl (by decide) (by decide)
                have R25 := rot_calls ve (-25) 25 rfl (by decide) (by decide)
                have R2 := rot_calls va (-2) 2 rfl (by decide) (by decide)
                have R13 := rot_calls va (-13) 13 rfl (by decide) (by decide)
                have R22 := rot_calls va (-22) 22 rfl (by decide) (by decide)
                unfold Same1 wv at R6 R11 R25 R2 R13 R22
                unfold wv at c0 c1 c2 c3 c4 c5 c6 c7 hcw hck
                obtain ⟨na, hna⟩ : ∃ x, x = va.toNat := ⟨_, rfl⟩
                obtain ⟨nb, hnb⟩ : ∃ x, x = vb.toNat := ⟨_, rfl⟩
                obtain ⟨nc, hnc⟩ : ∃ x, x = vc.toNat := ⟨_, rfl⟩
                obtain ⟨nd, hnd⟩ : ∃ x, x = vd.toNat := ⟨_, rfl⟩
                obtain ⟨ne, hne⟩ : ∃ x, x = ve.toNat := ⟨_, rfl⟩
                obtain ⟨nf, hnf⟩ : ∃ x, x = vf.toNat := ⟨_, rfl⟩
                obtain ⟨ng, hng⟩ : ∃ x, x = vg.toNat := ⟨_, rfl⟩
                obtain ⟨nh, hnh⟩ : ∃ x, x = vh.toNat := ⟨_, rfl⟩
                obtain ⟨ns, hns⟩ : ∃ x, x = sw.toNat := ⟨_, rfl⟩
                obtain ⟨nk, hnk⟩ : ∃ x, x = kw.toNat := ⟨_, rfl⟩
                obtain ⟨q6, hq6⟩ : ∃ x, x = (rotR ve 6).toNat := ⟨_, rfl⟩
                obtain ⟨q11, hq11⟩ : ∃ x, x = (rotR ve 11).toNat := ⟨_, rfl⟩
                obtain ⟨q25, hq25⟩ : ∃ x, x = (rotR ve 25).toNat := ⟨_, rfl⟩
                obtain ⟨q2, hq2⟩ : ∃ x, x = (rotR va 2).toNat := ⟨_, rfl⟩
                obtain ⟨q13, hq13⟩ : ∃ x, x = (rotR va 13).toNat := ⟨_, rfl⟩
                obtain ⟨q22, hq22⟩ : ∃ x, x = (rotR va 22).toNat := ⟨_, rfl⟩
                rw [← hna] at c0 R2 R13 R22
                rw [← hnb] at c1
                rw [← hnc] at c2
                rw [← hnd] at c3
                rw [← hne] at c4 R6 R11 R25
                rw [← hnf] at c5
                rw [← hng] at c6
                rw [← hnh] at c7
                rw [← hns] at hcw
                rw [← hnk] at hck
                rw [← hq6] at R6
                rw [← hq11] at R11
                rw [← hq25] at R25
                rw [← hq2] at R2
                rw [← hq13] at R13
                rw [← hq22] at R22
                have HR6 := Lib.hid R6
                have HR11 := Lib.hid R11
                have HR25 := Lib.hid R25
                have HR2 := Lib.hid R2
                have HR13 := Lib.hid R13
                have HR22 := Lib.hid R22
                have ht := tee_bits ⟨va, vb, vc, vd, ve, vf, vg, vh⟩ kw sw
                have hu := you_bits ⟨va, vb, vc, vd, ve, vf, vg, vh⟩
                simp only at ht hu
                obtain ⟨tw, htw⟩ : ∃ x, x = tee ⟨va, vb, vc, vd, ve, vf, vg, vh⟩ kw sw := ⟨_, rfl⟩
                obtain ⟨uw, huw⟩ : ∃ x, x = you ⟨va, vb, vc, vd, ve, vf, vg, vh⟩ := ⟨_, rfl⟩
                rw [← htw] at ht
                rw [← huw] at hu
                have h1 := w_plus tw uw
                have h2 := w_plus vd tw
                have hst : stepO ⟨va, vb, vc, vd, ve, vf, vg, vh⟩ kw sw = ⟨tw + uw, va, vb, vc, vd + tw, ve, vf, vg⟩ := by unfold stepO; rw [← htw, ← huw]
                have HST := Lib.hid hst
                obtain ⟨nt, hnt⟩ : ∃ x, x = tw.toNat := ⟨_, rfl⟩
                obtain ⟨nu, hnu⟩ : ∃ x, x = uw.toNat := ⟨_, rfl⟩
                obtain ⟨n1, hn1⟩ : ∃ x, x = (tw + uw).toNat := ⟨_, rfl⟩
                obtain ⟨n2, hn2⟩ : ∃ x, x = (vd + tw).toNat := ⟨_, rfl⟩
                rw [← hnt] at ht h1 h2
                rw [← hnu] at hu h1
                rw [← hn1] at h1
                rw [← hn2, ← hnd] at h2
                rw [← hna, ← hnb, ← hnc, ← hq2, ← hq13, ← hq22] at hu
                rw [← hne, ← hnf, ← hng, ← hnh, ← hns, ← hnk, ← hq6, ← hq11, ← hq25] at ht
                have HT := Lib.hid ht
                have HU := Lib.hid hu
                have HN12 := Lib.hid (And.intro hn1 hn2)
                clear ht hu htw huw hst hnt hnu hn1 hn2
                have HNS := Lib.hid (And.intro hna (And.intro hnb (And.intro hnc (And.intro hnd (And.intro hne (And.intro hnf (And.intro hng (And.intro hnh (And.intro hns (And.intro hnk (And.intro hq6 (And.intro hq11 (And.intro hq25 (And.intro hq2 (And.intro hq13 hq22)))))))))))))))
                clear hpb hsw hkw hna hnb hnc hnd hne hnf hng hnh hns hnk hq6 hq11 hq25 hq2 hq13 hq22 R6 R11 R25 R2 R13 R22
                go_wp2_with fail
                go_quiet (fail)
                obtain ⟨WN, hWN⟩ : ∃ WN, WN = wr.drewN nq := ⟨_, rfl⟩
                have HMN := Lib.hid (show MixV w w.heap.size O cw p q (octA ⟨va, vb, vc, vd, ve, vf, vg, vh⟩) kArr (wr.drewN nq) from ⟨HMV.out.m.drewN nq, HMV.out.bp, HMV.out.bq, HMV.out.lp, HMV.out.lq, HMV.out.ne⟩)
                have c0 : (wr.drewN nq).cell? ⟨p, 0, none⟩ = some (.int .u32 (na : Int)) := c0
                have c1 : (wr.drewN nq).cell? ⟨p, 1, none⟩ = some (.int .u32 (nb : Int)) := c1
                have c2 : (wr.drewN nq).cell? ⟨p, 2, none⟩ = some (.int .u32 (nc : Int)) := c2
                have c3 : (wr.drewN nq).cell? ⟨p, 3, none⟩ = some (.int .u32 (nd : Int)) := c3
                have c4 : (wr.drewN nq).cell? ⟨p, 4, none⟩ = some (.int .u32 (ne : Int)) := c4
                have c5 : (wr.drewN nq).cell? ⟨p, 5, none⟩ = some (.int .u32 (nf : Int)) := c5
                have c6 : (wr.drewN nq).cell? ⟨p, 6, none⟩ = some (.int .u32 (ng : Int)) := c6
                have c7 : (wr.drewN nq).cell? ⟨p, 7, none⟩ = some (.int .u32 (nh : Int)) := c7
                have hcw : (wr.drewN nq).cell? ⟨w.heap.size + 1 + 1, k, none⟩ = some (.int .u32 (ns : Int)) := hcw
                have hck : (wr.drewN nq).cell? ⟨q, k, none⟩ = some (.int .u32 (nk : Int)) := hck
                rw [← hWN] at HMN c0 c1 c2 c3 c4 c5 c6 c7 hcw hck ⊢
                clear hWN
                go_wp2_with fail
                have d4 : WN.drew.cell? ⟨p, 5, none⟩ = some (.int .u32 (nf : Int)) := c5
                have d5 : WN.drew.cell? ⟨p, 6, none⟩ = some (.int .u32 (ng : Int)) := c6
                have d7 : WN.drew.cell? ⟨p, 7, none⟩ = some (.int .u32 (nh : Int)) := c7
                have dw : WN.drew.cell? ⟨w.heap.size + 1 + 1, k, none⟩ = some (.int .u32 (ns : Int)) := hcw
                have dk : WN.drew.cell? ⟨q, k, none⟩ = some (.int .u32 (nk : Int)) := hck
                refine AnyP.start [] (fun w' => w'.cell? ⟨p, 5, none⟩ = some (.int .u32 (nf : Int)) ∧ w'.cell? ⟨p, 6, none⟩ = some (.int .u32 (ng : Int)) ∧ w'.cell? ⟨p, 7, none⟩ = some (.int .u32 (nh : Int)) ∧ w'.cell? ⟨w.heap.size + 1 + 1, k, none⟩ = some (.int .u32 (ns : Int)) ∧ w'.cell? ⟨q, k, none⟩ = some (.int .u32 (nk : Int))) (by kernel_rfl) ⟨d4, d5, d7, dw, dk⟩ (n := 31) (listed := #[false, false, false, false, false, false, false, false, false, false, false, false, false, false, false, false, false, false, false, false, false, false, false, false, false, false, false, false, false, false, false]) (by kernel_rfl) (by kernel_rfl) (fun hHeld => ?_)
                refine AnyP.take (i := 0) (fuel := 30) (d := some 107) (listed' := #[true, false, false, false, false, false, false, false, false, false, false, false, false, false, false, false, false, false, false, false, false, false, false, false, false, false, false, false, false, false, false]) (oi := _) (v := ?v0s) rfl (by kernel_rfl) (by kernel_rfl) (by kernel_rfl) (fun _ _ _ h => h) (Or.inl ⟨by rfl, ?hy0s⟩) (by rfl) (by rfl) ?rest0s
                case hy0s => intro w; go_simp; try with_reducible rfl
                try simp only [Act.put, List.setIfInBounds_toArray, List.set_cons_zero, List.set_cons_succ]
                refine AnyP.load (i := 1) (fuel := 29) (d := some 108) (listed' := #[true, true, false, false, false, false, false, false, false, false, false, false, false, false, false, false, false, false, false, false, false, false, false, false, false, false, false, false, false, false, false]) (oi := _) (v := ?v1s) [] rfl (by kernel_rfl) (by kernel_rfl) (by kernel_rfl) (by kernel_rfl) (by kernel_rfl) (by kernel_rfl) (fun _ _ _ h => h) (Or.inl ⟨by rfl, ?hy1s⟩) hHeld (by rfl) (by rfl) ?rest1s
                case hy1s => intro w hSw; (try dsimp only at hSw); go_simp; try with_reducible rfl
                try simp only [Act.put, List.setIfInBounds_toArray, List.set_cons_zero, List.set_cons_succ]
                refine AnyP.take (i := 2) (fuel := 28) (d := some 109) (listed' := #[true, true, true, false, false, false, false, false, false, false, false, false, false, false, false, false, false, false, false, false, false, false, false, false, false, false, false, false, false, false, false]) (oi := _) (v := ?v2s) rfl (by kernel_rfl) (by kernel_rfl) (by kernel_rfl) (fun _ _ _ h => h) (Or.inl ⟨by rfl, ?hy2s⟩) (by rfl) (by rfl) ?rest2s
                case hy2s => intro w; go_simp; try with_reducible rfl
                try simp only [Act.put, List.setIfInBounds_toArray, List.set_cons_zero, List.set_cons_succ]
                refine AnyP.take (i := 4) (fuel := 27) (d := some 111) (listed' := #[true, true, true, false, true, false, false, false, false, false, false, false, false, false, false, false, false, false, false, false, false, false, false, false, false, false, false, false, false, false, false]) (oi := _) (v := ?v4s) rfl (by kernel_rfl) (by kernel_rfl) (by kernel_rfl) (fun _ _ _ h => h) (Or.inl ⟨by rfl, ?hy4s⟩) (by rfl) (by rfl) ?rest4s
                case hy4s => intro w; go_simp; try with_reducible rfl
                try simp only [Act.put, List.setIfInBounds_toArray, List.set_cons_zero, List.set_cons_succ]
                refine AnyP.take (i := 7) (fuel := 26) (d := some 114) (listed' := #[true, true, true, false, true, false, false, true, false, false, false, false, false, false, false, false, false, false, false, false, false, false, false, false, false, false, false, false, false, false, false]) (oi := _) (v := ?v7s) rfl (by kernel_rfl) (by kernel_rfl) (by kernel_rfl) (fun _ _ _ h => h) (Or.inl ⟨by rfl, ?hy7s⟩) (by rfl) (by rfl) ?rest7s
                case hy7s => intro w; go_simp; try with_reducible rfl
                try simp only [Act.put, List.setIfInBounds_toArray, List.set_cons_zero, List.set_cons_succ]
                refine AnyP.take (i := 11) (fuel := 25) (d := some 118) (listed' := #[true, true, true, false, true, false, false, true, false, false, false, true, false, false, false, false, false, false, false, false, false, false, false, false, false, false, false, false, false, false, false]) (oi := _) (v := ?v11s) rfl (by kernel_rfl) (by kernel_rfl) (by kernel_rfl) (fun _ _ _ h => h) (Or.inl ⟨by rfl, ?hy11s⟩) (by rfl) (by rfl) ?rest11s
                case hy11s => intro w; go_simp; try with_reducible rfl
                try simp only [Act.put, List.setIfInBounds_toArray, List.set_cons_zero, List.set_cons_succ]
                refine AnyP.take (i := 12) (fuel := 24) (d := some 119) (listed' := #[true, true, true, false, true, false, false, true, false, false, false, true, true, false, false, false, false, false, false, false, false, false, false, false, false, false, false, false, false, false, false]) (oi := _) (v := ?v12s) rfl (by kernel_rfl) (by kernel_rfl) (by kernel_rfl) (fun _ _ _ h => h) (Or.inl ⟨by rfl, ?hy12s⟩) (by rfl) (by rfl) ?rest12s
                case hy12s => intro w; go_simp; try with_reducible rfl
                try simp only [Act.put, List.setIfInBounds_toArray, List.set_cons_zero, List.set_cons_succ]
                refine AnyP.load (i := 13) (fuel := 23) (d := some 120) (listed' := #[true, true, true, false, true, false, false, true, false, false, false, true, true, true, false, false, false, false, false, false, false, false, false, false, false, false, false, false, false, false, false]) (oi := _) (v := ?v13s) [] rfl (by kernel_rfl) (by kernel_rfl) (by kernel_rfl) (by kernel_rfl) (by kernel_rfl) (by kernel_rfl) (fun _ _ _ h => h) (Or.inl ⟨by rfl, ?hy13s⟩) hHeld (by rfl) (by rfl) ?rest13s
                case hy13s => intro w hSw; (try dsimp only at hSw); go_simp; try with_reducible rfl
                try simp only [Act.put, List.setIfInBounds_toArray, List.set_cons_zero, List.set_cons_succ]
                refine AnyP.take (i := 14) (fuel := 22) (d := some 121) (listed' := #[true, true, true, false, true, false, false, true, false, false, false, true, true, true, true, false, false, false, false, false, false, false, false, false, false, false, false, false, false, false, false]) (oi := _) (v := ?v14s) rfl (by kernel_rfl) (by kernel_rfl) (by kernel_rfl) (fun _ _ _ h => h) (Or.inl ⟨by rfl, ?hy14s⟩) (by rfl) (by rfl) ?rest14s
                case hy14s => intro w; go_simp; try with_reducible rfl
                try simp only [Act.put, List.setIfInBounds_toArray, List.set_cons_zero, List.set_cons_succ]
                refine AnyP.take (i := 15) (fuel := 21) (d := some 122) (listed' := #[true, true, true, false, true, false, false, true, false, false, false, true, true, true, true, true, false, false, false, false, false, false, false, false, false, false, false, false, false, false, false]) (oi := _) (v := ?v15s) rfl (by kernel_rfl) (by kernel_rfl) (by kernel_rfl) (fun _ _ _ h => h) (Or.inl ⟨by rfl, ?hy15s⟩) (by rfl) (by rfl) ?rest15s
                case hy15s => intro w; go_simp; try with_reducible rfl
                try simp only [Act.put, List.setIfInBounds_toArray, List.set_cons_zero, List.set_cons_succ]
                refine AnyP.take (i := 16) (fuel := 20) (d := some 123) (listed' := #[true, true, true, false, true, false, false, true, false, false, false, true, true, true, true, true, true, false, false, false, false, false, false, false, false, false, false, false, false, false, false]) (oi := _) (v := ?v16s) rfl (by kernel_rfl) (by kernel_rfl) (by kernel_rfl) (fun _ _ _ h => h) (Or.inl ⟨by rfl, ?hy16s⟩) (by rfl) (by rfl) ?rest16s
                case hy16s => intro w; go_simp; try with_reducible rfl
                try simp only [Act.put, List.setIfInBounds_toArray, List.set_cons_zero, List.set_cons_succ]
                refine AnyP.take (i := 17) (fuel := 19) (d := some 124) (listed' := #[true, true, true, false, true, false, false, true, false, false, false, true, true, true, true, true, true, true, false, false, false, false, false, false, false, false, false, false, false, false, false]) (oi := _) (v := ?v17s) rfl (by kernel_rfl) (by kernel_rfl) (by kernel_rfl) (fun _ _ _ h => h) (Or.inl ⟨by rfl, ?hy17s⟩) (by rfl) (by rfl) ?rest17s
                case hy17s => intro w; go_simp; try with_reducible rfl
                try simp only [Act.put, List.setIfInBounds_toArray, List.set_cons_zero, List.set_cons_succ]
                refine AnyP.load (i := 18) (fuel := 18) (d := some 125) (listed' := #[true, true, true, false, true, false, false, true, false, false, false, true, true, true, true, true, true, true, true, false, false, false, false, false, false, false, false, false, false, false, false]) (oi := _) (v := ?v18s) [] rfl (by kernel_rfl) (by kernel_rfl) (by kernel_rfl) (by kernel_rfl) (by kernel_rfl) (by kernel_rfl) (fun _ _ _ h => h) (Or.inl ⟨by rfl, ?hy18s⟩) hHeld (by rfl) (by rfl) ?rest18s
                case hy18s => intro w hSw; (try dsimp only at hSw); go_simp; try with_reducible rfl
                try simp only [Act.put, List.setIfInBounds_toArray, List.set_cons_zero, List.set_cons_succ]
                refine AnyP.take (i := 19) (fuel := 17) (d := some 126) (listed' := #[true, true, true, false, true, false, false, true, false, false, false, true, true, true, true, true, true, true, true, true, false, false, false, false, false, false, false, false, false, false, false]) (oi := _) (v := ?v19s) rfl (by kernel_rfl) (by kernel_rfl) (by kernel_rfl) (fun _ _ _ h => h) (Or.inl ⟨by rfl, ?hy19s⟩) (by rfl) (by rfl) ?rest19s
                case hy19s => intro w; go_simp; try with_reducible rfl
                try simp only [Act.put, List.setIfInBounds_toArray, List.set_cons_zero, List.set_cons_succ]
                refine AnyP.take (i := 20) (fuel := 16) (d := some 127) (listed' := #[true, true, true, false, true, false, false, true, false, false, false, true, true, true, true, true, true, true, true, true, true, false, false, false, false, false, false, false, false, false, false]) (oi := _) (v := ?v20s) rfl (by kernel_rfl) (by kernel_rfl) (by kernel_rfl) (fun _ _ _ h => h) (Or.inl ⟨by rfl, ?hy20s⟩) (by rfl) (by rfl) ?rest20s
                case hy20s => intro w; go_simp; try with_reducible rfl
                try simp only [Act.put, List.setIfInBounds_toArray, List.set_cons_zero, List.set_cons_succ]
                refine AnyP.take (i := 22) (fuel := 15) (d := some 129) (listed' := #[true, true, true, false, true, false, false, true, false, false, false, true, true, true, true, true, true, true, true, true, true, false, true, false, false, false, false, false, false, false, false]) (oi := _) (v := ?v22s) rfl (by kernel_rfl) (by kernel_rfl) (by kernel_rfl) (fun _ _ _ h => h) (Or.inl ⟨by rfl, ?hy22s⟩) (by rfl) (by rfl) ?rest22s
                case hy22s => intro w; go_simp; try with_reducible rfl
                try simp only [Act.put, List.setIfInBounds_toArray, List.set_cons_zero, List.set_cons_succ]
                refine AnyP.take (i := 23) (fuel := 14) (d := some 130) (listed' := #[true, true, true, false, true, false, false, true, false, false, false, true, true, true, true, true, true, true, true, true, true, false, true, true, false, false, false, false, false, false, false]) (oi := _) (v := ?v23s) rfl (by kernel_rfl) (by kernel_rfl) (by kernel_rfl) (fun _ _ _ h => h) (Or.inl ⟨by rfl, ?hy23s⟩) (by rfl) (by rfl) ?rest23s
                case hy23s => intro w; go_simp; try with_reducible rfl
                try simp only [Act.put, List.setIfInBounds_toArray, List.set_cons_zero, List.set_cons_succ]
                refine AnyP.load (i := 24) (fuel := 13) (d := some 131) (listed' := #[true, true, true, false, true, false, false, true, false, false, false, true, true, true, true, true, true, true, true, true, true, false, true, true, true, false, false, false, false, false, false]) (oi := _) (v := ?v24s) [] rfl (by kernel_rfl) (by kernel_rfl) (by kernel_rfl) (by kernel_rfl) (by kernel_rfl) (by kernel_rfl) (fun _ _ _ h => h) (Or.inl ⟨by rfl, ?hy24s⟩) hHeld (by rfl) (by rfl) ?rest24s
                case hy24s => intro w hSw; (try dsimp only at hSw); go_simp; try with_reducible rfl
                try simp only [Act.put, List.setIfInBounds_toArray, List.set_cons_zero, List.set_cons_succ]
                refine AnyP.take (i := 26) (fuel := 12) (d := some 133) (listed' := #[true, true, true, false, true, false, false, true, false, false, false, true, true, true, true, true, true, true, true, true, true, false, true, true, true, false, true, false, false, false, false]) (oi := _) (v := ?v26s) rfl (by kernel_rfl) (by kernel_rfl) (by kernel_rfl) (fun _ _ _ h => h) (Or.inl ⟨by rfl, ?hy26s⟩) (by rfl) (by rfl) ?rest26s
                case hy26s => intro w; go_simp; try with_reducible rfl
                try simp only [Act.put, List.setIfInBounds_toArray, List.set_cons_zero, List.set_cons_succ]
                refine AnyP.take (i := 27) (fuel := 11) (d := some 134) (listed' := #[true, true, true, false, true, false, false, true, false, false, false, true, true, true, true, true, true, true, true, true, true, false, true, true, true, false, true, true, false, false, false]) (oi := _) (v := ?v27s) rfl (by kernel_rfl) (by kernel_rfl) (by kernel_rfl) (fun _ _ _ h => h) (Or.inl ⟨by rfl, ?hy27s⟩) (by rfl) (by rfl) ?rest27s
                case hy27s => intro w; go_simp; try with_reducible rfl
                try simp only [Act.put, List.setIfInBounds_toArray, List.set_cons_zero, List.set_cons_succ]
                refine AnyP.load (i := 28) (fuel := 10) (d := some 135) (listed' := #[true, true, true, false, true, false, false, true, false, false, false, true, true, true, true, true, true, true, true, true, true, false, true, true, true, false, true, true, true, false, false]) (oi := _) (v := ?v28s) [] rfl (by kernel_rfl) (by kernel_rfl) (by kernel_rfl) (by kernel_rfl) (by kernel_rfl) (by kernel_rfl) (fun _ _ _ h => h) (Or.inl ⟨by rfl, ?hy28s⟩) hHeld (by rfl) (by rfl) ?rest28s
                case hy28s => intro w hSw; (try dsimp only at hSw); go_simp; try with_reducible rfl
                try simp only [Act.put, List.setIfInBounds_toArray, List.set_cons_zero, List.set_cons_succ]
                refine AnyP.one (i := 3) (o := ?o3s) (fuel := 9) (listed' := #[true, true, true, true, true, false, false, true, false, false, false, true, true, true, true, true, true, true, true, true, true, false, true, true, true, false, true, true, true, false, false]) (by kernel_rfl) ?ho3s (by rfl) (fun K' hK' => ?step3s)
                case ho3s => simp only [List.getElem?_toArray, List.getElem?_cons_succ, List.getElem?_cons_zero]; rfl
                go_simp
                go_at_call 227
                refine (HR6.out _).mono ?_
                rintro e wx ⟨rfl, hwx⟩
                subst hwx
                go_wp2_with fail
                refine hK'.out _ _ (fun _ => ⟨d4, d5, d7, dw, dk⟩) (fun hHeld => ?_)
                clear hK' K'
                try simp only [Act.put, List.setIfInBounds_toArray, List.set_cons_zero, List.set_cons_succ]
                refine AnyP.one (i := 5) (o := ?o5s) (fuel := 8) (listed' := #[true, true, true, true, true, true, false, true, false, false, false, true, true, true, true, true, true, true, true, true, true, false, true, true, true, false, true, true, true, false, false]) (by kernel_rfl) ?ho5s (by rfl) (fun K' hK' => ?step5s)
                case ho5s => simp only [List.getElem?_toArray, List.getElem?_cons_succ, List.getElem?_cons_zero]; rfl
                go_simp
                go_at_call 227
                refine (HR11.out _).mono ?_
                rintro e wx ⟨rfl, hwx⟩
                subst hwx
                go_wp2_with fail
                refine hK'.out _ _ (fun _ => ⟨d4, d5, d7, dw, dk⟩) (fun hHeld => ?_)
                clear hK' K'
                try simp only [Act.put, List.setIfInBounds_toArray, List.set_cons_zero, List.set_cons_succ]
                refine AnyP.take (i := 6) (fuel := 7) (d := some 113) (listed' := #[true, true, true, true, true, true, true, true, false, false, false, true, true, true, true, true, true, true, true, true, true, false, true, true, true, false, true, true, true, false, false]) (oi := _) (v := ?v6s) rfl (by kernel_rfl) (by kernel_rfl) (by kernel_rfl) (fun _ _ _ h => h) (Or.inl ⟨by rfl, ?hy6s⟩) (by rfl) (by rfl) ?rest6s
                case hy6s => intro w; go_simp; try with_reducible rfl
                try simp only [Act.put, List.setIfInBounds_toArray, List.set_cons_zero, List.set_cons_succ]
                refine AnyP.one (i := 8) (o := ?o8s) (fuel := 6) (listed' := #[true, true, true, true, true, true, true, true, true, false, false, true, true, true, true, true, true, true, true, true, true, false, true, true, true, false, true, true, true, false, false]) (by kernel_rfl) ?ho8s (by rfl) (fun K' hK' => ?step8s)
                case ho8s => simp only [List.getElem?_toArray, List.getElem?_cons_succ, List.getElem?_cons_zero]; rfl
                go_simp
                go_at_call 227
                refine (HR25.out _).mono ?_
                rintro e wx ⟨rfl, hwx⟩
                subst hwx
                go_wp2_with fail
                refine hK'.out _ _ (fun _ => ⟨d4, d5, d7, dw, dk⟩) (fun hHeld => ?_)
                clear hK' K'
                try simp only [Act.put, List.setIfInBounds_toArray, List.set_cons_zero, List.set_cons_succ]
                refine AnyP.take (i := 9) (fuel := 5) (d := some 116) (listed' := #[true, true, true, true, true, true, true, true, true, true, false, true, true, true, true, true, true, true, true, true, true, false, true, true, true, false, true, true, true, false, false]) (oi := _) (v := ?v9s) rfl (by kernel_rfl) (by kernel_rfl) (by kernel_rfl) (fun _ _ _ h => h) (Or.inl ⟨by rfl, ?hy9s⟩) (by rfl) (by rfl) ?rest9s
                case hy9s => intro w; go_simp; try with_reducible rfl
                try simp only [Act.put, List.setIfInBounds_toArray, List.set_cons_zero, List.set_cons_succ]
                refine AnyP.take (i := 10) (fuel := 4) (d := some 117) (listed' := #[true, true, true, true, true, true, true, true, true, true, true, true, true, true, true, true, true, true, true, true, true, false, true, true, true, false, true, true, true, false, false]) (oi := _) (v := ?v10s) rfl (by kernel_rfl) (by kernel_rfl) (by kernel_rfl) (fun _ _ _ h => h) (Or.inl ⟨by rfl, ?hy10s⟩) (by rfl) (by rfl) ?rest10s
                case hy10s => intro w; go_simp; try with_reducible rfl
                try simp only [Act.put, List.setIfInBounds_toArray, List.set_cons_zero, List.set_cons_succ]
                refine AnyP.take (i := 21) (fuel := 3) (d := some 128) (listed' := #[true, true, true, true, true, true, true, true, true, true, true, true, true, true, true, true, true, true, true, true, true, true, true, true, true, false, true, true, true, false, false]) (oi := _) (v := ?v21s) rfl (by kernel_rfl) (by kernel_rfl) (by kernel_rfl) (fun _ _ _ h => h) (Or.inl ⟨by rfl, ?hy21s⟩) (by rfl) (by rfl) ?rest21s
                case hy21s => intro w; go_simp; try with_reducible rfl
                try simp only [Act.put, List.setIfInBounds_toArray, List.set_cons_zero, List.set_cons_succ]
                refine AnyP.take (i := 25) (fuel := 2) (d := some 132) (listed' := #[true, true, true, true, true, true, true, true, true, true, true, true, true, true, true, true, true, true, true, true, true, true, true, true, true, true, true, true, true, false, false]) (oi := _) (v := ?v25s) rfl (by kernel_rfl) (by kernel_rfl) (by kernel_rfl) (fun _ _ _ h => h) (Or.inl ⟨by rfl, ?hy25s⟩) (by rfl) (by rfl) ?rest25s
                case hy25s => intro w; go_simp; try with_reducible rfl
                try simp only [Act.put, List.setIfInBounds_toArray, List.set_cons_zero, List.set_cons_succ]
                refine AnyP.take (i := 29) (fuel := 1) (d := some 136) (listed' := #[true, true, true, true, true, true, true, true, true, true, true, true, true, true, true, true, true, true, true, true, true, true, true, true, true, true, true, true, true, true, false]) (oi := _) (v := ?v29s) rfl (by kernel_rfl) (by kernel_rfl) (by kernel_rfl) (fun _ _ _ h => h) (Or.inl ⟨by rfl, ?hy29s⟩) (by rfl) (by rfl) ?rest29s
                case hy29s => intro w; go_simp; try with_reducible rfl
                try simp only [Act.put, List.setIfInBounds_toArray, List.set_cons_zero, List.set_cons_succ]
                refine AnyP.take (i := 30) (fuel := 0) (d := some 15) (listed' := #[true, true, true, true, true, true, true, true, true, true, true, true, true, true, true, true, true, true, true, true, true, true, true, true, true, true, true, true, true, true, true]) (oi := _) (v := ?v30s) rfl (by kernel_rfl) (by kernel_rfl) (by kernel_rfl) (fun _ _ _ h => h) (Or.inl ⟨by rfl, ?hy30s⟩) (by rfl) (by rfl) ?rest30s
                case hy30s => intro w; go_simp; try with_reducible rfl
                try simp only [Act.put, List.setIfInBounds_toArray, List.set_cons_zero, List.set_cons_succ]
                refine AnyP.done (by kernel_rfl) ?_ _
                rw [HT.out]
                clear d4 d5 d7 dw dk
                obtain ⟨WP, hWP⟩ : ∃ WP, WP = WN.drew := ⟨_, rfl⟩
                have HMP := Lib.hid (show MixV w w.heap.size O cw p q (octA ⟨va, vb, vc, vd, ve, vf, vg, vh⟩) kArr WN.drew from ⟨HMN.out.m.drew, HMN.out.bp, HMN.out.bq, HMN.out.lp, HMN.out.lq, HMN.out.ne⟩)
                have c0 : WN.drew.cell? ⟨p, 0, none⟩ = some (.int .u32 (na : Int)) := c0
                have c1 : WN.drew.cell? ⟨p, 1, none⟩ = some (.int .u32 (nb : Int)) := c1
                have c2 : WN.drew.cell? ⟨p, 2, none⟩ = some (.int .u32 (nc : Int)) := c2
                have c3 : WN.drew.cell? ⟨p, 3, none⟩ = some (.int .u32 (nd : Int)) := c3
                have c4 : WN.drew.cell? ⟨p, 4, none⟩ = some (.int .u32 (ne : Int)) := c4
                have c5 : WN.drew.cell? ⟨p, 5, none⟩ = some (.int .u32 (nf : Int)) := c5
                have c6 : WN.drew.cell? ⟨p, 6, none⟩ = some (.int .u32 (ng : Int)) := c6
                rw [← hWP] at HMP c0 c1 c2 c3 c4 c5 c6 ⊢
                clear hWP
                go_wp2_with fail
                have d1 : WP.drew.cell? ⟨p, 1, none⟩ = some (.int .u32 (nb : Int)) := c1
                have d2 : WP.drew.cell? ⟨p, 2, none⟩ = some (.int .u32 (nc : Int)) := c2
                refine AnyP.start [] (fun w' => w'.cell? ⟨p, 1, none⟩ = some (.int .u32 (nb : Int)) ∧ w'.cell? ⟨p, 2, none⟩ = some (.int .u32 (nc : Int))) (by kernel_rfl) ⟨d1, d2⟩ (n := 25) (listed := #[false, false, false, false, false, false, false, false, false, false, false, false, false, false, false, false, false, false, false, false, false, false, false, false, false]) (by kernel_rfl) (by kernel_rfl) (fun hHeld => ?_)
                refine AnyP.take (i := 0) (fuel := 24) (d := some 137) (listed' := #[true, false, false, false, false, false, false, false, false, false, false, false, false, false, false, false, false, false, false, false, false, false, false, false, false]) (oi := _) (v := ?v0u) rfl (by kernel_rfl) (by kernel_rfl) (by kernel_rfl) (fun _ _ _ h => h) (Or.inl ⟨by rfl, ?hy0u⟩) (by rfl) (by rfl) ?rest0u
                case hy0u => intro w; go_simp; try with_reducible rfl
                try simp only [Act.put, List.setIfInBounds_toArray, List.set_cons_zero, List.set_cons_succ]
                refine AnyP.take (i := 2) (fuel := 23) (d := some 139) (listed' := #[true, false, true, false, false, false, false, false, false, false, false, false, false, false, false, false, false, false, false, false, false, false, false, false, false]) (oi := _) (v := ?v2u) rfl (by kernel_rfl) (by kernel_rfl) (by kernel_rfl) (fun _ _ _ h => h) (Or.inl ⟨by rfl, ?hy2u⟩) (by rfl) (by rfl) ?rest2u
                case hy2u => intro w; go_simp; try with_reducible rfl
                try simp only [Act.put, List.setIfInBounds_toArray, List.set_cons_zero, List.set_cons_succ]
                refine AnyP.take (i := 5) (fuel := 22) (d := some 142) (listed' := #[true, false, true, false, false, true, false, false, false, false, false, false, false, false, false, false, false, false, false, false, false, false, false, false, false]) (oi := _) (v := ?v5u) rfl (by kernel_rfl) (by kernel_rfl) (by kernel_rfl) (fun _ _ _ h => h) (Or.inl ⟨by rfl, ?hy5u⟩) (by rfl) (by rfl) ?rest5u
                case hy5u => intro w; go_simp; try with_reducible rfl
                try simp only [Act.put, List.setIfInBounds_toArray, List.set_cons_zero, List.set_cons_succ]
                refine AnyP.take (i := 8) (fuel := 21) (d := some 145) (listed' := #[true, false, true, false, false, true, false, false, true, false, false, false, false, false, false, false, false, false, false, false, false, false, false, false, false]) (oi := _) (v := ?v8u) rfl (by kernel_rfl) (by kernel_rfl) (by kernel_rfl) (fun _ _ _ h => h) (Or.inl ⟨by rfl, ?hy8u⟩) (by rfl) (by rfl) ?rest8u
                case hy8u => intro w; go_simp; try with_reducible rfl
                try simp only [Act.put, List.setIfInBounds_toArray, List.set_cons_zero, List.set_cons_succ]
                refine AnyP.take (i := 9) (fuel := 20) (d := some 146) (listed' := #[true, false, true, false, false, true, false, false, true, true, false, false, false, false, false, false, false, false, false, false, false, false, false, false, false]) (oi := _) (v := ?v9u) rfl (by kernel_rfl) (by kernel_rfl) (by kernel_rfl) (fun _ _ _ h => h) (Or.inl ⟨by rfl, ?hy9u⟩) (by rfl) (by rfl) ?rest9u
                case hy9u => intro w; go_simp; try with_reducible rfl
                try simp only [Act.put, List.setIfInBounds_toArray, List.set_cons_zero, List.set_cons_succ]
                refine AnyP.load (i := 10) (fuel := 19) (d := some 147) (listed' := #[true, false, true, false, false, true, false, false, true, true, true, false, false, false, false, false, false, false, false, false, false, false, false, false, false]) (oi := _) (v := ?v10u) [] rfl (by kernel_rfl) (by kernel_rfl) (by kernel_rfl) (by kernel_rfl) (by kernel_rfl) (by kernel_rfl) (fun _ _ _ h => h) (Or.inl ⟨by rfl, ?hy10u⟩) hHeld (by rfl) (by rfl) ?rest10u
                case hy10u => intro w hSw; (try dsimp only at hSw); go_simp; try with_reducible rfl
                try simp only [Act.put, List.setIfInBounds_toArray, List.set_cons_zero, List.set_cons_succ]
                refine AnyP.take (i := 11) (fuel := 18) (d := some 148) (listed' := #[true, false, true, false, false, true, false, false, true, true, true, true, false, false, false, false, false, false, false, false, false, false, false, false, false]) (oi := _) (v := ?v11u) rfl (by kernel_rfl) (by kernel_rfl) (by kernel_rfl) (fun _ _ _ h => h) (Or.inl ⟨by rfl, ?hy11u⟩) (by rfl) (by rfl) ?rest11u
                case hy11u => intro w; go_simp; try with_reducible rfl
                try simp only [Act.put, List.setIfInBounds_toArray, List.set_cons_zero, List.set_cons_succ]
                refine AnyP.take (i := 12) (fuel := 17) (d := some 149) (listed' := #[true, false, true, false, false, true, false, false, true, true, true, true, true, false, false, false, false, false, false, false, false, false, false, false, false]) (oi := _) (v := ?v12u) rfl (by kernel_rfl) (by kernel_rfl) (by kernel_rfl) (fun _ _ _ h => h) (Or.inl ⟨by rfl, ?hy12u⟩) (by rfl) (by rfl) ?rest12u
                case hy12u => intro w; go_simp; try with_reducible rfl
                try simp only [Act.put, List.setIfInBounds_toArray, List.set_cons_zero, List.set_cons_succ]
                refine AnyP.take (i := 13) (fuel := 16) (d := some 150) (listed' := #[true, false, true, false, false, true, false, false, true, true, true, true, true, true, false, false, false, false, false, false, false, false, false, false, false]) (oi := _) (v := ?v13u) rfl (by kernel_rfl) (by kernel_rfl) (by kernel_rfl) (fun _ _ _ h => h) (Or.inl ⟨by rfl, ?hy13u⟩) (by rfl) (by rfl) ?rest13u
                case hy13u => intro w; go_simp; try with_reducible rfl
                try simp only [Act.put, List.setIfInBounds_toArray, List.set_cons_zero, List.set_cons_succ]
                refine AnyP.load (i := 14) (fuel := 15) (d := some 151) (listed' := #[true, false, true, false, false, true, false, false, true, true, true, true, true, true, true, false, false, false, false, false, false, false, false, false, false]) (oi := _) (v := ?v14u) [] rfl (by kernel_rfl) (by kernel_rfl) (by kernel_rfl) (by kernel_rfl) (by kernel_rfl) (by kernel_rfl) (fun _ _ _ h => h) (Or.inl ⟨by rfl, ?hy14u⟩) hHeld (by rfl) (by rfl) ?rest14u
                case hy14u => intro w hSw; (try dsimp only at hSw); go_simp; try with_reducible rfl
                try simp only [Act.put, List.setIfInBounds_toArray, List.set_cons_zero, List.set_cons_succ]
                refine AnyP.take (i := 15) (fuel := 14) (d := some 152) (listed' := #[true, false, true, false, false, true, false, false, true, true, true, true, true, true, true, true, false, false, false, false, false, false, false, false, false]) (oi := _) (v := ?v15u) rfl (by kernel_rfl) (by kernel_rfl) (by kernel_rfl) (fun _ _ _ h => h) (Or.inl ⟨by rfl, ?hy15u⟩) (by rfl) (by rfl) ?rest15u
                case hy15u => intro w; go_simp; try with_reducible rfl
                try simp only [Act.put, List.setIfInBounds_toArray, List.set_cons_zero, List.set_cons_succ]
                refine AnyP.take (i := 16) (fuel := 13) (d := some 153) (listed' := #[true, false, true, false, false, true, false, false, true, true, true, true, true, true, true, true, true, false, false, false, false, false, false, false, false]) (oi := _) (v := ?v16u) rfl (by kernel_rfl) (by kernel_rfl) (by kernel_rfl) (fun _ _ _ h => h) (Or.inl ⟨by rfl, ?hy16u⟩) (by rfl) (by rfl) ?rest16u
                case hy16u => intro w; go_simp; try with_reducible rfl
                try simp only [Act.put, List.setIfInBounds_toArray, List.set_cons_zero, List.set_cons_succ]
                refine AnyP.take (i := 17) (fuel := 12) (d := some 154) (listed' := #[true, false, true, false, false, true, false, false, true, true, true, true, true, true, true, true, true, true, false, false, false, false, false, false, false]) (oi := _) (v := ?v17u) rfl (by kernel_rfl) (by kernel_rfl) (by kernel_rfl) (fun _ _ _ h => h) (Or.inl ⟨by rfl, ?hy17u⟩) (by rfl) (by rfl) ?rest17u
                case hy17u => intro w; go_simp; try with_reducible rfl
                try simp only [Act.put, List.setIfInBounds_toArray, List.set_cons_zero, List.set_cons_succ]
                refine AnyP.load (i := 18) (fuel := 11) (d := some 155) (listed' := #[true, false, true, false, false, true, false, false, true, true, true, true, true, true, true, true, true, true, true, false, false, false, false, false, false]) (oi := _) (v := ?v18u) [] rfl (by kernel_rfl) (by kernel_rfl) (by kernel_rfl) (by kernel_rfl) (by kernel_rfl) (by kernel_rfl) (fun _ _ _ h => h) (Or.inl ⟨by rfl, ?hy18u⟩) hHeld (by rfl) (by rfl) ?rest18u
                case hy18u => intro w hSw; (try dsimp only at hSw); go_simp; try with_reducible rfl
                try simp only [Act.put, List.setIfInBounds_toArray, List.set_cons_zero, List.set_cons_succ]
                refine AnyP.take (i := 19) (fuel := 10) (d := some 156) (listed' := #[true, false, true, false, false, true, false, false, true, true, true, true, true, true, true, true, true, true, true, true, false, false, false, false, false]) (oi := _) (v := ?v19u) rfl (by kernel_rfl) (by kernel_rfl) (by kernel_rfl) (fun _ _ _ h => h) (Or.inl ⟨by rfl, ?hy19u⟩) (by rfl) (by rfl) ?rest19u
                case hy19u => intro w; go_simp; try with_reducible rfl
                try simp only [Act.put, List.setIfInBounds_toArray, List.set_cons_zero, List.set_cons_succ]
                refine AnyP.load (i := 20) (fuel := 9) (d := some 157) (listed' := #[true, false, true, false, false, true, false, false, true, true, true, true, true, true, true, true, true, true, true, true, true, false, false, false, false]) (oi := _) (v := ?v20u) [] rfl (by kernel_rfl) (by kernel_rfl) (by kernel_rfl) (by kernel_rfl) (by kernel_rfl) (by kernel_rfl) (fun _ _ _ h => h) (Or.inl ⟨by rfl, ?hy20u⟩) hHeld (by rfl) (by rfl) ?rest20u
                case hy20u => intro w hSw; (try dsimp only at hSw); go_simp; try with_reducible rfl
                try simp only [Act.put, List.setIfInBounds_toArray, List.set_cons_zero, List.set_cons_succ]
                refine AnyP.take (i := 21) (fuel := 8) (d := some 158) (listed' := #[true, false, true, false, false, true, false, false, true, true, true, true, true, true, true, true, true, true, true, true, true, true, false, false, false]) (oi := _) (v := ?v21u) rfl (by kernel_rfl) (by kernel_rfl) (by kernel_rfl) (fun _ _ _ h => h) (Or.inl ⟨by rfl, ?hy21u⟩) (by rfl) (by rfl) ?rest21u
                case hy21u => intro w; go_simp; try with_reducible rfl
                try simp only [Act.put, List.setIfInBounds_toArray, List.set_cons_zero, List.set_cons_succ]
                refine AnyP.take (i := 22) (fuel := 7) (d := some 159) (listed' := #[true, false, true, false, false, true, false, false, true, true, true, true, true, true, true, true, true, true, true, true, true, true, true, false, false]) (oi := _) (v := ?v22u) rfl (by kernel_rfl) (by kernel_rfl) (by kernel_rfl) (fun _ _ _ h => h) (Or.inl ⟨by rfl, ?hy22u⟩) (by rfl) (by rfl) ?rest22u
                case hy22u => intro w; go_simp; try with_reducible rfl
                try simp only [Act.put, List.setIfInBounds_toArray, List.set_cons_zero, List.set_cons_succ]
                refine AnyP.one (i := 1) (o := ?o1u) (fuel := 6) (listed' := #[true, true, true, false, false, true, false, false, true, true, true, true, true, true, true, true, true, true, true, true, true, true, true, false, false]) (by kernel_rfl) ?ho1u (by rfl) (fun K' hK' => ?step1u)
                case ho1u => simp only [List.getElem?_toArray, List.getElem?_cons_succ, List.getElem?_cons_zero]; rfl
                go_simp
                go_at_call 227
                refine (HR2.out _).mono ?_
                rintro e wx ⟨rfl, hwx⟩
                subst hwx
                go_wp2_with fail
                refine hK'.out _ _ (fun _ => ⟨d1, d2⟩) (fun hHeld => ?_)
                clear hK' K'
                try simp only [Act.put, List.setIfInBounds_toArray, List.set_cons_zero, List.set_cons_succ]
                refine AnyP.one (i := 3) (o := ?o3u) (fuel := 5) (listed' := #[true, true, true, true, false, true, false, false, true, true, true, true, true, true, true, true, true, true, true, true, true, true, true, false, false]) (by kernel_rfl) ?ho3u (by rfl) (fun K' hK' => ?step3u)
                case ho3u => simp only [List.getElem?_toArray, List.getElem?_cons_succ, List.getElem?_cons_zero]; rfl
                go_simp
                go_at_call 227
                refine (HR13.out _).mono ?_
                rintro e wx ⟨rfl, hwx⟩
                subst hwx
                go_wp2_with fail
                refine hK'.out _ _ (fun _ => ⟨d1, d2⟩) (fun hHeld => ?_)
                clear hK' K'
                try simp only [Act.put, List.setIfInBounds_toArray, List.set_cons_zero, List.set_cons_succ]
                refine AnyP.take (i := 4) (fuel := 4) (d := some 141) (listed' := #[true, true, true, true, true, true, false, false, true, true, true, true, true, true, true, true, true, true, true, true, true, true, true, false, false]) (oi := _) (v := ?v4u) rfl (by kernel_rfl) (by kernel_rfl) (by kernel_rfl) (fun _ _ _ h => h) (Or.inl ⟨by rfl, ?hy4u⟩) (by rfl) (by rfl) ?rest4u
                case hy4u => intro w; go_simp; try with_reducible rfl
                try simp only [Act.put, List.setIfInBounds_toArray, List.set_cons_zero, List.set_cons_succ]
                refine AnyP.one (i := 6) (o := ?o6u) (fuel := 3) (listed' := #[true, true, true, true, true, true, true, false, true, true, true, true, true, true, true, true, true, true, true, true, true, true, true, false, false]) (by kernel_rfl) ?ho6u (by rfl) (fun K' hK' => ?step6u)
                case ho6u => simp only [List.getElem?_toArray, List.getElem?_cons_succ, List.getElem?_cons_zero]; rfl
                go_simp
                go_at_call 227
                refine (HR22.out _).mono ?_
                rintro e wx ⟨rfl, hwx⟩
                subst hwx
                go_wp2_with fail
                refine hK'.out _ _ (fun _ => ⟨d1, d2⟩) (fun hHeld => ?_)
                clear hK' K'
                try simp only [Act.put, List.setIfInBounds_toArray, List.set_cons_zero, List.set_cons_succ]
                refine AnyP.take (i := 7) (fuel := 2) (d := some 144) (listed' := #[true, true, true, true, true, true, true, true, true, true, true, true, true, true, true, true, true, true, true, true, true, true, true, false, false]) (oi := _) (v := ?v7u) rfl (by kernel_rfl) (by kernel_rfl) (by kernel_rfl) (fun _ _ _ h => h) (Or.inl ⟨by rfl, ?hy7u⟩) (by rfl) (by rfl) ?rest7u
                case hy7u => intro w; go_simp; try with_reducible rfl
                try simp only [Act.put, List.setIfInBounds_toArray, List.set_cons_zero, List.set_cons_succ]
                refine AnyP.take (i := 23) (fuel := 1) (d := some 160) (listed' := #[true, true, true, true, true, true, true, true, true, true, true, true, true, true, true, true, true, true, true, true, true, true, true, true, false]) (oi := _) (v := ?v23u) rfl (by kernel_rfl) (by kernel_rfl) (by kernel_rfl) (fun _ _ _ h => h) (Or.inl ⟨by rfl, ?hy23u⟩) (by rfl) (by rfl) ?rest23u
                case hy23u => intro w; go_simp; try with_reducible rfl
                try simp only [Act.put, List.setIfInBounds_toArray, List.set_cons_zero, List.set_cons_succ]
                refine AnyP.take (i := 24) (fuel := 0) (d := some 16) (listed' := #[true, true, true, true, true, true, true, true, true, true, true, true, true, true, true, true, true, true, true, true, true, true, true, true, true]) (oi := _) (v := ?v24u) rfl (by kernel_rfl) (by kernel_rfl) (by kernel_rfl) (fun _ _ _ h => h) (Or.inl ⟨by rfl, ?hy24u⟩) (by rfl) (by rfl) ?rest24u
                case hy24u => intro w; go_simp; try with_reducible rfl
                try simp only [Act.put, List.setIfInBounds_toArray, List.set_cons_zero, List.set_cons_succ]
                refine AnyP.done (by kernel_rfl) ?_ _
                rw [HU.out]
                clear d1 d2
                obtain ⟨WQ, hWQ⟩ : ∃ WQ, WQ = WP.drew := ⟨_, rfl⟩
                have HMQ := Lib.hid (show MixV w w.heap.size O cw p q (octA ⟨va, vb, vc, vd, ve, vf, vg, vh⟩) kArr WP.drew from ⟨HMP.out.m.drew, HMP.out.bp, HMP.out.bq, HMP.out.lp, HMP.out.lq, HMP.out.ne⟩)
                have c0 : WP.drew.cell? ⟨p, 0, none⟩ = some (.int .u32 (na : Int)) := c0
                have c1 : WP.drew.cell? ⟨p, 1, none⟩ = some (.int .u32 (nb : Int)) := c1
                have c2 : WP.drew.cell? ⟨p, 2, none⟩ = some (.int .u32 (nc : Int)) := c2
                have c3 : WP.drew.cell? ⟨p, 3, none⟩ = some (.int .u32 (nd : Int)) := c3
                have c4 : WP.drew.cell? ⟨p, 4, none⟩ = some (.int .u32 (ne : Int)) := c4
                have c5 : WP.drew.cell? ⟨p, 5, none⟩ = some (.int .u32 (nf : Int)) := c5
                have c6 : WP.drew.cell? ⟨p, 6, none⟩ = some (.int .u32 (ng : Int)) := c6
                rw [← hWQ] at HMQ c0 c1 c2 c3 c4 c5 c6 ⊢
                clear hWQ
                have c7 := HMQ.out.bp.cell 7
                have f0 := HMQ.out.bp.free 0
                have f1 := HMQ.out.bp.free 1
                have f2 := HMQ.out.bp.free 2
                have f3 := HMQ.out.bp.free 3
                have f4 := HMQ.out.bp.free 4
                have f5 := HMQ.out.bp.free 5
                have f6 := HMQ.out.bp.free 6
                have f7 := HMQ.out.bp.free 7
                rw [show (octA ⟨va, vb, vc, vd, ve, vf, vg, vh⟩)[7]? = some (wv vh) from rfl] at c7
                go_wp2_with fail
                go_roundg (64 - (k + 1))
                case measure => have := HG.out; omega
                case rel =>
                  refine ⟨k + 1, ⟨tw + uw, va, vb, vc, vd + tw, ve, vf, vg⟩, by go_num, by omega, by omega, ?_, ?_⟩
                  · rw [stepsO, ← HVV.out, ← HSW.out, ← HKW.out, HST.out]
                  · obtain ⟨e1, e2⟩ := HN12.out
                    obtain ⟨g1, g2, g3, g4, g5, g6, g7, -⟩ := HNS.out
                    rw [e1, e2, g1, g2, g3, g5, g6, g7]
                    exact HMQ.out.fillP (vs := octA ⟨tw + uw, va, vb, vc, vd + tw, ve, vf, vg⟩) rfl
              · obtain rfl : k = 64 := by omega
                have hlt2 : decide ((64 : Int) < 64) = false := by simp
                clear hlt hk HG
                go_wp2_with fail
                go_loopg [182] 8 (fun g v182 wr => ∃ (k : Nat) (ch : Array Value), v182 = .int .i64 k ∧ k ≤ 8 ∧ Hid (g + k = 8 ∧ MixV w w.heap.size ch cw p q (octA V) kArr wr ∧ Added ch v V k))
                case atStart => exact ⟨0, O, rfl, by omega, rfl, HMV.out, by rw [HO.out]; exact added_none v V⟩
                case round =>
                  clear HMV
                  obtain ⟨k, ch, rfl, hk, HH⟩ := hrel
                  obtain ⟨hg, hm, ha⟩ := HH.out
                  have HG := Lib.hid hg
                  have HMV := Lib.hid hm
                  have HAD := Lib.hid ha
                  clear HH hg hm ha
                  by_cases hlt : k < 8
                  · have hlt2 : decide ((k : Int) < 8) = true := by simp; omega
                    have hx0 : (k : Int) < 8 := by omega
                    have hx1 : (0 : Int) ≤ (k : Int) := by omega
                    have cv := (HMV.out.m.h.cell k).trans (HAD.out.later k (Nat.le_refl _) hlt)
                    have cu := (HMV.out.bp.cell k).trans (octA_get V k hlt)
                    have cf := HMV.out.m.h.free k
                    obtain ⟨xv, hxv⟩ : ∃ x, x = v.nth k := ⟨_, rfl⟩
                    obtain ⟨xu, hxu⟩ : ∃ x, x = V.nth k := ⟨_, rfl⟩
                    rw [← hxv] at cv
                    rw [← hxu] at cu
                    have hsum := w_plus xv xu
                    unfold wv at cv cu
                    obtain ⟨nv, hnv⟩ : ∃ x, x = xv.toNat := ⟨_, rfl⟩
                    obtain ⟨nu, hnu⟩ : ∃ x, x = xu.toNat := ⟨_, rfl⟩
                    obtain ⟨ns, hns⟩ : ∃ x, x = (xv + xu).toNat := ⟨_, rfl⟩
                    rw [← hnv] at cv hsum
                    rw [← hnu] at cu hsum
                    rw [← hns] at hsum
                    have HS2 := Lib.hid hsum
                    have HNN := Lib.hid (And.intro hns (And.intro hxv hxu))
                    have dv : wr.drew.cell? ⟨w.heap.size, k, none⟩ = some (.int .u32 (nv : Int)) := cv
                    have du : wr.drew.cell? ⟨p, k, none⟩ = some (.int .u32 (nu : Int)) := cu
                    have df : wr.drew.frozen? ⟨w.heap.size, k, none⟩ = false := cf
                    clear hsum hxv hxu hnv hnu hns cv cu cf
                    go_wp2_with fail
                    refine AnyP.start [8] (fun w' => w'.cell? ⟨w.heap.size, k, none⟩ = some (.int .u32 (nv : Int)) ∧ w'.cell? ⟨p, k, none⟩ = some (.int .u32 (nu : Int))) (by kernel_rfl) ⟨dv, du⟩ (n := 9) (listed := #[false, false, false, false, false, false, false, false, false]) (by kernel_rfl) (by kernel_rfl) (fun hHeld => ?_)
                    refine AnyP.take (i := 0) (fuel := 8) (d := some 185) (listed' := #[true, false, false, false, false, false, false, false, false]) (oi := _) (v := ?v0z) rfl (by kernel_rfl) (by kernel_rfl) (by kernel_rfl) (fun _ _ _ h => h) (Or.inl ⟨by rfl, ?hy0z⟩) (by rfl) (by rfl) ?rest0z
                    case hy0z => intro w; go_simp; try with_reducible rfl
                    try simp only [Act.put, List.setIfInBounds_toArray, List.set_cons_zero, List.set_cons_succ]
                    refine AnyP.take (i := 1) (fuel := 7) (d := some 186) (listed' := #[true, true, false, false, false, false, false, false, false]) (oi := _) (v := ?v1z) rfl (by kernel_rfl) (by kernel_rfl) (by kernel_rfl) (fun _ _ _ h => h) (Or.inl ⟨by rfl, ?hy1z⟩) (by rfl) (by rfl) ?rest1z
                    case hy1z => intro w; go_simp; try with_reducible rfl
                    try simp only [Act.put, List.setIfInBounds_toArray, List.set_cons_zero, List.set_cons_succ]
                    refine AnyP.load (i := 2) (fuel := 6) (d := some 187) (listed' := #[true, true, true, false, false, false, false, false, false]) (oi := _) (v := ?v2z) [8] rfl (by kernel_rfl) (by kernel_rfl) (by kernel_rfl) (by kernel_rfl) (by kernel_rfl) (by kernel_rfl) (fun _ _ _ h => h) (Or.inl ⟨by rfl, ?hy2z⟩) hHeld (by rfl) (by rfl) ?rest2z
                    case hy2z => intro w hSw; (try dsimp only at hSw); go_simp; try with_reducible rfl
                    try simp only [Act.put, List.setIfInBounds_toArray, List.set_cons_zero, List.set_cons_succ]
                    refine AnyP.take (i := 3) (fuel := 5) (d := some 188) (listed' := #[true, true, true, true, false, false, false, false, false]) (oi := _) (v := ?v3z) rfl (by kernel_rfl) (by kernel_rfl) (by kernel_rfl) (fun _ _ _ h => h) (Or.inl ⟨by rfl, ?hy3z⟩) (by rfl) (by rfl) ?rest3z
                    case hy3z => intro w; go_simp; try with_reducible rfl
                    try simp only [Act.put, List.setIfInBounds_toArray, List.set_cons_zero, List.set_cons_succ]
                    refine AnyP.take (i := 4) (fuel := 4) (d := some 189) (listed' := #[true, true, true, true, true, false, false, false, false]) (oi := _) (v := ?v4z) rfl (by kernel_rfl) (by kernel_rfl) (by kernel_rfl) (fun _ _ _ h => h) (Or.inl ⟨by rfl, ?hy4z⟩) (by rfl) (by rfl) ?rest4z
                    case hy4z => intro w; go_simp; try with_reducible rfl
                    try simp only [Act.put, List.setIfInBounds_toArray, List.set_cons_zero, List.set_cons_succ]
                    refine AnyP.load (i := 5) (fuel := 3) (d := some 190) (listed' := #[true, true, true, true, true, true, false, false, false]) (oi := _) (v := ?v5z) [8] rfl (by kernel_rfl) (by kernel_rfl) (by kernel_rfl) (by kernel_rfl) (by kernel_rfl) (by kernel_rfl) (fun _ _ _ h => h) (Or.inl ⟨by rfl, ?hy5z⟩) hHeld (by rfl) (by rfl) ?rest5z
                    case hy5z => intro w hSw; (try dsimp only at hSw); go_simp; try with_reducible rfl
                    try simp only [Act.put, List.setIfInBounds_toArray, List.set_cons_zero, List.set_cons_succ]
                    refine AnyP.take (i := 6) (fuel := 2) (d := some 191) (listed' := #[true, true, true, true, true, true, true, false, false]) (oi := _) (v := ?v6z) rfl (by kernel_rfl) (by kernel_rfl) (by kernel_rfl) (fun _ _ _ h => h) (Or.inl ⟨by rfl, ?hy6z⟩) (by rfl) (by rfl) ?rest6z
                    case hy6z => intro w; go_simp; try with_reducible rfl
                    try simp only [Act.put, List.setIfInBounds_toArray, List.set_cons_zero, List.set_cons_succ]
                    refine AnyP.take (i := 7) (fuel := 1) (d := some 192) (listed' := #[true, true, true, true, true, true, true, true, false]) (oi := _) (v := ?v7z) rfl (by kernel_rfl) (by kernel_rfl) (by kernel_rfl) (fun _ _ _ h => h) (Or.inl ⟨by rfl, ?hy7z⟩) (by rfl) (by rfl) ?rest7z
                    case hy7z => intro w; go_simp; try with_reducible rfl
                    try simp only [Act.put, List.setIfInBounds_toArray, List.set_cons_zero, List.set_cons_succ]
                    refine AnyP.one (i := 8) (o := ?o8z) (fuel := 0) (listed' := #[true, true, true, true, true, true, true, true, true]) (by kernel_rfl) ?ho8z (by rfl) (fun K' hK' => ?step8z)
                    case ho8z => simp only [List.getElem?_toArray, List.getElem?_cons_succ, List.getElem?_cons_zero]; rfl
                    go_simp
                    refine hK'.out _ _ (fun h => absurd (by decide) h) (fun hHeld => ?_)
                    clear hK' K'
                    try simp only [Act.put, List.setIfInBounds_toArray, List.set_cons_zero, List.set_cons_succ]
                    refine AnyP.done (by kernel_rfl) ?_ _
                    rw [HS2.out]
                    go_wp2_with fail
                    go_roundg (8 - (k + 1))
                    case measure => have := HG.out; omega
                    case rel =>
                      obtain ⟨e1, e2, e3⟩ := HNN.out
                      refine ⟨k + 1, _, by go_num, by omega, by omega, (HMV.out.storeH k (.int .u32 (ns : Int))).drew, ?_⟩
                      rw [e1, e2, e3]
                      exact HAD.out.next hlt
                  · obtain rfl : k = 8 := by omega
                    have hlt2 : decide ((8 : Int) < 8) = false := by simp
                    have hch := HAD.out.all
                    rw [HVV.out] at hch
                    rw [show addO v (stepsO (wordAt l) v 64) = mixO v (wordAt l) from rfl] at hch
                    subst hch
                    clear hlt hk HG HAD HVV
                    go_upto_region 26 with fail
                    refine wp_region_list ?_
                    refine wpList_load_mid rfl _ _ rfl w.heap.size 0 rfl (octA (mixO v (wordAt l))).toList _ HMV.out.m.h.range Try.underlying286 rfl size8u ?_
                    simp only [Act.put, List.setIfInBounds_toArray, List.set_cons_zero, List.set_cons_succ, Array.toArray_toList]
                    obtain ⟨cr, hz, hr⟩ := HMV.out.m.r
                    have HR := Lib.hid hr
                    have HBB := Lib.hid HMV.out.m.b
                    refine wpList_store_mid rfl _ _ _ rfl (w.heap.size + 1) 0 (octA (mixO v (wordAt l))) rfl rfl (by rw [show (octA (mixO v (wordAt l))).size = cr.size from hz.symm]; exact HR.out.there) size8u (octA_one _) ?_
                    simp only [Act.put]
                    have HF := Lib.hid (HR.out.fill (octA (mixO v (wordAt l))) (show (octA (mixO v (wordAt l))).size = cr.size from hz.symm))
                    have HE := Lib.hid (show Below w.heap.size w (wr.setCells (w.heap.size + 1) 0 (octA (mixO v (wordAt l))).toList) from HBB.out.trans (below_setCells (by omega) _ _ _))
                    obtain ⟨W2, hW2⟩ : ∃ W2, W2 = wr.setCells (w.heap.size + 1) 0 (octA (mixO v (wordAt l))).toList := ⟨_, rfl⟩
                    rw [← hW2] at HF HE ⊢
                    clear hW2 hz hr
                    go_wp2_with (with_reducible refine stop_ret ?_)
                    refine bodyPost_ret (v := .agg (octA (mixO v (wordAt l)))) ?_ rfl ⟨rfl, HE.out⟩
                    have hr := run_loadVar_mid (P := Try.prog) W2 (w.heap.size + 1) 0 286 (octA (mixO v (wordAt l))).toList _ HF.out.range Try.underlying286 rfl size8u
                    simp [results, Try.results226, asAddr, hr]
end Go.Proofs.Ytfgpchffkpomoaa
