/- What a light client finds in what it was shown: in plain words. -/
import Derived.Test.YtfgpchffkpomoaaShown12
import Derived.Test.YtfgpchffkpomoaaVerAll
import Derived.Test.YtfgpchffkpomoaaPk34
import Derived.Test.YtfgpchffkpomoaaPk28
namespace Go.Proofs.Ytfgpchffkpomoaa
set_option linter.unusedSimpArgs false
set_option linter.unusedVariables false
open Go.RowKit

/-- What was shown, taken apart. -/
structure Parted (T : List ByteArray) (S : List Wd) (F : Nat) (L : List Rc) (seq : Int) (key out : ByteArray) (g : Nat) (sg : Sg) (tt : ByteArray) (l : List Sg) : Prop where
  is : out = bs (putSg sg)
  ok : ShownOk S F seq (rootP (hh T) L) tt l g sg
  reads : ofSg out = (sg, 0)
  proof : ofPfE tt = ((((L.length : Nat) : Int), proofP (hh T) L key), 0)
  size : out.size ≤ maxLen
theorem Shown.part {T : List ByteArray} {S : List Wd} {F : Nat} {L : List Rc} {sq : Int} {key out : ByteArray} {g : Nat} (h : Shown T S F L sq key out g) : ∃ sg tt l, Parted T S F L (4 * (1 + (rnd sq 100 : Nat))) key out g sg tt l := by
  obtain ⟨tt, l, sg, h1, h2, h3⟩ := h.shows
  have h4 := proof_back h3
  have h5 := putSg_len h2.fits
  have h6 := (fitsB_iff _).1 h2.fits
  exact ⟨sg, tt, l, h1, h2, by rw [h1]; exact h2.reads, h4.1, by rw [h1, bs_size]; simp only [maxLen]; omega⟩
/-- Too few signed it. -/
theorem Parted.few {T : List ByteArray} {S : List Wd} {F : Nat} {L : List Rc} {seq : Int} {key out : ByteArray} {g : Nat} {sg : Sg} {tt : ByteArray} {l : List Sg} (h : Parted T S F L seq key out g sg tt l) (hg : g ≤ F) : verE S F out = 30 := by
  unfold verE
  rw [h.reads]
  simp only
  rw [h.ok.opens]
  simp only [ne_eq, not_true_eq_false, if_false]
  have e1 : (showB seq (rootP (hh T) L) tt l).kind = 13 := rfl
  have e2 : (showB seq (rootP (hh T) L) tt l).seq = seq := rfl
  have e3 : (showB seq (rootP (hh T) L) tt l).digest = rootP (hh T) L := rfl
  have e4 : (showB seq (rootP (hh T) L) tt l).list = l := rfl
  rw [e1, e2, e3, e4, h.ok.voters, if_neg (by decide), if_pos (by omega)]
/-- What a proof of the records tells of its own key, behind whatever came. -/
theorem shown_true {T T' : List ByteArray} (he : Ext T T') (hT : T'.length ≤ 1000000000) {L : List Rc} {key v : ByteArray} {has : Bool} {cd : Int} (hr : riseE L = 0) (hf : fitK key = true) (hi : RootIn T L)
    (h : (v, has, cd) = verifyP (hh T') (rootP (hh T) L) key ((L.length : Nat) : Int) (proofP (hh T) L key)) (hv : cd = 0 → VerIn T' ((L.length : Nat) : Int) (proofP (hh T) L key)) : cd = 0 ∧ truthP L key v has = true := by
  have e1 := (hi.ext he).2
  have e2 := proof_ext he (key := key) hi.leaves (fun i _ => SidesIn.of_top _ i hi.top)
  rw [← e1, ← e2] at h
  have h0 := (verify_honest (T := T') hr hf).2
  rw [← h] at h0
  simp only at h0
  refine ⟨h0, ?_⟩
  have hv2 := hv h0
  rw [← e2] at hv2
  have h1 : (verifyP (hh T') (rootP (hh T') L) key ((L.length : Nat) : Int) (proofP (hh T') L key)).2.2 = 0 := by rw [← h]; exact h0
  have h2 := verify_sound hT (hi.ext he).1 hr hv2 h1
  rw [← h] at h2
  exact h2
/-- What any proof tells under the records' root, if it is taken. -/
theorem any_true {T T' : List ByteArray} (he : Ext T T') (hT : T'.length ≤ 1000000000) {L : List Rc} {key v : ByteArray} {has : Bool} {cd cnt : Int} {ps : List Pt} (hr : riseE L = 0) (hi : RootIn T L)
    (h : (v, has, cd) = verifyP (hh T') (rootP (hh T) L) key cnt ps) (hv : cd = 0 → VerIn T' cnt ps) (h0 : cd = 0) : truthP L key v has = true := by
  rw [← (hi.ext he).2] at h
  have h1 : (verifyP (hh T') (rootP (hh T') L) key cnt ps).2.2 = 0 := by rw [← h]; exact h0
  have h2 := verify_sound hT (hi.ext he).1 hr (hv h0) h1
  rw [← h] at h2
  exact h2
theorem off_nw {W : World} {A : Option Addr} {c m : Nat} {l : List Rc} (h : RcS W A c l) (hm : W.heap.size ≤ m) : Off A l.length m := fun h0 k hk => by have := h.row_lt h0 k hk; omega
theorem cell_call {w w' : World} {p : Addr} {v : Value} (h : w.cell? p = some v) (hb : Below w.heap.size w w') : w'.cell? p = some v := (hb.cell (World.block_lt_of_cell? _ _ h)).trans h
end Go.Proofs.Ytfgpchffkpomoaa
