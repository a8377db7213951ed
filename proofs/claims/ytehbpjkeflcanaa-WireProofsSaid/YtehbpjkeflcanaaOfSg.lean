/- A message is read: the walks through OfSigned, the code's and the document's. -/
import Derived.Test.YtehbpjkeflcanaaRefSg
import Derived.Test.YtehbpjkeflcanaaOf
namespace Go.Proofs.Ytehbpjkeflcanaa
set_option linter.unusedSimpArgs false
set_option linter.unusedVariables false
open Go.RowKit

def zeroSg : Sg := ⟨0, ⟨#[]⟩, ⟨#[]⟩⟩
def ofSg (s : ByteArray) : Sg × Int :=
  if 2097152 < s.size then (zeroSg, 4) else match signed s 0 with
    | .error c => (zeroSg, c)
    | .ok (m, p) => if p < s.size then (zeroSg, 12) else if fitsB m = true then (m, 0) else (zeroSg, 14)
def OfSgPost (r : Sg × Int) (w : World) (e : Ending) (w' : World) : Prop := e = .returned (.tuple #[r.1.val, .int .i64 r.2]) ∧ Below w.heap.size w w'
theorem ofSg_short_eq {s : ByteArray} (h : ¬ 2097152 < s.size) : ofSg s = match signed s 0 with
    | .error c => (zeroSg, (c : Int))
    | .ok (m, p) => if p < s.size then (zeroSg, 12) else if fitsB m = true then (m, 0) else (zeroSg, 14) := by
  unfold ofSg; rw [if_neg h]

abbrev ofSgD (w0 : World) : Deferred := { target := .fn (.func 78) #[.pointer (some ⟨w0.heap.size, 0, none⟩), .pointer (some ⟨w0.heap.size + 1, 0, none⟩)], args := #[] }

theorem ofSg_panic (w0 w1 : World) (s : ByteArray) (c : Nat) (tmps : Array Value) (x0 x1 x2 : Value) (h2 : tmps[2]? = some (.pointer (some ⟨w0.heap.size, 0, none⟩))) (h3 : tmps[3]? = some (.pointer (some ⟨w0.heap.size + 1, 0, none⟩)))
    (hf : FaceE w0 36 #[x0, x1, x2] w1) (hE : ofSg s = (zeroSg, (c : Int))) : Leaves Try.prog Try.f35 tmps (OfSgPost (ofSg s) w0) [ofSgD w0] (.panicking (fault c)) w1 := by
  have HE := Lib.hid hE
  clear hE
  refine leaves_cons (f := 78) (args := #[.pointer (some ⟨w0.heap.size, 0, none⟩), .pointer (some ⟨w0.heap.size + 1, 0, none⟩)]) (by simp) (by simp [go_sem]) ?_
  refine (ofSigned_catch w0.heap.size _ _ _ _ c w1 hf.b hf.e).mono ?_
  rintro e u' w' ⟨rfl, hu, hc, _, k0, k1⟩
  obtain ⟨c0, c1, c2, _⟩ := k0.facts3
  obtain ⟨d0, _⟩ := k1.facts1
  refine leaves_end hu ⟨.tuple #[zeroSg.val, .int .i64 c], by simp [results, Try.results35, go_sem, h2, h3, c0, c1, c2, d0, zeroSg, Sg.val], ?_, hf.ch.trans (hc.below (fun _ _ h => h))⟩
  rw [HE.out]
theorem ofSg_door (w0 w1 : World) (s : ByteArray) (m : Sg) (code : Int) (tmps : Array Value) (h2 : tmps[2]? = some (.pointer (some ⟨w0.heap.size, 0, none⟩))) (h3 : tmps[3]? = some (.pointer (some ⟨w0.heap.size + 1, 0, none⟩)))
    (hb : Box w1 w0.heap.size #[.int .i64 m.who, .string m.body, .string m.sig] 36) (he : Box w1 (w0.heap.size + 1) #[.int .i64 code] 25) (hch : Below w0.heap.size w0 w1)
    (hE : ofSg s = (m, code)) : Leaves Try.prog Try.f35 tmps (OfSgPost (ofSg s) w0) [ofSgD w0] .returning w1 := by
  have HE := Lib.hid hE
  clear hE
  refine leaves_cons (f := 78) (args := #[.pointer (some ⟨w0.heap.size, 0, none⟩), .pointer (some ⟨w0.heap.size + 1, 0, none⟩)]) (by simp) (by simp [go_sem]) ?_
  refine (ofSigned_idle w1 _ _).mono ?_
  rintro e u' w' ⟨rfl, hu, rfl⟩
  obtain ⟨c0, c1, c2, _⟩ := hb.facts3
  obtain ⟨d0, _⟩ := he.facts1
  refine leaves_end hu ⟨.tuple #[m.val, .int .i64 code], by simp [results, Try.results35, go_sem, h2, h3, c0, c1, c2, d0, Sg.val], ?_, hch⟩
  rw [HE.out]
theorem ofSg_long (s : ByteArray) (w : World) (_hs : s.size ≤ maxLen) (h : 2097152 < s.size) : Calls Try.prog 35 #[.string s] w (OfSgPost (ofSg s) w) := by
  unfold maxLen at _hs
  have HE := Lib.hid (show ofSg s = (zeroSg, 4) by unfold ofSg; rw [if_pos h])
  have hd : decide ((2097152 : Int) < (s.size : Int)) = true := by simp; omega
  go_enter_defers Try.func35, Try.ntmps35
  go_wp2
  refine ⟨.tuple #[zeroSg.val, .int .i64 4], by simp [results, Try.results35, go_sem, zeroSg, Sg.val], by rw [HE.out], ?_⟩
  exact ((Below.refl _ _).alloc (Nat.le_refl _) _).alloc (by simp) _

set_option maxRecDepth 100000 in
theorem ofSg_near (s : ByteArray) (w : World) (h : ¬ 2097152 < s.size) : Calls Try.prog 35 #[.string s] w (OfSgPost (ofSg s) w) := by
  have hmf : ∀ (fn : Fn) (first cap : Array Value) (w : World), (Instr.makeFunc fn first cap).run Try.prog w = .ok (.func fn first cap) w := fun _ _ _ _ => rfl
  have HMAX := Lib.hid (show s.size ≤ maxLen by unfold maxLen; omega)
  have HG := Lib.hid (ofSg_short_eq h)
  have hd : decide ((2097152 : Int) < (s.size : Int)) = false := by simp; omega
  have HF0 := Lib.hid (Face.new w 36 #[.int .i64 0, .string ⟨#[]⟩, .string ⟨#[]⟩] s)
  have HSG := Lib.hid (signed_calls (w.heap.size + 1 + 1) s 0)
  go_enter_defers Try.func35, Try.ntmps35
  go_wp2_with fail
  refine (HSG.out _ HMAX.out (Nat.zero_le _) HF0.out.r).mono ?_
  rintro e w1 ⟨hc, he⟩
  cases hx : signed s 0 with
  | error c =>
    rw [hx] at he HG
    obtain rfl := he
    have HFE := Lib.hid (HF0.out.err hc)
    clear hx hc HF0
    go_wp2
    exact ofSg_panic w _ s c _ _ _ _ rfl rfl HFE.out HG.out
  | ok r =>
    obtain ⟨⟨who, body, sig⟩, p⟩ := r
    have hb := (signed_bd hx).2
    rw [hx] at he HG
    simp only [Sg.val] at he HG
    obtain ⟨rfl, hr⟩ := he
    have HF1 := Lib.hid (HF0.out.rd hc hr)
    have hf2 := ((HF1.out.set 0 (.int .i64 who)).set 1 (.string body)).set 2 (.string sig)
    have HF2 := Lib.hid (show Face w 36 #[.int .i64 who, .string body, .string sig] s p _ by simpa using hf2)
    obtain ⟨c0, c1, c2, f0, f1, f2⟩ := HF1.out.b.facts3
    have HEND := Lib.hid (end_calls (w.heap.size + 1 + 1) s p)
    have HFIT := Lib.hid (fits_calls ⟨who, body, sig⟩)
    unfold Sg.val at HFIT
    simp only at HFIT
    clear hx hc hr HF0 hf2
    go_wp2_with fail
    refine (HEND.out _ HMAX.out hb HF2.out.r).mono ?_
    rintro e w9 ⟨hc, he⟩
    have HFE := Lib.hid (HF2.out.err hc)
    clear hc c0 c1 c2 f0 f1 f2 HF1 HF2
    by_cases hend : p < s.size
    · rw [if_pos hend] at he HG
      obtain rfl := he
      clear hend
      go_wp2
      exact ofSg_panic w _ s 12 _ _ _ _ rfl rfl HFE.out HG.out
    · rw [if_neg hend] at he HG
      obtain rfl := he
      clear hend
      obtain ⟨c0, c1, c2, f0, f1, f2⟩ := HFE.out.b.facts3
      obtain ⟨e0, g0⟩ := HFE.out.e.facts1
      go_wp2_with fail
      refine (HFIT.out _).mono ?_
      rintro e w10 ⟨rfl, hb10⟩
      have HBX := Lib.hid (HFE.out.b.call hb10)
      have HBE := Lib.hid (HFE.out.e.call hb10)
      have HC := Lib.hid (HFE.out.ch.trans (hb10.mono HFE.out.ch.size))
      clear c0 c1 c2 f0 f1 f2 e0 g0 hb10
      obtain ⟨c0, c1, c2, f0, f1, f2⟩ := HBX.out.facts3
      obtain ⟨e0, g0⟩ := HBE.out.facts1
      cases hft : fitsB ⟨who, body, sig⟩ with
      | true =>
        rw [hft] at HG
        simp only [if_true] at HG
        clear hft
        go_wp2
        refine ofSg_door w _ s ⟨who, body, sig⟩ 0 _ rfl rfl ?_ ?_ ?_ HG.out
        · have hh := (((HBX.out.set 0 (.int .i64 who)).set 1 (.string body)).set 2 (.string sig)).other (a := ⟨w.heap.size + 1, 0, none⟩) (by simp) (.int .i64 0)
          simpa using hh
        · have hh := (((HBE.out.other (a := ⟨w.heap.size, 0, none⟩) (by simp) (.int .i64 who)).other (a := ⟨w.heap.size, 1, none⟩) (by simp) (.string body)).other (a := ⟨w.heap.size, 2, none⟩) (by simp) (.string sig)).set 0 (.int .i64 0)
          simpa using hh
        · exact (((HC.out.setCell (p := ⟨w.heap.size, 0, none⟩) (Nat.le_refl _) _).setCell (p := ⟨w.heap.size, 1, none⟩) (Nat.le_refl _) _).setCell (p := ⟨w.heap.size, 2, none⟩) (Nat.le_refl _) _).setCell (p := ⟨w.heap.size + 1, 0, none⟩) (by simp) _
      | false =>
        rw [hft] at HG
        simp only [Bool.false_eq_true, if_false] at HG
        clear hft
        go_wp2
        refine ofSg_door w _ s zeroSg 14 _ rfl rfl ?_ ?_ ?_ HG.out
        · have hh := (((HBX.out.set 0 (.int .i64 0)).set 1 (.string ⟨#[]⟩)).set 2 (.string ⟨#[]⟩)).other (a := ⟨w.heap.size + 1, 0, none⟩) (by simp) (.int .i64 14)
          simp at hh
          exact hh
        · have hh := (((HBE.out.other (a := ⟨w.heap.size, 0, none⟩) (by simp) (.int .i64 0)).other (a := ⟨w.heap.size, 1, none⟩) (by simp) (.string ⟨#[]⟩)).other (a := ⟨w.heap.size, 2, none⟩) (by simp) (.string ⟨#[]⟩)).set 0 (.int .i64 14)
          simpa using hh
        · exact (((HC.out.setCell (p := ⟨w.heap.size, 0, none⟩) (Nat.le_refl _) _).setCell (p := ⟨w.heap.size, 1, none⟩) (Nat.le_refl _) _).setCell (p := ⟨w.heap.size, 2, none⟩) (Nat.le_refl _) _).setCell (p := ⟨w.heap.size + 1, 0, none⟩) (by simp) _
theorem ofSg_calls (s : ByteArray) (w : World) (hs : s.size ≤ maxLen) : Calls Try.prog 35 #[.string s] w (OfSgPost (ofSg s) w) := by
  by_cases h : 2097152 < s.size
  · exact ofSg_long s w hs h
  · exact ofSg_near s w h
end Go.Proofs.Ytehbpjkeflcanaa
