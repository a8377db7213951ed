/- Texts of this proof, several in one file; each says ahead of it what it proves. -/
import Derived.Test.YtfgpchffkpomoaaPk08
import Derived.Test.YtfgpchffkpomoaaPk07
import Derived.Test.YtfgpchffkpomoaaPk06
import Derived.Test.YtfgpchffkpomoaaPk04
import Derived.Test.YtfgpchffkpomoaaPk03
/- A message is read: the walks through OfSigned, the code's and the document's. -/
namespace Go.Proofs.Ytfgpchffkpomoaa
set_option linter.unusedSimpArgs false
set_option linter.unusedVariables false
open Go.RowKit

def zeroSg : Sg := ⟨0, ⟨#[]⟩, ⟨#[]⟩⟩
def ofSg (s : ByteArray) : Sg × Int :=
  if 2097152 < s.size then (zeroSg, 4) else match signed s 0 with
    | .error c => (zeroSg, c)
    | .ok (m, p) => if p < s.size then (zeroSg, 12) else if fitsB m = true then (m, 0) else (zeroSg, 14)
def OfSgPost (r : Sg × Int) (w : World) (e : Ending) (w' : World) : Prop := e = .returned (.tuple #[r.1.val, .int .i64 r.2]) ∧ Below w.heap.size w w'
theorem ofSg_short_eq {s : ByteArray} (h : ¬ 2097152 < s.size) : ofSg s = match signed s 0 with
    | .error c => (zeroSg, (c : Int))
    | .ok (m, p) => if p < s.size then (zeroSg, 12) else if fitsB m = true then (m, 0) else (zeroSg, 14) := by
  unfold ofSg; rw [if_neg h]

abbrev ofSgD (w0 : World) : Deferred := { target := .fn (.func 172) #[.pointer (some ⟨w0.heap.size, 0, none⟩), .pointer (some ⟨w0.heap.size + 1, 0, none⟩)], args := #[] }

theorem ofSg_panic (w0 w1 : World) (s : ByteArray) (c : Nat) (tmps : Array Value) (x0 x1 x2 : Value) (h2 : tmps[2]? = some (.pointer (some ⟨w0.heap.size, 0, none⟩))) (h3 : tmps[3]? = some (.pointer (some ⟨w0.heap.size + 1, 0, none⟩)))
    (hf : FaceE w0 61 #[x0, x1, x2] w1) (hE : ofSg s = (zeroSg, (c : Int))) : Leaves Try.prog Try.f134 tmps (OfSgPost (ofSg s) w0) [ofSgD w0] (.panicking (fault c)) w1 := by
  have HE := Lib.hid hE
  clear hE
  refine leaves_cons (f := 172) (args := #[.pointer (some ⟨w0.heap.size, 0, none⟩), .pointer (some ⟨w0.heap.size + 1, 0, none⟩)]) (by simp) (by simp [go_sem]) ?_
  refine (ofSigned_catch w0.heap.size _ _ _ _ c w1 hf.b hf.e).mono ?_
  rintro e u' w' ⟨rfl, hu, hc, _, k0, k1⟩
  obtain ⟨c0, c1, c2, _⟩ := k0.facts3
  obtain ⟨d0, _⟩ := k1.facts1
  refine leaves_end hu ⟨.tuple #[zeroSg.val, .int .i64 c], by simp [results, Try.results134, go_sem, h2, h3, c0, c1, c2, d0, zeroSg, Sg.val], ?_, hf.ch.trans (hc.below (fun _ _ h => h))⟩
  rw [HE.out]
theorem ofSg_door (w0 w1 : World) (s : ByteArray) (m : Sg) (code : Int) (tmps : Array Value) (h2 : tmps[2]? = some (.pointer (some ⟨w0.heap.size, 0, none⟩))) (h3 : tmps[3]? = some (.pointer (some ⟨w0.heap.size + 1, 0, none⟩)))
    (hb : Box w1 w0.heap.size #[.int .i64 m.who, .string m.body, .string m.sig] 61) (he : Box w1 (w0.heap.size + 1) #[.int .i64 code] 25) (hch : Below w0.heap.size w0 w1)
    (hE : ofSg s = (m, code)) : Leaves Try.prog Try.f134 tmps (OfSgPost (ofSg s) w0) [ofSgD w0] .returning w1 := by
  have HE := Lib.hid hE
  clear hE
  refine leaves_cons (f := 172) (args := #[.pointer (some ⟨w0.heap.size, 0, none⟩), .pointer (some ⟨w0.heap.size + 1, 0, none⟩)]) (by simp) (by simp [go_sem]) ?_
  refine (ofSigned_idle w1 _ _).mono ?_
  rintro e u' w' ⟨rfl, hu, rfl⟩
  obtain ⟨c0, c1, c2, _⟩ := hb.facts3
  obtain ⟨d0, _⟩ := he.facts1
  refine leaves_end hu ⟨.tuple #[m.val, .int .i64 code], by simp [results, Try.results134, go_sem, h2, h3, c0, c1, c2, d0, Sg.val], ?_, hch⟩
  rw [HE.out]
theorem ofSg_long (s : ByteArray) (w : World) (_hs : s.size ≤ maxLen) (h : 2097152 < s.size) : Calls Try.prog 134 #[.string s] w (OfSgPost (ofSg s) w) := by
  unfold maxLen at _hs
  have HE := Lib.hid (show ofSg s = (zeroSg, 4) by unfold ofSg; rw [if_pos h])
  have hd : decide ((2097152 : Int) < (s.size : Int)) = true := by simp; omega
  go_enter_defers Try.func134, Try.ntmps134
  go_wp2
  refine ⟨.tuple #[zeroSg.val, .int .i64 4], by simp [results, Try.results134, go_sem, zeroSg, Sg.val], by rw [HE.out], ?_⟩
  exact ((Below.refl _ _).alloc (Nat.le_refl _) _).alloc (by simp) _

set_option maxRecDepth 100000 in
theorem ofSg_near (s : ByteArray) (w : World) (h : ¬ 2097152 < s.size) : Calls Try.prog 134 #[.string s] w (OfSgPost (ofSg s) w) := by
  have hmf : ∀ (fn : Fn) (first cap : Array Value) (w : World), (Instr.makeFunc fn first cap).run Try.prog w = .ok (.func fn first cap) w := fun _ _ _ _ => rfl
  have HMAX := Lib.hid (show s.size ≤ maxLen by unfold maxLen; omega)
  have HG := Lib.hid (ofSg_short_eq h)
  have hd : decide ((2097152 : Int) < (s.size : Int)) = false := by simp; omega
  have HF0 := Lib.hid (Face.new w 61 #[.int .i64 0, .string ⟨#[]⟩, .string ⟨#[]⟩] s)
  have HSG := Lib.hid (signed_calls (w.heap.size + 1 + 1) s 0)
  go_enter_defers Try.func134, Try.ntmps134
  go_wp2_with fail
  refine (HSG.out _ HMAX.out (Nat.zero_le _) HF0.out.r).mono ?_
  rintro e w1 ⟨hc, he⟩
  cases hx : signed s 0 with
  | error c =>
    rw [hx] at he HG
    obtain rfl := he
    have HFE := Lib.hid (HF0.out.err hc)
    clear hx hc HF0
    go_wp2
    exact ofSg_panic w _ s c _ _ _ _ rfl rfl HFE.out HG.out
  | ok r =>
    obtain ⟨⟨who, body, sig⟩, p⟩ := r
    have hb := (signed_bd hx).2
    rw [hx] at he HG
    simp only [Sg.val] at he HG
    obtain ⟨rfl, hr⟩ := he
    have HF1 := Lib.hid (HF0.out.rd hc hr)
    have hf2 := ((HF1.out.set 0 (.int .i64 who)).set 1 (.string body)).set 2 (.string sig)
    have HF2 := Lib.hid (show Face w 61 #[.int .i64 who, .string body, .string sig] s p _ by simpa using hf2)
    obtain ⟨c0, c1, c2, f0, f1, f2⟩ := HF1.out.b.facts3
    have HEND := Lib.hid (end_calls (w.heap.size + 1 + 1) s p)
    have HFIT := Lib.hid (fits_calls ⟨who, body, sig⟩)
    unfold Sg.val at HFIT
    simp only at HFIT
    clear hx hc hr HF0 hf2
    go_wp2_with fail
    refine (HEND.out _ HMAX.out hb HF2.out.r).mono ?_
    rintro e w9 ⟨hc, he⟩
    have HFE := Lib.hid (HF2.out.err hc)
    clear hc c0 c1 c2 f0 f1 f2 HF1 HF2
    by_cases hend : p < s.size
    · rw [if_pos hend] at he HG
      obtain rfl := he
      clear hend
      go_wp2
      exact ofSg_panic w _ s 12 _ _ _ _ rfl rfl HFE.out HG.out
    · rw [if_neg hend] at he HG
      obtain rfl := he
      clear hend
      obtain ⟨c0, c1, c2, f0, f1, f2⟩ := HFE.out.b.facts3
      obtain ⟨e0, g0⟩ := HFE.out.e.facts1
      go_wp2_with fail
      refine (HFIT.out _).mono ?_
      rintro e w10 ⟨rfl, hb10⟩
      have HBX := Lib.hid (HFE.out.b.call hb10)
      have HBE := Lib.hid (HFE.out.e.call hb10)
      have HC := Lib.hid (HFE.out.ch.trans (hb10.mono HFE.out.ch.size))
      clear c0 c1 c2 f0 f1 f2 e0 g0 hb10
      obtain ⟨c0, c1, c2, f0, f1, f2⟩ := HBX.out.facts3
      obtain ⟨e0, g0⟩ := HBE.out.facts1
      cases hft : fitsB ⟨who, body, sig⟩ with
      | true =>
        rw [hft] at HG
        simp only [if_true] at HG
        clear hft
        go_wp2
        refine ofSg_door w _ s ⟨who, body, sig⟩ 0 _ rfl rfl ?_ ?_ ?_ HG.out
        · have hh := (((HBX.out.set 0 (.int .i64 who)).set 1 (.string body)).set 2 (.string sig)).other (a := ⟨w.heap.size + 1, 0, none⟩) (by simp) (.int .i64 0)
          simpa using hh
        · have hh := (((HBE.out.other (a := ⟨w.heap.size, 0, none⟩) (by simp) (.int .i64 who)).other (a := ⟨w.heap.size, 1, none⟩) (by simp) (.string body)).other (a := ⟨w.heap.size, 2, none⟩) (by simp) (.string sig)).set 0 (.int .i64 0)
          simpa using hh
        · exact (((HC.out.setCell (p := ⟨w.heap.size, 0, none⟩) (Nat.le_refl _) _).setCell (p := ⟨w.heap.size, 1, none⟩) (Nat.le_refl _) _).setCell (p := ⟨w.heap.size, 2, none⟩) (Nat.le_refl _) _).setCell (p := ⟨w.heap.size + 1, 0, none⟩) (by simp) _
      | false =>
        rw [hft] at HG
        simp only [Bool.false_eq_true, if_false] at HG
        clear hft
        go_wp2
        refine ofSg_door w _ s zeroSg 14 _ rfl rfl ?_ ?_ ?_ HG.out
        · have hh := (((HBX.out.set 0 (.int .i64 0)).set 1 (.string ⟨#[]⟩)).set 2 (.string ⟨#[]⟩)).other (a := ⟨w.heap.size + 1, 0, none⟩) (by simp) (.int .i64 14)
          simp at hh
          exact hh
        · have hh := (((HBE.out.other (a := ⟨w.heap.size, 0, none⟩) (by simp) (.int .i64 0)).other (a := ⟨w.heap.size, 1, none⟩) (by simp) (.string ⟨#[]⟩)).other (a := ⟨w.heap.size, 2, none⟩) (by simp) (.string ⟨#[]⟩)).set 0 (.int .i64 14)
          simpa using hh
        · exact (((HC.out.setCell (p := ⟨w.heap.size, 0, none⟩) (Nat.le_refl _) _).setCell (p := ⟨w.heap.size, 1, none⟩) (Nat.le_refl _) _).setCell (p := ⟨w.heap.size, 2, none⟩) (Nat.le_refl _) _).setCell (p := ⟨w.heap.size + 1, 0, none⟩) (by simp) _
theorem ofSg_calls (s : ByteArray) (w : World) (hs : s.size ≤ maxLen) : Calls Try.prog 134 #[.string s] w (OfSgPost (ofSg s) w) := by
  by_cases h : 2097152 < s.size
  · exact ofSg_long s w hs h
  · exact ofSg_near s w h
end Go.Proofs.Ytfgpchffkpomoaa

/- A body is laid: the walk through Bytes. -/
namespace Go.Proofs.Ytfgpchffkpomoaa
set_option linter.unusedSimpArgs false
set_option linter.unusedVariables false
open Go.RowKit

def putBody (b : Bd) : List UInt8 :=
  putNum b.kind.toNat ++ (putNum b.view.toNat ++ (putNum b.seq.toNat ++ (putNum b.client.toNat ++ (putNum b.stamp.toNat ++ (putText b.digest ++ (putText b.text ++ (putNum b.list.length ++ b.list.flatMap putSg)))))))
theorem putBody_eq (b : Bd) : putBody b = putNum b.kind.toNat ++ (putNum b.view.toNat ++ (putNum b.seq.toNat ++ (putNum b.client.toNat ++ (putNum b.stamp.toNat ++ (putText b.digest ++ (putText b.text ++ (putNum b.list.length ++ b.list.flatMap putSg))))))) := rfl
def bytesE (b : Bd) : ByteArray × Int := if rightE b = 0 then (if 1048576 < (putBody b).length then (⟨#[]⟩, 4) else (bs (putBody b), 0)) else (⟨#[]⟩, rightE b)

theorem rules_text (k : Int) : (rules k).text ≤ 1048576 ∧ (rules k).list ≤ 64 := by
  unfold rules
  repeat' split
  all_goals decide
theorem right_ok {b : Bd} (h : rightE b = 0) : 1 ≤ b.kind ∧ b.kind ≤ 13 ∧ 0 ≤ b.view ∧ b.view ≤ 1048576 ∧ 0 ≤ b.seq ∧ b.seq ≤ 1073741824 ∧ 0 ≤ b.client ∧ b.client ≤ 15 ∧ 0 ≤ b.stamp ∧ b.stamp ≤ 1099511627776 ∧
    b.digest.size ≤ 32 ∧ b.text.size ≤ 1048576 ∧ b.list.length ≤ 64 ∧ fitAllB b.list = true := by
  unfold rightE at h
  split at h
  · cases h
  · rename_i hk
    split at h
    · rename_i hp
      simp only [Bool.and_eq_true] at hp
      obtain ⟨⟨ha, hb⟩, _⟩ := hp
      simp only [partA, partB, partBr, Bool.and_eq_true, decide_eq_true_eq] at ha hb
      have := rules_text b.kind
      obtain ⟨h1, h2, h3, _, _, hf⟩ := hb
      refine ⟨by omega, by omega, ha.1.1, ha.1.2, ha.2.1.1, ha.2.1.2, ha.2.2.1.1, ha.2.2.1.2, ha.2.2.2.1, ha.2.2.2.2, h1, by omega, by omega, hf⟩
    · cases h

def sizes (l : List Sg) : Nat := (l.map fun m => m.body.size).foldr (· + ·) 0
theorem sizes_append (l m : List Sg) : sizes (l ++ m) = sizes l + sizes m := by
  induction l with
  | nil => simp [sizes]
  | cons x l ih => simp only [List.cons_append, sizes, List.map_cons, List.foldr_cons] at *; omega
theorem sizes_le_flat (l : List Sg) : sizes l ≤ (l.flatMap putSg).length := by
  induction l with
  | nil => simp [sizes]
  | cons x l ih =>
    simp only [List.flatMap_cons, List.length_append, sizes, List.map_cons, List.foldr_cons] at *
    have : x.body.size ≤ (putSg x).length := by simp only [putSg, List.length_append, putText_length]; omega
    omega
theorem sizes_take_le (l : List Sg) (k : Nat) : sizes (l.take k) ≤ sizes l := by
  have h := congrArg sizes (List.take_append_drop k l)
  rw [sizes_append] at h
  omega
theorem flat_le {l : List Sg} (h : fitAllB l = true) : (l.flatMap putSg).length ≤ l.length * 1048700 := by
  induction l with
  | nil => simp
  | cons x l ih =>
    simp only [fitAllB, List.all_cons, Bool.and_eq_true] at h
    have h1 := putSg_len h.1
    have h2 := ((fitsB_iff x).1 h.1).2.2.1
    have := ih h.2
    simp only [List.flatMap_cons, List.length_append, List.length_cons]
    omega

set_option maxRecDepth 100000 in
theorem bytes_no (b : Bd) (A : Option Addr) (c : Nat) (w : World) (hs : SgS w A c b.list) (h : rightE b ≠ 0) : Calls Try.prog 112 #[b.val A c] w (StrErr (bytesE b).1 (bytesE b).2 w) := by
  have HE := Lib.hid (show bytesE b = (⟨#[]⟩, rightE b) by unfold bytesE; rw [if_neg h])
  have HR := Lib.hid (right_calls b A c (w.alloc (.cells (b.cells A c) 59)) (hs.below ((Below.refl _ _).alloc (Nat.le_refl _) _)))
  obtain ⟨re, hre⟩ : ∃ re, re = rightE b := ⟨_, rfl⟩
  rw [← hre] at h HE HR
  have hne : (re != 0) = true := by simp [h]
  clear h hre
  obtain ⟨kind, view, seq, client, stamp, digest, tx, list⟩ := b
  unfold Bd.val Bd.cells at *
  simp only at *
  go_enter Try.func112, Try.ntmps112
  go_wp2_with fail
  refine HR.out.mono ?_
  rintro e w1 ⟨rfl, hb⟩
  go_wp2
  go_ret2
  rw [HE.out]
  exact ⟨rfl, ((Below.refl _ _).alloc (Nat.le_refl _) _).trans (hb.mono (by simp))⟩

set_option maxHeartbeats 2000000 in
set_option maxRecDepth 100000 in
theorem bytes_yes (b : Bd) (A : Option Addr) (c : Nat) (w : World) (hs : SgS w A c b.list) (h : rightE b = 0) : Calls Try.prog 112 #[b.val A c] w (StrErr (bytesE b).1 (bytesE b).2 w) := by
  have HE := Lib.hid (show bytesE b = if 1048576 < (putBody b).length then (⟨#[]⟩, 4) else (bs (putBody b), 0) by unfold bytesE; rw [if_pos h])
  have HR := Lib.hid (right_calls b A c (w.alloc (.cells (b.cells A c) 59)) (hs.below ((Below.refl _ _).alloc (Nat.le_refl _) _)))
  rw [h] at HR
  have hok := right_ok h
  have HP := Lib.hid (putBody_eq b)
  have HBX := Lib.hid (Box.new w (b.cells A c) 59)
  have HS := Lib.hid hs
  have hfit := hs.fits
  have HZ := Lib.hid (sizes_le_flat b.list)
  have HT := Lib.hid (sizes_take_le b.list)
  have hflat := flat_le hok.2.2.2.2.2.2.2.2.2.2.2.2.2
  have HFA := Lib.hid hok.2.2.2.2.2.2.2.2.2.2.2.2.2
  clear h hs
  obtain ⟨kind, view, seq, client, stamp, digest, tx, list⟩ := b
  unfold Bd.val Bd.cells at *
  simp only at *
  obtain ⟨k1, k2, v1, v2, s1, s2, cl1, cl2, st1, st2, hdg, htx, hll, _⟩ := hok
  go_enter Try.func112, Try.ntmps112
  go_wp2_with fail
  refine HR.out.mono ?_
  rintro e w1 ⟨rfl, hb⟩
  have hb1 := HBX.out.call hb
  have HB1 := Lib.hid hb1
  have HC1 := Lib.hid (((Below.refl w.heap.size w).alloc (Nat.le_refl _) (.cells #[.int .i64 kind, .int .i64 view, .int .i64 seq, .int .i64 client, .int .i64 stamp, .string digest, .string tx, .slice A list.length c] 59)).trans (hb.mono (by simp)))
  have hlt1 := hb1.lt
  obtain ⟨_, _, _, _, _, _, _, c7, _⟩ := hb1.facts8
  clear hb hb1
  go_wp2_with fail
  go_loopg [5, 19] list.length (fun g vn vi wr => ∃ k : Nat, vi = .int .i64 k ∧ vn = .int .i64 (sizes (list.take k) : Nat) ∧ k ≤ list.length ∧ sizes (list.take k) ≤ 1048576 ∧ Hid (g + k = list.length ∧ Below w1.heap.size w1 wr))
  case atStart => exact ⟨0, rfl, rfl, Nat.zero_le _, by simp [sizes], rfl, Below.refl _ _⟩
  case round =>
    obtain ⟨k, rfl, rfl, hk, hsk, HH⟩ := hrel
    obtain ⟨hg, hbl⟩ := HH.out
    have HG := Lib.hid hg
    have HB := Lib.hid hbl
    have hsz := hbl.size
    clear HH hg hbl
    by_cases hlt : k < list.length
    · have hd : decide ((k : Int) < (list.length : Int)) = true := by simp; omega
      obtain ⟨a, rfl, h0, h1, h2⟩ := ((HS.out.below HC1.out).below HB.out).elem k hlt
      have hst : sizes (list.take (k + 1)) = sizes (list.take k) + list[k].body.size := by rw [List.take_succ_eq_append_getElem hlt, sizes_append]; simp [sizes]
      have hle := HT.out (k + 1)
      obtain ⟨m, hm⟩ : ∃ m, m = list[k] := ⟨_, rfl⟩
      rw [← hm] at h0 h1 h2 hst
      clear hm
      obtain ⟨who, body, sig⟩ := m
      simp only at h0 h1 h2 hst
      obtain ⟨s0, hs0⟩ : ∃ s0, s0 = sizes (list.take k) := ⟨_, rfl⟩
      obtain ⟨s1', hs1⟩ : ∃ s1, s1 = sizes (list.take (k + 1)) := ⟨_, rfl⟩
      rw [← hs0, ← hs1] at hst
      rw [← hs0] at hsk
      rw [← hs0]
      rw [← hs1] at hle
      have hsum : (s0 : Int) + (body.size : Int) = (s1' : Int) := by omega
      have hsb : s1' ≤ 67116800 := by have := HZ.out; omega
      have HST := Lib.hid hst
      have HS1 := Lib.hid hs1
      clear hst hs1 hs0
      by_cases hbig : 1048576 < s1'
      · have hd2 : decide ((1048576 : Int) < (s1' : Int)) = true := by simp; omega
        have HE2 := Lib.hid (show bytesE ⟨kind, view, seq, client, stamp, digest, tx, list⟩ = (⟨#[]⟩, 4) by rw [HE.out, if_pos (by rw [HP.out]; simp only [List.length_append]; have := HZ.out; omega)])
        clear HE hle
        go_wp2
        go_ret2
        rw [HE2.out]
        exact ⟨rfl, HC1.out.trans ((HB.out.alloc hsz _).mono (by omega))⟩
      · have hd2 : decide ((1048576 : Int) < (s1' : Int)) = false := by simp; omega
        go_wp2
        go_roundg (list.length - (k + 1))
        case measure => have := HG.out; omega
        case rel => exact ⟨k + 1, by go_num, by rw [HS1.out], by omega, by rw [← HS1.out]; omega, by omega, HB.out.alloc hsz _⟩
    · have hd : decide ((k : Int) < (list.length : Int)) = false := by simp; omega
      have HC2 := Lib.hid (HC1.out.trans (HB.out.mono (by omega)))
      have HB2 := Lib.hid (HB1.out.call HB.out)
      have hlt2 := HB2.out.lt
      obtain ⟨W, hW⟩ : ∃ W, W = wr.alloc (.cells #[.slice none 0 0] 232) := ⟨_, rfl⟩
      have HW := Lib.hid (Wr.new wr)
      have HB3 := Lib.hid (HB2.out.alloc (.cells #[.slice none 0 0] 232))
      have hWs : W.heap.size = wr.heap.size + 1 := by rw [hW]; simp
      rw [← hW] at HW HB3
      have HWW := Lib.hid hW
      clear hW HG hsk
      have HL1 := Lib.hid (putNum_len 8 kind.toNat (by omega))
      have HL2 := Lib.hid (putNum_len 8 view.toNat (by omega))
      have HL3 := Lib.hid (putNum_len 8 seq.toNat (by omega))
      have HL4 := Lib.hid (putNum_len 8 client.toNat (by omega))
      have HL5 := Lib.hid (putNum_len 8 stamp.toNat (by omega))
      have HL6 := Lib.hid (show (putText digest).length ≤ 41 by rw [putText_length]; have := putNum_len 8 digest.size (by omega); omega)
      have HL7 := Lib.hid (show (putText tx).length ≤ 1048585 by rw [putText_length]; have := putNum_len 8 tx.size (by omega); omega)
      have HL8 := Lib.hid (putNum_len 8 list.length (by omega))
      have HS4 := Lib.hid (HS.out.below HC2.out)
      go_wp2_with fail
      rw [← HWW.out]
      have hw := HW.out.drew
      have hbx := HB3.out.drew
      have HCh := Lib.hid (WrCh.refl wr.heap.size none W.drew)
      have hWl : w.heap.size < W.drew.heap.size := by show w.heap.size < W.heap.size; omega
      go_region_held3 (fun w' => w'.cell? ⟨w.heap.size, 0, none⟩ = some (.int .i64 kind) ∧ w'.cell? ⟨w.heap.size, 1, none⟩ = some (.int .i64 view) ∧ w'.cell? ⟨w.heap.size, 2, none⟩ = some (.int .i64 seq) ∧ w'.cell? ⟨w.heap.size, 3, none⟩ = some (.int .i64 client) ∧ w'.cell? ⟨w.heap.size, 4, none⟩ = some (.int .i64 stamp) ∧ w'.cell? ⟨w.heap.size, 5, none⟩ = some (.string digest) ∧ w'.cell? ⟨w.heap.size, 6, none⟩ = some (.string tx) ∧ w'.cell? ⟨w.heap.size, 7, none⟩ = some (.slice A list.length c)) (exact boxS hbx) (first | (go_at_call 158; refine (wnumber_calls wr.heap.size _ _ _ _ _ ?h0 ?h1 ?hl hw).mono ?_; (case h0 => omega); (case h1 => omega); (case hl => (have a1 := HL1.out; have a2 := HL2.out; have a3 := HL3.out; have a4 := HL4.out; have a5 := HL5.out; have a6 := HL6.out; have a7 := HL7.out; have a8 := HL8.out; simp only [List.length_append, List.length_nil, Int.toNat_natCast]; omega)); rintro e wn ⟨rfl, An, capn, hcn, hwn⟩; have hbn := hbx.ch hcn.ch hbx.lt (by exact wr_ne HCh.out hWl (by omega) (by intro hh; cases hh)); have HChn := Lib.hid (HCh.out.trans hcn); clear hcn hbx HCh hw; have hw := hwn; have hbx := hbn; have HCh := Lib.hid HChn.out; clear hwn hbn HChn) | (go_at_call 159; refine (wtext_calls wr.heap.size _ _ _ _ _ ?h1 ?hl hw).mono ?_; (case h1 => omega); (case hl => (have a1 := HL1.out; have a2 := HL2.out; have a3 := HL3.out; have a4 := HL4.out; have a5 := HL5.out; have a6 := HL6.out; have a7 := HL7.out; have a8 := HL8.out; simp only [List.length_append, List.length_nil, Int.toNat_natCast]; omega)); rintro e wn ⟨rfl, An, capn, hcn, hwn⟩; have hbn := hbx.ch hcn.ch hbx.lt (by exact wr_ne HCh.out hWl (by omega) (by intro hh; cases hh)); have HChn := Lib.hid (HCh.out.trans hcn); clear hcn hbx HCh hw; have hw := hwn; have hbx := hbn; have HCh := Lib.hid HChn.out; clear hwn hbn HChn))
      have HW9 := Lib.hid hw
      have HB9 := Lib.hid hbx
      clear hw hbx
      obtain ⟨_, _, _, _, _, _, _, c7b, _⟩ := HB9.out.facts8
      obtain ⟨l0, hl0⟩ : ∃ l0, l0 = putNum kind.toNat ++ (putNum view.toNat ++ (putNum seq.toNat ++ (putNum client.toNat ++ (putNum stamp.toNat ++ (putText digest ++ (putText tx ++ putNum list.length)))))) := ⟨_, rfl⟩
      have HL0 := Lib.hid hl0
      have hl0b : l0.length ≤ 1048680 := by
        rw [hl0]
        have a1 := HL1.out; have a2 := HL2.out; have a3 := HL3.out; have a4 := HL4.out; have a5 := HL5.out; have a6 := HL6.out; have a7 := HL7.out; have a8 := HL8.out
        simp only [List.length_append]; omega
      clear hl0
      have HBLW := Lib.hid (fun (A2 : Option Addr) (w2 : World) (hh : WrCh wr.heap.size none A2 W.drew w2) => (show Below wr.heap.size wr w2 by have h1 := (WrCh.drewN wr.heap.size none W 1).trans hh; rw [HWW.out] at h1; exact h1.below))
      have hlo := HS4.out
      obtain ⟨wo, rfl⟩ : ∃ wo : World, wo = wr := ⟨_, rfl⟩
      go_wp2_with fail
      go_loopg [59] list.length (fun g vi w2 => ∃ (k : Nat) (A2 : Option Addr) (cap2 : Nat), vi = .int .i64 k ∧ k ≤ list.length ∧ Hid (g + k = list.length ∧ WrCh wo.heap.size none A2 W.drew w2 ∧ Wr w2 wo.heap.size A2 cap2 (l0 ++ (list.take k).flatMap putSg)))
      case atStart =>
        refine ⟨0, An, capn, rfl, Nat.zero_le _, rfl, HCh.out, ?_⟩
        have hh := HW9.out
        simp only [Int.toNat_natCast, List.nil_append, List.append_assoc] at hh
        simp only [List.take_zero, List.flatMap_nil, List.append_nil]
        rw [HL0.out]
        exact hh
      case round =>
        obtain ⟨k, A2, cap2, rfl, hk, HH⟩ := hrel
        obtain ⟨hg, hch, hw⟩ := HH.out
        have HG := Lib.hid hg
        have HCH := Lib.hid hch
        have HW2 := Lib.hid hw
        have HBL := Lib.hid (HBLW.out A2 wr hch)
        have hWr := hch.ch.size
        have hbx := HB9.out
        clear HH hg hch hw
        by_cases hlt : k < list.length
        · have hd3 : decide ((k : Int) < (list.length : Int)) = true := by simp; omega
          obtain ⟨a, rfl, h0, h1, h2⟩ := (HS4.out.below HBL.out).elem k hlt
          have hft : fitsB list[k] = true := by
            have := HFA.out
            unfold fitAllB at this
            rw [List.all_eq_true] at this
            exact this _ (List.getElem_mem hlt)
          have hstep : (list.take (k + 1)).flatMap putSg = (list.take k).flatMap putSg ++ putSg list[k] := by rw [List.take_succ_eq_append_getElem hlt, List.flatMap_append, List.flatMap_singleton]
          have htk : ((list.take k).flatMap putSg).length + (putSg list[k]).length ≤ (list.flatMap putSg).length := by
            have e := congrArg (fun l => (l.flatMap putSg).length) (List.take_append_drop (k + 1) list)
            simp only [List.flatMap_append, List.length_append] at e
            have e2 := congrArg List.length hstep
            simp only [List.length_append] at e2
            omega
          obtain ⟨m, hm⟩ : ∃ m, m = list[k] := ⟨_, rfl⟩
          rw [← hm] at h0 h1 h2 hft hstep htk
          have hfi := (fitsB_iff m).1 hft
          clear hm hft
          have HSTEP := Lib.hid hstep
          have HTK := Lib.hid htk
          clear hstep htk
          obtain ⟨who, body, sig⟩ := m
          simp only at h0 h1 h2 hfi
          have hwl := HW2.out.lt
          have HCALL := Lib.hid (wsigned_calls wo.heap.size A2 cap2 (l0 ++ (list.take k).flatMap putSg) ⟨who, body, sig⟩ (wr.alloc (.cells #[.int .i64 who, .string body, .string sig] 61)) hfi.1 (by simp only; omega) (by simp only; omega) (by simp only; omega) (by have := HTK.out; simp only [List.length_append]; omega) (HW2.out.alloc _))
          unfold Sg.val at HCALL
          go_wp2_with fail
          refine HCALL.out.mono ?_
          rintro e w3 ⟨rfl, A3, cap3, hc3, hw3⟩
          have HC3 := Lib.hid (HCH.out.trans ((WrCh.alloc wo.heap.size A2 wr (.cells #[.int .i64 who, .string body, .string sig] 61)).trans hc3))
          have HW3 := Lib.hid hw3
          clear hc3 hw3
          go_wp2
          go_roundg (list.length - (k + 1))
          case measure => have := HG.out; omega
          case rel => exact ⟨k + 1, A3, cap3, by go_num, by omega, by omega, HC3.out, by rw [HSTEP.out, ← List.append_assoc]; exact HW3.out⟩
        · have hd3 : decide ((k : Int) < (list.length : Int)) = false := by simp; omega
          have HE3 := Lib.hid (show l0 ++ (list.take k).flatMap putSg = putBody ⟨kind, view, seq, client, stamp, digest, tx, list⟩ by rw [List.take_of_length_le (by omega), HP.out, HL0.out]; simp only [List.append_assoc])
          obtain ⟨pb, hpb⟩ : ∃ pb, pb = l0 ++ (list.take k).flatMap putSg := ⟨_, rfl⟩
          rw [← hpb] at HE3 HW2
          rw [← HE3.out] at HE
          clear hpb HE3
          have hcell := HW2.out.cell
          have hst := own_to_string HW2.out.own
          have HFIN := Lib.hid (HC2.out.trans (HBL.out.mono (by omega)))
          by_cases hbig : 1048576 < pb.length
          · have hd4 : decide ((1048576 : Int) < (pb.length : Int)) = true := by simp; omega
            have hge := HE.out
            rw [if_pos hbig] at hge
            have HGE := Lib.hid hge
            clear hge
            go_wp2
            go_ret2
            rw [HGE.out]
            exact ⟨rfl, HFIN.out⟩
          · have hd4 : decide ((1048576 : Int) < (pb.length : Int)) = false := by simp; omega
            have hge := HE.out
            rw [if_neg hbig] at hge
            have HGE := Lib.hid hge
            clear hge
            go_wp2
            go_ret2
            rw [HGE.out]
            exact ⟨rfl, HFIN.out⟩

theorem body_calls (b : Bd) (A : Option Addr) (c : Nat) (w : World) (hs : SgS w A c b.list) : Calls Try.prog 112 #[b.val A c] w (StrErr (bytesE b).1 (bytesE b).2 w) := by
  by_cases h : rightE b = 0
  · exact bytes_yes b A c w hs h
  · exact bytes_no b A c w hs h
end Go.Proofs.Ytfgpchffkpomoaa

/- A body is sealed, and a message opened, by a book that numbers: the walks. -/
namespace Go.Proofs.Ytfgpchffkpomoaa
set_option linter.unusedSimpArgs false
set_option linter.unusedVariables false
open Go.RowKit


/-- The message that comes of sealing, why there is none, and what was signed then. -/
def sealE (S : List Wd) (who : Int) (b : Bd) : (Sg × Int) × List Wd :=
  if (bytesE b).2 = 0 then ((if (signE S who (bytesE b).1).1.2 = 0 then (⟨who, (bytesE b).1, (signE S who (bytesE b).1).1.1⟩, 0) else (zeroSg, (signE S who (bytesE b).1).1.2)), (signE S who (bytesE b).1).2)
  else ((zeroSg, (bytesE b).2), S)
def SealPost (r : Sg × Int) (n : Nat) (Q : World → Prop) (w : World) (e : Ending) (w' : World) : Prop := e = .returned (.tuple #[r.1.val, .int .i64 r.2]) ∧ Ch w.heap.size (· = n) w w' ∧ Q w'
theorem Bk.setCell {w : World} {b t m n : Nat} {T : List ByteArray} {S : List Wd} (h : Bk w b t m n T S) {p : Addr} (hp : p.block ≠ b ∧ p.block ≠ t ∧ p.block ≠ m ∧ p.block ≠ n) (v : Value) : Bk (w.setCell p v) b t m n T S :=
  h.ch (X := fun k => k = p.block) (Ch.setCell (Ch.refl w.heap.size (fun k => k = p.block) w) (.inr rfl) v) (Nat.le_refl _) ⟨fun e => hp.1 e.symm, fun e => hp.2.1 e.symm, fun e => hp.2.2.1 e.symm, fun e => hp.2.2.2 e.symm⟩
/-- Its blocks are none of the new ones. -/
theorem Bk.far {w : World} {b t m n : Nat} {T : List ByteArray} {S : List Wd} (h : Bk w b t m n T S) {k : Nat} (hk : w.heap.size ≤ k) : k ≠ b ∧ k ≠ t ∧ k ≠ m ∧ k ≠ n := by
  have l1 := h.lt.1
  have l2 := h.lt.2
  have l3 := h.tm.lt
  have l4 := h.wm.lt
  omega
theorem bytesE_size (b : Bd) : (bytesE b).1.size ≤ 1048576 := by
  unfold bytesE
  split
  · split
    · simp [ByteArray.size]
    · rw [bs_size]; omega
  · simp [ByteArray.size]

set_option maxHeartbeats 1000000 in
set_option maxRecDepth 100000 in
theorem seal_calls (b t m n : Nat) (T : List ByteArray) (S : List Wd) (who : Int) (x : Bd) (A : Option Addr) (c : Nat) (w : World) (hb : Bk w b t m n T S) (hS : S.length ≤ 1000000000) (hs : SgS w A c x.list) :
    Calls Try.prog 51 #[.pointer (some ⟨b, 0, none⟩), .int .i64 who, x.val A c] w (SealPost (sealE S who x).1 n (fun w' => Bk w' b t m n T (sealE S who x).2) w) := by
  have HM := Lib.hid (fun w hb => made_calls b t m n T S w hb)
  have HY := Lib.hid (fun w hs => body_calls x A c w hs)
  unfold StrErr at HY
  have hsz := bytesE_size x
  have HE := Lib.hid (show sealE S who x = if (bytesE x).2 = 0 then ((if (signE S who (bytesE x).1).1.2 = 0 then (⟨who, (bytesE x).1, (signE S who (bytesE x).1).1.1⟩, 0) else (zeroSg, (signE S who (bytesE x).1).1.2)), (signE S who (bytesE x).1).2) else ((zeroSg, (bytesE x).2), S) from rfl)
  obtain ⟨⟨y, err⟩, hr⟩ : ∃ r, bytesE x = r := ⟨_, rfl⟩
  rw [hr] at HY HE hsz
  simp only at HY HE hsz
  have HG := Lib.hid (fun w hb => sign_calls b t m n T S who y w hb hS (by simp only [maxLen]; omega))
  obtain ⟨⟨⟨g, ge⟩, S'⟩, hg⟩ : ∃ r, signE S who y = r := ⟨_, rfl⟩
  rw [hg] at HG HE
  simp only at HG HE
  have HBK := Lib.hid hb
  have HS := Lib.hid hs
  have hwl := hb.wm.lt
  have HFAR := Lib.hid (hb.far (k := w.heap.size + 1) (by omega))
  clear hb hs hr hg
  obtain ⟨kind, view, seq, client, stamp, digest, tx, list⟩ := x
  unfold Bd.val Bd.cells at *
  simp only at *
  obtain ⟨W, hW⟩ : ∃ W, W = (w.alloc (.cells #[.int .i64 kind, .int .i64 view, .int .i64 seq, .int .i64 client, .int .i64 stamp, .string digest, .string tx, .slice A list.length c] 59)).alloc (.cells #[.int .i64 0, .string ⟨#[]⟩, .string ⟨#[]⟩] 61) := ⟨_, rfl⟩
  have HA := Lib.hid (show Below w.heap.size w W by rw [hW]; exact ((Below.refl _ _).alloc (Nat.le_refl _) _).alloc (by simp) _)
  have HX := Lib.hid (show Box W (w.heap.size + 1) #[.int .i64 0, .string ⟨#[]⟩, .string ⟨#[]⟩] 61 by rw [hW]; have h := Box.new (w.alloc (.cells #[.int .i64 kind, .int .i64 view, .int .i64 seq, .int .i64 client, .int .i64 stamp, .string digest, .string tx, .slice A list.length c] 59)) #[.int .i64 0, .string ⟨#[]⟩, .string ⟨#[]⟩] 61; simp only [World.size_alloc] at h; exact h)
  have h8 : W.cell? ⟨w.heap.size, 0, none⟩ = some (.int .i64 kind) ∧ W.cell? ⟨w.heap.size, 1, none⟩ = some (.int .i64 view) ∧ W.cell? ⟨w.heap.size, 2, none⟩ = some (.int .i64 seq) ∧ W.cell? ⟨w.heap.size, 3, none⟩ = some (.int .i64 client) ∧ W.cell? ⟨w.heap.size, 4, none⟩ = some (.int .i64 stamp) ∧ W.cell? ⟨w.heap.size, 5, none⟩ = some (.string digest) ∧ W.cell? ⟨w.heap.size, 6, none⟩ = some (.string tx) ∧ W.cell? ⟨w.heap.size, 7, none⟩ = some (.slice A list.length c) := by
    have h := ((Box.new w #[.int .i64 kind, .int .i64 view, .int .i64 seq, .int .i64 client, .int .i64 stamp, .string digest, .string tx, .slice A list.length c] 59).alloc (.cells #[.int .i64 0, .string ⟨#[]⟩, .string ⟨#[]⟩] 61))
    rw [← hW] at h
    exact ⟨h.cell 0, h.cell 1, h.cell 2, h.cell 3, h.cell 4, h.cell 5, h.cell 6, h.cell 7⟩
  obtain ⟨q0, q1, q2, q3, q4, q5, q6, q7⟩ := h8
  have HBW := Lib.hid (HBK.out.below HA.out)
  have HSW := Lib.hid (HS.out.below HA.out)
  have HWW := Lib.hid hW
  have hsW : w.heap.size + 1 < W.heap.size := HX.out.lt
  clear hW
  go_enter Try.func51, Try.ntmps51
  go_wp2_with fail
  rw [← HWW.out]
  refine (HM.out _ HBW.out).mono ?_
  rintro e w1 ⟨rfl, rfl⟩
  go_wp2_with fail
  refine (HY.out _ HSW.out).mono ?_
  rintro e w2 ⟨rfl, hb2⟩
  have HB2 := Lib.hid (HBW.out.below hb2)
  have HX2 := Lib.hid (HX.out.call hb2)
  have HC2 := Lib.hid ((Ch.of_below (S := (· = n)) HA.out).step (Ch.of_below (S := (· = n)) hb2) HA.out.size (fun _ _ h => h))
  have hsz2 := hb2.size
  clear hb2 q0 q1 q2 q3 q4 q5 q6 q7
  by_cases he : err = 0
  · subst he
    have hge := HE.out
    rw [if_pos rfl] at hge
    have HGE := Lib.hid hge
    clear hge
    go_wp2_with fail
    refine (HG.out _ HB2.out).mono ?_
    rintro e w3 ⟨rfl, hc3, hb3⟩
    have HB3 := Lib.hid hb3
    have HX3 := Lib.hid (HX2.out.ch hc3 HX2.out.lt (by omega))
    have HC3 := Lib.hid (HC2.out.step hc3 HC2.out.size (fun _ _ h => h))
    have hsz3 := hc3.size
    clear hb3 hc3
    obtain ⟨r0, r1, r2, f0, f1, f2⟩ := HX3.out.facts3
    by_cases hg0 : ge = 0
    · subst hg0
      have hge := HGE.out
      rw [if_pos rfl] at hge
      have HGF := Lib.hid hge
      clear hge
      go_wp2
      refine bodyPost_ret (v := .tuple #[.agg #[.int .i64 who, .string y, .string g], .int .i64 0]) (by simp [results, Try.results51, go_sem, r0, r1, r2]) rfl ?_
      rw [HGF.out]
      refine ⟨rfl, ((HC3.out.setCell (p := ⟨w.heap.size + 1, 0, none⟩) (by simp) _).setCell (p := ⟨w.heap.size + 1, 1, none⟩) (by simp) _).setCell (p := ⟨w.heap.size + 1, 2, none⟩) (by simp) _, ?_⟩
      exact ((HB3.out.setCell (p := ⟨w.heap.size + 1, 0, none⟩) HFAR.out _).setCell (p := ⟨w.heap.size + 1, 1, none⟩) HFAR.out _).setCell (p := ⟨w.heap.size + 1, 2, none⟩) HFAR.out _
    · have hd : (ge == 0) = false := by simpa using hg0
      have hge := HGE.out
      rw [if_neg hg0] at hge
      have HGF := Lib.hid hge
      clear hge hg0
      go_wp2
      refine bodyPost_ret (v := .tuple #[.agg #[.int .i64 0, .string ⟨#[]⟩, .string ⟨#[]⟩], .int .i64 ge]) (by simp [results, Try.results51, go_sem, r0, r1, r2]) rfl ?_
      rw [HGF.out]
      refine ⟨rfl, ((HC3.out.setCell (p := ⟨w.heap.size + 1, 0, none⟩) (by simp) _).setCell (p := ⟨w.heap.size + 1, 1, none⟩) (by simp) _).setCell (p := ⟨w.heap.size + 1, 2, none⟩) (by simp) _, ?_⟩
      exact ((HB3.out.setCell (p := ⟨w.heap.size + 1, 0, none⟩) HFAR.out _).setCell (p := ⟨w.heap.size + 1, 1, none⟩) HFAR.out _).setCell (p := ⟨w.heap.size + 1, 2, none⟩) HFAR.out _
  · have hd : (err == 0) = false := by simpa using he
    have hge := HE.out
    rw [if_neg he] at hge
    have HGE := Lib.hid hge
    clear hge he
    obtain ⟨r0, r1, r2, f0, f1, f2⟩ := HX2.out.facts3
    go_wp2
    refine bodyPost_ret (v := .tuple #[.agg #[.int .i64 0, .string ⟨#[]⟩, .string ⟨#[]⟩], .int .i64 err]) (by simp [results, Try.results51, go_sem, r0, r1, r2]) rfl ?_
    rw [HGE.out]
    refine ⟨rfl, ((HC2.out.setCell (p := ⟨w.heap.size + 1, 0, none⟩) (by simp) _).setCell (p := ⟨w.heap.size + 1, 1, none⟩) (by simp) _).setCell (p := ⟨w.heap.size + 1, 2, none⟩) (by simp) _, ?_⟩
    exact ((HB2.out.setCell (p := ⟨w.heap.size + 1, 0, none⟩) HFAR.out _).setCell (p := ⟨w.heap.size + 1, 1, none⟩) HFAR.out _).setCell (p := ⟨w.heap.size + 1, 2, none⟩) HFAR.out _

/-- The body that a message bears, or why it is refused. -/
def openE (S : List Wd) (m : Sg) : Bd × Int := if checkE S m.who m.body m.sig = true then ofBody m.body else (zeroBd, 30)
/-- Two results: a body, whose list is new, and an error's number. -/
def BodyErr (r : Bd × Int) (w : World) (e : Ending) (w' : World) : Prop :=
  ∃ A c, e = .returned (.tuple #[r.1.val A c, .int .i64 r.2]) ∧ Below w.heap.size w w' ∧ w'.ownsRow w.heap.size 61 3 (.slice A r.1.list.length c) r.1.list.length (r.1.list.flatMap Sg.cells)

set_option maxHeartbeats 1000000 in
set_option maxRecDepth 100000 in
theorem open_calls (b t m n : Nat) (T : List ByteArray) (S : List Wd) (x : Sg) (w : World) (hb : Bk w b t m n T S) (hS : S.length ≤ 1000000000) (hs : x.body.size ≤ maxLen) :
    Calls Try.prog 53 #[.pointer (some ⟨b, 0, none⟩), x.val] w (BodyErr (openE S x) w) := by
  have HM := Lib.hid (fun w hb => made_calls b t m n T S w hb)
  have HC := Lib.hid (fun w hb => check_calls b t m n T S x.who x.body x.sig w hb hS hs)
  have HO := Lib.hid (fun w => of_calls x.body w)
  unfold OfPost at HO
  have HE := Lib.hid (show openE S x = if checkE S x.who x.body x.sig = true then ofBody x.body else (zeroBd, 30) from rfl)
  obtain ⟨ck, hck⟩ : ∃ r, checkE S x.who x.body x.sig = r := ⟨_, rfl⟩
  rw [hck] at HC HE
  obtain ⟨⟨y, err⟩, hr⟩ : ∃ r, ofBody x.body = r := ⟨_, rfl⟩
  rw [hr] at HO HE
  simp only at HO HE
  have HBK := Lib.hid hb
  clear hb hr hck
  obtain ⟨who, body, sig⟩ := x
  obtain ⟨kind, view, seq, client, stamp, digest, tx, list⟩ := y
  unfold Sg.val at *
  unfold Bd.val Bd.cells at *
  simp only at *
  obtain ⟨W, hW⟩ : ∃ W, W = (w.alloc (.cells #[.int .i64 who, .string body, .string sig] 61)).alloc (.cells #[.int .i64 0, .int .i64 0, .int .i64 0, .int .i64 0, .int .i64 0, .string ⟨#[]⟩, .string ⟨#[]⟩, .slice none 0 0] 59) := ⟨_, rfl⟩
  have HA := Lib.hid (show Below w.heap.size w W by rw [hW]; exact ((Below.refl _ _).alloc (Nat.le_refl _) _).alloc (by simp) _)
  have HX := Lib.hid (show Box W (w.heap.size + 1) #[.int .i64 0, .int .i64 0, .int .i64 0, .int .i64 0, .int .i64 0, .string ⟨#[]⟩, .string ⟨#[]⟩, .slice none 0 0] 59 by rw [hW]; have h := Box.new (w.alloc (.cells #[.int .i64 who, .string body, .string sig] 61)) #[.int .i64 0, .int .i64 0, .int .i64 0, .int .i64 0, .int .i64 0, .string ⟨#[]⟩, .string ⟨#[]⟩, .slice none 0 0] 59; simp only [World.size_alloc] at h; exact h)
  have HX0 := Lib.hid (show Box W w.heap.size #[.int .i64 who, .string body, .string sig] 61 by rw [hW]; exact (Box.new w _ _).alloc _)
  obtain ⟨q0, q1, q2, _⟩ := HX0.out.facts3
  have HBW := Lib.hid (HBK.out.below HA.out)
  have HWW := Lib.hid hW
  have hsW : w.heap.size + 1 < W.heap.size := HX.out.lt
  clear hW
  go_enter Try.func53, Try.ntmps53
  go_wp2_with fail
  rw [← HWW.out]
  refine (HM.out _ HBW.out).mono ?_
  rintro e w1 ⟨rfl, rfl⟩
  go_wp2_with fail
  refine (HC.out _ HBW.out).mono ?_
  rintro e w2 ⟨rfl, hb2⟩
  have HX2 := Lib.hid (HX.out.call hb2)
  have HX02 := Lib.hid (HX0.out.call hb2)
  have HB2 := Lib.hid (HA.out.trans (hb2.mono HA.out.size))
  have hsz2 := hb2.size
  clear hb2 q0 q1 q2
  obtain ⟨q0, q1, q2, _⟩ := HX02.out.facts3
  cases ck with
  | true =>
    have hge := HE.out
    rw [if_pos rfl] at hge
    have HGE := Lib.hid hge
    clear hge
    go_wp2_with fail
    refine (HO.out _).mono ?_
    rintro e w3 ⟨A, c, rfl, hb3, ho3⟩
    have HX3 := Lib.hid (HX2.out.call hb3)
    have HB3 := Lib.hid (HB2.out.trans (hb3.mono HB2.out.size))
    have HO3 := Lib.hid ho3
    have hsz3 := hb3.size
    clear hb3 ho3 q0 q1 q2
    obtain ⟨r0, r1, r2, r3, r4, r5, r6, r7, f0, f1, f2, f3, f4, f5, f6, f7⟩ := HX3.out.facts8
    go_wp2
    refine bodyPost_ret (v := .tuple #[.agg #[.int .i64 kind, .int .i64 view, .int .i64 seq, .int .i64 client, .int .i64 stamp, .string digest, .string tx, .slice A list.length c], .int .i64 err]) (by simp [results, Try.results53, go_sem, r0, r1, r2, r3, r4, r5, r6, r7]) rfl ?_
    unfold BodyErr
    rw [HGE.out]
    refine ⟨A, c, rfl, (((((((HB3.out.setCell (by simp) _).setCell (by simp) _).setCell (by simp) _).setCell (by simp) _).setCell (by simp) _).setCell (by simp) _).setCell (by simp) _).setCell (by simp) _, ?_⟩
    refine own_base (base := w2.heap.size) ?_ (by omega)
    exact ownsRow_setCell_below (ownsRow_setCell_below (ownsRow_setCell_below (ownsRow_setCell_below (ownsRow_setCell_below (ownsRow_setCell_below (ownsRow_setCell_below (ownsRow_setCell_below HO3.out (by simp only; omega) _) (by simp only; omega) _) (by simp only; omega) _) (by simp only; omega) _) (by simp only; omega) _) (by simp only; omega) _) (by simp only; omega) _) (by simp only; omega) _
  | false =>
    have hge := HE.out
    rw [if_neg (by decide)] at hge
    have HGE := Lib.hid hge
    clear hge
    obtain ⟨r0, r1, r2, r3, r4, r5, r6, r7, f0, f1, f2, f3, f4, f5, f6, f7⟩ := HX2.out.facts8
    go_wp2
    refine bodyPost_ret (v := .tuple #[.agg #[.int .i64 0, .int .i64 0, .int .i64 0, .int .i64 0, .int .i64 0, .string ⟨#[]⟩, .string ⟨#[]⟩, .slice none 0 0], .int .i64 30]) (by simp [results, Try.results53, go_sem, r0, r1, r2, r3, r4, r5, r6, r7]) rfl ?_
    unfold BodyErr
    rw [HGE.out]
    exact ⟨none, 0, rfl, (((((((HB2.out.setCell (by simp) _).setCell (by simp) _).setCell (by simp) _).setCell (by simp) _).setCell (by simp) _).setCell (by simp) _).setCell (by simp) _).setCell (by simp) _, World.ownsRow_nil _ _ _ _⟩
end Go.Proofs.Ytfgpchffkpomoaa
