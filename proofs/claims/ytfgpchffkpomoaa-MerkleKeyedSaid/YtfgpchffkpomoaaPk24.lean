/- Texts of this proof, several in one file; each says ahead of it what it proves. -/
import Derived.Test.YtfgpchffkpomoaaPk22
import Derived.Test.YtfgpchffkpomoaaPk23
import Derived.Test.YtfgpchffkpomoaaPk21
import Derived.Lib.Bytealg
import Derived.Laws.Externs
import Derived.Test.YtfgpchffkpomoaaPk20
/- Whether two proofs are the same: the walk through the document's SameProof. -/
namespace Go.Proofs.Ytfgpchffkpomoaa
set_option linter.unusedSimpArgs false
set_option linter.unusedVariables false
open Go.RowKit

def samePf (c1 : Int) (l : List Pt) (c2 : Int) (m : List Pt) : Bool := decide (c1 = c2 ∧ l = m)
theorem samePf_no {c1 c2 : Int} {l m : List Pt} (h : ¬ (c1 = c2 ∧ l = m)) : samePf c1 l c2 m = false := decide_eq_false h

theorem two_new (w : World) (xs ys : Array Value) (T : TypeId) : Box ((w.alloc (.cells ys T)).alloc (.cells xs T)) (w.heap.size + 1) xs T ∧ Box ((w.alloc (.cells ys T)).alloc (.cells xs T)) w.heap.size ys T := by
  have h := Box.new (w.alloc (.cells ys T)) xs T
  simp only [World.size_alloc] at h
  exact ⟨h, (Box.new w ys T).alloc _⟩
theorem beq_lists (x y : ByteArray) : (x.toList == y.toList) = decide (x = y) := by
  by_cases h : x = y
  · subst h; simp
  · have h2 : x.toList ≠ y.toList := fun e => h (toList_eq e)
    simp [h, h2]
/-- Two new boxes. -/
structure TwoP (wr : World) (i j : Nat) (xs ys : Array Value) (T : TypeId) (wx : World) : Prop where
  b : Below wr.heap.size wr wx
  x : Box wx i xs T
  y : Box wx j ys T
theorem TwoP.xy (w : World) (xs ys : Array Value) (T : TypeId) : TwoP w (w.heap.size + 1) w.heap.size xs ys T ((w.alloc (.cells ys T)).alloc (.cells xs T)) := ⟨((Below.refl _ _).alloc (Nat.le_refl _) _).alloc (by simp) _, (two_new w xs ys T).1, (two_new w xs ys T).2⟩
theorem TwoP.yx (w : World) (xs ys : Array Value) (T : TypeId) : TwoP w w.heap.size (w.heap.size + 1) xs ys T ((w.alloc (.cells xs T)).alloc (.cells ys T)) := ⟨((Below.refl _ _).alloc (Nat.le_refl _) _).alloc (by simp) _, (two_new w ys xs T).2, (two_new w ys xs T).1⟩
theorem TwoP.drew {wr wx : World} {i j : Nat} {xs ys : Array Value} {T : TypeId} (h : TwoP wr i j xs ys T wx) : TwoP wr i j xs ys T wx.drew := ⟨h.b.drew, h.x, h.y⟩
theorem TwoP.drewN {wr wx : World} {i j : Nat} {xs ys : Array Value} {T : TypeId} (h : TwoP wr i j xs ys T wx) (n : Nat) : TwoP wr i j xs ys T (wx.drewN n) := ⟨below_drewN h.b n, h.x, h.y⟩

set_option maxHeartbeats 2000000 in
set_option maxRecDepth 100000 in
theorem sameProof_calls (c1 c2 : Int) (A B : Option Addr) (c d : Nat) (l m : List Pm) (w : World) (hl : PmS w A c l) (hm : PmS w B d m) : Calls Try.prog 42 #[.agg #[.int .i64 c1, .slice A l.length c], .agg #[.int .i64 c2, .slice B m.length d]] w (BoolPost (samePf c1 (l.map Pm.pt) c2 (m.map Pm.pt)) w) := by
  have hf1 := hl.1.fits
  have hf2 := hm.1.fits
  have HL := Lib.hid hl
  have HM := Lib.hid hm
  clear hl hm
  have HST := Lib.hid (show St2 w.heap.size w w.heap.size #[.int .i64 c1, .slice A l.length c] 35 (w.heap.size + 1) #[.int .i64 c2, .slice B m.length d] 35 ((w.alloc (.cells #[.int .i64 c1, .slice A l.length c] 35)).alloc (.cells #[.int .i64 c2, .slice B m.length d] 35)) from
    ⟨((Below.refl _ _).alloc (Nat.le_refl _) _).alloc (by simp) _, (Box.new _ _ _).alloc _, by have h := Box.new (w.alloc (.cells #[.int .i64 c1, .slice A l.length c] 35)) #[.int .i64 c2, .slice B m.length d] 35; simp only [World.size_alloc] at h; exact h⟩)
  obtain ⟨k0, k1, _⟩ := HST.out.x.facts2
  obtain ⟨k2, k3, _⟩ := HST.out.y.facts2
  by_cases hc : c1 = c2
  · have hcc : (c1 == c2) = true := by simpa using hc
    have hcn : (c1 != c2) = false := by rw [bne, hcc]; rfl
    have HC := Lib.hid hc
    clear hc
    by_cases hlen : l.length = m.length
    · have hd0 : ((l.length : Int) == (m.length : Int)) = true := by simp; omega
      have hd00 : ((l.length : Int) != (m.length : Int)) = false := by rw [bne, hd0]; rfl
      have HLEN := Lib.hid hlen
      clear hlen
      go_enter Try.func42, Try.ntmps42
      go_wp2_with fail
      go_loopg [5] l.length (fun g vi wr => ∃ k : Nat, vi = .int .i64 k ∧ k ≤ l.length ∧ Hid (g + k = l.length ∧ St2 w.heap.size w w.heap.size #[.int .i64 c1, .slice A l.length c] 35 (w.heap.size + 1) #[.int .i64 c2, .slice B m.length d] 35 wr ∧ (l.map Pm.pt).take k = (m.map Pm.pt).take k))
      case atStart => exact ⟨0, rfl, Nat.zero_le _, rfl, HST.out, rfl⟩
      case round =>
        clear HST k0 k1 k2 k3
        obtain ⟨k, rfl, hk, HH⟩ := hrel
        obtain ⟨hg, hst, ht⟩ := HH.out
        have HG := Lib.hid hg
        have HST := Lib.hid hst
        have HT := Lib.hid ht
        obtain ⟨k0, k1, _⟩ := hst.x.facts2
        obtain ⟨k2, k3, _⟩ := hst.y.facts2
        clear HH hst ht hg
        by_cases hlt : k < l.length
        · have hlt2 : k < m.length := by have := HLEN.out; omega
          obtain ⟨a, rfl, e0, e1, e2, e3, hsx⟩ := (HL.out.below HST.out.b).elem k hlt
          obtain ⟨b, rfl, g0, g1, g2, g3, hsy⟩ := (HM.out.below HST.out.b).elem k hlt2
          have hne : l[k].pt ≠ m[k].pt → ¬ (c1 = c2 ∧ l.map Pm.pt = m.map Pm.pt) := fun h he => h (by
            have h1 := congrArg (fun z => z[k]?) he.2
            simp only [List.getElem?_map, List.getElem?_eq_getElem hlt, List.getElem?_eq_getElem hlt2, Option.map_some, Option.some.injEq] at h1
            exact h1)
          have hnx : l[k].pt = m[k].pt → (l.map Pm.pt).take (k + 1) = (m.map Pm.pt).take (k + 1) := fun h => by
            rw [List.take_succ_eq_append_getElem (by simpa using hlt), List.take_succ_eq_append_getElem (by simpa using hlt2), HT.out, List.getElem_map, List.getElem_map, h]
          obtain ⟨⟨xi, xk, xv, xs, xA, xc⟩, hx⟩ : ∃ x, x = l[k] := ⟨_, rfl⟩
          obtain ⟨⟨yi, yk, yv, ys, yA, yc⟩, hy⟩ : ∃ y, y = m[k] := ⟨_, rfl⟩
          rw [← hx] at e0 e1 e2 e3 hsx hne hnx
          rw [← hy] at g0 g1 g2 g3 hsy hne hnx
          simp only at e0 e1 e2 e3 hsx g0 g1 g2 g3 hsy
          have hxf := hsx.2
          have hyf := hsy.2
          clear hx hy
          have HNE := Lib.hid (fun h => samePf_no (hne h))
          have HNX := Lib.hid hnx
          have HSX := Lib.hid hsx
          have HSY := Lib.hid hsy
          clear hne hnx hsx hsy
          have n1 := World.new_ne wr _ k1
          have n3 := World.new_ne wr _ k3
          have m0 := World.new_ne wr _ e0
          have m1 := World.new_ne wr _ e1
          have m2 := World.new_ne wr _ e2
          have m3 := World.new_ne wr _ e3
          have o0 := World.new_ne wr _ g0
          have o1 := World.new_ne wr _ g1
          have o2 := World.new_ne wr _ g2
          have o3 := World.new_ne wr _ g3
          go_wp2_with fail
          go_cut [6, 7] (fun s6 s7 wx => ∃ i j, s6 = .pointer (some ⟨i, 0, none⟩) ∧ s7 = .pointer (some ⟨j, 0, none⟩) ∧ Hid (TwoP wr i j #[.int .i64 xi, .string xk, .string xv, .slice xA xs.length xc] #[.int .i64 yi, .string yk, .string yv, .slice yA ys.length yc] 179 wx))
          case first =>
            go_region_held3 (fun w' => w'.cell? ⟨w.heap.size, 1, none⟩ = some (.slice (some a) l.length c) ∧ w'.cell? ⟨w.heap.size + 1, 1, none⟩ = some (.slice (some b) m.length d) ∧ w'.cell? (a.add (k * 4)) = some (.int .i64 xi) ∧ w'.cell? ⟨(a.add (k * 4)).block, (a.add (k * 4)).off + 1, none⟩ = some (.string xk) ∧ w'.cell? ⟨(a.add (k * 4)).block, (a.add (k * 4)).off + 2, none⟩ = some (.string xv) ∧ w'.cell? ⟨(a.add (k * 4)).block, (a.add (k * 4)).off + 3, none⟩ = some (.slice xA xs.length xc) ∧ w'.cell? (b.add (k * 4)) = some (.int .i64 yi) ∧ w'.cell? ⟨(b.add (k * 4)).block, (b.add (k * 4)).off + 1, none⟩ = some (.string yk) ∧ w'.cell? ⟨(b.add (k * 4)).block, (b.add (k * 4)).off + 2, none⟩ = some (.string yv) ∧ w'.cell? ⟨(b.add (k * 4)).block, (b.add (k * 4)).off + 3, none⟩ = some (.slice yA ys.length yc)) (go_keep) (fail)
            all_goals
              go_wp2_with fail
              go_meet
              refine ⟨_, _, rfl, rfl, ?_⟩
              first
                | exact TwoP.xy wr _ _ _
                | exact TwoP.yx wr _ _ _
                | exact (TwoP.xy wr _ _ _).drew
                | exact (TwoP.yx wr _ _ _).drew
                | exact (TwoP.xy wr _ _ _).drewN _
                | exact (TwoP.yx wr _ _ _).drewN _
          case rest =>
            clear n1 n3 m0 m1 m2 m3 o0 o1 o2 o3 e0 e1 e2 e3 g0 g1 g2 g3 k0 k1 k2 k3
            obtain ⟨i, j, rfl, rfl, HC2⟩ := hcut
            have HTW := Lib.hid HC2.out
            have HF := Lib.hid (HST.out.call (Nat.le_refl _) HTW.out.b)
            obtain ⟨e0, e1, e2, e3⟩ := box4 HTW.out.x
            obtain ⟨g0, g1, g2, g3⟩ := box4 HTW.out.y
            clear HC2
            by_cases h1 : xi = yi
            · have hi1 : (xi == yi) = true := by simpa using h1
              have hi2 : (xi != yi) = false := by rw [bne, hi1]; rfl
              have H1 := Lib.hid h1
              clear h1
              by_cases h2 : xk = yk
              · have hk1 : (xk.toList == yk.toList) = true := by rw [beq_lists]; simpa using h2
                have hk2 : (xk.toList != yk.toList) = false := by rw [bne, hk1]; rfl
                have H2 := Lib.hid h2
                clear h2
                by_cases h3 : xv = yv
                · have hv1 : (xv.toList == yv.toList) = true := by rw [beq_lists]; simpa using h3
                  have hv2 : (xv.toList != yv.toList) = false := by rw [bne, hv1]; rfl
                  have H3 := Lib.hid h3
                  clear h3
                  by_cases h4 : xs.length = ys.length
                  · have hl1 : ((xs.length : Int) == (ys.length : Int)) = true := by simp; omega
                    have hl2 : ((xs.length : Int) != (ys.length : Int)) = false := by rw [bne, hl1]; rfl
                    have H4 := Lib.hid h4
                    clear h4
                    go_wp2_with fail
                    go_loopg [8] xs.length (fun g v8 wj => ∃ q : Nat, v8 = .int .i64 q ∧ q ≤ xs.length ∧ Hid (g + q = xs.length ∧ TwoP wr i j #[.int .i64 xi, .string xk, .string xv, .slice xA xs.length xc] #[.int .i64 yi, .string yk, .string yv, .slice yA ys.length yc] 179 wj ∧ xs.take q = ys.take q))
                    case atStart => exact ⟨0, rfl, Nat.zero_le _, rfl, HTW.out, rfl⟩
                    case round =>
                      clear HTW HF e0 e1 e2 e3 g0 g1 g2 g3
                      obtain ⟨q, rfl, hq, HH⟩ := hrel
                      obtain ⟨hgq, htw, htq⟩ := HH.out
                      have HGQ := Lib.hid hgq
                      have HTW := Lib.hid htw
                      have HTQ := Lib.hid htq
                      have HF := Lib.hid (HST.out.call (Nat.le_refl _) htw.b)
                      obtain ⟨e0, e1, e2, e3⟩ := box4 htw.x
                      obtain ⟨g0, g1, g2, g3⟩ := box4 htw.y
                      clear HH hgq htw htq
                      by_cases hql : q < xs.length
                      · have hql2 : q < ys.length := by have := H4.out; omega
                        obtain ⟨sa, rfl, s0⟩ := (HSX.out.below HTW.out.b).elem q hql
                        obtain ⟨sb, rfl, t0⟩ := (HSY.out.below HTW.out.b).elem q hql2
                        obtain ⟨u, hu⟩ : ∃ u, u = xs[q] := ⟨_, rfl⟩
                        obtain ⟨v, hv⟩ : ∃ v, v = ys[q] := ⟨_, rfl⟩
                        rw [← hu] at s0
                        rw [← hv] at t0
                        have HU := Lib.hid hu
                        have HV := Lib.hid hv
                        clear hu hv
                        by_cases huv : u = v
                        · have hb1 : (u.toList == v.toList) = true := by rw [beq_lists]; simpa using huv
                          have hb2 : (u.toList != v.toList) = false := by rw [bne, hb1]; rfl
                          have HUV := Lib.hid huv
                          clear huv
                          go_wp2_with fail
                          go_quiet (fail)
                          go_wp2
                          go_roundg (xs.length - (q + 1))
                          case measure => have := HGQ.out; omega
                          case rel => exact ⟨q + 1, by go_num, by omega, by omega, (by first | exact HTW.out.drewN _ | exact HTW.out.drew | exact HTW.out), by rw [List.take_succ_eq_append_getElem hql, List.take_succ_eq_append_getElem hql2, HTQ.out, ← HU.out, ← HV.out, HUV.out]⟩
                        · have hb1 : (u.toList == v.toList) = false := by rw [beq_lists]; simpa using huv
                          have hb2 : (u.toList != v.toList) = true := by rw [bne, hb1]; rfl
                          have HE := Lib.hid (HNE.out (fun h => huv (by
                            have h1 : xs = ys := congrArg Pt.sides h
                            rw [HU.out, HV.out]
                            simp only [h1])))
                          clear huv
                          go_wp2_with fail
                          go_quiet (fail)
                          go_wp2
                          go_ret
                          exact ⟨ret_bool HE.out.symm, by first | exact below_drewN HF.out.b _ | exact HF.out.b.drew | exact HF.out.b⟩
                      · have HN := Lib.hid (HNX.out (by
                          have h5 : xs = ys := by
                            have h := HTQ.out
                            rw [List.take_of_length_le (by omega), List.take_of_length_le (by have := H4.out; omega)] at h
                            exact h
                          simp only [Pm.pt]
                          rw [H1.out, H2.out, H3.out, h5]))
                        go_wp2
                        go_roundg (l.length - (k + 1))
                        case measure => have := HG.out; omega
                        case rel => exact ⟨k + 1, by go_num, by omega, by omega, HF.out, HN.out⟩
                  · have hl1 : ((xs.length : Int) == (ys.length : Int)) = false := by simp; omega
                    have hl2 : ((xs.length : Int) != (ys.length : Int)) = true := by rw [bne, hl1]; rfl
                    have HE := Lib.hid (HNE.out (fun h => h4 (congrArg (fun z : Pt => z.sides.length) h)))
                    clear h4
                    go_wp2_with fail
                    go_ret
                    exact ⟨ret_bool HE.out.symm, HF.out.b⟩
                · have hv1 : (xv.toList == yv.toList) = false := by rw [beq_lists]; simpa using h3
                  have hv2 : (xv.toList != yv.toList) = true := by rw [bne, hv1]; rfl
                  have HE := Lib.hid (HNE.out (fun h => h3 (congrArg Pt.val h)))
                  clear h3
                  go_wp2_with fail
                  go_ret
                  exact ⟨ret_bool HE.out.symm, HF.out.b⟩
              · have hk1 : (xk.toList == yk.toList) = false := by rw [beq_lists]; simpa using h2
                have hk2 : (xk.toList != yk.toList) = true := by rw [bne, hk1]; rfl
                have HE := Lib.hid (HNE.out (fun h => h2 (congrArg Pt.key h)))
                clear h2
                go_wp2_with fail
                go_ret
                exact ⟨ret_bool HE.out.symm, HF.out.b⟩
            · have hi1 : (xi == yi) = false := by simpa using h1
              have hi2 : (xi != yi) = true := by rw [bne, hi1]; rfl
              have HE := Lib.hid (HNE.out (fun h => h1 (congrArg Pt.index h)))
              clear h1
              go_wp2_with fail
              go_ret
              exact ⟨ret_bool HE.out.symm, HF.out.b⟩
        · have HE := Lib.hid (show samePf c1 (l.map Pm.pt) c2 (m.map Pm.pt) = true by
            have h := HT.out
            rw [List.take_of_length_le (by simp; omega), List.take_of_length_le (by have := HLEN.out; simp; omega)] at h
            exact decide_eq_true ⟨HC.out, h⟩)
          go_wp2
          go_ret
          exact ⟨ret_bool HE.out.symm, HST.out.b⟩
    · have hd0 : ((l.length : Int) == (m.length : Int)) = false := by simp; omega
      have hd00 : ((l.length : Int) != (m.length : Int)) = true := by rw [bne, hd0]; rfl
      have HE := Lib.hid (samePf_no (c1 := c1) (c2 := c2) (l := l.map Pm.pt) (m := m.map Pm.pt) (fun h => hlen (by have := congrArg List.length h.2; simpa using this)))
      clear hlen
      go_enter Try.func42, Try.ntmps42
      go_wp2_with fail
      go_ret
      exact ⟨ret_bool HE.out.symm, HST.out.b⟩
  · have hcc : (c1 == c2) = false := by simpa using hc
    have hcn : (c1 != c2) = true := by rw [bne, hcc]; rfl
    have HE := Lib.hid (samePf_no (c1 := c1) (c2 := c2) (l := l.map Pm.pt) (m := m.map Pm.pt) (fun h => hc h.1))
    clear hc
    go_enter Try.func42, Try.ntmps42
    go_wp2_with fail
    go_ret
    exact ⟨ret_bool HE.out.symm, HST.out.b⟩
end Go.Proofs.Ytfgpchffkpomoaa

/- Texts compared, and where a key stands: the walks through strings.Compare, the search and merkle's place. -/
namespace Go.Proofs.Ytfgpchffkpomoaa
set_option linter.unusedSimpArgs false
set_option linter.unusedVariables false
open Go.RowKit

def cmpK (a b : ByteArray) : Int := Lib.compareBytes a.data.toList b.data.toList
theorem cmp_lt : ∀ (x y : List UInt8), Lib.compareBytes x y < 0 ↔ x < y
  | [], [] => by simp [Lib.compareBytes]
  | [], _ :: _ => by simp [Lib.compareBytes]
  | _ :: _, [] => by simp [Lib.compareBytes]
  | a :: x, b :: y => by
    unfold Lib.compareBytes
    rw [List.cons_lt_cons_iff]
    by_cases h1 : a < b
    · rw [if_pos h1]; simp [h1]
    · rw [if_neg h1]
      by_cases h2 : b < a
      · rw [if_pos h2]
        have hne : a ≠ b := fun e => by subst e; exact h1 h2
        simp [h1, hne]
      · rw [if_neg h2, cmp_lt x y]
        have e : a = b := by
          apply UInt8.le_antisymm
          · exact UInt8.not_lt.1 h2
          · exact UInt8.not_lt.1 h1
        simp [e]
theorem cmp_zero : ∀ (x y : List UInt8), Lib.compareBytes x y = 0 ↔ x = y
  | [], [] => by simp [Lib.compareBytes]
  | [], _ :: _ => by simp [Lib.compareBytes]
  | _ :: _, [] => by simp [Lib.compareBytes]
  | a :: x, b :: y => by
    unfold Lib.compareBytes
    by_cases h1 : a < b
    · rw [if_pos h1]
      have hne : a ≠ b := fun e => by subst e; exact absurd h1 (UInt8.lt_irrefl _)
      simp [hne]
    · rw [if_neg h1]
      by_cases h2 : b < a
      · rw [if_pos h2]
        have hne : a ≠ b := fun e => by subst e; exact h1 h2
        simp [hne]
      · rw [if_neg h2, cmp_zero x y]
        have e : a = b := by
          apply UInt8.le_antisymm
          · exact UInt8.not_lt.1 h2
          · exact UInt8.not_lt.1 h1
        simp [e]
theorem cmpK_lt (a b : ByteArray) : decide (cmpK a b < 0) = lsB a b := by
  rw [lsB_eq]
  exact decide_eq_decide.2 (cmp_lt _ _)
theorem cmpK_zero (a b : ByteArray) : (cmpK a b == 0) = decide (a = b) := by
  by_cases h : a = b
  · rw [decide_eq_true h, beq_iff_eq]
    exact (cmp_zero _ _).2 (by rw [h])
  · rw [decide_eq_false h, beq_eq_false_iff_ne]
    exact fun e => h (data_inj ((cmp_zero _ _).1 e))

set_option maxHeartbeats 1000000 in
set_option maxRecDepth 100000 in
theorem cmpString_calls (a b : ByteArray) (w : World) : Calls Try.prog 190 #[.string a, .string b] w fun e w' => e = .returned (.int .i64 (cmpK a b)) ∧ w' = w := by
  go_enter Try.func190, Try.ntmps190
  go_wp2_with fail
  rw [run_callFunc_extern Try.func193 (by kernel_rfl) (by kernel_rfl) (by kernel_rfl) (e := Extern.BytealgCompare.compare) (by kernel_rfl), Lib.run_compareString]
  simp only [Result.andThen]
  rw [Oper.upon_value]
  go_wp2
  go_ret
  exact ⟨rfl, rfl⟩
set_option maxRecDepth 100000 in
theorem compare_calls (a b : ByteArray) (w : World) : Calls Try.prog 177 #[.string a, .string b] w fun e w' => e = .returned (.int .i64 (cmpK a b)) ∧ w' = w := by
  have HC := Lib.hid (fun w => cmpString_calls a b w)
  go_enter Try.func177, Try.ntmps177
  go_wp2_with fail
  refine (HC.out _).mono ?_
  rintro e w1 ⟨rfl, hw⟩
  subst hw
  go_wp2
  go_ret
  exact ⟨rfl, rfl⟩
set_option maxRecDepth 100000 in
theorem placeCmp_calls (key val k : ByteArray) (w : World) : Calls Try.prog 176 #[.agg #[.string key, .string val], .string k] w (IntPost (cmpK key k) w) := by
  have HC := Lib.hid (fun w => compare_calls key k w)
  have hb := (Below.refl w.heap.size w).alloc (Nat.le_refl _) (.cells #[.string key, .string val] 131)
  obtain ⟨e0, e1, _⟩ := (Box.new w #[.string key, .string val] 131).facts2
  go_enter Try.func176, Try.ntmps176
  go_wp2_with fail
  refine (HC.out _).mono ?_
  rintro e w1 ⟨rfl, hw⟩
  subst hw
  go_wp2
  go_ret
  exact ⟨rfl, hb⟩
end Go.Proofs.Ytfgpchffkpomoaa

/- Where a key stands among rising records: the walks through the search and merkle's place. -/
namespace Go.Proofs.Ytfgpchffkpomoaa
set_option linter.unusedSimpArgs false
set_option linter.unusedVariables false
open Go.RowKit

def PlacePost (l : List Rc) (key : ByteArray) (w : World) (e : Ending) (w' : World) : Prop := e = .returned (.tuple #[.int .i64 (placeP l key : Nat), .bool (isP l key)]) ∧ Below w.heap.size w w'
set_option maxHeartbeats 1000000 in
set_option maxRecDepth 100000 in
theorem search_calls (A : Option Addr) (c : Nat) (l : List Rc) (key : ByteArray) (w : World) (hs : RcS w A c l) (hr : Rising l) (hl : l.length ≤ 100000) :
    Calls Try.prog 175 #[.slice A l.length c, .string key, .func (.func 176) #[] #[]] w (PlacePost l key w) := by
  have HS := Lib.hid hs
  have HR := Lib.hid hr
  have hfit := hs.fits
  clear hs hr
  go_enter Try.func175, Try.ntmps175
  go_wp2_with fail
  go_loopg [9, 10] l.length (fun g v9 v10 wr => ∃ i j : Nat, v9 = .int .i64 i ∧ v10 = .int .i64 j ∧ i ≤ j ∧ j ≤ l.length ∧ Hid (j ≤ g + i ∧ Below w.heap.size w wr ∧ (∀ k x, k < i → l[k]? = some x → lsB x.key key = true) ∧ (∀ x, l[j]? = some x → lsB x.key key = false)))
  case atStart => exact ⟨0, l.length, rfl, rfl, by omega, by omega, by omega, Below.refl _ _, fun k x h => by omega, fun x h => by simp at h⟩
  case round =>
    obtain ⟨i, j, rfl, rfl, hij, hj, HH⟩ := hrel
    obtain ⟨hg, hb, hlo, hhi⟩ := HH.out
    have HG := Lib.hid hg
    have HB := Lib.hid hb
    have HLO := Lib.hid hlo
    have HHI := Lib.hid hhi
    have hsz := hb.size
    clear HH hg hb hlo hhi
    by_cases hlt : i < j
    · have hd : decide ((i : Int) < (j : Int)) = true := by simp; omega
      obtain ⟨mid, hmid⟩ : ∃ mid : Nat, mid = (i + j) / 2 := ⟨_, rfl⟩
      have hq : ((i : Int) + (j : Int)) / 2 = (mid : Int) := by omega
      have hm1 : i ≤ mid := by omega
      have hm2 : mid < j := by omega
      clear hmid
      have hm3 : mid < l.length := by omega
      obtain ⟨a, rfl, e0, e1⟩ := (HS.out.below HB.out).elem mid hm3
      obtain ⟨key1, hkey⟩ : ∃ x, x = l[mid].key := ⟨_, rfl⟩
      obtain ⟨val, hval⟩ : ∃ x, x = l[mid].val := ⟨_, rfl⟩
      rw [← hkey] at e0
      rw [← hval] at e1
      have HL := Lib.hid (show l[mid]? = some ⟨key1, val⟩ by rw [List.getElem?_eq_getElem hm3, hkey, hval])
      clear hkey hval
      have HC := Lib.hid (fun w => placeCmp_calls key1 val key w)
      have hc := cmpK_lt key1 key
      obtain ⟨cv, hcv⟩ : ∃ cv, cv = cmpK key1 key := ⟨_, rfl⟩
      rw [← hcv] at HC hc
      clear hcv
      go_wp2_with fail
      refine (HC.out _).mono ?_
      rintro e w1 ⟨rfl, hb1⟩
      have HB1 := Lib.hid (HB.out.trans (hb1.mono hsz))
      clear hb1
      cases hls : lsB key1 key with
      | true =>
        rw [hls] at hc
        have HLS := Lib.hid hls
        clear hls
        go_wp2
        go_roundg (gk - 1)
        case measure => have := HG.out; omega
        case rel => exact ⟨mid + 1, j, by go_num, rfl, by omega, by omega, by have := HG.out; omega, HB1.out, fun k x hk hx => by
          rcases Nat.lt_or_ge k mid with h | h
          · exact lsB_trans (HR.out k mid x _ h hx HL.out) HLS.out
          · obtain rfl : k = mid := by omega
            obtain rfl := Option.some.inj (hx.symm.trans HL.out)
            exact HLS.out, HHI.out⟩
      | false =>
        rw [hls] at hc
        have HLS := Lib.hid hls
        clear hls
        go_wp2
        go_roundg (gk - 1)
        case measure => have := HG.out; omega
        case rel => exact ⟨i, mid, rfl, rfl, by omega, by omega, by have := HG.out; omega, HB1.out, HLO.out, fun x hx => by
          obtain rfl := Option.some.inj (hx.symm.trans HL.out)
          exact HLS.out⟩
    · have hd : decide ((i : Int) < (j : Int)) = false := by simp; omega
      obtain rfl : i = j := by omega
      have HP := Lib.hid (show placeP l key = i from plc_eq hj HLO.out HHI.out)
      by_cases hi : i < l.length
      · have hd2 : decide ((i : Int) < (l.length : Int)) = true := by simp; omega
        obtain ⟨a, rfl, e0, e1⟩ := (HS.out.below HB.out).elem i hi
        obtain ⟨key1, hkey⟩ : ∃ x, x = l[i].key := ⟨_, rfl⟩
        obtain ⟨val, hval⟩ : ∃ x, x = l[i].val := ⟨_, rfl⟩
        rw [← hkey] at e0
        rw [← hval] at e1
        have HI := Lib.hid (show isP l key = decide (key1 = key) by unfold isP; rw [HP.out, List.getElem?_eq_getElem hi, hkey])
        clear hkey hval
        have HC := Lib.hid (fun w => placeCmp_calls key1 val key w)
        have hc := cmpK_zero key1 key
        obtain ⟨cv, hcv⟩ : ∃ cv, cv = cmpK key1 key := ⟨_, rfl⟩
        obtain ⟨bv, hbv⟩ : ∃ bv, bv = decide (key1 = key) := ⟨_, rfl⟩
        rw [← hcv] at HC hc
        rw [← hbv] at HI hc
        clear hcv hbv
        go_wp2_with fail
        refine (HC.out _).mono ?_
        rintro e w1 ⟨rfl, hb1⟩
        go_wp2
        go_ret2
        exact ⟨by rw [HP.out, HI.out]; rfl, HB.out.trans (hb1.mono hsz)⟩
      · have hd2 : decide ((i : Int) < (l.length : Int)) = false := by simp; omega
        have HI := Lib.hid (show isP l key = false by unfold isP; rw [HP.out, List.getElem?_eq_none (by omega)])
        go_wp2
        go_ret2
        exact ⟨by rw [HP.out, HI.out]; rfl, HB.out⟩
end Go.Proofs.Ytfgpchffkpomoaa

/- A tree of records in memory: the walks through merkle's New, made, place. -/
namespace Go.Proofs.Ytfgpchffkpomoaa
set_option linter.unusedSimpArgs false
set_option linter.unusedVariables false
open Go.RowKit

/-- The three cells of a tree. -/
def TreeBox (w : World) (q b : Nat) (A : Option Addr) (n c : Nat) (D : Option Addr) (d e : Nat) : Prop := Box w q #[.pointer (some ⟨b, 0, none⟩), .slice A n c, .slice D d e] 147
def MNewPost (w0 : World) (b t m n : Nat) (T : List ByteArray) (S : List Wd) (e : Ending) (w' : World) : Prop :=
  ∃ T' q, e = .returned (.pointer (some ⟨q, 0, none⟩)) ∧ Ext T T' ∧ T'.length ≤ T.length + 1 ∧ Ch w0.heap.size (· = m) w0 w' ∧ Bk w' b t m n T' S ∧ w0.heap.size ≤ q ∧ TreeBox w' q b none 0 0 none 0 0
set_option maxRecDepth 100000 in
theorem mNew_calls (b t m n : Nat) (T : List ByteArray) (S : List Wd) (w : World) (hb : Bk w b t m n T S) (hT : T.length ≤ 100000000) :
    Calls Try.prog 78 #[.pointer (some ⟨b, 0, none⟩)] w (MNewPost w b t m n T S) := by
  have HK := Lib.hid (known_calls b t m n T S w hb (by omega))
  have hdl := digT_len T ⟨#[]⟩
  have hke := (dig_known T ⟨#[]⟩).1
  obtain ⟨T1, hT1⟩ : ∃ x, x = (digS T ⟨#[]⟩).2 := ⟨_, rfl⟩
  rw [← hT1] at HK hdl hke
  have HKE := Lib.hid hke
  clear hT1 hke hb
  go_enter Try.func78, Try.ntmps78
  go_wp2_with fail
  refine HK.out.mono ?_
  rintro e w1 ⟨rfl, hc1, hk1⟩
  have HC1 := Lib.hid hc1
  have HK1 := Lib.hid hk1
  have hz1 := hc1.size
  clear hc1 hk1
  go_wp2
  go_ret
  exact ⟨T1, w1.heap.size, rfl, HKE.out, hdl, HC1.out.alloc hz1 _, HK1.out.alloc _, hz1, Box.new w1 #[.pointer (some ⟨b, 0, none⟩), .slice none 0 0, .slice none 0 0] 147⟩
set_option maxRecDepth 100000 in
theorem tmade_calls (q b : Nat) (A : Option Addr) (n c : Nat) (D : Option Addr) (d e : Nat) (w : World) (hx : TreeBox w q b A n c D d e) :
    Calls Try.prog 137 #[.pointer (some ⟨q, 0, none⟩)] w fun e w' => e = .returned (.bool true) ∧ w' = w := by
  obtain ⟨k0, k1, k2, _⟩ := Box.facts3 hx
  go_enter Try.func137, Try.ntmps137
  go_wp2
  go_ret
  exact ⟨rfl, rfl⟩
set_option maxRecDepth 100000 in
theorem tplace_calls (q b : Nat) (A : Option Addr) (c : Nat) (D : Option Addr) (d e : Nat) (l : List Rc) (key : ByteArray) (w : World) (hx : TreeBox w q b A l.length c D d e) (hs : RcS w A c l) (hr : Rising l) (hl : l.length ≤ 100000) :
    Calls Try.prog 138 #[.pointer (some ⟨q, 0, none⟩), .string key] w (PlacePost l key w) := by
  obtain ⟨k0, k1, k2, _⟩ := Box.facts3 hx
  have HC := Lib.hid (search_calls A c l key w hs hr hl)
  clear hx hs hr hl
  go_enter Try.func138, Try.ntmps138
  go_wp2_with fail
  refine HC.out.mono ?_
  rintro e w1 ⟨rfl, hb1⟩
  go_wp2
  go_ret2
  exact ⟨rfl, hb1⟩
end Go.Proofs.Ytfgpchffkpomoaa

/- The path to a record: the walk through merkle's path. -/
namespace Go.Proofs.Ytfgpchffkpomoaa
set_option linter.unusedSimpArgs false
set_option linter.unusedVariables false
open Go.RowKit

def MPathPost (w0 : World) (b t m n : Nat) (T : List ByteArray) (S : List Wd) (D : List ByteArray) (x : Rc) (i : Nat) (e : Ending) (w' : World) : Prop :=
  ∃ T' A c L, e = .returned (.agg #[.int .i64 i, .string x.key, .string x.val, .slice A L.length c]) ∧ Hid (L = sidesP (hh T') D i) ∧ Ext T T' ∧ T'.length ≤ T.length + D.length ∧ SidesIn T' D i ∧ Ch w0.heap.size (· = m) w0 w' ∧ Bk w' b t m n T' S ∧ w'.ownsRow w0.heap.size 9 1 (.slice A L.length c) L.length (L.flatMap textCells)

theorem keep4 {w : World} {R : Nat} {p : Addr} {v x y z t : Value} (h : w.cell? p = some v) (hp : p.block ≠ R) : ((((w.setCell ⟨R, 0, none⟩ x).setCell ⟨R, 1, none⟩ y).setCell ⟨R, 2, none⟩ z).setCell ⟨R, 3, none⟩ t).cell? p = some v := by
  rw [← h]
  refine World.cell?_of_block ?_
  rw [Below.heap_setCell _ _ _ _ (fun e => hp e), Below.heap_setCell _ _ _ _ (fun e => hp e), Below.heap_setCell _ _ _ _ (fun e => hp e), Below.heap_setCell _ _ _ _ (fun e => hp e)]
set_option maxHeartbeats 2000000 in
set_option maxRecDepth 100000 in
theorem tpath_calls (q b t m n : Nat) (T : List ByteArray) (S : List Wd) (A : Option Addr) (c : Nat) (DA : Option Addr) (dc : Nat) (l : List Rc) (D : List ByteArray) (i : Nat) (w : World) (hb : Bk w b t m n T S) (hT : T.length ≤ 500000000) (hx : TreeBox w q b A l.length c DA D.length dc) (hq : q ≠ m) (hs : RcS w A c l) (hl : l.length ≤ 4096) (hD : TxS w DA dc D) (hDl : D.length ≤ 100000) (hDc : D.length ≤ dc) (hDs : ∀ x ∈ D, x.size ≤ 1000) (hA : Off A l.length m) (hDA : Off DA D.length m) (hi : i < l.length) :
    Calls Try.prog 145 #[.pointer (some ⟨q, 0, none⟩), .int .i64 i] w (MPathPost w b t m n T S D l[i] i) := by
  have HBK := Lib.hid (hb.alloc (.cells #[.int .i64 0, .string ⟨#[]⟩, .string ⟨#[]⟩, .slice none 0 0] 179))
  have HX := Lib.hid (hx.alloc (.cells #[.int .i64 0, .string ⟨#[]⟩, .string ⟨#[]⟩, .slice none 0 0] 179))
  have hbl := (Below.refl w.heap.size w).alloc (Nat.le_refl _) (.cells #[.int .i64 0, .string ⟨#[]⟩, .string ⟨#[]⟩, .slice none 0 0] 179)
  have HS := Lib.hid (hs.below hbl)
  have HTS := Lib.hid (hD.below hbl)
  have HR := Lib.hid (Box.new w #[.int .i64 0, .string ⟨#[]⟩, .string ⟨#[]⟩, .slice none 0 0] 179)
  have HBL := Lib.hid hbl
  have hql := hx.lt
  have HA := Lib.hid hA
  have HDS := Lib.hid hDs
  have HDA := Lib.hid hDA
  have hml := hb.tm.lt
  have HLT := Lib.hid hb.all_lt
  have hfit := hs.fits
  obtain ⟨a, rfl, e0, e1⟩ := HS.out.elem i hi
  have hA0 : a.block < w.heap.size := hs.row_lt (by omega) _ rfl
  obtain ⟨x, hx1⟩ : ∃ x, x = l[i] := ⟨_, rfl⟩
  rw [← hx1] at e0 e1 ⊢
  clear hx1 hb hx hbl hs hD hA hDs hDA
  obtain ⟨key, val⟩ := x
  simp only at e0 e1
  have hi0 : (0 : Int) ≤ (i : Int) := by omega
  have hi1 : (i : Int) < (l.length : Int) := by omega
  go_enter Try.func145, Try.ntmps145
  go_wp2_with fail
  have hst := HTS.out.drew
  have hbk := HBK.out.drew
  obtain ⟨k0, k1, k2, f0, f1, f2⟩ := Box.facts3 (HX.out.drew)
  have r0 := HR.out.drew
  have hal : a.block < w.heap.size := hA0
  have han : (a.add (i * 2)).block ≠ w.heap.size := by rw [Sl.add_block]; omega
  have e0d : (w.alloc (.cells #[.int .i64 0, .string ⟨#[]⟩, .string ⟨#[]⟩, .slice none 0 0] 179)).drew.cell? (a.add (i * 2)) = some (.string key) := e0
  have e1d : (w.alloc (.cells #[.int .i64 0, .string ⟨#[]⟩, .string ⟨#[]⟩, .slice none 0 0] 179)).drew.cell? ⟨(a.add (i * 2)).block, (a.add (i * 2)).off + 1, none⟩ = some (.string val) := e1
  have hab := World.block_lt_of_cell? _ _ e0d
  have ham := HA.out (by omega) a.block rfl
  have hqn : q ≠ w.heap.size := by omega
  have HABK := Lib.hid (show (a.add (i * 2)).block = a.block from Sl.add_block _ _)
  go_region_held3 (fun w' => w'.cell? ⟨q, 0, none⟩ = some (.pointer (some ⟨b, 0, none⟩)) ∧ w'.cell? ⟨q, 1, none⟩ = some (.slice (some a) l.length c) ∧ w'.cell? ⟨q, 2, none⟩ = some (.slice DA D.length dc) ∧ w'.cell? (a.add (i * 2)) = some (.string key) ∧ w'.cell? ⟨(a.add (i * 2)).block, (a.add (i * 2)).off + 1, none⟩ = some (.string val)) (first | exact ⟨k0, k1, k2, e0d, e1d⟩ | exact ⟨g0, g1, g2, g3, g4⟩ | exact ⟨keep4 g0 hqn, keep4 g1 hqn, keep4 g2 hqn, keep4 g3 han, keep4 g4 han⟩) (first | (go_at_call 182; refine (sides_calls b t m n S D.length T DA dc D i _ rfl hbk (by omega) hst (by omega) (by omega) (by omega) HDS.out HDA.out).mono ?_; rintro e w2 ⟨T1, A1, c1, L1, rfl, q1, ex1, l1, t1, ch1, kk1, o1⟩; have hz1 : w.heap.size + 1 ≤ w2.heap.size := (by have := ch1.size; simpa using this); have HX2 := Box.ch HX.out.drew ch1 HX.out.drew.lt (by omega); obtain ⟨g0, g1, g2, _⟩ := Box.facts3 HX2; have g3 := (ch1.cell hab (by rw [HABK.out]; exact ham)).trans e0d; have g4 := (ch1.cell (p := ⟨(a.add (i * 2)).block, (a.add (i * 2)).off + 1, none⟩) hab (by rw [HABK.out]; exact ham)).trans e1d; have r2 := Box.ch r0 ch1 r0.lt (by omega); obtain ⟨x0, x1, x2, x3, y0, y1, y2, y3⟩ := Box.facts4 r2))
  all_goals go_wp2
  all_goals
    have hlt := HLT.out
    have hbx := box_fill4 r2 (x := .int .i64 i) (y := .string key) (z := .string val) (t := .slice A1 L1.length c1)
    obtain ⟨d0, d1, d2, d3⟩ := box4 hbx
    refine bodyPost_ret (v := .agg #[.int .i64 i, .string key, .string val, .slice A1 L1.length c1]) (by simp [results, Try.results145, go_sem, d0, d1, d2, d3]) rfl ?_
    have hch : Ch w.heap.size (· = m) w w2 := ((Ch.of_below HBL.out).drew).step ch1 (by simp) (fun _ _ e => e)
    refine ⟨T1, A1, c1, L1, rfl, q1, ex1, by omega, t1, ?_, ?_, ?_⟩
    · exact (((hch.setCell (p := ⟨w.heap.size, 0, none⟩) (.inl (Nat.le_refl _)) _).setCell (p := ⟨w.heap.size, 1, none⟩) (.inl (Nat.le_refl _)) _).setCell (p := ⟨w.heap.size, 2, none⟩) (.inl (Nat.le_refl _)) _).setCell (p := ⟨w.heap.size, 3, none⟩) (.inl (Nat.le_refl _)) _
    · have hf : w.heap.size ≠ b ∧ w.heap.size ≠ t ∧ w.heap.size ≠ m ∧ w.heap.size ≠ n := by omega
      exact (((kk1.setCell (p := ⟨w.heap.size, 0, none⟩) hf _).setCell (p := ⟨w.heap.size, 1, none⟩) hf _).setCell (p := ⟨w.heap.size, 2, none⟩) hf _).setCell (p := ⟨w.heap.size, 3, none⟩) hf _
    · exact own_base (ownsRow_setCell_below (ownsRow_setCell_below (ownsRow_setCell_below (ownsRow_setCell_below o1 (a := ⟨w.heap.size, 0, none⟩) (by simp) _) (a := ⟨w.heap.size, 1, none⟩) (by simp) _) (a := ⟨w.heap.size, 2, none⟩) (by simp) _) (a := ⟨w.heap.size, 3, none⟩) (by simp) _) (by simp)
end Go.Proofs.Ytfgpchffkpomoaa
