/- Whether two proofs are the same: the walk through the document's SameProof. -/
import Derived.Test.YtehbpjkeflcanaaPfOk
import Derived.Test.YtehbpjkeflcanaaSame
import Derived.Test.YtehbpjkeflcanaaPutPf
namespace Go.Proofs.Ytehbpjkeflcanaa
set_option linter.unusedSimpArgs false
set_option linter.unusedVariables false
open Go.RowKit

def samePf (c1 : Int) (l : List Pt) (c2 : Int) (m : List Pt) : Bool := decide (c1 = c2 ∧ l = m)
theorem samePf_no {c1 c2 : Int} {l m : List Pt} (h : ¬ (c1 = c2 ∧ l = m)) : samePf c1 l c2 m = false := decide_eq_false h

theorem two_new (w : World) (xs ys : Array Value) (T : TypeId) : Box ((w.alloc (.cells ys T)).alloc (.cells xs T)) (w.heap.size + 1) xs T ∧ Box ((w.alloc (.cells ys T)).alloc (.cells xs T)) w.heap.size ys T := by
  have h := Box.new (w.alloc (.cells ys T)) xs T
  simp only [World.size_alloc] at h
  exact ⟨h, (Box.new w ys T).alloc _⟩
theorem beq_lists (x y : ByteArray) : (x.toList == y.toList) = decide (x = y) := by
  by_cases h : x = y
  · subst h; simp
  · have h2 : x.toList ≠ y.toList := fun e => h (toList_eq e)
    simp [h, h2]
/-- Two new boxes. -/
structure TwoP (wr : World) (i j : Nat) (xs ys : Array Value) (T : TypeId) (wx : World) : Prop where
  b : Below wr.heap.size wr wx
  x : Box wx i xs T
  y : Box wx j ys T
theorem TwoP.xy (w : World) (xs ys : Array Value) (T : TypeId) : TwoP w (w.heap.size + 1) w.heap.size xs ys T ((w.alloc (.cells ys T)).alloc (.cells xs T)) := ⟨((Below.refl _ _).alloc (Nat.le_refl _) _).alloc (by simp) _, (two_new w xs ys T).1, (two_new w xs ys T).2⟩
theorem TwoP.yx (w : World) (xs ys : Array Value) (T : TypeId) : TwoP w w.heap.size (w.heap.size + 1) xs ys T ((w.alloc (.cells xs T)).alloc (.cells ys T)) := ⟨((Below.refl _ _).alloc (Nat.le_refl _) _).alloc (by simp) _, (two_new w ys xs T).2, (two_new w ys xs T).1⟩
theorem TwoP.drew {wr wx : World} {i j : Nat} {xs ys : Array Value} {T : TypeId} (h : TwoP wr i j xs ys T wx) : TwoP wr i j xs ys T wx.drew := ⟨h.b.drew, h.x, h.y⟩
theorem TwoP.drewN {wr wx : World} {i j : Nat} {xs ys : Array Value} {T : TypeId} (h : TwoP wr i j xs ys T wx) (n : Nat) : TwoP wr i j xs ys T (wx.drewN n) := ⟨below_drewN h.b n, h.x, h.y⟩

set_option maxHeartbeats 2000000 in
set_option maxRecDepth 100000 in
theorem sameProof_calls (c1 c2 : Int) (A B : Option Addr) (c d : Nat) (l m : List Pm) (w : World) (hl : PmS w A c l) (hm : PmS w B d m) : Calls Try.prog 56 #[.agg #[.int .i64 c1, .slice A l.length c], .agg #[.int .i64 c2, .slice B m.length d]] w (BoolPost (samePf c1 (l.map Pm.pt) c2 (m.map Pm.pt)) w) := by
  have hf1 := hl.1.fits
  have hf2 := hm.1.fits
  have HL := Lib.hid hl
  have HM := Lib.hid hm
  clear hl hm
  have HST := Lib.hid (show St2 w.heap.size w w.heap.size #[.int .i64 c1, .slice A l.length c] 76 (w.heap.size + 1) #[.int .i64 c2, .slice B m.length d] 76 ((w.alloc (.cells #[.int .i64 c1, .slice A l.length c] 76)).alloc (.cells #[.int .i64 c2, .slice B m.length d] 76)) from
    ⟨((Below.refl _ _).alloc (Nat.le_refl _) _).alloc (by simp) _, (Box.new _ _ _).alloc _, by have h := Box.new (w.alloc (.cells #[.int .i64 c1, .slice A l.length c] 76)) #[.int .i64 c2, .slice B m.length d] 76; simp only [World.size_alloc] at h; exact h⟩)
  obtain ⟨k0, k1, _⟩ := HST.out.x.facts2
  obtain ⟨k2, k3, _⟩ := HST.out.y.facts2
  by_cases hc : c1 = c2
  · have hcc : (c1 == c2) = true := by simpa using hc
    have hcn : (c1 != c2) = false := by rw [bne, hcc]; rfl
    have HC := Lib.hid hc
    clear hc
    by_cases hlen : l.length = m.length
    · have hd0 : ((l.length : Int) == (m.length : Int)) = true := by simp; omega
      have hd00 : ((l.length : Int) != (m.length : Int)) = false := by rw [bne, hd0]; rfl
      have HLEN := Lib.hid hlen
      clear hlen
      go_enter Try.func56, Try.ntmps56
      go_wp2_with fail
      go_loopg [5] l.length (fun g vi wr => ∃ k : Nat, vi = .int .i64 k ∧ k ≤ l.length ∧ Hid (g + k = l.length ∧ St2 w.heap.size w w.heap.size #[.int .i64 c1, .slice A l.length c] 76 (w.heap.size + 1) #[.int .i64 c2, .slice B m.length d] 76 wr ∧ (l.map Pm.pt).take k = (m.map Pm.pt).take k))
      case atStart => exact ⟨0, rfl, Nat.zero_le _, rfl, HST.out, rfl⟩
      case round =>
        clear HST k0 k1 k2 k3
        obtain ⟨k, rfl, hk, HH⟩ := hrel
        obtain ⟨hg, hst, ht⟩ := HH.out
        have HG := Lib.hid hg
        have HST := Lib.hid hst
        have HT := Lib.hid ht
        obtain ⟨k0, k1, _⟩ := hst.x.facts2
        obtain ⟨k2, k3, _⟩ := hst.y.facts2
        clear HH hst ht hg
        by_cases hlt : k < l.length
        · have hlt2 : k < m.length := by have := HLEN.out; omega
          obtain ⟨a, rfl, e0, e1, e2, e3, hsx⟩ := (HL.out.below HST.out.b).elem k hlt
          obtain ⟨b, rfl, g0, g1, g2, g3, hsy⟩ := (HM.out.below HST.out.b).elem k hlt2
          have hne : l[k].pt ≠ m[k].pt → ¬ (c1 = c2 ∧ l.map Pm.pt = m.map Pm.pt) := fun h he => h (by
            have h1 := congrArg (fun z => z[k]?) he.2
            simp only [List.getElem?_map, List.getElem?_eq_getElem hlt, List.getElem?_eq_getElem hlt2, Option.map_some, Option.some.injEq] at h1
            exact h1)
          have hnx : l[k].pt = m[k].pt → (l.map Pm.pt).take (k + 1) = (m.map Pm.pt).take (k + 1) := fun h => by
            rw [List.take_succ_eq_append_getElem (by simpa using hlt), List.take_succ_eq_append_getElem (by simpa using hlt2), HT.out, List.getElem_map, List.getElem_map, h]
          obtain ⟨⟨xi, xk, xv, xs, xA, xc⟩, hx⟩ : ∃ x, x = l[k] := ⟨_, rfl⟩
          obtain ⟨⟨yi, yk, yv, ys, yA, yc⟩, hy⟩ : ∃ y, y = m[k] := ⟨_, rfl⟩
          rw [← hx] at e0 e1 e2 e3 hsx hne hnx
          rw [← hy] at g0 g1 g2 g3 hsy hne hnx
          simp only at e0 e1 e2 e3 hsx g0 g1 g2 g3 hsy
          have hxf := hsx.2
          have hyf := hsy.2
          clear hx hy
          have HNE := Lib.hid (fun h => samePf_no (hne h))
          have HNX := Lib.hid hnx
          have HSX := Lib.hid hsx
          have HSY := Lib.hid hsy
          clear hne hnx hsx hsy
          have n1 := World.new_ne wr _ k1
          have n3 := World.new_ne wr _ k3
          have m0 := World.new_ne wr _ e0
          have m1 := World.new_ne wr _ e1
          have m2 := World.new_ne wr _ e2
          have m3 := World.new_ne wr _ e3
          have o0 := World.new_ne wr _ g0
          have o1 := World.new_ne wr _ g1
          have o2 := World.new_ne wr _ g2
          have o3 := World.new_ne wr _ g3
          go_wp2_with fail
          go_cut [6, 7] (fun s6 s7 wx => ∃ i j, s6 = .pointer (some ⟨i, 0, none⟩) ∧ s7 = .pointer (some ⟨j, 0, none⟩) ∧ Hid (TwoP wr i j #[.int .i64 xi, .string xk, .string xv, .slice xA xs.length xc] #[.int .i64 yi, .string yk, .string yv, .slice yA ys.length yc] 118 wx))
          case first =>
            go_region_held3 (fun w' => w'.cell? ⟨w.heap.size, 1, none⟩ = some (.slice (some a) l.length c) ∧ w'.cell? ⟨w.heap.size + 1, 1, none⟩ = some (.slice (some b) m.length d) ∧ w'.cell? (a.add (k * 4)) = some (.int .i64 xi) ∧ w'.cell? ⟨(a.add (k * 4)).block, (a.add (k * 4)).off + 1, none⟩ = some (.string xk) ∧ w'.cell? ⟨(a.add (k * 4)).block, (a.add (k * 4)).off + 2, none⟩ = some (.string xv) ∧ w'.cell? ⟨(a.add (k * 4)).block, (a.add (k * 4)).off + 3, none⟩ = some (.slice xA xs.length xc) ∧ w'.cell? (b.add (k * 4)) = some (.int .i64 yi) ∧ w'.cell? ⟨(b.add (k * 4)).block, (b.add (k * 4)).off + 1, none⟩ = some (.string yk) ∧ w'.cell? ⟨(b.add (k * 4)).block, (b.add (k * 4)).off + 2, none⟩ = some (.string yv) ∧ w'.cell? ⟨(b.add (k * 4)).block, (b.add (k * 4)).off + 3, none⟩ = some (.slice yA ys.length yc)) (go_keep) (fail)
            all_goals
              go_wp2_with fail
              go_meet
              refine ⟨_, _, rfl, rfl, ?_⟩
              first
                | exact TwoP.xy wr _ _ _
                | exact TwoP.yx wr _ _ _
                | exact (TwoP.xy wr _ _ _).drew
                | exact (TwoP.yx wr _ _ _).drew
                | exact (TwoP.xy wr _ _ _).drewN _
                | exact (TwoP.yx wr _ _ _).drewN _
          case rest =>
            clear n1 n3 m0 m1 m2 m3 o0 o1 o2 o3 e0 e1 e2 e3 g0 g1 g2 g3 k0 k1 k2 k3
            obtain ⟨i, j, rfl, rfl, HC2⟩ := hcut
            have HTW := Lib.hid HC2.out
            have HF := Lib.hid (HST.out.call (Nat.le_refl _) HTW.out.b)
            obtain ⟨e0, e1, e2, e3⟩ := box4 HTW.out.x
            obtain ⟨g0, g1, g2, g3⟩ := box4 HTW.out.y
            clear HC2
            by_cases h1 : xi = yi
            · have hi1 : (xi == yi) = true := by simpa using h1
              have hi2 : (xi != yi) = false := by rw [bne, hi1]; rfl
              have H1 := Lib.hid h1
              clear h1
              by_cases h2 : xk = yk
              · have hk1 : (xk.toList == yk.toList) = true := by rw [beq_lists]; simpa using h2
                have hk2 : (xk.toList != yk.toList) = false := by rw [bne, hk1]; rfl
                have H2 := Lib.hid h2
                clear h2
                by_cases h3 : xv = yv
                · have hv1 : (xv.toList == yv.toList) = true := by rw [beq_lists]; simpa using h3
                  have hv2 : (xv.toList != yv.toList) = false := by rw [bne, hv1]; rfl
                  have H3 := Lib.hid h3
                  clear h3
                  by_cases h4 : xs.length = ys.length
                  · have hl1 : ((xs.length : Int) == (ys.length : Int)) = true := by simp; omega
                    have hl2 : ((xs.length : Int) != (ys.length : Int)) = false := by rw [bne, hl1]; rfl
                    have H4 := Lib.hid h4
                    clear h4
                    go_wp2_with fail
                    go_loopg [8] xs.length (fun g v8 wj => ∃ q : Nat, v8 = .int .i64 q ∧ q ≤ xs.length ∧ Hid (g + q = xs.length ∧ TwoP wr i j #[.int .i64 xi, .string xk, .string xv, .slice xA xs.length xc] #[.int .i64 yi, .string yk, .string yv, .slice yA ys.length yc] 118 wj ∧ xs.take q = ys.take q))
                    case atStart => exact ⟨0, rfl, Nat.zero_le _, rfl, HTW.out, rfl⟩
                    case round =>
                      clear HTW HF e0 e1 e2 e3 g0 g1 g2 g3
                      obtain ⟨q, rfl, hq, HH⟩ := hrel
                      obtain ⟨hgq, htw, htq⟩ := HH.out
                      have HGQ := Lib.hid hgq
                      have HTW := Lib.hid htw
                      have HTQ := Lib.hid htq
                      have HF := Lib.hid (HST.out.call (Nat.le_refl _) htw.b)
                      obtain ⟨e0, e1, e2, e3⟩ := box4 htw.x
                      obtain ⟨g0, g1, g2, g3⟩ := box4 htw.y
                      clear HH hgq htw htq
                      by_cases hql : q < xs.length
                      · have hql2 : q < ys.length := by have := H4.out; omega
                        obtain ⟨sa, rfl, s0⟩ := (HSX.out.below HTW.out.b).elem q hql
                        obtain ⟨sb, rfl, t0⟩ := (HSY.out.below HTW.out.b).elem q hql2
                        obtain ⟨u, hu⟩ : ∃ u, u = xs[q] := ⟨_, rfl⟩
                        obtain ⟨v, hv⟩ : ∃ v, v = ys[q] := ⟨_, rfl⟩
                        rw [← hu] at s0
                        rw [← hv] at t0
                        have HU := Lib.hid hu
                        have HV := Lib.hid hv
                        clear hu hv
                        by_cases huv : u = v
                        · have hb1 : (u.toList == v.toList) = true := by rw [beq_lists]; simpa using huv
                          have hb2 : (u.toList != v.toList) = false := by rw [bne, hb1]; rfl
                          have HUV := Lib.hid huv
                          clear huv
                          go_wp2_with fail
                          go_quiet (fail)
                          go_wp2
                          go_roundg (xs.length - (q + 1))
                          case measure => have := HGQ.out; omega
                          case rel => exact ⟨q + 1, by go_num, by omega, by omega, (by first | exact HTW.out.drewN _ | exact HTW.out.drew | exact HTW.out), by rw [List.take_succ_eq_append_getElem hql, List.take_succ_eq_append_getElem hql2, HTQ.out, ← HU.out, ← HV.out, HUV.out]⟩
                        · have hb1 : (u.toList == v.toList) = false := by rw [beq_lists]; simpa using huv
                          have hb2 : (u.toList != v.toList) = true := by rw [bne, hb1]; rfl
                          have HE := Lib.hid (HNE.out (fun h => huv (by
                            have h1 : xs = ys := congrArg Pt.sides h
                            rw [HU.out, HV.out]
                            simp only [h1])))
                          clear huv
                          go_wp2_with fail
                          go_quiet (fail)
                          go_wp2
                          go_ret
                          exact ⟨ret_bool HE.out.symm, by first | exact below_drewN HF.out.b _ | exact HF.out.b.drew | exact HF.out.b⟩
                      · have HN := Lib.hid (HNX.out (by
                          have h5 : xs = ys := by
                            have h := HTQ.out
                            rw [List.take_of_length_le (by omega), List.take_of_length_le (by have := H4.out; omega)] at h
                            exact h
                          simp only [Pm.pt]
                          rw [H1.out, H2.out, H3.out, h5]))
                        go_wp2
                        go_roundg (l.length - (k + 1))
                        case measure => have := HG.out; omega
                        case rel => exact ⟨k + 1, by go_num, by omega, by omega, HF.out, HN.out⟩
                  · have hl1 : ((xs.length : Int) == (ys.length : Int)) = false := by simp; omega
                    have hl2 : ((xs.length : Int) != (ys.length : Int)) = true := by rw [bne, hl1]; rfl
                    have HE := Lib.hid (HNE.out (fun h => h4 (congrArg (fun z : Pt => z.sides.length) h)))
                    clear h4
                    go_wp2_with fail
                    go_ret
                    exact ⟨ret_bool HE.out.symm, HF.out.b⟩
                · have hv1 : (xv.toList == yv.toList) = false := by rw [beq_lists]; simpa using h3
                  have hv2 : (xv.toList != yv.toList) = true := by rw [bne, hv1]; rfl
                  have HE := Lib.hid (HNE.out (fun h => h3 (congrArg Pt.val h)))
                  clear h3
                  go_wp2_with fail
                  go_ret
                  exact ⟨ret_bool HE.out.symm, HF.out.b⟩
              · have hk1 : (xk.toList == yk.toList) = false := by rw [beq_lists]; simpa using h2
                have hk2 : (xk.toList != yk.toList) = true := by rw [bne, hk1]; rfl
                have HE := Lib.hid (HNE.out (fun h => h2 (congrArg Pt.key h)))
                clear h2
                go_wp2_with fail
                go_ret
                exact ⟨ret_bool HE.out.symm, HF.out.b⟩
            · have hi1 : (xi == yi) = false := by simpa using h1
              have hi2 : (xi != yi) = true := by rw [bne, hi1]; rfl
              have HE := Lib.hid (HNE.out (fun h => h1 (congrArg Pt.index h)))
              clear h1
              go_wp2_with fail
              go_ret
              exact ⟨ret_bool HE.out.symm, HF.out.b⟩
        · have HE := Lib.hid (show samePf c1 (l.map Pm.pt) c2 (m.map Pm.pt) = true by
            have h := HT.out
            rw [List.take_of_length_le (by simp; omega), List.take_of_length_le (by have := HLEN.out; simp; omega)] at h
            exact decide_eq_true ⟨HC.out, h⟩)
          go_wp2
          go_ret
          exact ⟨ret_bool HE.out.symm, HST.out.b⟩
    · have hd0 : ((l.length : Int) == (m.length : Int)) = false := by simp; omega
      have hd00 : ((l.length : Int) != (m.length : Int)) = true := by rw [bne, hd0]; rfl
      have HE := Lib.hid (samePf_no (c1 := c1) (c2 := c2) (l := l.map Pm.pt) (m := m.map Pm.pt) (fun h => hlen (by have := congrArg List.length h.2; simpa using this)))
      clear hlen
      go_enter Try.func56, Try.ntmps56
      go_wp2_with fail
      go_ret
      exact ⟨ret_bool HE.out.symm, HST.out.b⟩
  · have hcc : (c1 == c2) = false := by simpa using hc
    have hcn : (c1 != c2) = true := by rw [bne, hcc]; rfl
    have HE := Lib.hid (samePf_no (c1 := c1) (c2 := c2) (l := l.map Pm.pt) (m := m.map Pm.pt) (fun h => hc h.1))
    clear hc
    go_enter Try.func56, Try.ntmps56
    go_wp2_with fail
    go_ret
    exact ⟨ret_bool HE.out.symm, HST.out.b⟩
end Go.Proofs.Ytehbpjkeflcanaa
