/- The document's path to a record: the walk. -/
import Derived.Test.YtfgpchffkpomoaaOver
import Derived.Test.YtfgpchffkpomoaaPk24
namespace Go.Proofs.Ytfgpchffkpomoaa
set_option linter.unusedSimpArgs false
set_option linter.unusedVariables false
open Go.RowKit

theorem wrap_neg (n : Int) (h0 : -9223372036854775808 ≤ n) (h1 : n ≤ 9223372036854775807) : IntKind.i64.wrap n = n := by
  simp only [IntKind.wrap, IntKind.bits, IntKind.signed]
  simp
  omega
/-- Records stay when an append changes its own row. -/
theorem RcS.app {w w1 : World} {A B : Option Addr} {c : Nat} {l : List Rc} (h : RcS w A c l) (o : Obj) (hc : Ch (w.alloc o).heap.size (Row B) (w.alloc o) w1) (hR : 0 < l.length → ∀ q, Row A q → ¬ Row B q) : RcS w1 A c l := by
  rcases Nat.eq_zero_or_pos l.length with h0 | h0
  · obtain rfl := List.eq_nil_of_length_eq_zero h0
    exact ⟨rfl, by simp, fun j u hj => by simp at hj⟩
  · exact (h.below ((Below.refl _ _).alloc (Nat.le_refl _) o)).ch hc (fun q hq hlt => ⟨hlt, hR h0 q hq⟩)
/-- What stands in a path's list so far, whatever is digested later. -/
def Down (l : List Rc) (at_ : Nat) (T : List ByteArray) (D : List ByteArray) (i j : Nat) : Prop :=
  ∀ T', Ext T T' → D ++ (sidesP (hh T') (leavesH (hh T') (seg l i j)) (at_ - i)).reverse = (sidesP (hh T') (leavesH (hh T') l) at_).reverse
theorem Down.ext {l : List Rc} {a : Nat} {T T1 : List ByteArray} {D : List ByteArray} {i j : Nat} (h : Down l a T D i j) (he : Ext T T1) : Down l a T1 D i j := fun T' hT => h T' (he.trans hT)
theorem Down.left {l : List Rc} {a : Nat} {T : List ByteArray} {D : List ByteArray} {i j : Nat} {x : ByteArray} (h : Down l a T D i j) (hj : j ≤ l.length) (hij : 1 < j - i) (ha : a < i + half (j - i)) (hia : i ≤ a) (ho : OverIn T (seg l (i + half (j - i)) j)) (hx : x = topP (hh T) (leavesH (hh T) (seg l (i + half (j - i)) j))) :
    Down l a T (D ++ [x]) i (i + half (j - i)) := by
  intro T' hT
  have hs := seg_len (l := l) (a := i) hj
  have hh1 := half_lt hij
  have hl : (leavesH (hh T') (seg l i j)).length = j - i := by rw [leavesH_len, hs]
  have e := (ho.ext hT).2
  rw [← h T' hT, sidesP_left (l := leavesH (hh T') (seg l i j)) (i := a - i) (by rw [hl]; exact hij) (by rw [hl]; omega), hl, ← leavesH_take, ← leavesH_drop, seg_take (by omega), seg_drop, List.reverse_append, e, ← hx]
  simp
theorem Down.right {l : List Rc} {a : Nat} {T : List ByteArray} {D : List ByteArray} {i j : Nat} {x : ByteArray} (h : Down l a T D i j) (hj : j ≤ l.length) (hij : 1 < j - i) (ha : ¬ a < i + half (j - i)) (hia : i ≤ a) (ho : OverIn T (seg l i (i + half (j - i)))) (hx : x = topP (hh T) (leavesH (hh T) (seg l i (i + half (j - i))))) :
    Down l a T (D ++ [x]) (i + half (j - i)) j := by
  intro T' hT
  have hs := seg_len (l := l) (a := i) hj
  have hh1 := half_lt hij
  have hl : (leavesH (hh T') (seg l i j)).length = j - i := by rw [leavesH_len, hs]
  have e := (ho.ext hT).2
  rw [← h T' hT, sidesP_right (l := leavesH (hh T') (seg l i j)) (i := a - i) (by rw [hl]; exact hij) (by rw [hl]; omega), hl, ← leavesH_take, ← leavesH_drop, seg_take (by omega), seg_drop, List.reverse_append, e, ← hx, show a - i - half (j - i) = a - (i + half (j - i)) by omega]
  simp
theorem Down.done {l : List Rc} {a : Nat} {T : List ByteArray} {D : List ByteArray} {i j : Nat} (h : Down l a T D i j) (hj : j ≤ l.length) (hij : ¬ 1 < j - i) (T' : List ByteArray) (hT : Ext T T') : D.reverse = sidesP (hh T') (leavesH (hh T') l) a := by
  have := h T' hT
  rw [sidesP_few (by rw [leavesH_len, seg_len hj]; exact hij)] at this
  simp only [List.reverse_nil, List.append_nil] at this
  rw [this, List.reverse_reverse]

set_option maxHeartbeats 4000000 in
set_option maxRecDepth 100000 in
theorem path4_calls (b t m n : Nat) (T : List ByteArray) (S : List Wd) (A : Option Addr) (c : Nat) (l : List Rc) (p : Nat) (w : World) (hb : Bk w b t m n T S) (hT : T.length ≤ 500000000) (hs : RcS w A c l) (hl : l.length ≤ 4096) (hok : Short l) (hA : Off A l.length m) (hp : p < l.length) :
    Calls Try.prog 105 #[.pointer (some ⟨b, 0, none⟩), .slice A l.length c, .int .i64 p] w (fun e w' => ∃ T' B cc L, e = .returned (.agg #[.int .i64 p, .string l[p].key, .string l[p].val, .slice B L.length cc]) ∧ Hid (∀ T2, Ext T' T2 → L = sidesP (hh T2) (leavesH (hh T2) l) p) ∧ Ext T T' ∧ T'.length ≤ T.length + 10000 ∧ Ch w.heap.size (· = m) w w' ∧ Bk w' b t m n T' S ∧ w'.ownsRow w.heap.size 9 1 (.slice B L.length cc) L.length (L.flatMap textCells)) := by
  have hfit := hs.fits
  have HLT := Lib.hid hb.all_lt
  have hml := hb.tm.lt
  have hbl := (Below.refl w.heap.size w).alloc (Nat.le_refl _) (.cells #[.int .i64 0, .string ⟨#[]⟩, .string ⟨#[]⟩, .slice none 0 0] 179)
  have HR := Lib.hid (Box.new w #[.int .i64 0, .string ⟨#[]⟩, .string ⟨#[]⟩, .slice none 0 0] 179)
  have HB := Lib.hid (hb.alloc (.cells #[.int .i64 0, .string ⟨#[]⟩, .string ⟨#[]⟩, .slice none 0 0] 179))
  have HS := Lib.hid (hs.below hbl)
  have HC0 := Lib.hid (Ch.of_below (S := (· = m)) hbl)
  have HOV := Lib.hid (fun N T i j w h1 h2 h3 h4 h5 h6 => over_calls b t m n S A c l hl hok hA N T i j w h1 h2 h3 h4 h5 h6)
  have HA := Lib.hid hA
  have hA0 : ∀ a, A = some a → a.block < w.heap.size := fun a e => hs.row_lt (by omega) _ (by rw [e]; rfl)
  have HA0 := Lib.hid hA0
  clear hb hs hok hA hbl hA0
  go_enter Try.func105, Try.ntmps105
  go_wp2_with fail
  go_loopg [7, 8, 9] l.length (fun g v7 v8 v9 wr => ∃ (i j : Nat) (D : List ByteArray) (B : Option Addr) (cc : Nat) (T1 : List ByteArray), v7 = .slice B D.length cc ∧ v8 = .int .i64 i ∧ v9 = .int .i64 j ∧ i ≤ p ∧ p < j ∧ j ≤ l.length ∧ D.length + (j - i) ≤ l.length ∧ Hid (j - i ≤ g ∧ T1.length + 2 * (j - i) ≤ T.length + 2 * l.length ∧ Ext T T1 ∧ Down l p T1 D i j ∧ Ch w.heap.size (· = m) w wr ∧ Bk wr b t m n T1 S ∧ Box wr w.heap.size #[.int .i64 0, .string ⟨#[]⟩, .string ⟨#[]⟩, .slice none 0 0] 179 ∧ RcS wr A c l ∧ wr.ownsRow (w.heap.size + 1) 9 1 (.slice B D.length cc) D.length (D.flatMap textCells)))
  case atStart => exact ⟨0, l.length, [], none, 0, T, rfl, rfl, rfl, by omega, hp, by omega, by simp, by omega, by omega, Ext.refl _, fun T' hT => by rw [seg_all]; simp, HC0.out, HB.out, HR.out, HS.out, ⟨rfl, .inl ⟨rfl, rfl⟩⟩⟩
  case round =>
    clear HB HS HC0 HR
    obtain ⟨i, j, D, B, cc, T1, rfl, rfl, rfl, hip, hpj, hj, hDl, HH⟩ := hrel
    obtain ⟨hg, hT1, he, hd, hc, hbk, hbx, hrs, ho⟩ := HH.out
    have HG := Lib.hid hg
    have HT1 := Lib.hid hT1
    have HE := Lib.hid he
    have HD := Lib.hid hd
    have HC := Lib.hid hc
    have HBK := Lib.hid hbk
    have HBX := Lib.hid hbx
    have HRS := Lib.hid hrs
    have HO := Lib.hid ho
    have hsz := hbx.lt
    clear HH hg hT1 he hd hc hbk hbx hrs ho
    have hwr : IntKind.i64.wrap ((j : Int) - (i : Int)) = (j : Int) - (i : Int) := wrap_small _ (by omega) (by omega)
    by_cases h1 : 1 < j - i
    · have hd1 : decide ((1 : Int) < (j : Int) - (i : Int)) = true := by simp; omega
      have hhl := half_lt h1
      have HHF := Lib.hid (fun w => rhalf_calls (j - i) w (by omega))
      rw [show ((j - i : Nat) : Int) = (j : Int) - (i : Int) by omega] at HHF
      obtain ⟨k, hk⟩ : ∃ k, k = half (j - i) := ⟨_, rfl⟩
      rw [← hk] at HHF hhl
      have HK := Lib.hid hk
      clear hk
      have hwr2 : IntKind.i64.wrap ((i : Int) + (k : Int)) = (i : Int) + (k : Int) := wrap_small _ (by omega) (by omega)
      have hT1' := HT1.out
      by_cases hpk : p < i + k
      · have hd2 : decide ((p : Int) < (i : Int) + (k : Int)) = true := by simp; omega
        have HOC := Lib.hid (show Calls Try.prog 103 #[.pointer (some ⟨b, 0, none⟩), .slice A l.length c, .int .i64 ((i : Int) + (k : Int)), .int .i64 j] wr (OverPost wr b t m n T1 S (seg l (i + k) j)) from by
          have := HOV.out (j - (i + k)) T1 (i + k) j wr rfl (by omega) hj HBK.out (by omega) HRS.out
          rwa [show (((i + k : Nat) : Nat) : Int) = (i : Int) + (k : Int) by omega] at this)
        go_wp2_with fail
        refine (HHF.out _).mono ?_
        rintro e w0 ⟨rfl, hw⟩
        subst hw
        go_wp2_with fail
        refine HOC.out.mono ?_
        rintro e w2 ⟨T2, x, rfl, hx, xs, e2, l2, i2, ch2, k2⟩
        have hs2 := seg_len (l := l) (a := i + k) hj
        have hkk := HK.out
        have HD2 := Lib.hid (show Down l p T2 (D ++ [x]) i (i + k) by rw [hkk]; exact (HD.out.ext e2).left hj h1 (by rw [← hkk]; exact hpk) hip (by rw [← hkk]; exact i2) (by rw [← hkk]; exact hx.out))
        have HO2 := Lib.hid (own_ch HO.out ch2 (fun q hq => ⟨(own_row HO.out hq).2, by have := (own_row HO.out hq).1; omega⟩))
        have hrow : ∀ q, Row B q → w.heap.size + 1 ≤ q ∧ q < w2.heap.size := fun q hq => own_row HO2.out hq
        have HRS2 := Lib.hid (HRS.out.off ch2 HA.out)
        have HBX2 := Lib.hid (HBX.out.ch ch2 HBX.out.lt (by omega))
        have HC2 := Lib.hid (HC.out.step ch2 HC.out.size (fun _ _ e => e))
        have hz2 := HBX2.out.lt
        have HK2 := Lib.hid k2
        clear hx i2 ch2 k2 hkk
        go_wp2_with (at_builtin; refine app_row rfl (.tmp 28) (.tmp 34) 54 rfl (w.heap.size + 1) 9 _ 1 16 info_str Try.underlying54 rfl (by decide) B cc D.length (D.flatMap textCells) rfl (HO2.out.alloc _) _ 1 1 (textCells x) rfl rfl (news_box (Box.new w2 #[.string x] 9)) (text_one x) ?hb1 ?hb2 ?hb3 ?_; (case hb1 => omega); (case hb2 => omega); (case hb3 => simp; omega); intro A' c' w6 ho hc hA; have HO6 := Lib.hid ho; have HC6 := Lib.hid (HC2.out.app (by omega) hc (fun j hj => by have := (hrow j hj).1; omega)); have HK6 := Lib.hid (HK2.out.app hc (fun j hj => by have := (hrow j hj).1; omega) HLT.out); have HBX6 := Lib.hid ((HBX2.out.alloc (.cells #[.string x] 9)).ch hc (by simp; omega) (fun h => by have := (hrow _ h).1; omega)); have HRS6 := Lib.hid (RcS.app HRS2.out (.cells #[.string x] 9) hc (fun h0 q hq h => by obtain ⟨a, ha⟩ : ∃ a, A = some a := (by cases A with | none => simp [Row] at hq | some a => exact ⟨a, rfl⟩); have h1 := HA0.out a ha; have h2 := (hrow q h).1; subst ha; simp [Row] at hq; omega)); clear ho hc hA)
        go_roundg (gk - 1)
        case measure => have := HG.out; omega
        case rel => exact ⟨i, i + k, D ++ [x], A', c', T2, by simp, rfl, by go_num, hip, hpk, by omega, by simp; omega, by have := HG.out; omega, by omega, HE.out.trans e2, HD2.out, HC6.out, HK6.out, HBX6.out, HRS6.out, by simpa using HO6.out⟩
      · have hd2 : decide ((p : Int) < (i : Int) + (k : Int)) = false := by simp; omega
        have HOC := Lib.hid (show Calls Try.prog 103 #[.pointer (some ⟨b, 0, none⟩), .slice A l.length c, .int .i64 i, .int .i64 ((i : Int) + (k : Int))] wr (OverPost wr b t m n T1 S (seg l i (i + k))) from by
          have := HOV.out k T1 i (i + k) wr (by omega) (by omega) (by omega) HBK.out (by omega) HRS.out
          rwa [show (((i + k : Nat) : Nat) : Int) = (i : Int) + (k : Int) by omega] at this)
        go_wp2_with fail
        refine (HHF.out _).mono ?_
        rintro e w0 ⟨rfl, hw⟩
        subst hw
        go_wp2_with fail
        refine HOC.out.mono ?_
        rintro e w2 ⟨T2, x, rfl, hx, xs, e2, l2, i2, ch2, k2⟩
        have hs2 := seg_len (l := l) (a := i) (b := i + k) (by omega)
        have hkk := HK.out
        have HD2 := Lib.hid (show Down l p T2 (D ++ [x]) (i + k) j by rw [hkk]; exact (HD.out.ext e2).right hj h1 (by rw [← hkk]; exact hpk) hip (by rw [← hkk]; exact i2) (by rw [← hkk]; exact hx.out))
        have HO2 := Lib.hid (own_ch HO.out ch2 (fun q hq => ⟨(own_row HO.out hq).2, by have := (own_row HO.out hq).1; omega⟩))
        have hrow : ∀ q, Row B q → w.heap.size + 1 ≤ q ∧ q < w2.heap.size := fun q hq => own_row HO2.out hq
        have HRS2 := Lib.hid (HRS.out.off ch2 HA.out)
        have HBX2 := Lib.hid (HBX.out.ch ch2 HBX.out.lt (by omega))
        have HC2 := Lib.hid (HC.out.step ch2 HC.out.size (fun _ _ e => e))
        have hz2 := HBX2.out.lt
        have HK2 := Lib.hid k2
        clear hx i2 ch2 k2 hkk
        go_wp2_with (at_builtin; refine app_row rfl (.tmp 37) (.tmp 43) 54 rfl (w.heap.size + 1) 9 _ 1 16 info_str Try.underlying54 rfl (by decide) B cc D.length (D.flatMap textCells) rfl (HO2.out.alloc _) _ 1 1 (textCells x) rfl rfl (news_box (Box.new w2 #[.string x] 9)) (text_one x) ?hb1 ?hb2 ?hb3 ?_; (case hb1 => omega); (case hb2 => omega); (case hb3 => simp; omega); intro A' c' w6 ho hc hA; have HO6 := Lib.hid ho; have HC6 := Lib.hid (HC2.out.app (by omega) hc (fun j hj => by have := (hrow j hj).1; omega)); have HK6 := Lib.hid (HK2.out.app hc (fun j hj => by have := (hrow j hj).1; omega) HLT.out); have HBX6 := Lib.hid ((HBX2.out.alloc (.cells #[.string x] 9)).ch hc (by simp; omega) (fun h => by have := (hrow _ h).1; omega)); have HRS6 := Lib.hid (RcS.app HRS2.out (.cells #[.string x] 9) hc (fun h0 q hq h => by obtain ⟨a, ha⟩ : ∃ a, A = some a := (by cases A with | none => simp [Row] at hq | some a => exact ⟨a, rfl⟩); have h1 := HA0.out a ha; have h2 := (hrow q h).1; subst ha; simp [Row] at hq; omega)); clear ho hc hA)
        go_roundg (gk - 1)
        case measure => have := HG.out; omega
        case rel => exact ⟨i + k, j, D ++ [x], A', c', T2, by simp, by go_num, rfl, by omega, hpj, hj, by simp; omega, by have := HG.out; omega, by omega, HE.out.trans e2, HD2.out, HC6.out, HK6.out, HBX6.out, HRS6.out, by simpa using HO6.out⟩
    · have hd1 : decide ((1 : Int) < (j : Int) - (i : Int)) = false := by simp; omega
      have HDN := Lib.hid (HD.out.done hj h1)
      have hpl : D.length ≤ 4096 := by omega
      have hwl : IntKind.i64.wrap ((D.length : Int) - 1) = (D.length : Int) - 1 := wrap_neg _ (by omega) (by omega)
      have hB : ∀ q, Row B q → w.heap.size + 1 ≤ q ∧ q < wr.heap.size := fun q hq => own_row HO.out hq
      have HB := Lib.hid hB
      have hT1' := HT1.out
      clear hB
      obtain ⟨base, hbase⟩ : ∃ base, base = wr.heap.size := ⟨_, rfl⟩
      rw [← hbase] at HB hsz
      have hbs : base ≤ wr.heap.size := by omega
      clear hbase
      obtain ⟨a, rfl, e0, e1⟩ := HRS.out.elem p hp
      clear e0 e1
      go_wp2_with fail
      go_loopg [11, 12] (D.length + 1) (fun g v11 v12 wx => ∃ (nn : Nat) (U : Option Addr) (uc : Nat) (V : List ByteArray), v11 = .slice U V.length uc ∧ v12 = .int .i64 ((nn : Int) - 1) ∧ nn ≤ D.length ∧ V.length ≤ 4096 ∧ Hid (nn + 1 ≤ g + 0 ∧ V = (D.drop nn).reverse ∧ Ch w.heap.size (· = m) w wx ∧ Bk wx b t m n T1 S ∧ Box wx w.heap.size #[.int .i64 0, .string ⟨#[]⟩, .string ⟨#[]⟩, .slice none 0 0] 179 ∧ RcS wx (some a) c l ∧ base ≤ wx.heap.size ∧ wx.ownsRow (w.heap.size + 1) 9 1 (.slice B D.length cc) D.length (D.flatMap textCells) ∧ wx.ownsRow base 9 1 (.slice U V.length uc) V.length (V.flatMap textCells)))
      case atStart => exact ⟨D.length, none, 0, [], rfl, rfl, by omega, by simp, by omega, by simp, HC.out, HBK.out, HBX.out, HRS.out, hbs, HO.out, ⟨rfl, .inl ⟨rfl, rfl⟩⟩⟩
      case round =>
        clear HC HBK HBX HRS HO
        obtain ⟨nn, U, uc, V, rfl, rfl, hnn, hVl, HH⟩ := hrel
        obtain ⟨hg, hV, hc, hbk, hbx, hrs, hwx, hoD, hoU⟩ := HH.out
        have HG2 := Lib.hid hg
        have HV := Lib.hid hV
        have HC := Lib.hid hc
        have HBK := Lib.hid hbk
        have HBX := Lib.hid hbx
        have HRS := Lib.hid hrs
        have HOD := Lib.hid hoD
        have HOU := Lib.hid hoU
        have hlx := hbx.lt
        have hVlen : V.length = D.length - nn := by rw [hV]; simp
        have HVL := Lib.hid hVlen
        clear HH hg hV hc hbk hbx hrs hoD hoU hVlen
        cases nn with
        | zero =>
          have hd2 : decide ((0 : Int) ≤ ((0 : Nat) : Int) - 1) = false := by decide
          obtain ⟨a', ha', e0, e1⟩ := HRS.out.elem p hp
          obtain rfl : a = a' := by simpa using ha'
          obtain ⟨y, hy⟩ : ∃ y, y = l[p] := ⟨_, rfl⟩
          rw [← hy] at e0 e1
          obtain ⟨key, val⟩ := y
          have HY := Lib.hid hy
          clear hy
          simp only at e0 e1
          obtain ⟨x0, x1, x2, x3, y0, y1, y2, y3⟩ := Box.facts4 HBX.out
          have hp0 : (0 : Int) ≤ (p : Int) := by omega
          have hp1 : (p : Int) < (l.length : Int) := by omega
          have hla := HA0.out a rfl
          have han : (a.add (p * 2)).block ≠ w.heap.size := by rw [Sl.add_block]; omega
          have e0d : wr.drew.cell? (a.add (p * 2)) = some (.string key) := e0
          have e1d : wr.drew.cell? ⟨(a.add (p * 2)).block, (a.add (p * 2)).off + 1, none⟩ = some (.string val) := e1
          obtain ⟨u0, u1, u2, u3, w0', w1', w2', w3'⟩ := Box.facts4 HBX.out.drew
          go_wp2_with fail
          go_region_held3 (fun w' => w'.cell? (a.add (p * 2)) = some (.string key) ∧ w'.cell? ⟨(a.add (p * 2)).block, (a.add (p * 2)).off + 1, none⟩ = some (.string val)) (first | exact ⟨e0d, e1d⟩ | exact ⟨keep4 e0d han, keep4 e1d han⟩) (fail)
          all_goals go_wp2
          all_goals
            have hlt := HLT.out
            have hbx := (box_fill4 HBX.out (x := .int .i64 p) (y := .string key) (z := .string val) (t := .slice U V.length uc)).drew
            obtain ⟨d0, d1, d2, d3⟩ := box4 hbx
            refine bodyPost_ret (v := .agg #[.int .i64 p, .string key, .string val, .slice U V.length uc]) (by simp [results, Try.results105, go_sem, d0, d1, d2, d3]) rfl ?_
            have hvr : ∀ T2, Ext T1 T2 → V = sidesP (hh T2) (leavesH (hh T2) l) p := fun T2 h2 => by rw [HV.out, List.drop_zero]; exact HDN.out T2 h2
            refine ⟨T1, U, uc, V, by rw [← HY.out], hvr, HE.out, by omega, ?_, ?_, ?_⟩
            · exact ((((HC.out.setCell (p := ⟨w.heap.size, 0, none⟩) (.inl (Nat.le_refl _)) _).setCell (p := ⟨w.heap.size, 1, none⟩) (.inl (Nat.le_refl _)) _).setCell (p := ⟨w.heap.size, 2, none⟩) (.inl (Nat.le_refl _)) _).setCell (p := ⟨w.heap.size, 3, none⟩) (.inl (Nat.le_refl _)) _).drew
            · have hf : w.heap.size ≠ b ∧ w.heap.size ≠ t ∧ w.heap.size ≠ m ∧ w.heap.size ≠ n := by omega
              exact ((((HBK.out.setCell (p := ⟨w.heap.size, 0, none⟩) hf _).setCell (p := ⟨w.heap.size, 1, none⟩) hf _).setCell (p := ⟨w.heap.size, 2, none⟩) hf _).setCell (p := ⟨w.heap.size, 3, none⟩) hf _).drew
            · exact own_base (own_drewN (ownsRow_setCell_below (ownsRow_setCell_below (ownsRow_setCell_below (ownsRow_setCell_below HOU.out (a := ⟨w.heap.size, 0, none⟩) (by simp only; omega) _) (a := ⟨w.heap.size, 1, none⟩) (by simp only; omega) _) (a := ⟨w.heap.size, 2, none⟩) (by simp only; omega) _) (a := ⟨w.heap.size, 3, none⟩) (by simp only; omega) _) 1) (by omega)
        | succ nn =>
          have hd2 : decide ((0 : Int) ≤ (nn : Int)) = true := by simp
          have hTD := Sl.of_own HOD.out
          obtain ⟨ba, rfl, e0⟩ := TxS.elem (show TxS wr B cc D from hTD) nn (by omega)
          obtain ⟨x, hx⟩ : ∃ x, x = D[nn] := ⟨_, rfl⟩
          rw [← hx] at e0
          have HX := Lib.hid hx
          have hn0 : (0 : Int) ≤ (nn : Int) := by omega
          have hn1 : (nn : Int) < (D.length : Int) := by omega
          have hwn : IntKind.i64.wrap ((nn : Int) - 1) = (nn : Int) - 1 := wrap_neg _ (by omega) (by omega)
          have hrowU : ∀ q, Row U q → base ≤ q ∧ q < wr.heap.size := fun q hq => own_row HOU.out hq
          have HVN := Lib.hid (show V ++ [x] = (D.drop nn).reverse by rw [List.drop_eq_getElem_cons (by omega), List.reverse_cons, ← HV.out, HX.out])
          have hlB := HB.out ba.block rfl
          have hla := HA0.out a rfl
          clear hx hTD
          go_wp2_with (at_builtin; refine app_row rfl (.tmp 53) (.tmp 58) 54 rfl base 9 _ 1 16 info_str Try.underlying54 rfl (by decide) U uc V.length (V.flatMap textCells) rfl (HOU.out.alloc _) _ 1 1 (textCells x) rfl rfl (news_box (Box.new wr #[.string x] 9)) (text_one x) ?hb1 ?hb2 ?hb3 ?_; (case hb1 => omega); (case hb2 => omega); (case hb3 => simp; omega); intro A' c' w6 ho hc hA; have HO6 := Lib.hid ho; have HC6 := Lib.hid (HC.out.app (by omega) hc (fun j hj => by have := (hrowU j hj).1; omega)); have HK6 := Lib.hid (HBK.out.app hc (fun j hj => by have := (hrowU j hj).1; omega) HLT.out); have HBX6 := Lib.hid ((HBX.out.alloc (.cells #[.string x] 9)).ch hc (by simp; omega) (fun h => by have := (hrowU _ h).1; omega)); have HRS6 := Lib.hid (RcS.app HRS.out (.cells #[.string x] 9) hc (fun h0 q hq h => by have h2 := (hrowU q h).1; simp [Row] at hq; omega)); have HOD6 := Lib.hid (own_ch (HOD.out.alloc _) hc (fun q hq => ⟨by have := (HB.out q hq).2; simp; omega, fun h => by have := (hrowU q h).1; have := (HB.out q hq).2; omega⟩)); have hz6 := hc.size; clear ho hc hA)
          go_roundg (gk - 1)
          case measure => have := HG2.out; omega
          case rel => exact ⟨nn, A', c', V ++ [x], by simp, by go_num, by omega, by have := HVL.out; simp; omega, by have := HG2.out; omega, HVN.out, HC6.out, HK6.out, HBX6.out, HRS6.out, by simp at hz6; omega, HOD6.out, by simpa using HO6.out⟩
end Go.Proofs.Ytfgpchffkpomoaa
