/- Texts of this proof, several in one file; each says ahead of it what it proves. -/
import Derived.Test.YtfgpchffkpomoaaPk21
import Derived.Test.YtfgpchffkpomoaaPk19
import Derived.Test.YtfgpchffkpomoaaPk06
/- The root of records: the walk through merkle's Root. -/
namespace Go.Proofs.Ytfgpchffkpomoaa
set_option linter.unusedSimpArgs false
set_option linter.unusedVariables false
open Go.RowKit

def RootPost (w0 : World) (b t m n : Nat) (T : List ByteArray) (S : List Wd) (l : List Rc) (e : Ending) (w' : World) : Prop :=
  ∃ T' x, e = .returned (.tuple #[.string x, .int .i64 (riseE l)]) ∧ Hid ((riseE l = 0 → x = rootP (hh T') l ∧ RootIn T' l) ∧ (riseE l ≠ 0 → x = ⟨#[]⟩)) ∧ Ext T T' ∧ T'.length ≤ T.length + 10000 ∧ Ch w0.heap.size (· = m) w0 w' ∧ Bk w' b t m n T' S
theorem RcS.row_lt {w : World} {A : Option Addr} {c : Nat} {l : List Rc} (h : RcS w A c l) (hn : 0 < l.length) : ∀ k, Row A k → k < w.heap.size := Sl.row_lt h (by rw [h.len]; omega)

theorem own_cap {w : World} {base n : Nat} {e : TypeId} {size : Nat} {A : Option Addr} {c : Nat} {xs : List Value} (h : w.ownsRow base e size (.slice A n c) n xs) : n ≤ c := by
  rcases h.2 with ⟨hv, rfl⟩ | ⟨g, cap, cur, hv, _, _, hnc, _⟩
  · omega
  · obtain ⟨rfl, rfl⟩ : A = some ⟨g, 0, none⟩ ∧ c = cap := by simpa using hv
    exact hnc
theorem root_join {T2 T3 : List ByteArray} {l : List Rc} {x : ByteArray} (i2 : LeavesIn T2 l) (e3 : Ext T2 T3) (t3 : TopIn T3 (leavesH (hh T2) l)) (hx : x = topP (hh T3) (leavesH (hh T2) l)) :
    (digS T3 (rootT l.length x)).1 = rootP (hh (digS T3 (rootT l.length x)).2) l ∧ RootIn (digS T3 (rootT l.length x)).2 l ∧ Ext T3 (digS T3 (rootT l.length x)).2 := by
  subst hx
  obtain ⟨kn1, kn2, kn3⟩ := dig_known T3 (rootT l.length (topP (hh T3) (leavesH (hh T2) l)))
  rw [kn3]
  obtain ⟨T4, hT4⟩ : ∃ x1, x1 = (digS T3 (rootT l.length (topP (hh T3) (leavesH (hh T2) l)))).2 := ⟨_, rfl⟩
  rw [← hT4] at kn1 kn2 ⊢
  obtain ⟨a1, a2⟩ := i2.ext (e3.trans kn1)
  obtain ⟨b1, b2⟩ := t3.ext kn1
  rw [← b2, ← a2] at kn2
  rw [← a2] at b1
  refine ⟨?_, ⟨a1, b1, kn2⟩, kn1⟩
  unfold rootP
  rw [← b2, ← a2]

set_option maxHeartbeats 2000000 in
set_option maxRecDepth 100000 in
theorem mRoot_calls (b t m n : Nat) (T : List ByteArray) (S : List Wd) (A : Option Addr) (c : Nat) (l : List Rc) (w : World) (hb : Bk w b t m n T S) (hT : T.length ≤ 50000000) (hs : RcS w A c l) (hA : Off A l.length m) :
    Calls Try.prog 37 #[.pointer (some ⟨b, 0, none⟩), .slice A l.length c] w (RootPost w b t m n T S l) := by
  have HK := Lib.hid (known_calls b t m n T S w hb (by omega))
  have HS := Lib.hid hs
  have HA := Lib.hid hA
  have HC := Lib.hid (fun w hs => check_errs A c l w hs)
  have hdl := digT_len T ⟨#[]⟩
  have hke := (dig_known T ⟨#[]⟩).1
  obtain ⟨T1, hT1⟩ : ∃ x, x = (digS T ⟨#[]⟩).2 := ⟨_, rfl⟩
  rw [← hT1] at HK hdl hke
  have HKE := Lib.hid hke
  clear hT1 hke hb hs hA
  have hfit := HS.out.fits
  by_cases hr : riseE l = 0
  · have hok := rise_ok hr
    have hsh := rise_short hr
    have HR := Lib.hid hr
    rw [hr] at HC
    have HSH := Lib.hid hsh
    have hl4 := hok.1
    clear hok hsh hr
    go_enter Try.func37, Try.ntmps37
    go_wp2_with fail
    refine HK.out.mono ?_
    rintro e w1 ⟨rfl, hc1, hk1⟩
    have hs1 := HS.out.off hc1 HA.out
    have HC1 := Lib.hid hc1
    have HK1 := Lib.hid hk1
    clear hk1
    have hz1 := hc1.size
    clear hc1
    go_wp2_with fail
    refine (HC.out _ hs1).mono ?_
    rintro e w2 ⟨rfl, hb2⟩
    have HC2 := Lib.hid (HC1.out.step (Ch.of_below (S := fun _ => False) hb2) hz1 (fun _ _ e => e.elim))
    have HK2 := Lib.hid (HK1.out.below hb2)
    have HS2 := Lib.hid (hs1.below hb2)
    have hz2 := HC2.out.size
    clear hb2 hs1
    have HLV := Lib.hid (leaves_calls b t m n T1 S A c l w2 HK2.out (by omega) HS2.out (by omega) (fun x hx => by have := HSH.out x hx; simp only [maxLen]; omega) HA.out)
    go_wp2_with fail
    refine HLV.out.mono ?_
    rintro e w3 ⟨T2, A2, c2, rfl, e2, l2, i2, ch2, k2, o2⟩
    have hz3 := ch2.size
    have hll := leavesH_len (hh T2) l
    obtain ⟨L, hL⟩ : ∃ L, L = leavesH (hh T2) l := ⟨_, rfl⟩
    have hLs : ∀ x ∈ L, x.size ≤ 1000 := fun x hx => by rw [hL] at hx; rw [leaves_size T2 l x hx]; omega
    rw [← hL] at o2 hll
    have hts : TxS w3 A2 c2 L := by
      have := Sl.of_own o2
      unfold TxS
      rw [hll]
      exact this
    have htop := top_calls b t m n S L.length T2 A2 c2 L w3 rfl k2 (by omega) hts (by rw [hll]; exact own_cap o2) (by omega) hLs (fun _ k hk => by have := (own_row o2 hk).1; have := HK2.out.all_lt; omega)
    rw [hll] at htop
    have HTOP := Lib.hid htop
    have HI2 := Lib.hid i2
    have HLL := Lib.hid hL
    have HC3 := Lib.hid (HC2.out.step ch2 hz2 (fun _ _ e => e))
    have hz23 := HC3.out.size
    clear htop hts o2 hL i2 ch2 k2
    go_wp2_with fail
    refine HTOP.out.mono ?_
    rintro e w4 ⟨T3, rfl, e3, l3, t3, ch3, k3⟩
    obtain ⟨x, hx⟩ : ∃ x, x = topP (hh T3) L := ⟨_, rfl⟩
    rw [← hx]
    have hxs : x.size ≤ 1000 := by rw [hx]; exact topP_size hLs
    have hrt := mroot_calls b t m n T3 S l.length x w4 k3 (by omega) (by omega) (Nat.le_trans hxs (by decide))
    have hrl := digT_len T3 (rootT l.length x)
    obtain ⟨j1, j2, j3⟩ := root_join (x := x) HI2.out e3 (by rw [← HLL.out]; exact t3) (by rw [← HLL.out]; exact hx)
    have J1 := Lib.hid j1
    have J2 := Lib.hid j2
    have J3 := Lib.hid (((HKE.out.trans e2).trans e3).trans j3)
    have HX := Lib.hid hx
    clear j1 j2 j3 hx t3 hLs
    obtain ⟨⟨g, T4⟩, hq⟩ : ∃ q, q = digS T3 (rootT l.length x) := ⟨_, rfl⟩
    rw [← hq] at hrt hrl J1 J2 J3
    have HRT := Lib.hid hrt
    clear hrt hq
    simp only at hrl
    have HC4 := Lib.hid (HC3.out.step ch3 hz23 (fun _ _ e => e))
    have hz4 := HC4.out.size
    clear ch3
    go_wp2_with fail
    refine HRT.out.mono ?_
    rintro e w5 ⟨rfl, ch4, k4⟩
    go_wp2
    go_ret2
    refine ⟨T4, g, by rw [HR.out]; rfl, ⟨fun _ => ⟨J1.out, J2.out⟩, fun h => absurd HR.out h⟩, J3.out, by omega, HC4.out.step ch4 hz4 (fun _ _ e => e), k4⟩
  · have HR := Lib.hid hr
    obtain ⟨cd, hcd⟩ : ∃ cd, cd = riseE l := ⟨_, rfl⟩
    rw [← hcd] at HC hr
    have HCD := Lib.hid hcd
    have hd : (cd == 0) = false := by rw [beq_eq_false_iff_ne]; exact hr
    clear hcd hr
    go_enter Try.func37, Try.ntmps37
    go_wp2_with fail
    refine HK.out.mono ?_
    rintro e w1 ⟨rfl, hc1, hk1⟩
    have hs1 := HS.out.off hc1 HA.out
    have HC1 := Lib.hid hc1
    have HK1 := Lib.hid hk1
    have hz1 := hc1.size
    clear hc1 hk1
    go_wp2_with fail
    refine (HC.out _ hs1).mono ?_
    rintro e w2 ⟨rfl, hb2⟩
    have HC2 := Lib.hid (HC1.out.step (Ch.of_below (S := fun _ => False) hb2) hz1 (fun _ _ e => e.elim))
    have HK2 := Lib.hid (HK1.out.below hb2)
    clear hb2 hs1
    go_wp2
    go_ret2
    refine ⟨T1, ⟨#[]⟩, by rw [← HCD.out]; rfl, ⟨fun h => absurd h HR.out, fun _ => rfl⟩, HKE.out, by omega, HC2.out, HK2.out⟩
end Go.Proofs.Ytfgpchffkpomoaa

/- May a proof be: the walks through the code's right and the document's ProofFits. -/
namespace Go.Proofs.Ytfgpchffkpomoaa
set_option linter.unusedSimpArgs false
set_option linter.unusedVariables false
open Go.RowKit

theorem box4 {w : World} {k : Nat} {a b c d : Value} {T : TypeId} (h : Box w k #[a, b, c, d] T) : w.cell? ⟨k, 0, none⟩ = some a ∧ w.cell? ⟨k, 1, none⟩ = some b ∧ w.cell? ⟨k, 2, none⟩ = some c ∧ w.cell? ⟨k, 3, none⟩ = some d := ⟨h.cell 0, h.cell 1, h.cell 2, h.cell 3⟩

set_option maxHeartbeats 2000000 in
set_option maxRecDepth 100000 in
theorem wright_calls (count : Int) (A : Option Addr) (c : Nat) (l : List Pm) (w : World) (hs : PmS w A c l) : Calls Try.prog 157 #[.agg #[.int .i64 count, .slice A l.length c]] w (BoolPost (pfOk count (l.map Pm.pt)) w) := by
  have hfit := hs.1.fits
  have HS := Lib.hid hs
  clear hs
  have HB0 := Lib.hid ((Below.refl w.heap.size w).alloc (Nat.le_refl _) (.cells #[.int .i64 count, .slice A l.length c] 35))
  obtain ⟨k0, k1, _⟩ := (Box.new w #[.int .i64 count, .slice A l.length c] 35).facts2
  by_cases hc : 0 ≤ count ∧ count ≤ 4096
  · have hd0 : decide (0 ≤ count ∧ count ≤ 4096) = true := decide_eq_true hc
    by_cases hl : 2 < l.length
    · have HE := Lib.hid (show pfOk count (l.map Pm.pt) = false from pfOk_len (by simpa using hl))
      go_enter Try.func157, Try.ntmps157
      go_wp2_with (go_at_call 185; refine (within_calls _ _ _).mono ?_; rintro e w' ⟨rfl, rfl⟩)
      go_ret
      exact ⟨ret_bool HE.out.symm, HB0.out⟩
    · have HC := Lib.hid hc
      clear hc
      go_enter Try.func157, Try.ntmps157
      go_wp2_with (go_at_call 185; refine (within_calls _ _ _).mono ?_; rintro e w' ⟨rfl, rfl⟩)
      obtain ⟨W, hW⟩ : ∃ W, W = w.alloc (.cells #[.int .i64 count, .slice A l.length c] 35) := ⟨_, rfl⟩
      rw [← hW] at HB0 k0 k1 ⊢
      clear hW
      go_loopg [20] l.length (fun g v20 wr => ∃ k : Nat, v20 = .int .i64 k ∧ k ≤ l.length ∧ Hid (g + k = l.length ∧ Below w.heap.size w wr ∧ ((l.map Pm.pt).take k).all ptOk = true))
      case atStart => exact ⟨0, rfl, Nat.zero_le _, rfl, HB0.out, rfl⟩
      case round =>
        clear HB0 k0 k1
        obtain ⟨k, rfl, hk, HH⟩ := hrel
        obtain ⟨hg, hb, ha⟩ := HH.out
        have HG := Lib.hid hg
        have HB := Lib.hid hb
        have HA := Lib.hid ha
        have hsz := hb.size
        clear HH hg hb ha
        by_cases hlt : k < l.length
        · obtain ⟨a, rfl, e0, e1, e2, e3, hsd⟩ := (HS.out.below HB.out).elem k hlt
          have hbad := fun h => pfOk_bad (count := count) hlt h
          have hnx : ptOk l[k].pt = true → ((l.map Pm.pt).take (k + 1)).all ptOk = true := fun h => by
            rw [all_take_succ (by simpa using hlt), HA.out]
            simpa using h
          obtain ⟨⟨index, key, val, sides, SA, sc⟩, hx⟩ : ∃ x, x = l[k] := ⟨_, rfl⟩
          rw [← hx] at e0 e1 e2 e3 hsd hbad hnx
          simp only at e0 e1 e2 e3 hsd
          have hsf := hsd.2
          clear hx
          have HBAD := Lib.hid hbad
          have HNX := Lib.hid hnx
          have HSD := Lib.hid (hsd.below ((Below.refl wr.heap.size wr).alloc (Nat.le_refl _) (.cells #[.int .i64 index, .string key, .string val, .slice SA sides.length sc] 179)))
          have HB1 := Lib.hid (HB.out.alloc hsz (.cells #[.int .i64 index, .string key, .string val, .slice SA sides.length sc] 179))
          obtain ⟨q0, q1, q2, q3⟩ := box4 (Box.new wr #[.int .i64 index, .string key, .string val, .slice SA sides.length sc] 179)
          clear hbad hnx hsd
          by_cases hp : (0 ≤ index ∧ index ≤ 4095) ∧ key.size ≤ 64 ∧ val.size ≤ 4096 ∧ sides.length ≤ 13
          · obtain ⟨p1, p2, p3, p4⟩ := hp
            have hd1 : decide (0 ≤ index ∧ index ≤ 4095) = true := decide_eq_true p1
            have HP1 := Lib.hid p1
            clear p1
            go_wp2_with (go_at_call 185; refine (within_calls _ _ _).mono ?_; rintro e w' ⟨rfl, rfl⟩)
            obtain ⟨V, hV⟩ : ∃ V, V = wr.alloc (.cells #[.int .i64 index, .string key, .string val, .slice SA sides.length sc] 179) := ⟨_, rfl⟩
            rw [← hV] at HSD HB1 q0 q1 q2 q3 ⊢
            clear hV e0 e1 e2 e3
            go_loopg [49] sides.length (fun g v49 wj => ∃ j : Nat, v49 = .int .i64 j ∧ j ≤ sides.length ∧ Hid (g + j = sides.length ∧ wj = V ∧ (sides.take j).all (fun s => decide (s.size ≤ 32)) = true))
            case atStart => exact ⟨0, rfl, Nat.zero_le _, rfl, rfl, rfl⟩
            case round =>
              obtain ⟨j, rfl, hj, HH⟩ := hrel
              obtain ⟨hgj, hw, hja⟩ := HH.out
              subst hw
              have HGJ := Lib.hid hgj
              have HJA := Lib.hid hja
              clear HH hgj hja
              by_cases hjl : j < sides.length
              · obtain ⟨sa, rfl, s0⟩ := HSD.out.elem j hjl
                have hjn := all_take_succ (f := fun s : ByteArray => decide (s.size ≤ 32)) hjl
                rw [HJA.out] at hjn
                have hjb := ptOk_side (x := Pm.pt ⟨index, key, val, sides, some sa, sc⟩) (j := j) hjl
                change 32 < sides[j].size → _ at hjb
                obtain ⟨t, ht⟩ : ∃ t, t = sides[j] := ⟨_, rfl⟩
                rw [← ht] at s0 hjn hjb
                clear ht
                have HJN := Lib.hid hjn
                have HJB := Lib.hid hjb
                clear hjn hjb
                by_cases h32 : 32 < t.size
                · have hd9 : decide ((32 : Int) < (t.size : Int)) = true := by simp; omega
                  have HE := Lib.hid (HBAD.out (HJB.out h32))
                  go_wp2
                  go_ret
                  exact ⟨ret_bool HE.out.symm, HB1.out⟩
                · have hd9 : decide ((32 : Int) < (t.size : Int)) = false := by simp; omega
                  go_wp2
                  go_roundg (sides.length - (j + 1))
                  case measure => have := HGJ.out; omega
                  case rel => exact ⟨j + 1, by go_num, by omega, by omega, rfl, by rw [HJN.out]; simp; omega⟩
              · have hall := HJA.out
                rw [List.take_of_length_le (by omega)] at hall
                have HN := Lib.hid (HNX.out (ptOk_good HP1.out p2 p3 p4 hall))
                clear hall
                go_wp2
                go_roundg (l.length - (k + 1))
                case measure => have := HG.out; omega
                case rel => exact ⟨k + 1, by go_num, by omega, by omega, HB1.out, HN.out⟩
          · have HE := Lib.hid (HBAD.out (ptOk_no hp))
            by_cases p1 : 0 ≤ index ∧ index ≤ 4095
            · have hd1 : decide (0 ≤ index ∧ index ≤ 4095) = true := decide_eq_true p1
              by_cases p2 : key.size ≤ 64
              · by_cases p3 : val.size ≤ 4096
                · have p4 : ¬ sides.length ≤ 13 := fun h => hp ⟨p1, p2, p3, h⟩
                  clear hp p1
                  go_wp2_with (go_at_call 185; refine (within_calls _ _ _).mono ?_; rintro e w' ⟨rfl, rfl⟩)
                  go_ret
                  exact ⟨ret_bool HE.out.symm, HB1.out⟩
                · clear hp p1
                  go_wp2_with (go_at_call 185; refine (within_calls _ _ _).mono ?_; rintro e w' ⟨rfl, rfl⟩)
                  go_ret
                  exact ⟨ret_bool HE.out.symm, HB1.out⟩
              · clear hp p1
                go_wp2_with (go_at_call 185; refine (within_calls _ _ _).mono ?_; rintro e w' ⟨rfl, rfl⟩)
                go_ret
                exact ⟨ret_bool HE.out.symm, HB1.out⟩
            · have hd1 : decide (0 ≤ index ∧ index ≤ 4095) = false := decide_eq_false p1
              clear hp p1
              go_wp2_with (go_at_call 185; refine (within_calls _ _ _).mono ?_; rintro e w' ⟨rfl, rfl⟩)
              go_ret
              exact ⟨ret_bool HE.out.symm, HB1.out⟩
        · have hall := HA.out
          rw [List.take_of_length_le (by simp; omega)] at hall
          have HE := Lib.hid (pfOk_good HC.out (by omega) hall)
          clear hall
          go_wp2
          go_ret
          exact ⟨ret_bool HE.out.symm, HB.out⟩
  · have hd0 : decide (0 ≤ count ∧ count ≤ 4096) = false := decide_eq_false hc
    have HE := Lib.hid (show pfOk count (l.map Pm.pt) = false from pfOk_count hc)
    clear hc
    go_enter Try.func157, Try.ntmps157
    go_wp2_with (go_at_call 185; refine (within_calls _ _ _).mono ?_; rintro e w' ⟨rfl, rfl⟩)
    go_ret
    exact ⟨ret_bool HE.out.symm, HB0.out⟩

set_option maxHeartbeats 2000000 in
set_option maxRecDepth 100000 in
theorem rpfits_calls (count : Int) (A : Option Addr) (c : Nat) (l : List Pm) (w : World) (hs : PmS w A c l) : Calls Try.prog 149 #[.agg #[.int .i64 count, .slice A l.length c]] w (BoolPost (pfOk count (l.map Pm.pt)) w) := by
  have hfit := hs.1.fits
  have HS := Lib.hid hs
  clear hs
  have HB0 := Lib.hid ((Below.refl w.heap.size w).alloc (Nat.le_refl _) (.cells #[.int .i64 count, .slice A l.length c] 35))
  obtain ⟨k0, k1, _⟩ := (Box.new w #[.int .i64 count, .slice A l.length c] 35).facts2
  by_cases hc : 0 ≤ count ∧ count ≤ 4096
  · have hd0 : decide (0 ≤ count ∧ count ≤ 4096) = true := decide_eq_true hc
    by_cases hl : 2 < l.length
    · have HE := Lib.hid (show pfOk count (l.map Pm.pt) = false from pfOk_len (by simpa using hl))
      obtain ⟨hc1, hc2⟩ := hc
      clear hd0
      go_enter Try.func149, Try.ntmps149
      go_wp2_with fail
      go_ret
      exact ⟨ret_bool HE.out.symm, HB0.out⟩
    · have HC := Lib.hid hc
      have HBX := Lib.hid (Box.new w #[.int .i64 count, .slice A l.length c] 35)
      obtain ⟨hc1, hc2⟩ := hc
      clear hd0
      go_enter Try.func149, Try.ntmps149
      go_wp2_with fail
      obtain ⟨W, hW⟩ : ∃ W, W = w.alloc (.cells #[.int .i64 count, .slice A l.length c] 35) := ⟨_, rfl⟩
      rw [← hW] at HB0 HBX k0 k1 ⊢
      clear hW
      go_loopg [3] l.length (fun g v20 wr => ∃ k : Nat, v20 = .int .i64 k ∧ k ≤ l.length ∧ Hid (g + k = l.length ∧ Below w.heap.size w wr ∧ Box wr w.heap.size #[.int .i64 count, .slice A l.length c] 35 ∧ ((l.map Pm.pt).take k).all ptOk = true))
      case atStart => exact ⟨0, rfl, Nat.zero_le _, rfl, HB0.out, HBX.out, rfl⟩
      case round =>
        clear HB0 HBX k0 k1
        obtain ⟨k, rfl, hk, HH⟩ := hrel
        obtain ⟨hg, hb, hbx, ha⟩ := HH.out
        have HBX := Lib.hid hbx
        obtain ⟨k0, k1, _⟩ := hbx.facts2
        have HG := Lib.hid hg
        have HB := Lib.hid hb
        have HA := Lib.hid ha
        have hsz := hb.size
        clear HH hg hb hbx ha
        by_cases hlt : k < l.length
        · obtain ⟨a, rfl, e0, e1, e2, e3, hsd⟩ := (HS.out.below HB.out).elem k hlt
          have hbad := fun h => pfOk_bad (count := count) hlt h
          have hnx : ptOk l[k].pt = true → ((l.map Pm.pt).take (k + 1)).all ptOk = true := fun h => by
            rw [all_take_succ (by simpa using hlt), HA.out]
            simpa using h
          obtain ⟨⟨index, key, val, sides, SA, sc⟩, hx⟩ : ∃ x, x = l[k] := ⟨_, rfl⟩
          rw [← hx] at e0 e1 e2 e3 hsd hbad hnx
          simp only at e0 e1 e2 e3 hsd
          have hsf := hsd.2
          clear hx
          have HBAD := Lib.hid hbad
          have HNX := Lib.hid hnx
          have HSD := Lib.hid (hsd.below ((Below.refl wr.heap.size wr).alloc (Nat.le_refl _) (.cells #[.int .i64 index, .string key, .string val, .slice SA sides.length sc] 179)))
          have HB1 := Lib.hid (HB.out.alloc hsz (.cells #[.int .i64 index, .string key, .string val, .slice SA sides.length sc] 179))
          obtain ⟨q0, q1, q2, q3⟩ := box4 (Box.new wr #[.int .i64 index, .string key, .string val, .slice SA sides.length sc] 179)
          have HBX1 := Lib.hid (HBX.out.alloc (.cells #[.int .i64 index, .string key, .string val, .slice SA sides.length sc] 179))
          clear hbad hnx hsd
          by_cases hp : (0 ≤ index ∧ index ≤ 4095) ∧ key.size ≤ 64 ∧ val.size ≤ 4096 ∧ sides.length ≤ 13
          · obtain ⟨p1, p2, p3, p4⟩ := hp
            have hd1 : decide (0 ≤ index ∧ index ≤ 4095) = true := decide_eq_true p1
            have HP1 := Lib.hid p1
            obtain ⟨p1a, p1b⟩ := p1
            clear hd1
            go_wp2_with fail
            obtain ⟨V, hV⟩ : ∃ V, V = wr.alloc (.cells #[.int .i64 index, .string key, .string val, .slice SA sides.length sc] 179) := ⟨_, rfl⟩
            rw [← hV] at HSD HB1 HBX1 q0 q1 q2 q3 ⊢
            clear k0 k1
            obtain ⟨k0, k1, _⟩ := HBX1.out.facts2
            clear hV e0 e1 e2 e3
            go_loopg [5] sides.length (fun g v49 wj => ∃ j : Nat, v49 = .int .i64 j ∧ j ≤ sides.length ∧ Hid (g + j = sides.length ∧ wj = V ∧ (sides.take j).all (fun s => decide (s.size ≤ 32)) = true))
            case atStart => exact ⟨0, rfl, Nat.zero_le _, rfl, rfl, rfl⟩
            case round =>
              obtain ⟨j, rfl, hj, HH⟩ := hrel
              obtain ⟨hgj, hw, hja⟩ := HH.out
              subst hw
              have HGJ := Lib.hid hgj
              have HJA := Lib.hid hja
              clear HH hgj hja
              by_cases hjl : j < sides.length
              · obtain ⟨sa, rfl, s0⟩ := HSD.out.elem j hjl
                have hjn := all_take_succ (f := fun s : ByteArray => decide (s.size ≤ 32)) hjl
                rw [HJA.out] at hjn
                have hjb := ptOk_side (x := Pm.pt ⟨index, key, val, sides, some sa, sc⟩) (j := j) hjl
                change 32 < sides[j].size → _ at hjb
                obtain ⟨t, ht⟩ : ∃ t, t = sides[j] := ⟨_, rfl⟩
                rw [← ht] at s0 hjn hjb
                clear ht
                have HJN := Lib.hid hjn
                have HJB := Lib.hid hjb
                clear hjn hjb
                by_cases h32 : 32 < t.size
                · have hd9 : decide ((32 : Int) < (t.size : Int)) = true := by simp; omega
                  have HE := Lib.hid (HBAD.out (HJB.out h32))
                  go_wp2
                  go_ret
                  exact ⟨ret_bool HE.out.symm, HB1.out⟩
                · have hd9 : decide ((32 : Int) < (t.size : Int)) = false := by simp; omega
                  go_wp2
                  go_roundg (sides.length - (j + 1))
                  case measure => have := HGJ.out; omega
                  case rel => exact ⟨j + 1, by go_num, by omega, by omega, rfl, by rw [HJN.out]; simp; omega⟩
              · have hall := HJA.out
                rw [List.take_of_length_le (by omega)] at hall
                have HN := Lib.hid (HNX.out (ptOk_good HP1.out p2 p3 p4 hall))
                clear hall
                go_wp2
                go_roundg (l.length - (k + 1))
                case measure => have := HG.out; omega
                case rel => exact ⟨k + 1, by go_num, by omega, by omega, HB1.out, HBX1.out, HN.out⟩
          · have HE := Lib.hid (HBAD.out (ptOk_no hp))
            by_cases p1 : 0 ≤ index ∧ index ≤ 4095
            · have hd1 : decide (0 ≤ index ∧ index ≤ 4095) = true := decide_eq_true p1
              by_cases p2 : key.size ≤ 64
              · by_cases p3 : val.size ≤ 4096
                · have p4 : ¬ sides.length ≤ 13 := fun h => hp ⟨p1, p2, p3, h⟩
                  obtain ⟨p1a, p1b⟩ := p1
                  clear hp hd1
                  go_wp2_with fail
                  go_ret
                  exact ⟨ret_bool HE.out.symm, HB1.out⟩
                · obtain ⟨p1a, p1b⟩ := p1
                  clear hp hd1
                  go_wp2_with fail
                  go_ret
                  exact ⟨ret_bool HE.out.symm, HB1.out⟩
              · obtain ⟨p1a, p1b⟩ := p1
                clear hp hd1
                go_wp2_with fail
                go_ret
                exact ⟨ret_bool HE.out.symm, HB1.out⟩
            · clear hp
              by_cases p1a : 0 ≤ index
              · have p1b : ¬ index ≤ 4095 := fun h => p1 ⟨p1a, h⟩
                clear p1
                go_wp2_with fail
                go_ret
                exact ⟨ret_bool HE.out.symm, HB1.out⟩
              · clear p1
                go_wp2_with fail
                go_ret
                exact ⟨ret_bool HE.out.symm, HB1.out⟩
        · have hall := HA.out
          rw [List.take_of_length_le (by simp; omega)] at hall
          have HE := Lib.hid (pfOk_good HC.out (by omega) hall)
          clear hall
          go_wp2
          go_ret
          exact ⟨ret_bool HE.out.symm, HB.out⟩
  · have HE := Lib.hid (show pfOk count (l.map Pm.pt) = false from pfOk_count hc)
    by_cases hc1 : 0 ≤ count
    · have hc2 : ¬ count ≤ 4096 := fun h => hc ⟨hc1, h⟩
      clear hc
      go_enter Try.func149, Try.ntmps149
      go_wp2_with fail
      go_ret
      exact ⟨ret_bool HE.out.symm, HB0.out⟩
    · clear hc
      go_enter Try.func149, Try.ntmps149
      go_wp2_with fail
      go_ret
      exact ⟨ret_bool HE.out.symm, HB0.out⟩
end Go.Proofs.Ytfgpchffkpomoaa

/- Whether a path leads to a root: the walk through merkle's leads. -/
namespace Go.Proofs.Ytfgpchffkpomoaa
set_option linter.unusedSimpArgs false
set_option linter.unusedVariables false
open Go.RowKit

def LeadsPost (w0 : World) (b t m n : Nat) (T : List ByteArray) (S : List Wd) (rt : ByteArray) (N : Nat) (x : Pt) (e : Ending) (w' : World) : Prop :=
  ∃ T' r, e = .returned (.bool r) ∧ Hid (r = ledP (hh T') rt N x) ∧ Hid (r = true → LedIn T' N x) ∧ Ext T T' ∧ T'.length ≤ T.length + x.sides.length + 2 ∧ Ch w0.heap.size (· = m) w0 w' ∧ Bk w' b t m n T' S
theorem led_join {T1 T2 : List ByteArray} {key val : ByteArray} {sides : List ByteArray} {i N : Nat} {d y rt : ByteArray} (hd : d = hh T1 (leafT ⟨key, val⟩)) (hm : leafT ⟨key, val⟩ ∈ T1) (e : Ext T1 T2) (c : ClimbIn T2 d i N sides) (q : (y, true) = climbP (hh T2) d i N sides) (hi : i < N) :
    decide ((digS T2 (rootT N y)).1 = rt) = ledP (hh (digS T2 (rootT N y)).2) rt N ⟨i, key, val, sides⟩ ∧ LedIn (digS T2 (rootT N y)).2 N ⟨i, key, val, sides⟩ ∧ Ext T2 (digS T2 (rootT N y)).2 := by
  obtain ⟨kn1, kn2, kn3⟩ := dig_known T2 (rootT N y)
  rw [kn3]
  obtain ⟨T3, hT3⟩ : ∃ x1, x1 = (digS T2 (rootT N y)).2 := ⟨_, rfl⟩
  rw [← hT3] at kn1 kn2 ⊢
  have hl := hh_ext (e.trans kn1) hm
  obtain ⟨a1, a2⟩ := c.ext kn1
  rw [← q] at a2
  subst hd
  rw [← hl] at a1 a2
  have hrc : Pt.rc ⟨(i : Int), key, val, sides⟩ = ⟨key, val⟩ := rfl
  refine ⟨?_, ⟨(e.trans kn1).mem hm, ?_, ?_⟩, kn1⟩
  · unfold ledP
    simp only [Int.toNat_natCast, hrc]
    have h1 : decide ((i : Int) < (N : Int)) = true := by simp; omega
    rw [h1, a2]
    rfl
  · simp only [Int.toNat_natCast, hrc]
    exact a1
  · simp only [Int.toNat_natCast, hrc]
    rw [a2]
    exact kn2
theorem led_not {T1 T2 : List ByteArray} {key val : ByteArray} {sides : List ByteArray} {i N : Nat} {d y rt : ByteArray} (hd : d = hh T1 (leafT ⟨key, val⟩)) (hm : leafT ⟨key, val⟩ ∈ T1) (e : Ext T1 T2) (q : (y, false) = climbP (hh T2) d i N sides) : false = ledP (hh T2) rt N ⟨i, key, val, sides⟩ := by
  have hl := hh_ext e hm
  subst hd
  rw [← hl] at q
  unfold ledP
  have hrc : Pt.rc ⟨(i : Int), key, val, sides⟩ = ⟨key, val⟩ := rfl
  simp only [Int.toNat_natCast, hrc]
  rw [← q]
  simp

set_option maxHeartbeats 2000000 in
set_option maxRecDepth 100000 in
theorem leads_calls (b t m n : Nat) (T : List ByteArray) (S : List Wd) (rt : ByteArray) (N : Nat) (i : Nat) (key val : ByteArray) (sides : List ByteArray) (A : Option Addr) (c : Nat) (w : World) (hb : Bk w b t m n T S) (hT : T.length ≤ 500000000) (hN : N ≤ 100000) (hi : i ≤ 100000) (hk : key.size ≤ 4096) (hv : val.size ≤ 4096) (hss : ∀ s ∈ sides, s.size ≤ 1000) (hl : sides.length ≤ 1000) (hts : TxS w A c sides) (hc : sides.length ≤ c) (hA : Off A sides.length m) :
    Calls Try.prog 108 #[.pointer (some ⟨b, 0, none⟩), .string rt, .int .i64 N, .agg #[.int .i64 i, .string key, .string val, .slice A sides.length c]] w (LeadsPost w b t m n T S rt N ⟨i, key, val, sides⟩) := by
  have hlt0 := hb.all_lt
  have hbl := (Below.refl w.heap.size w).alloc (Nat.le_refl _) (.cells #[.int .i64 i, .string key, .string val, .slice A sides.length c] 179)
  have HX := Lib.hid (Box.new w #[.int .i64 i, .string key, .string val, .slice A sides.length c] 179)
  have HBL := Lib.hid hbl
  have HBK := Lib.hid (hb.alloc (.cells #[.int .i64 i, .string key, .string val, .slice A sides.length c] 179))
  have HTS := Lib.hid (hts.below hbl)
  have HA := Lib.hid hA
  have HSS := Lib.hid hss
  clear hb hts hA hss hbl
  obtain ⟨x0, x1, x2, x3⟩ := box4 HX.out
  by_cases hlt : i < N
  · have hd0 : decide ((N : Int) ≤ (i : Int)) = false := by simp; omega
    have HLF := Lib.hid (fun w hb => leaf_calls b t m n T S ⟨key, val⟩ w hb (by omega) (by simp only [maxLen]; omega) (by simp only [maxLen]; omega))
    obtain ⟨kn1, kn2, kn3⟩ := dig_known T (leafT ⟨key, val⟩)
    have kl := digT_len T (leafT ⟨key, val⟩)
    have k8 := hh_size T (leafT ⟨key, val⟩)
    unfold hh at k8
    obtain ⟨⟨d, T1⟩, hq⟩ : ∃ q, q = digS T (leafT ⟨key, val⟩) := ⟨_, rfl⟩
    rw [← hq] at HLF kn1 kn2 kn3 kl k8
    simp only at HLF kn1 kn2 kn3 kl k8
    clear hq
    have KN1 := Lib.hid kn1
    have KN2 := Lib.hid kn2
    have KN3 := Lib.hid kn3
    clear kn1 kn2 kn3
    have HCL := Lib.hid (fun w hb hts => climb_calls b t m n S d (by omega) N T1 A c sides i w (by omega) hN hb (by omega) hts hc hi HSS.out HA.out)
    have hml := hlt0.2.2.1
    go_enter Try.func108, Try.ntmps108
    go_wp2_with fail
    have hbk := HBK.out.drew
    have hst := HTS.out.drew
    have hbx := HX.out.drew
    have hcc := (Ch.of_below (S := (· = m)) HBL.out).drew
    go_region_held3 (fun w' => w'.cell? ⟨w.heap.size, 0, none⟩ = some (.int .i64 i) ∧ w'.cell? ⟨w.heap.size, 1, none⟩ = some (.string key) ∧ w'.cell? ⟨w.heap.size, 2, none⟩ = some (.string val) ∧ w'.cell? ⟨w.heap.size, 3, none⟩ = some (.slice A sides.length c)) (first | exact box4 hbx2 | exact box4 hbx1 | exact box4 hbx) (first | (go_at_call 139; refine (HLF.out _ hbk).mono ?_; rintro e w1 ⟨rfl, ch1, k1⟩; have hbx1 := hbx.ch ch1 hbx.lt (by omega); have hst1 := hst.off ch1 HA.out; have hz1 : w.heap.size + 1 ≤ w1.heap.size := (by have := ch1.size; simpa using this)) | (go_at_call 160; refine (HCL.out _ k1 hst1).mono ?_; rintro e w2 ⟨T2, y, ok, rfl, q2, ys, e2, l2, i2, ch2, k2⟩; have hbx2 := hbx1.ch ch2 hbx1.lt (by omega)))
    all_goals
      have hc2 := (hcc.step ch1 (by simp) (fun _ _ e => e)).step ch2 (by omega) (fun _ _ e => e)
      have hz2 := hc2.size
      cases ok with
      | false =>
        go_wp2
        go_ret
        exact ⟨T2, false, rfl, led_not KN3.out KN2.out e2 q2.out, fun h => (by cases h), KN1.out.trans e2, by simp only; omega, hc2, k2⟩
      | true =>
        have hrt := mroot_calls b t m n T2 S N y w2 k2 (by omega) (by omega) (Nat.le_trans ys (by decide))
        have hrl := digT_len T2 (rootT N y)
        obtain ⟨j1, j2, j3⟩ := led_join (rt := rt) KN3.out KN2.out e2 i2 q2.out hlt
        have J1 := Lib.hid j1
        have J2 := Lib.hid j2
        have J3 := Lib.hid ((KN1.out.trans e2).trans j3)
        clear j1 j2 j3
        obtain ⟨⟨g, T3⟩, hq⟩ : ∃ q, q = digS T2 (rootT N y) := ⟨_, rfl⟩
        rw [← hq] at hrt hrl J1 J2 J3
        have HRT := Lib.hid hrt
        clear hrt hq
        simp only at hrl
        have HBL2 := Lib.hid (beq_list g rt)
        go_wp2_with fail
        refine HRT.out.mono ?_
        rintro e w3 ⟨rfl, ch3, k3⟩
        go_wp2
        go_ret
        exact ⟨T3, decide (g = rt), ret_bool (beq_list g rt), J1.out, fun _ => J2.out, J3.out, by simp only; omega, hc2.step ch3 hz2 (fun _ _ e => e), k3⟩
  · have hd0 : decide ((N : Int) ≤ (i : Int)) = true := by simp; omega
    go_enter Try.func108, Try.ntmps108
    go_wp2
    go_ret
    refine ⟨T, false, rfl, ?_, fun h => (by cases h), Ext.refl _, by omega, Ch.of_below HBL.out, HBK.out⟩
    have h1 : decide ((i : Int) < (N : Int)) = false := by simp; omega
    show false = _
    unfold ledP
    rw [h1]
    rfl
end Go.Proofs.Ytfgpchffkpomoaa
