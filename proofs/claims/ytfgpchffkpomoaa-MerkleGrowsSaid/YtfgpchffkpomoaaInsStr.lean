/- One element put into a row of one's own (Str): the walk through slices.Insert. -/
import Derived.Test.YtfgpchffkpomoaaRowK
import Derived.Laws.Externs
import Derived.Laws.NewBlocks
import Derived.Deep.RegionLaw
import Derived.Deep.RegionHeld3
namespace Go.Proofs.Ytfgpchffkpomoaa
set_option linter.unusedSimpArgs false
set_option linter.unusedVariables false
open Go.RowKit

theorem info_st0 : (Try.prog.info? 9).map (fun i => (i.zero, i.size, i.bytes)) = some (some (.string ⟨#[]⟩), 1, 16) := by kernel_rfl
theorem size_Str : (Try.prog.info? 9).map (·.size) = some 1 := by kernel_rfl
theorem sizeOf_Str (w : World) : (Go.sizeOf 9).run Try.prog w = .ok 1 w := by kernel_rfl
theorem apart_Str (w : World) (vb g o la ca lb cb : Nat) (cs : Array Value) (TV TG : TypeId) (cur : Array Value) (hv : Box w vb cs TV) (hg : w.heap[g]? = some (.cells cur TG (0, 0))) (h0 : cur.size ≠ 0) (hne : vb ≠ g) :
    (callFunc 180 #[.slice (some ⟨vb, 0, none⟩) la ca, .slice (some ⟨g, o, none⟩) lb cb]).run Try.prog w = .ok (.value (.bool false)) w := by
  have hsv : w.shape? vb = some (TV, cs.size) := by unfold Box at hv; simp [World.shape?, hv]
  have hsg : w.shape? g = some (TG, cur.size) := by simp [World.shape?, hg]
  rw [run_callFunc_extern Try.func180 (by kernel_rfl) (by kernel_rfl) (by kernel_rfl) (e := Extern.SlicesOverlaps.overlaps #[54, 54] #[4]) (by kernel_rfl),
    Lib.run_overlaps_apart w 54 4 9 Try.underlying54 1 sizeOf_Str ⟨vb, 0, none⟩ ⟨g, o, none⟩ la ca lb cb hne TV TG cs.size cur.size hsv hsg h0 (hv.free 0) (hv.free _)]
  rfl

set_option maxHeartbeats 4000000 in
set_option maxRecDepth 100000 in
/-- At the end. -/
theorem insStr_end (base : Nat) (A : Option Addr) (cp n : Nat) (xs news : List Value) (vb : Nat) (w : World) (ho : w.ownsRow base 9 1 (.slice A n cp) n xs) (hn : n ≤ 100000)
    (hcp : n ≤ cp) (hcm : cp ≤ 9223372036854775807) (hv : ∀ j u, news[j]? = some u → w.cell? ((⟨vb, 0, none⟩ : Addr).add j) = some u) (hl : news.length = 1) (h1 : ∀ u ∈ news, u.oneCell' = true) (hb : base ≤ w.heap.size) :
    Calls Try.prog 141 #[.slice A n cp, .int .i64 n, .slice (some ⟨vb, 0, none⟩) 1 1] w (InsPost base 1 n 9 A (xs ++ news) w) := by
  have HO := Lib.hid ho
  have HV := Lib.hid hv
  have H1 := Lib.hid h1
  have HL := Lib.hid hl
  clear ho hv h1 hl
  obtain ⟨A0, hA0⟩ : ∃ A0, A0 = A := ⟨_, rfl⟩
  have HA0 := Lib.hid hA0
  clear hA0
  cases A with
  | none =>
    go_enter Try.func141, Try.ntmps141
    go_wp2_with (at_builtin; refine app_row rfl _ _ 54 rfl base 9 _ 1 16 info_st0 Try.underlying54 rfl (by decide) _ cp n xs rfl HO.out ⟨vb, 0, none⟩ 1 1 news rfl HL.out HV.out H1.out ?hb1 ?hb2 hb ?_; (case hb1 => omega); (case hb2 => omega); intro A' c' w' ho hc hA; have HO' := Lib.hid ho; have HC' := Lib.hid hc; have HA' := Lib.hid hA; clear ho hc hA)
    all_goals go_ret
    all_goals exact ⟨A', c', rfl, HO'.out, HC'.out, fun k hk => by
      rcases HA'.out with e | e <;> rw [e] at hk
      · exact .inl hk
      · refine .inr ?_
        simp [Row] at hk
        omega⟩
  | some a =>
    obtain ⟨g, rfl, HG⟩ : ∃ g, a = ⟨g, 0, none⟩ ∧ Hid (Row (some a) g) := by
      rcases HO.out.2 with ⟨hv, _⟩ | ⟨g, cap, cur, hv, _⟩
      · simp at hv
      · have e := (show a = ⟨g, 0, none⟩ ∧ cp = cap by simpa using hv).1
        exact ⟨g, e, by rw [e]; rfl⟩
    go_enter Try.func141, Try.ntmps141
    go_wp2_with (at_builtin; refine app_row rfl _ _ 54 rfl base 9 _ 1 16 info_st0 Try.underlying54 rfl (by decide) _ cp n xs rfl HO.out ⟨vb, 0, none⟩ 1 1 news rfl HL.out HV.out H1.out ?hb1 ?hb2 hb ?_; (case hb1 => omega); (case hb2 => omega); intro A' c' w' ho hc hA; have HO' := Lib.hid ho; have HC' := Lib.hid hc; have HA' := Lib.hid hA; clear ho hc hA)
    all_goals go_ret
    all_goals exact ⟨A', c', rfl, HO'.out, HC'.out, fun k hk => by
      rcases HA'.out with e | e <;> rw [e] at hk
      · exact .inl hk
      · refine .inr ?_
        simp [Row] at hk
        omega⟩

set_option maxHeartbeats 4000000 in
set_option maxRecDepth 100000 in
/-- Within, where there is room. -/
theorem insStr_room (base g cp n i : Nat) (a b rest news : List Value) (vb : Nat) (cs : Array Value) (TV : TypeId) (w : World) (hbg : base ≤ g) (hg : w.heap[g]? = some (.cells (a ++ b ++ rest).toArray 9 (0, 0))) (hn : n ≤ 100000) (hi : i < n)
    (ha : a.length = i * 1) (hb : b.length = (n - i) * 1) (hcp : n + 1 ≤ cp) (hcm : cp ≤ maxLen) (hr : rest.length = (cp - n) * 1) (hb1 : ∀ u ∈ b, u.oneCell' = true)
    (hv : Box w vb cs TV) (hcs : cs.toList = news) (hl : news.length = 1) (h1 : ∀ u ∈ news, u.oneCell' = true) (hne : vb ≠ g) :
    Calls Try.prog 141 #[.slice (some ⟨g, 0, none⟩) n cp, .int .i64 i, .slice (some ⟨vb, 0, none⟩) 1 1] w fun e w' => e = .returned (.slice (some ⟨g, 0, none⟩) (n + 1) cp) ∧ w'.heap[g]? = some (.cells ((a ++ news ++ b) ++ rest.drop 1).toArray 9 (0, 0)) ∧ Ch w.heap.size (· = g) w w' := by
  have hgl : g < w.heap.size := (Array.getElem?_eq_some_iff.1 hg).1
  have hszc : (a ++ b ++ rest).length = cp * 1 := by simp only [List.length_append, ha, hb, hr]; omega
  have hov : ∀ o lb cb, (callFunc 180 #[.slice (some ⟨vb, 0, none⟩) 1 1, .slice (some ⟨g, o, none⟩) lb cb]).run Try.prog w = .ok (.value (.bool false)) w := fun o lb cb => apart_Str w vb g o 1 1 lb cb cs TV _ _ hv hg (by simp only [List.size_toArray, hszc]; omega) hne
  simp only [maxLen] at hcm
  have hw1 : IntKind.i64.wrap ((i : Int) + 1) = (i : Int) + 1 := by rw [IntKind.wrap_i64]; omega
  have hb2 : (0 : Int) ≤ (i : Int) + 1 := by omega
  have hb3 : ¬ (cp = i + 1) := by omega
  have hb4 : ¬ (cp = i) := by omega
  have hz2 : ¬ ((i : Int) = (n : Int)) := by omega
  have hin : i ≤ n := by omega
  have htn : ((i : Int) + 1).toNat = i + 1 := by omega
  have hin2 : (i : Int) ≤ (n : Int) + 1 := by omega
  have hcp1 : ∀ ty dc sc, (Builtin.copy_ #[54, 54] ty #[.slice (some ⟨g, (i + 1), none⟩) (n - i) dc, .slice (some ⟨g, i, none⟩) (n + 1 - i) sc]).run Try.prog w.drew =
      .ok (goInt (n - i : Nat)) (w.drew.setRow g ((a ++ b ++ rest).toArray.toList.take ((i + 1)) ++ b ++ (a ++ b ++ rest).toArray.toList.drop ((i + 1) + b.length)).toArray) := fun ty dc sc =>
    run_copyK w.drew _ _ ty 9 1 g ((i + 1)) (n - i) dc ⟨g, i, none⟩ (n + 1 - i) sc (n - i) _ _ b Try.underlying54 size_Str hg (by simp only [Nat.min_def]; split <;> omega) (by rw [hb])
      (fun j v hj => by
        have hjl := (List.getElem?_eq_some_iff.1 hj).1
        rw [Addr.add_lit]
        show w.cell? _ = _
        rw [cell_of_row w g _ _ _ _ hg]
        simp only [List.getElem?_toArray]
        rw [List.append_assoc, List.getElem?_append_right (by omega), List.getElem?_append_left (by omega), ← hj]
        congr 1
        omega)
      (by simp only [List.size_toArray, hszc]; omega) hb1
  obtain ⟨L1, hL1⟩ : ∃ L1, L1 = (a ++ b ++ rest).take (a.length + 1) ++ b ++ (a ++ b ++ rest).drop (a.length + 1 + b.length) := ⟨_, rfl⟩
  have hfin := list_shift a b rest news 1 hl (by rw [hr]; omega)
  rw [← hL1] at hfin
  have hL1l : L1.length = cp * 1 := by rw [hL1]; simp only [List.length_append, List.length_take, List.length_drop, ha, hb, hr]; omega
  have e1 : (i + 1) = a.length + 1 := by rw [ha]; omega
  simp only [List.toList_toArray, e1] at hcp1
  rw [← hL1] at hcp1
  obtain ⟨W1, hW1⟩ : ∃ W1, W1 = w.drew.setRow g L1.toArray := ⟨_, rfl⟩
  rw [← hW1] at hcp1
  have hg1 : W1.heap[g]? = some (.cells L1.toArray 9 (0, 0)) := by rw [hW1]; exact setRow_heap w.drew g _ _ _ _ hg
  have hvb1 : ∀ p : Addr, p.block = vb → W1.cell? p = w.cell? p := fun p hp => by
    rw [hW1]
    exact World.cell?_of_block (by rw [hp]; exact setRow_other w.drew g vb _ hne)
  have hcp2 : ∀ (W : World), W.heap = W1.heap → ∀ ty dc, (Builtin.copy_ #[54, 54] ty #[.slice (some ⟨g, i, none⟩) (n + 1 - i) dc, .slice (some ⟨vb, 0, none⟩) 1 1]).run Try.prog W =
      .ok (goInt (1 : Nat)) (W.setRow g (a ++ news ++ b ++ rest.drop 1).toArray) := fun W hW ty dc => by
    have hq := run_copyK W 54 54 ty 9 1 g (i) (n + 1 - i) dc ⟨vb, 0, none⟩ 1 1 1 _ _ news Try.underlying54 size_Str (by rw [hW]; exact hg1) (by simp only [Nat.min_def]; split <;> omega) (by rw [hl])
      (fun j v hj => by
        have : W.cell? ((⟨vb, 0, none⟩ : Addr).add j) = W1.cell? ((⟨vb, 0, none⟩ : Addr).add j) := by unfold World.cell?; rw [hW]
        rw [this, hvb1 _ (by unfold Addr.add; split <;> rfl)]
        exact news_box hv j v (by rw [hcs]; exact hj))
      (by simp only [List.size_toArray, hL1l]; omega) h1
    rw [hq]
    simp only [List.toList_toArray]
    rw [show i = a.length by rw [ha]; omega, hfin]
  obtain ⟨F, hF⟩ : ∃ F, F = a ++ news ++ b ++ rest.drop 1 := ⟨_, rfl⟩
  rw [← hF] at hcp2 ⊢
  have HCP1 := Lib.hid hcp1
  have HCP2 := Lib.hid hcp2
  have HW1 := Lib.hid hW1
  have HG := Lib.hid hg
  have HG1 := Lib.hid hg1
  rw [← e1] at HCP1
  clear hcp1 hcp2 hg1 hvb1 hfin hL1l hL1 hszc hb1 hv hcs h1 hl ha hb hr e1 hg hW1 hF
  go_enter Try.func141, Try.ntmps141
  go_wp2_with (simp only [hov])
  refine wp_region_noPanic ?_
  go_region_law (refine step_copyK rfl (.tmp 73) (.tmp 76) 54 54 rfl (.slice (some ⟨g, (i + 1), none⟩) (n - i) (cp - (i + 1))) (.slice (some ⟨g, i, none⟩) (n + 1 - i) (cp - i)) ?hd ?hs (HCP1.out _ _ _) ?_; (case hd => simp [go_sem]); (case hs => simp [go_sem]))
  refine NoPanic.normal ?_
  have hcp2 := HCP2.out W1 rfl
  go_wp2_with fail
  go_ret
  refine ⟨rfl, setRow_heap W1 g _ _ _ _ HG1.out, ?_⟩
  rw [HW1.out]
  refine ⟨rfl, rfl, rfl, by simp, fun k hk hs => ?_⟩
  rw [setRow_other _ g k _ hs]
  exact setRow_other w.drew g k _ hs

set_option maxHeartbeats 4000000 in
set_option maxRecDepth 100000 in
/-- Within, where there is no room. -/
theorem insStr_grow (g cp n i : Nat) (a b rest news : List Value) (vb : Nat) (cs : Array Value) (TV : TypeId) (w : World) (hg : w.heap[g]? = some (.cells (a ++ b ++ rest).toArray 9 (0, 0))) (hn : n ≤ 100000) (hi : i < n)
    (ha : a.length = i * 1) (hb : b.length = (n - i) * 1) (hcp : n ≤ cp) (hno : cp < n + 1) (hb1 : ∀ u ∈ b, u.oneCell' = true)
    (hv : Box w vb cs TV) (hcs : cs.toList = news) (hl : news.length = 1) (h1 : ∀ u ∈ news, u.oneCell' = true) (hne : vb ≠ g) :
    Calls Try.prog 141 #[.slice (some ⟨g, 0, none⟩) n cp, .int .i64 i, .slice (some ⟨vb, 0, none⟩) 1 1] w fun e w' => ∃ G tail, e = .returned (.slice (some ⟨w.heap.size, 0, none⟩) (n + 1) G) ∧ n + 1 ≤ G ∧ G ≤ maxLen ∧
      w'.heap[w.heap.size]? = some (.cells ((a ++ news ++ b) ++ tail).toArray 9 (0, 0)) ∧ tail.length = (G - (n + 1)) * 1 ∧ Ch w.heap.size (fun _ => False) w w' := by
  obtain ⟨i0, hi0, hz0, hzs, hzb⟩ := info_parts info_st0
  have hgl : g < w.heap.size := (Array.getElem?_eq_some_iff.1 hg).1
  have hvl := hv.lt
  have hold : (Builtin.firstCells i0.size i (.slice (some ⟨g, 0, none⟩) i cp)).run Try.prog w.drew = .ok a.toArray w.drew := by
    rw [hzs]
    refine run_firstCells_some w.drew 1 i ⟨g, 0, none⟩ i cp a ha (fun j v hj => ?_)
    have hjl := (List.getElem?_eq_some_iff.1 hj).1
    rw [Addr.add_lit]
    show w.cell? _ = _
    rw [cell_of_row w g _ _ _ _ hg]
    simp only [List.getElem?_toArray]
    rw [List.append_assoc, List.getElem?_append_left (by omega), ← hj]
    congr 1
    omega
  have hrz : ∀ ty, ∃ W1, (Builtin.append_ #[54, 3] ty #[.slice (some ⟨g, 0, none⟩) i cp, .int .i64 ((n : Int) + 1 - (i : Int))]).run Try.prog w = .ok (.slice (some ⟨w.heap.size, 0, none⟩) (n + 1) (grownCap w (n + 1) cp 9)) W1 ∧
      W1 = w.drew.alloc (.cells (a ++ ((Builtin.zeroCells ((.string ⟨#[]⟩) : Value).cells (n + 1 - i)).toList ++ (Builtin.zeroCells ((.string ⟨#[]⟩) : Value).cells (grownCap w (n + 1) cp 9 - (n + 1))).toList)).toArray 9) := fun ty => by
    have hk : (n : Int) + 1 - (i : Int) = ((n + 1 - i : Nat) : Int) := by omega
    have h := Lib.run_append_grow_zeros w 54 3 ty 9 i0 _ .i64 .i64 Try.underlying54 Try.underlying3 hi0 hz0 (some ⟨g, 0, none⟩) i cp a hold (n + 1 - i) (by omega) (by omega) (by omega) (by omega) (by rw [hzb]; omega) (by rw [hzb, show i + (n + 1 - i) = n + 1 by omega]; exact growslice_fits (by omega) (by omega))
    rw [show i + (n + 1 - i) = n + 1 by omega] at h
    rw [hk]
    refine ⟨_, h, ?_⟩
    congr 2
    apply Array.toList_inj.1
    simp [List.append_assoc]
  obtain ⟨G, hG⟩ : ∃ G, G = grownCap w (n + 1) cp 9 := ⟨_, rfl⟩
  rw [← hG] at hrz
  obtain ⟨Z, hZ⟩ : ∃ Z, Z = (Builtin.zeroCells ((.string ⟨#[]⟩) : Value).cells (n + 1 - i)).toList ++ (Builtin.zeroCells ((.string ⟨#[]⟩) : Value).cells (G - (n + 1))).toList := ⟨_, rfl⟩
  rw [← hZ] at hrz
  have hGn : n + 1 ≤ G := by rw [hG]; exact grownCap_ge w _ _ _
  have hGm : G ≤ maxLen := by rw [hG]; exact grownCap_le_maxLen w (n + 1) cp 9 (by unfold maxLen; omega)
  have hZl : Z.length = (n + 1 - i) * 1 + (G - (n + 1)) * 1 := by rw [hZ]; simp [size_zeroCells, Value.cells]
  obtain ⟨W1, hW1⟩ : ∃ W1, W1 = w.drew.alloc (.cells (a ++ Z).toArray 9) := ⟨_, rfl⟩
  obtain ⟨N, hN⟩ : ∃ N, N = w.heap.size := ⟨_, rfl⟩
  have hg1 : W1.heap[N]? = some (.cells (a ++ Z).toArray 9 (0, 0)) := by rw [hW1, hN]; exact heap_alloc_new w.drew _
  have hold1 : ∀ q, q < w.heap.size → W1.heap[q]? = w.heap[q]? := fun q hq => by rw [hW1]; exact heap_alloc_old w.drew _ hq
  obtain ⟨L2, hL2⟩ : ∃ L2, L2 = (a ++ Z).take a.length ++ news ++ (a ++ Z).drop (a.length + news.length) := ⟨_, rfl⟩
  have hL2l : L2.length = (a ++ Z).length := by rw [hL2]; simp only [List.length_append, List.length_take, List.length_drop, hZl, hl, ha]; omega
  have hcpA : ∀ ty dc, (Builtin.copy_ #[54, 54] ty #[.slice (some ⟨N, i, none⟩) (n + 1 - i) dc, .slice (some ⟨vb, 0, none⟩) 1 1]).run Try.prog W1 = .ok (goInt (1 : Nat)) (W1.setRow N L2.toArray) := fun ty dc => by
    have hq := run_copyK W1 54 54 ty 9 1 N (i) (n + 1 - i) dc ⟨vb, 0, none⟩ 1 1 1 _ _ news Try.underlying54 size_Str hg1 (by simp only [Nat.min_def]; split <;> omega) (by rw [hl])
      (fun j v hj => by
        have hbk : ((⟨vb, 0, none⟩ : Addr).add j).block = vb := by unfold Addr.add; split <;> rfl
        rw [World.cell?_of_block (w := w) (by rw [hbk]; exact hold1 vb hvl)]
        exact news_box hv j v (by rw [hcs]; exact hj))
      (by simp only [List.size_toArray, List.length_append, hZl, hl, ha]; omega) h1
    rw [hq]
    simp only [List.toList_toArray]
    rw [show i = a.length by rw [ha]; omega, hL2]
  have hfin := list_fill a b Z news 1 hl (by rw [hZl, hb]; omega)
  rw [← hL2] at hfin
  have hg2 : (W1.setRow N L2.toArray).heap[N]? = some (.cells L2.toArray 9 (0, 0)) := setRow_heap W1 N _ _ _ _ hg1
  have hcpB : ∀ (W : World), W.heap = (W1.setRow N L2.toArray).heap → ∀ ty dc sc, (Builtin.copy_ #[54, 54] ty #[.slice (some ⟨N, (i + 1), none⟩) (n - i) dc, .slice (some ⟨g, i, none⟩) (n - i) sc]).run Try.prog W =
      .ok (goInt (n - i : Nat)) (W.setRow N (a ++ news ++ b ++ Z.drop (1 + b.length)).toArray) := fun W hW ty dc sc => by
    have hq := run_copyK W 54 54 ty 9 1 N ((i + 1)) (n - i) dc ⟨g, i, none⟩ (n - i) sc (n - i) _ _ b Try.underlying54 size_Str (by rw [hW]; exact hg2) (by simp only [Nat.min_def]; split <;> omega) (by rw [hb])
      (fun j v hj => by
        have hjl := (List.getElem?_eq_some_iff.1 hj).1
        rw [Addr.add_lit]
        have : W.heap[g]? = w.heap[g]? := by rw [hW, setRow_other W1 N g _ (by omega), hold1 g hgl]
        rw [cell_of_row W g _ _ _ _ (this.trans hg)]
        simp only [List.getElem?_toArray]
        rw [List.append_assoc, List.getElem?_append_right (by omega), List.getElem?_append_left (by omega), ← hj]
        congr 1
        omega)
      (by simp only [List.size_toArray, hL2l, List.length_append, hZl, ha]; omega) hb1
    rw [hq]
    simp only [List.toList_toArray]
    rw [show (i + 1) = a.length + 1 by rw [ha]; omega, hfin]
  have htl : (Z.drop (1 + b.length)).length = (G - (n + 1)) * 1 := by rw [List.length_drop, hZl, hb]; omega
  obtain ⟨F, hF⟩ : ∃ F, F = a ++ news ++ b ++ Z.drop (1 + b.length) := ⟨_, rfl⟩
  rw [← hF] at hcpB
  have hchd : Ch w.heap.size (fun _ => False) w ((W1.setRow N L2.toArray).drew.setRow N F.toArray) := ⟨by rw [hW1]; rfl, by rw [hW1]; rfl, by rw [hW1]; rfl, by rw [hW1]; simp, fun q hq _ => by
    rw [setRow_other _ N q _ (by omega)]
    show (W1.setRow N L2.toArray).heap[q]? = _
    rw [setRow_other _ N q _ (by omega)]
    exact hold1 q hq⟩
  have HRZ := Lib.hid (show ∀ ty, (Builtin.append_ #[54, 3] ty #[.slice (some ⟨g, 0, none⟩) i cp, .int .i64 ((n : Int) + 1 - (i : Int))]).run Try.prog w = .ok (.slice (some ⟨N, 0, none⟩) (n + 1) G) W1 from fun ty => by
    obtain ⟨W', h1, h2⟩ := hrz ty
    rw [h1, h2, hW1, hN])
  have HCPB := Lib.hid hcpB
  have HG2 := Lib.hid hg2
  have HCH := Lib.hid hchd
  have HTL := Lib.hid htl
  have HF := Lib.hid hF
  have HGM := Lib.hid hGm
  have HN := Lib.hid hN
  simp only [maxLen] at hGm
  have hw1 : IntKind.i64.wrap ((i : Int) + 1) = (i : Int) + 1 := by rw [IntKind.wrap_i64]; omega
  have hw2 : IntKind.i64.wrap ((n : Int) + 1 - (i : Int)) = (n : Int) + 1 - (i : Int) := by rw [IntKind.wrap_i64]; omega
  have hb2 : (0 : Int) ≤ (i : Int) + 1 := by omega
  have hz2 : ¬ ((i : Int) = (n : Int)) := by omega
  have hz3 : (cp : Int) < (n : Int) + 1 := by omega
  have hin : i ≤ n := by omega
  have hin1 : i + 1 ≤ n + 1 := by omega
  have htn : ((i : Int) + 1).toNat = i + 1 := by omega
  have hin2 : (i : Int) ≤ (n : Int) + 1 := by omega
  have hGi : ¬ (G = i) := by omega
  have hGi1 : ¬ (G = i + 1) := by omega
  have hci : ¬ (cp = i) := by omega
  clear hrz hcpB hg2 hchd htl hF hold hZ hZl hG hW1 hN hg1 hold1 hL2 hL2l hfin hg hv hcs hl h1 hb1 ha hb hGm
  go_enter Try.func141, Try.ntmps141
  go_wp2_with (at_builtin; refine wpList_appK rfl _ _ _ _ rfl _ _ rfl rfl (HRZ.out _) ?_)
  refine wp_region_noPanic ?_
  go_region_law (refine step_copyK rfl (.tmp 50) (.tmp 53) 54 54 rfl (.slice (some ⟨N, (i + 1), none⟩) (n - i) (G - (i + 1))) (.slice (some ⟨g, i, none⟩) (n - i) (cp - i)) ?hd ?hs (HCPB.out (W1.setRow N L2.toArray).drew rfl _ _ _) ?_; (case hd => simp [go_sem]); (case hs => simp [go_sem]))
  refine NoPanic.normal ?_
  go_wp2_with fail
  go_ret
  rw [← HN.out]
  refine ⟨G, Z.drop (1 + b.length), rfl, hGn, HGM.out, ?_, HTL.out, ?_⟩
  · rw [← HF.out]
    exact setRow_heap (W1.setRow N L2.toArray).drew N _ _ _ _ HG2.out
  · have h := HCH.out
    rw [← HN.out] at h
    exact h

theorem insStr_calls (base : Nat) (A : Option Addr) (cp n i : Nat) (xs news : List Value) (vb : Nat) (cs : Array Value) (TV : TypeId) (w : World) (ho : w.ownsRow base 9 1 (.slice A n cp) n xs) (hi : i ≤ n) (hn : n ≤ 100000) (hx : ∀ u ∈ xs, u.oneCell' = true)
    (hv : Box w vb cs TV) (hcs : cs.toList = news) (hl : news.length = 1) (h1 : ∀ u ∈ news, u.oneCell' = true) (hvb : ¬ Row A vb) (hb : base ≤ w.heap.size) :
    Calls Try.prog 141 #[.slice A n cp, .int .i64 i, .slice (some ⟨vb, 0, none⟩) 1 1] w (InsPost base 1 n 9 A (xs.take (i * 1) ++ news ++ xs.drop (i * 1)) w) := by
  have hxl := ho.1
  by_cases e : i = n
  · subst e
    have e1 : xs.take (i * 1) = xs := List.take_of_length_le (by omega)
    have e2 : xs.drop (i * 1) = [] := List.drop_of_length_le (by omega)
    rw [e1, e2, List.append_nil]
    refine insStr_end base A cp i xs news vb w ho hn ?_ ?_ (fun j u hj => news_box hv j u (by rw [hcs]; exact hj)) hl h1 hb
    · rcases ho.2 with ⟨hv, h0⟩ | ⟨g, cap, cur, hv, _, _, h, _⟩
      · omega
      · obtain ⟨rfl, rfl⟩ : A = some ⟨g, 0, none⟩ ∧ cp = cap := by simpa using hv
        exact h
    · rcases ho.2 with ⟨hv, h0⟩ | ⟨g, cap, cur, hv, _, _, _, h, _⟩
      · obtain ⟨rfl, rfl⟩ : A = none ∧ cp = 0 := by
          obtain ⟨h1, _, h2⟩ := (show A = none ∧ i = 0 ∧ cp = 0 by simpa using hv)
          exact ⟨h1, h2⟩
        omega
      · obtain ⟨rfl, rfl⟩ : A = some ⟨g, 0, none⟩ ∧ cp = cap := by simpa using hv
        simp only [maxLen] at h
        omega
  · rcases ho.2 with ⟨_, h0⟩ | ⟨g, cap, cur, hv', hbg, hg, hnc, hcm, hcc, ht⟩
    · omega
    obtain ⟨rfl, rfl⟩ : A = some ⟨g, 0, none⟩ ∧ cp = cap := by simpa using hv'
    have hcur : cur = (xs.take (i * 1) ++ xs.drop (i * 1) ++ cur.toList.drop (n * 1)).toArray := by
      apply Array.toList_inj.1
      rw [List.toList_toArray, List.take_append_drop, ← ht, List.take_append_drop]
    have hne : vb ≠ g := fun e => hvb (by rw [e]; rfl)
    have hla : (xs.take (i * 1)).length = i * 1 := by rw [List.length_take]; omega
    have hlb : (xs.drop (i * 1)).length = (n - i) * 1 := by rw [List.length_drop]; omega
    have hlr : (cur.toList.drop (n * 1)).length = (cp - n) * 1 := by rw [List.length_drop, Array.length_toList, hcc]; omega
    have hxb : ∀ u ∈ xs.drop (i * 1), u.oneCell' = true := fun u hu => hx u (List.mem_of_mem_drop hu)
    rw [hcur] at hg
    by_cases hroom : n + 1 ≤ cp
    · refine (insStr_room base g cp n i _ _ _ news vb cs TV w hbg hg hn (by omega) hla hlb hroom hcm hlr hxb hv hcs hl h1 hne).mono ?_
      rintro e w' ⟨rfl, hg', hc⟩
      refine ⟨some ⟨g, 0, none⟩, cp, rfl, ⟨?_, .inr ⟨g, cp, _, rfl, hbg, hg', hroom, hcm, ?_, ?_⟩⟩, hc.mono (Nat.le_refl _) (fun k _ e => by simp [Row, e]), fun k hk => .inl hk⟩
      · simp only [List.length_append, hla, hlb, hl]; omega
      · simp only [List.size_toArray, List.length_append, List.length_drop, hla, hlb, hl]; rw [List.length_drop] at hlr; omega
      · rw [List.toList_toArray]
        exact List.take_left' (by simp only [List.length_append, hla, hlb, hl]; omega)
    · refine (insStr_grow g cp n i _ _ _ news vb cs TV w hg hn (by omega) hla hlb hnc (by omega) hxb hv hcs hl h1 hne).mono ?_
      rintro e w' ⟨G, tail, rfl, hGn, hGm, hg', htl, hc⟩
      refine ⟨some ⟨w.heap.size, 0, none⟩, G, rfl, ⟨?_, .inr ⟨w.heap.size, G, _, rfl, hb, hg', hGn, hGm, ?_, ?_⟩⟩, hc.mono (Nat.le_refl _) (fun _ _ e => e.elim), fun k hk => .inr (by simp [Row] at hk; omega)⟩
      · simp only [List.length_append, hla, hlb, hl]; omega
      · simp only [List.size_toArray, List.length_append, hla, hlb, hl, htl]; omega
      · rw [List.toList_toArray]
        exact List.take_left' (by simp only [List.length_append, hla, hlb, hl]; omega)

theorem zero_Str (w : World) : (zeroValue 9).run Try.prog w = .ok (.string ⟨#[]⟩) w := by kernel_rfl
theorem zeros_Str : (Builtin.zeroCells ((.string ⟨#[]⟩) : Value).cells 1).toList = ([.string ⟨#[]⟩] : List Value) := by kernel_rfl
set_option maxHeartbeats 4000000 in
set_option maxRecDepth 100000 in
/-- One element is taken out. -/
theorem delStr_walk (g cp m i : Nat) (a c b rest : List Value) (w : World) (hg : w.heap[g]? = some (.cells (a ++ c ++ b ++ rest).toArray 9 (0, 0))) (hm : m ≤ 100000) (hi : i ≤ m)
    (ha : a.length = i * 1) (hc : c.length = 1) (hb : b.length = (m - i) * 1) (hcp : m + 1 ≤ cp) (hcm : cp ≤ maxLen) (hb1 : ∀ u ∈ b, u.oneCell' = true) :
    Calls Try.prog 144 #[.slice (some ⟨g, 0, none⟩) ((m + 1 : Nat)) cp, .int .i64 i, .int .i64 ((i : Int) + 1)] w fun e w' => e = .returned (.slice (some ⟨g, 0, none⟩) m cp) ∧
      w'.heap[g]? = some (.cells ((a ++ b) ++ (([.string ⟨#[]⟩] : List Value) ++ rest)).toArray 9 (0, 0)) ∧ Ch w.heap.size (· = g) w w' := by
  obtain ⟨i0, hi0, hz0, hzs, hzb⟩ := info_parts info_st0
  have hgl : g < w.heap.size := (Array.getElem?_eq_some_iff.1 hg).1
  obtain ⟨L1, hL1⟩ : ∃ L1, L1 = (a ++ c ++ b ++ rest).take a.length ++ b ++ (a ++ c ++ b ++ rest).drop (a.length + b.length) := ⟨_, rfl⟩
  have hL1l : L1.length = (a ++ c ++ b ++ rest).length := by rw [hL1]; simp only [List.length_append, List.length_take, List.length_drop]; omega
  have hfin := list_cut a c b rest ([.string ⟨#[]⟩] : List Value) 1 hc rfl
  rw [← hL1] at hfin
  have hsrc : ∀ j u, b[j]? = some u → w.cell? ⟨g, (i + 1) + j, none⟩ = some u := fun j u hj => by
    have hjl := (List.getElem?_eq_some_iff.1 hj).1
    rw [cell_of_row w g _ _ _ _ hg]
    simp only [List.getElem?_toArray]
    rw [List.append_assoc, List.getElem?_append_right (by simp only [List.length_append, ha, hc]; omega), List.getElem?_append_left (by simp only [List.length_append, ha, hc]; omega), ← hj]
    congr 1
    simp only [List.length_append, ha, hc]
    omega
  obtain ⟨ad, hA, hsr⟩ : ∃ ad : Addr, (if cp = i + 1 then (some (⟨g, 0, none⟩ : Addr)) else some ⟨g, (i + 1), none⟩) = some ad ∧ Hid (∀ j u, b[j]? = some u → w.drew.cell? (ad.add j) = some u) := by
    by_cases h : cp = i + 1
    · refine ⟨⟨g, 0, none⟩, by rw [if_pos h], fun j u hj => ?_⟩
      have hjl := (List.getElem?_eq_some_iff.1 hj).1
      omega
    · refine ⟨⟨g, (i + 1), none⟩, by rw [if_neg h], fun j u hj => ?_⟩
      rw [Addr.add_lit]
      exact hsrc j u hj
  have happ : ∀ ty, (Builtin.append_ #[54, 54] ty #[.slice (some ⟨g, 0, none⟩) i cp, .slice (some ad) (m - i) (cp - (i + 1))]).run Try.prog w.drew = .ok (.slice (some ⟨g, 0, none⟩) m cp) (w.drew.setRow g L1.toArray) := fun ty => by
    have h := run_append_room (P := Try.prog) w.drew 54 ty 9 i0 Try.underlying54 hi0 g i cp _ hg ad (m - i) (cp - (i + 1)) b (by rw [hzs]; exact hb) hsr.out hb1 (by omega) (by rw [hzs]; simp only [List.size_toArray, List.length_append, ha, hb, hc]; omega)
    rw [hzs, List.toList_toArray, ← ha, ← hL1, show i + (m - i) = m by omega] at h
    exact h
  obtain ⟨W1, hW1⟩ : ∃ W1, W1 = w.drew.setRow g L1.toArray := ⟨_, rfl⟩
  rw [← hW1] at happ
  have hg1 : W1.heap[g]? = some (.cells L1.toArray 9 (0, 0)) := by rw [hW1]; exact setRow_heap w.drew g _ _ _ _ hg
  have hcl : ∀ ty, (Builtin.clear_ #[54] ty #[.slice (some ⟨g, m, none⟩) 1 (cp - m)]).run Try.prog W1 = .ok (.tuple #[]) (W1.setRow g ((a ++ b) ++ (([.string ⟨#[]⟩] : List Value) ++ rest)).toArray) := fun ty => by
    have h := run_clearK (P := Try.prog) W1 54 9 ty (.string ⟨#[]⟩) Try.underlying54 zero_Str g (m) 1 (cp - m) _ _ hg1 (by decide) ([.string ⟨#[]⟩] : List Value) zeros_Str (by simp only [List.size_toArray, hL1l, List.length_append, ha, hb, hc, List.length_cons, List.length_nil]; omega) (fun v hv => by simp at hv; rcases hv with rfl | rfl <;> rfl)
    rw [List.toList_toArray, show m = a.length + b.length by rw [ha, hb]; omega, hfin] at h
    rw [show m = a.length + b.length by rw [ha, hb]; omega]
    exact h
  obtain ⟨F, hF⟩ : ∃ F, F = (a ++ b) ++ (([.string ⟨#[]⟩] : List Value) ++ rest) := ⟨_, rfl⟩
  rw [← hF] at hcl ⊢
  have HAPP := Lib.hid happ
  have HG1 := Lib.hid hg1
  have HW1 := Lib.hid hW1
  simp only [maxLen] at hcm
  have hin : i ≤ m + 1 := by omega
  have hz2 : ¬ ((i : Int) = (i : Int) + 1) := by omega
  have hc1 : ¬ (cp = m) := by omega
  have hci : i ≤ cp := by omega
  have hci1 : i + 1 ≤ cp := by omega
  have hi2 : (i : Int) + 1 ≤ (m : Int) + 1 := by omega
  have hi3 : (0 : Int) ≤ (i : Int) + 1 := by omega
  have htn : ((i : Int) + 1).toNat = i + 1 := by omega
  have htm : ((m : Int) + 1).toNat = m + 1 := by omega
  clear happ hg1 hW1 hF hL1 hL1l hfin hsrc hsr hg ha hb hc hb1 hi0 hz0 hzs hzb
  go_enter Try.func144, Try.ntmps144
  go_wp2_with fail
  refine wp_region_noPanic ?_
  go_region_law (refine step_appK rfl (.tmp 22) (.tmp 25) 54 54 rfl (.slice (some ⟨g, 0, none⟩) i cp) (.slice (some ad) (m - i) (cp - (i + 1))) ?hd ?hs (HAPP.out _) ?_; (case hd => simp [go_sem]); (case hs => simp [go_sem, hA]))
  refine NoPanic.normal ?_
  go_wp2_with fail
  go_ret
  refine ⟨rfl, setRow_heap W1 g _ _ _ _ HG1.out, ?_⟩
  rw [HW1.out]
  refine ⟨rfl, rfl, rfl, by simp, fun k hk hs => ?_⟩
  rw [setRow_other _ g k _ hs]
  exact setRow_other w.drew g k _ hs
theorem delStr_calls (base : Nat) (A : Option Addr) (cp n i : Nat) (xs : List Value) (w : World) (ho : w.ownsRow base 9 1 (.slice A n cp) n xs) (hi : i < n) (hn : n ≤ 100000) (hx : ∀ u ∈ xs, u.oneCell' = true) :
    Calls Try.prog 144 #[.slice A n cp, .int .i64 i, .int .i64 ((i : Int) + 1)] w (DelPost base 1 (n - 1) 9 A cp (xs.take (i * 1) ++ xs.drop ((i + 1) * 1)) w) := by
  have hxl := ho.1
  rcases ho.2 with ⟨_, h0⟩ | ⟨g, cap, cur, hv', hbg, hg, hnc, hcm, hcc, ht⟩
  · omega
  obtain ⟨rfl, rfl⟩ : A = some ⟨g, 0, none⟩ ∧ cp = cap := by simpa using hv'
  obtain ⟨m, rfl⟩ : ∃ m, n = m + 1 := ⟨n - 1, by omega⟩
  have hcur : cur = (xs.take (i * 1) ++ (xs.drop (i * 1)).take 1 ++ xs.drop ((i + 1) * 1) ++ cur.toList.drop ((m + 1) * 1)).toArray := by
    apply Array.toList_inj.1
    have e1 : xs.drop ((i + 1) * 1) = (xs.drop (i * 1)).drop 1 := by rw [List.drop_drop]; congr 1 <;> omega
    rw [List.toList_toArray, e1, List.append_assoc (xs.take (i * 1)), List.take_append_drop, List.take_append_drop, ← ht, List.take_append_drop]
  have hla : (xs.take (i * 1)).length = i * 1 := by rw [List.length_take]; omega
  have hlc : ((xs.drop (i * 1)).take 1).length = 1 := by rw [List.length_take, List.length_drop]; omega
  have hlb : (xs.drop ((i + 1) * 1)).length = (m - i) * 1 := by rw [List.length_drop]; omega
  have hlr : (cur.toList.drop ((m + 1) * 1)).length = (cp - (m + 1)) * 1 := by rw [List.length_drop, Array.length_toList, hcc]; omega
  rw [hcur] at hg
  refine (delStr_walk g cp m i _ _ _ _ w hg (by omega) (by omega) hla hlc hlb hnc hcm (fun u hu => hx u (List.mem_of_mem_drop hu))).mono ?_
  rintro e w' ⟨rfl, hg', hc⟩
  refine ⟨rfl, ⟨?_, .inr ⟨g, cp, _, rfl, hbg, hg', by omega, hcm, ?_, ?_⟩⟩, hc.mono (Nat.le_refl _) (fun k _ e => by simp [Row, e])⟩
  · simp only [List.length_append, hla, hlb]; omega
  · simp only [List.size_toArray, List.length_append, hla, hlb, hlr, List.length_cons, List.length_nil]; omega
  · rw [List.toList_toArray]
    exact List.take_left' (by simp only [List.length_append, hla, hlb]; omega)
end Go.Proofs.Ytfgpchffkpomoaa
