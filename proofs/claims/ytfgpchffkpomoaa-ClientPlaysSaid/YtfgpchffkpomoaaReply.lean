/- A replica's reply as bytes, and a client's request: the walks. -/
import Derived.Test.YtfgpchffkpomoaaSaid
import Derived.Test.YtfgpchffkpomoaaPk02
import Derived.Test.YtfgpchffkpomoaaPk04
import Derived.Deep.RegionHeld3
import Derived.Deep.CutBlock
namespace Go.Proofs.Ytfgpchffkpomoaa
set_option linter.unusedSimpArgs false
set_option linter.unusedVariables false
open Go.RowKit

theorem sgs_nil (w : World) : SgS w none 0 [] := ⟨rfl, by simp, fun j u hj => by simp at hj⟩
/-- The bytes of what was sealed; the words signed then. -/
def SayPost (w0 : World) (b t m n : Nat) (T : List ByteArray) (s : ByteArray) (S' : List Wd) (e : Ending) (w' : World) : Prop :=
  e = .returned (.string s) ∧ Ch w0.heap.size (· = n) w0 w' ∧ Bk w' b t m n T S'
set_option maxHeartbeats 2000000 in
set_option maxRecDepth 100000 in
theorem reply_calls (b t m n : Nat) (T : List ByteArray) (S : List Wd) (who client stamp : Int) (text : ByteArray) (sg : Sg) (S' : List Wd) (w : World) (hb : Bk w b t m n T S) (hS : S.length ≤ 1000000000) (he : sealE S who (cliB 10 client stamp text) = ((sg, 0), S')) (hf : fitsB sg = true) :
    Calls Try.prog 70 #[.pointer (some ⟨b, 0, none⟩), .int .i64 who, .int .i64 client, .int .i64 stamp, .string text] w (SayPost w b t m n T (bs (putSg sg)) S') := by
  have HG := Lib.hid (fun w hb => seal_calls b t m n T S who (cliB 10 client stamp text) none 0 w hb hS (sgs_nil w))
  unfold SealPost at HG
  rw [he] at HG
  simp only at HG
  have hfb := (fitsB_iff sg).1 hf
  have HO := Lib.hid (fun w => rOne_calls sg w hfb.1 (by omega) (by omega) (by omega))
  unfold StrPost at HO
  obtain ⟨who2, body, sig⟩ := sg
  unfold Sg.val at *
  unfold cliB Bd.val Bd.cells at *
  simp only at *
  have HB := Lib.hid hb
  have hnl := hb.wm.lt
  obtain ⟨out, hout⟩ : ∃ o, o = bs (putSg ⟨who2, body, sig⟩) := ⟨_, rfl⟩
  rw [← hout] at HO ⊢
  clear hb he hf hfb hout
  go_enter Try.func70, Try.ntmps70
  go_wp2_with fail
  refine (HG.out _ HB.out).mono ?_
  rintro e w1 ⟨rfl, hc1, hk1⟩
  have HC1 := Lib.hid hc1
  have HK1 := Lib.hid hk1
  have hz1 := hc1.size
  clear hc1 hk1
  go_wp2_with fail
  refine (HO.out _).mono ?_
  rintro e w2 ⟨rfl, hb2⟩
  have HB2 := Lib.hid hb2
  have hz2 : w1.heap.size + 1 ≤ w2.heap.size := by have := hb2.size; simpa using this
  clear hb2
  go_wp2
  go_ret
  exact ⟨rfl, (HC1.out.alloc hz1 _).step (Ch.of_below (S := fun _ => False) HB2.out) (by simp; omega) (fun _ _ e => e.elim), (HK1.out.alloc _).below HB2.out⟩
end Go.Proofs.Ytfgpchffkpomoaa
