/- A proof with a change is a proof in memory, whatever the change. -/
import Derived.Test.YtfgpchffkpomoaaBentK0
import Derived.Test.YtfgpchffkpomoaaBentK1
import Derived.Test.YtfgpchffkpomoaaBentK2
import Derived.Test.YtfgpchffkpomoaaBentK3
import Derived.Test.YtfgpchffkpomoaaBentK4
import Derived.Test.YtfgpchffkpomoaaBentK5
import Derived.Test.YtfgpchffkpomoaaBentK6
import Derived.Test.YtfgpchffkpomoaaBentK7
import Derived.Test.YtfgpchffkpomoaaBentK8
import Derived.Test.YtfgpchffkpomoaaBentK9
namespace Go.Proofs.Ytfgpchffkpomoaa
set_option linter.unusedSimpArgs false
set_option linter.unusedVariables false
open Go.RowKit

theorem bent_calls (M : Nat → Prop) (K : Nat) (cnt : Int) (A : Option Addr) (c : Nat) (ps : List Pm) (wh ii nn : Int) (tx : ByteArray) (w : World) (hm : ∀ q, M q → q < w.heap.size) (hK : K ≤ 900000) (hs : PfM M K w A c ps) (hw : -9223372036854775808 ≤ wh ∧ wh ≤ 9223372036854775807) (hi : -9223372036854775808 ≤ ii ∧ ii ≤ 9223372036854775807) (hn : -9223372036854775808 ≤ nn ∧ nn ≤ 9223372036854775807) :
    Calls Try.prog 46 #[.agg #[.int .i64 cnt, .slice A ps.length c], .agg #[.int .i64 wh, .int .i64 ii, .int .i64 nn, .string tx]] w (BentPost M (K + 1) w) := by
  by_cases h0 : ps.length = 0
  · obtain rfl := List.eq_nil_of_length_eq_zero h0
    exact bent0_calls M (K + 1) cnt A c wh ii nn tx w hm hw hn
  obtain ⟨r6, hr6, har⟩ := around4_det wh 10 (by decide) (by decide) hw.1 hw.2
  have hr : r6 = 0 ∨ r6 = 1 ∨ r6 = 2 ∨ r6 = 3 ∨ r6 = 4 ∨ r6 = 5 ∨ r6 = 6 ∨ r6 = 7 ∨ r6 = 8 ∨ r6 = 9 := by omega
  rcases hr with rfl | rfl | rfl | rfl | rfl | rfl | rfl | rfl | rfl | rfl
  · exact bentZ_calls M K cnt A c ps wh ii nn tx w hm hK hs h0 har hi hn
  · exact bent1_calls M K cnt A c ps wh ii nn tx w hm hK hs h0 har hi hn
  · exact bent2_calls M K cnt A c ps wh ii nn tx w hm hK hs h0 har hi hn
  · exact bent3_calls M K cnt A c ps wh ii nn tx w hm hK hs h0 har hi hn
  · exact bent4_calls M K cnt A c ps wh ii nn tx w hm hK hs h0 har hi hn
  · exact bent5_calls M K cnt A c ps wh ii nn tx w hm hK hs h0 har hi hn
  · exact bent6_calls M K cnt A c ps wh ii nn tx w hm hK hs h0 har hi hn
  · exact bent7_calls M K cnt A c ps wh ii nn tx w hm hK hs h0 har hi hn
  · exact bent8_calls M K cnt A c ps wh ii nn tx w hm hK hs h0 har hi hn
  · exact bent9_calls M K cnt A c ps wh ii nn tx w hm hK hs h0 har hi hn
end Go.Proofs.Ytfgpchffkpomoaa
