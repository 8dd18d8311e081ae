/- Contracts of the kit: Times, Str, Num, Row, Pair. -/
import Derived.Test.YtlpniinmomhkcaaDoorHX
import Derived.Test.YtlpniinmomhkcaaDoorStr
import Derived.Test.YtlpniinmomhkcaaDoorS
set_option linter.unusedVariables false
set_option linter.unusedSimpArgs false
namespace Go.Proofs.YtlpniinmomhkcaaDoor.V
open Go Go.Proofs Go.RowKit

theorem str_calls (w : World) (s : ByteArray) : Calls Tryd.prog 24 #[.string s] w (Ret fun v w' => v = .agg #[.int .i64 3, .int .i64 0, .string s] ∧ Ext w w') := by
  apply calls24
  unfold S24
  refine box_i (vs := [(.int .i64 3), (.int .i64 0), (.string s)]) (by rfl) (by intro v hv; simp only [List.mem_cons, List.not_mem_nil, or_false] at hv; rcases hv with rfl | rfl | rfl <;> rfl) ?_ (by rfl)
  intro r w1 hb he _
  exact boxA (ls := [.int .i64, .int .i64, .str]) (3, 0, s, ()) hb rfl ⟨rfl, he⟩
theorem num_calls (w : World) (n : Int) : Calls Tryd.prog 23 #[.int .i64 n] w (Ret fun v w' => v = .agg #[.int .i64 1, .int .i64 n, .string ByteArray.empty] ∧ Ext w w') := by
  apply calls23
  unfold S23
  refine box_i (vs := [(.int .i64 1), (.int .i64 n), (.string ByteArray.empty)]) (by rfl) (by intro v hv; simp only [List.mem_cons, List.not_mem_nil, or_false] at hv; rcases hv with rfl | rfl | rfl <;> rfl) ?_ (by rfl)
  intro r w1 hb he _
  exact boxA (ls := [.int .i64, .int .i64, .str]) (1, n, ByteArray.empty, ()) hb rfl ⟨rfl, he⟩
end Go.Proofs.YtlpniinmomhkcaaDoor.V
