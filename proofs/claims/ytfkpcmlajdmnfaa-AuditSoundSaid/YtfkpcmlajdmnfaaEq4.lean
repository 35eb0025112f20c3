/- Equality of arrays of four ints. -/
import Derived.Test.YtfkpcmlajdmnfaaInts
namespace Go.Proofs.Ytfkpcmlajdmnfaa
open Go Go.RowKit Go.MapKept
set_option maxRecDepth 100000

theorem eq4_run (a b c d : Int) (w : World) : (Op.equalIn 10000 87 (.agg #[.int .i64 a, .int .i64 b, .int .i64 c, .int .i64 d]) (.agg #[.int .i64 a, .int .i64 b, .int .i64 c, .int .i64 d])).run Try.prog w = .ok true w := by
  obtain ⟨i0, hi, hz0, hz1, hz2⟩ := info_parts Try.infoInt
  have hs : (sizeOf 3).run Try.prog w = .ok 1 w := by simp [sizeOf, typeInfo, hi, hz1]
  have he := fun (x : Int) => run_equalIn_int (P := Try.prog) w 9998 3 .i64 .i64 x x Try.underlying3
  show (Op.equalIn (9999 + 1) _ _ _).run _ w = _
  unfold Op.equalIn
  simp only [Sem.run_bind, run_underlying Try.underlying87, Result.andThen_ok, hs]
  simp [Std.Legacy.Range.forIn_eq_forIn_range', List.range', part, isAgg, run_underlying Try.underlying3, he, Result.andThen]
end Go.Proofs.Ytfkpcmlajdmnfaa
