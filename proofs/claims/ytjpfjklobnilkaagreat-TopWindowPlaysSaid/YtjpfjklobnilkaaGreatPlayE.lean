/- Contract: play.Saves. -/
import Derived.Test.YtjpfjklobnilkaaGreatPlayD
namespace Go.Proofs.YtjpfjklobnilkaaGreat
open Go.RowKit Go.Shelf
set_option linter.unusedVariables false
theorem slT_int:SlT 22 3 1 8 (.int .i64 0):=⟨Tryz.underlying22,by kernel_rfl,rfl,by omega⟩
end Go.Proofs.YtjpfjklobnilkaaGreat
