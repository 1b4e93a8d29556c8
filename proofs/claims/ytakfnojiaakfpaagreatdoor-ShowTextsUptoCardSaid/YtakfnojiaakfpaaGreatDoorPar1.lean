/- How a query is read: what gives up is caught. -/
import Derived.Test.YtakfnojiaakfpaaGreatDoorParV
import Derived.Defers
import Derived.Recover
namespace Go.Proofs.YtakfnojiaakfpaaGreatDoor
section
open Go.RowKit
attribute [local go_sem ↓] Go.wp_at_zero Go.wp_at_succ tok_f0 tok_f2 tok_f3
end
section
open Go.RowKit
attribute [local go_sem ↓] Go.wp_at_zero Go.wp_at_succ tok_f0 tok_f2 tok_f3
end
section
open Go.RowKit
attribute [local go_sem ↓] Go.wp_at_zero Go.wp_at_succ tok_f0 tok_f2 tok_f3
end
section
open Go.RowKit
attribute [local go_sem ↓] Go.wp_at_zero Go.wp_at_succ tok_f0 tok_f2 tok_f3
end
section
open Go.RowKit
attribute [local go_sem ↓] Go.wp_at_zero Go.wp_at_succ tok_f0 tok_f2 tok_f3
theorem ta_stop (a b : Value) (w : World) : (Instr.typeAssert (.iface 64 (.agg #[a, b])) 20 64 true).run Tryz.prog w = .ok (.tuple #[.agg #[a, b], .bool true]) w := by kernel_rfl
attribute [local go_sem ↓] ta_stop
end
end Go.Proofs.YtakfnojiaakfpaaGreatDoor
