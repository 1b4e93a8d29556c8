/- ShowSources: a query that means something, written anew, is read as the same tree. -/
import Derived.Test.YtakfnojiaakfpaaGreatDoorShwO
import Derived.Test.YtakfnojiaakfpaaGreatDoorNodE
namespace Go.Proofs.YtakfnojiaakfpaaGreatDoor
open Go.RowKit
theorem sshow_of {ns : List Nod} {u : ByteArray} {g : Int} (hK : showT ns = (u, g)) (A1 : Option Addr) (n1 c1 B1 : Nat) (w : World) (h1 : RdNods w B1 A1 ns) (hn1 : ns.length = n1) (hB : B1 ≤ w.heap.size) (hm1 : n1 * 120 ≤ 140737488355328) (hok : ∀ x ∈ ns, okShow x) (htab : Tab10 w) :
    Calls Tryz.prog 11 #[.slice A1 n1 c1] w fun v w' => v = .returned (.tuple #[.string u, .int .i64 g]) ∧ Below w.heap.size w w' := by
  have := sshow_any ns A1 n1 c1 B1 w h1 hn1 hB hm1 hok htab
  unfold ShowRes at this
  rw [hK] at this
  exact this
end Go.Proofs.YtakfnojiaakfpaaGreatDoor
