/- Matchers in memory: plain words. -/
import Derived.Test.YtdikmklijpcjdaaMem2
import Derived.Test.YtdikmklijpcjdaaProg
namespace Go.Proofs.Ytdikmklijpcjdaa
open Go.RowKit

structure Mat where
  kind : Int
  name : ByteArray
  val : ByteArray
def matC (m : Mat) : List Value := [.int .i64 m.kind, .string m.name, .string m.val]
def matsC (ms : List Mat) : List (List Value) := ms.map matC
theorem matsC_sz (ms : List Mat) : ∀ x ∈ matsC ms, x.length = 3 := by
  intro x hx
  obtain ⟨l, _, rfl⟩ := List.mem_map.1 hx
  rfl
theorem one_mats (ms : List Mat) : ∀ y ∈ matsC ms, ∀ u ∈ y, u.oneCell' = true := by
  intro y hy u hu
  obtain ⟨l, _, rfl⟩ := List.mem_map.1 hy
  simp [matC] at hu
  rcases hu with rfl | rfl | rfl <;> rfl
end Go.Proofs.Ytdikmklijpcjdaa
