/- TypesChecks: the check of any tree's pieces answers as the document says, over a copy of its own. -/
import Derived.Test.YtmhfeeomlpdnkaaTypC
import Derived.Test.YtmhfeeomlpdnkaaRTypC
import Derived.Test.YtmhfeeomlpdnkaaNodE
import Derived.Test.YtmhfeeomlpdnkaaTypAwake
namespace Go.Proofs.Ytmhfeeomlpdnkaa
open Go.RowKit

set_option maxRecDepth 100000 in
set_option maxHeartbeats 4000000 in
theorem typesChecks_any (ns : List Nod) (A1 : Option Addr) (n1 c1 B1 : Nat) (w : World) (h1 : RdNods w B1 A1 ns) (hn1 : ns.length = n1) (hB : B1 ≤ w.heap.size) (hm1 : n1 * 120 ≤ 140737488355328) (hok : ∀ x ∈ ns, okNodT x) (hok2 : ∀ x ∈ ns, okNod x) :
    Calls Try.prog 3 #[.slice A1 n1 c1] w fun e w' => e = .returned (.bool true) ∧ Below w.heap.size w w' := by
  have H1 := Lib.hid (rcheck_any ns A1 n1 c1 B1 w h1 hn1 hB hm1 hok)
  have R1 := Lib.hid h1
  clear h1
  go_enter Try.func3, Try.ntmps3
  go_wp2_with fail
  refine (H1.out).mono ?_
  rintro e w2 ⟨rfl, hb2⟩
  have R2 := Lib.hid ((R1.out.below (hb2.mono hB)))
  have hs2 := hb2.size
  go_wp2_with fail
  refine (copyNodes_any ns A1 n1 c1 B1 w2 R2.out hn1 (by omega) hm1 hok2).mono ?_
  rintro e w3 ⟨A, c, rfl, ho, hb3⟩
  have hs3 := hb3.size
  have R3 := Lib.hid ((R2.out.below (hb3.mono (by omega))))
  have O3 := Lib.hid ho.rd
  clear ho
  go_wp2_with fail
  refine (tcheck_any ns A n1 c _ w3 O3.out hn1 (Nat.le_refl _) hm1 hok).mono ?_
  rintro e w4 ⟨rfl, hb4⟩
  have hs4 := hb4.size
  have R4 := Lib.hid ((R3.out.below (hb4.mono (by omega))))
  have O4 := Lib.hid ((O3.out.below hb4))
  go_wp2_with fail
  refine (sameNodes_any ns ns A A1 n1 n1 c c1 _ B1 w4 O4.out R4.out (by omega) (by omega) hn1 hn1 (by simp only [maxLen]; omega) (by simp only [maxLen]; omega)).mono ?_
  rintro e w5 ⟨rfl, hb5⟩
  have hs5 := hb5.size
  go_wp2_with fail
  refine (tawake_any w5).mono ?_
  rintro e w6 ⟨rfl, hb6⟩
  have hs6 := hb6.size
  go_wp2_with fail
  go_ret
  exact ⟨rfl, hb2.trans ((hb3.mono (by omega)).trans ((hb4.mono (by omega)).trans ((hb5.mono (by omega)).trans (hb6.mono (by omega)))))⟩
end Go.Proofs.Ytmhfeeomlpdnkaa
