/- WaveNumbers: any text is the float nearest to it, or no number, as the document says. -/
import Derived.Test.YtbnpleihhbpnlaaGreatDoorRefNum2
import Derived.Test.YtbnpleihhbpnlaaGreatDoorWavW
namespace Go.Proofs.YtbnpleihhbpnlaaGreatDoor
open Go.RowKit

set_option maxRecDepth 100000 in
set_option maxHeartbeats 4000000 in
theorem waveNumbers_any (s : ByteArray) (w : World) (hF : FloatMem w) (hs' : s.size ≤ 140737488351232) :
    Calls Tryz.prog 4 #[.string s] w fun e w' => e = .returned (.bool true) ∧ Below w.heap.size w w' := by
  have hs : s.size ≤ 140737488355328 := by omega
  have H1 := Lib.hid (numberW_any s w hs hF)
  have H2 := fun W => Lib.hid (rnumW_any s W hs)
  have HA := fun d => Lib.hid (awake_any (w.drewN d) (hF.drewN d))
  unfold NumberOut at H1 H2
  clear hF hs hs'
  generalize numV s = v1 at *
  generalize numB s.data.toList = v2 at *
  go_enter Tryz.func4, Tryz.ntmps4
  go_wp2_with (first
    | (go_at_call 18; refine (H1.out).mono ?_; rintro e w' ⟨rfl, d1, rfl⟩)
    | (go_at_call 19; refine ((H2 _).out).mono ?_; rintro e w' ⟨rfl, d2, rfl⟩)
    | (go_at_call 17; refine ((HA _).out).mono ?_; rintro e w' ⟨rfl, hb⟩))
  go_ret
  exact ⟨rfl, (below_drewN (Below.refl _ _) _).trans hb⟩
end Go.Proofs.YtbnpleihhbpnlaaGreatDoor
