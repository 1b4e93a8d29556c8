/- ShowTexts: any tree is written as the document says, or refused; the list stays. -/
import Derived.Test.YtakfnojiaakfpaaGreatDoorShowSources
import Derived.Test.YtakfnojiaakfpaaGreatDoorRShwG
namespace Go.Proofs.YtakfnojiaakfpaaGreatDoor
open Go.RowKit
theorem rshow_of {ns : List Nod} {u : ByteArray} {g : Int} (hK : showT ns = (u, g)) (A1 : Option Addr) (n1 c1 B1 : Nat) (w : World) (h1 : RdNods w B1 A1 ns) (hn1 : ns.length = n1) (hB : B1 ≤ w.heap.size) (hm1 : n1 * 120 ≤ 140737488355328) (hok : ∀ x ∈ ns, okShow x) :
    Calls Tryz.prog 9 #[.slice A1 n1 c1] w fun v w' => v = .returned (.tuple #[.string u, .int .i64 g]) ∧ Below w.heap.size w w' := by
  have := rshow_any ns A1 n1 c1 B1 w h1 hn1 hB hm1 hok
  unfold ShowRes at this
  rw [hK] at this
  exact this
set_option maxRecDepth 100000 in
set_option maxHeartbeats 4000000 in
theorem showTexts_any (t : List Nod) (A : Option Addr) (n c B : Nat) (w : World) (hr : RdNods w B A t) (hn : t.length = n) (hB : B ≤ w.heap.size) (hm : n * 120 ≤ 140737488355328) (hok : ∀ x ∈ t, okNod x) (hos : ∀ x ∈ t, okShow x) (htab : Tab10 w) :
    Calls Tryz.prog 3 #[.slice A n c] w fun e w' => e = .returned (.bool true) ∧ Below w.heap.size w w' := by
  have HT := Lib.hid htab
  have HN := Lib.hid hn
  have HOk := Lib.hid hok
  have HOs := Lib.hid hos
  have HR := Lib.hid hr
  obtain ⟨u, g, hug⟩ : ∃ u g, showT t = (u, g) := ⟨_, _, rfl⟩
  have HS1 := Lib.hid (rshow_of hug A n c B w hr hn hB hm hos)
  have HUG := Lib.hid hug
  clear htab hn hok hos hr hug
  go_enter Tryz.func3, Tryz.ntmps3
  go_wp2_with fail
  refine (HS1.out).mono ?_
  rintro e w1 ⟨rfl, hb1⟩
  have HB1 := Lib.hid hb1
  have HR1 := Lib.hid (HR.out.below (hb1.mono hB))
  have HC1 := Lib.hid (copyNodes_any t A n c B w1 HR1.out HN.out (Nat.le_trans hB hb1.size) hm HOk.out)
  clear hb1 HS1
  go_wp2_with fail
  refine (HC1.out).mono ?_
  rintro e w2 ⟨A2, c2, rfl, hO2, hb2⟩
  have HB2 := Lib.hid (HB1.out.trans (hb2.mono HB1.out.size))
  have HR2 := Lib.hid hO2.rd
  have hz2 := HB2.out.size
  have HS := Lib.hid (sshow_of HUG.out A2 n c2 _ w2 HR2.out HN.out (Nat.le_refl _) hm HOs.out (HT.out.below HB2.out))
  clear hb2 hO2 HC1 HUG
  go_wp2_with fail
  refine (HS.out).mono ?_
  rintro e w3 ⟨rfl, hb3⟩
  have HB3 := Lib.hid (HB2.out.trans (hb3.mono HB2.out.size))
  have HR3 := Lib.hid (HR2.out.below hb3)
  have hz3 := hb3.size
  have HSm := Lib.hid (sameNodes_any t t A2 A n n c2 c w2.heap.size B w3 HR3.out (HR.out.below (HB3.out.mono hB)) hz3 (Nat.le_trans hB HB3.out.size) HN.out HN.out (by unfold maxLen; omega) (by unfold maxLen; omega))
  clear hb3 HS
  go_wp2_with fail
  refine (HSm.out).mono ?_
  rintro e w4 ⟨rfl, hb4⟩
  have HB4 := Lib.hid (HB3.out.trans (hb4.mono HB3.out.size))
  have hdd : decide (t = t) = true := by simp
  clear hb4 HSm
  go_wp2_with fail
  refine (sawake_any _ (HT.out.below HB4.out)).mono ?_
  rintro e w9 ⟨rfl, hb9⟩
  go_wp2_with fail
  go_ret
  exact ⟨by first | rfl | (simp; done), HB4.out.trans (hb9.mono HB4.out.size)⟩
end Go.Proofs.YtakfnojiaakfpaaGreatDoor
