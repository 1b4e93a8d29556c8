/- How a tree is written: what every program answers that is one. -/
import Derived.Test.YtakfnojiaakfpaaGreatDoorTypSrc
import Derived.Test.YtakfnojiaakfpaaGreatDoorPar2
import Derived.Test.YtakfnojiaakfpaaGreatDoorShowD
import Derived.Test.YtakfnojiaakfpaaGreatDoorTailB
import Derived.Test.YtakfnojiaakfpaaGreatDoorShwM
import Derived.Test.YtakfnojiaakfpaaGreatDoorNodC
namespace Go.Proofs.YtakfnojiaakfpaaGreatDoor
section
open Go.RowKit
def sNm : ByteArray := ⟨#[95, 95, 110, 97, 109, 101, 95, 95]⟩
def sXx : ByteArray := ⟨#[120]⟩
def nodWr : Nod := ⟨3, 0, ByteArray.empty, [⟨1, sNm, sXx⟩], 300, 0, 0, [], false, 0⟩
def nodKr : Nod := ⟨4, 1, ByteArray.empty, [], 0, 0, 0, [], false, 1⟩
def sRate : ByteArray := ⟨#[114, 97, 116, 101, 40, 120, 91, 53, 109, 93, 41]⟩
theorem show_two : showT [nodWr, nodKr] = (sRate, 0) := by decide +kernel
theorem show_nil : showT [] = (ByteArray.empty, 200) := by decide +kernel
theorem ok_nodWr : okShow nodWr := ⟨⟨by simp [nodWr], by simp [nodWr], by simp [nodWr, maxLen], by simp [nodWr]; decide +kernel, by show ByteArray.empty.size ≤ _; decide +kernel⟩, by simp [nodWr, joinT], by simp [nodWr]⟩
theorem ok_nodKr : okShow nodKr := ⟨⟨by simp [nodKr], by simp [nodKr], by simp [nodKr, maxLen], by simp [nodKr], by show ByteArray.empty.size ≤ _; decide +kernel⟩, by simp [nodKr, joinT], by simp [nodKr]⟩
theorem at_nodWr {w : World} {B M : Nat} (h : Rd w B 3 (some ⟨M, 0, none⟩) (matsC nodWr.mat)) : NodAt w B (nodC nodWr (some ⟨M, 0, none⟩) 1 none 0) nodWr :=
  ⟨_, _, _, _, rfl, h, Rd.nil_, by simp [nodWr], by simp [maxLen], by simp [nodWr], by simp [maxLen]⟩
theorem at_nodKr {w : World} {B : Nat} : NodAt w B (nodC nodKr none 0 none 0) nodKr :=
  ⟨_, _, _, _, rfl, Rd.nil_, Rd.nil_, by simp [nodKr], by simp [maxLen], by simp [nodKr], by simp [maxLen]⟩
theorem rd_nodes {w : World} {M : Nat} {e : TypeId} (hm : Rd w w.heap.size 3 (some ⟨M, 0, none⟩) (matsC nodWr.mat)) : RdNods (w.alloc (.cells (nodC nodWr (some ⟨M, 0, none⟩) 1 none 0 ++ nodC nodKr none 0 none 0).toArray e)) (w.heap.size + 1) (some ⟨w.heap.size, 0, none⟩) [nodWr, nodKr] := by
  refine ⟨[nodC nodWr (some ⟨M, 0, none⟩) 1 none 0, nodC nodKr none 0 none 0], Rd.new w (by simp [nodC]) _ (by simp), rfl, fun k n hn => ?_⟩
  match k, hn with
  | 0, hn =>
    simp at hn; subst hn
    exact ⟨_, rfl, at_nodWr ((hm.below ((Below.refl _ _).alloc (Nat.le_refl _) _)).more (Nat.le_succ _))⟩
  | 1, hn =>
    simp at hn; subst hn
    exact ⟨_, rfl, at_nodKr⟩
set_option maxRecDepth 100000 in
set_option maxHeartbeats 4000000 in
theorem sawake_any (w : World) (htab : Tab10 w) : Calls Tryz.prog 13 #[] w fun e w' => e = .returned (.bool true) ∧ Below w.heap.size w w' := by
  have hm0 : Rd (w.alloc (.cells (matC ⟨1, sNm, sXx⟩).toArray 37)) (w.heap.size + 1) 3 (some ⟨w.heap.size, 0, none⟩) (matsC nodWr.mat) := Rd.new w (by simp [matsC, nodWr, matC]) _ rfl
  have hr := rd_nodes (e := 41) (M := w.heap.size) (w := w.alloc (.cells (matC ⟨1, sNm, sXx⟩).toArray 37)) (by rw [World.size_alloc]; exact hm0)
  simp only [World.size_alloc] at hr
  have hb1 : Below w.heap.size w ((w.alloc (.cells (matC ⟨1, sNm, sXx⟩).toArray 37)).alloc (.cells (nodC nodWr (some ⟨w.heap.size, 0, none⟩) 1 none 0 ++ nodC nodKr none 0 none 0).toArray 41)) := ((Below.refl _ _).alloc (Nat.le_refl _) _).alloc (by simp) _
  have H1 := Lib.hid (sshow_any [nodWr, nodKr] (some ⟨w.heap.size + 1, 0, none⟩) 2 2 _ _ hr rfl (by simp) (by omega) (by intro x hx; simp at hx; rcases hx with rfl | rfl; exact ok_nodWr; exact ok_nodKr) (htab.below hb1))
  have HT := Lib.hid htab
  have HB1 := Lib.hid hb1
  clear hm0 hr htab hb1
  go_enter Tryz.func13, Tryz.ntmps13
  go_wp2_with fail
  refine (H1.out).mono ?_
  rintro e w2 ⟨rfl, hb2⟩
  rw [show_two]
  unfold sRate
  have hb3 := HB1.out.trans (hb2.mono HB1.out.size)
  have H2 := Lib.hid (sshow_any [] none 0 0 w2.heap.size w2 RdNods.nil_ rfl (Nat.le_refl _) (by omega) (by simp) (HT.out.below hb3))
  have HB3 := Lib.hid hb3
  clear hb2 hb3 H1 HB1
  go_wp2_with fail
  refine (H2.out).mono ?_
  rintro e w3 ⟨rfl, hb4⟩
  rw [show_nil]
  go_wp2_with fail
  go_ret
  exact ⟨by first | rfl | (simp; done), HB3.out.trans (hb4.mono HB3.out.size)⟩
end
end Go.Proofs.YtakfnojiaakfpaaGreatDoor
