/- ShowBack: a tree's text is read back as the tree. -/
import Derived.Test.YtakfnojiaakfpaaGreatDoorShowSources
namespace Go.Proofs.YtakfnojiaakfpaaGreatDoor
open Go.RowKit

set_option maxRecDepth 100000 in
set_option maxHeartbeats 4000000 in
theorem showBack_any (t : List Nod) (A : Option Addr) (n c B : Nat) (w : World) (hr : RdNods w B A t) (hn : t.length = n) (hB : B ≤ w.heap.size) (hm : n * 120 ≤ 140737488355328) (hok : ∀ x ∈ t, okNod x) (hos : ∀ x ∈ t, okShow x) (htab : Tab10 w) :
    Calls Tryz.prog 5 #[.slice A n c] w fun e w' => e = .returned (.bool true) ∧ Below w.heap.size w w' := by
  have HT := Lib.hid htab
  have HN := Lib.hid hn
  have HOk := Lib.hid hok
  have HOs := Lib.hid hos
  have HR := Lib.hid hr
  have HC1 := Lib.hid (copyNodes_any t A n c B w hr hn hB hm hok)
  clear htab hn hok hos hr
  go_enter Tryz.func5, Tryz.ntmps5
  go_wp2_with fail
  refine (HC1.out).mono ?_
  rintro e w2 ⟨A2, c2, rfl, hO2, hb2⟩
  have HB2 := Lib.hid hb2
  obtain ⟨u, g, hug⟩ : ∃ u g, showT t = (u, g) := ⟨_, _, rfl⟩
  have HS := Lib.hid (sshow_of hug A2 n c2 _ w2 hO2.rd HN.out (Nat.le_refl _) hm HOs.out (HT.out.below hb2))
  have HGo : Hid (g = 0 → parseR u = (t, 0, 0) ∧ (checkN t).2.2 = 0 ∧ u.size ≤ 4096) := by
    intro h
    have := showT_goes (ns := t) (by rw [hug]; exact h)
    rw [hug] at this
    exact this
  have HNo : Hid (g ≠ 0 → u = ByteArray.empty ∧ g = 200) := by
    intro h
    have := showT_fails (ns := t) (by rw [hug]; exact h)
    rw [hug] at this
    exact this
  have HUG := Lib.hid hug
  clear hb2 hO2 HC1 hug
  go_wp2_with fail
  refine (HS.out).mono ?_
  rintro e w3 ⟨rfl, hb3⟩
  have HB3 := Lib.hid (HB2.out.trans (hb3.mono HB2.out.size))
  clear hb3 HS
  by_cases hg : g = 0
  · obtain ⟨hp, hk, hu⟩ := HGo.out hg
    subst hg
    have hl := parseR_4096 u
    rw [hp] at hl
    dsimp only at hl
    rw [HN.out] at hl
    have HP := Lib.hid (parse_to hp w3 (by omega))
    have HK := Lib.hid hk
    clear hp HGo HNo hk
    go_wp2_with fail
    refine (HP.out).mono ?_
    rintro e w4 ⟨⟨A4, c4, rfl, hO4⟩, hb4⟩
    rw [HN.out] at hO4 ⊢
    have HB4 := Lib.hid (HB3.out.trans (hb4.mono HB3.out.size))
    have HR4 := Lib.hid hO4.rd
    have HC4 := Lib.hid (copyNodes_any t A4 n c4 _ w4 HR4.out HN.out (Nat.le_refl _) (by omega) HOk.out)
    clear hb4 hO4 HP
    go_wp2_with fail
    refine (HC4.out).mono ?_
    rintro e w5 ⟨A5, c5, rfl, hO5, hb5⟩
    have HB5 := Lib.hid (HB4.out.trans (hb5.mono HB4.out.size))
    have HR5 := Lib.hid (HR4.out.below hb5)
    have hz5 := hb5.size
    have HK5 := Lib.hid (tcheck_of HK.out A5 n c5 _ w5 hO5.rd HN.out (Nat.le_refl _) (by omega) (fun x hx => (HOs.out x hx).1))
    clear hb5 hO5 HC4
    go_wp2_with fail
    refine (HK5.out).mono ?_
    rintro e w6 ⟨⟨kk, aa, rfl⟩, hb6⟩
    have HB6 := Lib.hid (HB5.out.trans (hb6.mono HB5.out.size))
    have HR6 := Lib.hid (HR5.out.below (hb6.mono hz5))
    have hz6 : w4.heap.size ≤ w6.heap.size := Nat.le_trans hz5 hb6.size
    have HS6 := Lib.hid (sshow_of HUG.out A4 n c4 _ w6 HR6.out HN.out hz6 (by omega) HOs.out (HT.out.below HB6.out))
    clear hb6 HK5
    go_wp2_with fail
    refine (HS6.out).mono ?_
    rintro e w7 ⟨rfl, hb7⟩
    have HB7 := Lib.hid (HB6.out.trans (hb7.mono HB6.out.size))
    have HR7 := Lib.hid (HR6.out.below (hb7.mono hz6))
    have hz7 : w4.heap.size ≤ w7.heap.size := Nat.le_trans hz6 hb7.size
    have HSm := Lib.hid (sameNodes_any t t A4 A n n c4 c w4.heap.size B w7 HR7.out (HR.out.below (HB7.out.mono hB)) hz7 (Nat.le_trans hB HB7.out.size) HN.out HN.out (by unfold maxLen; omega) (by unfold maxLen; omega))
    clear hb7 HS6
    go_wp2_with fail
    refine (HSm.out).mono ?_
    rintro e w8 ⟨rfl, hb8⟩
    have HB8 := Lib.hid (HB7.out.trans (hb8.mono HB7.out.size))
    have hdd : decide (t = t) = true := by simp
    clear hb8 HSm
    go_wp2_with fail
    refine (sawake_any _ (HT.out.below HB8.out)).mono ?_
    rintro e w9 ⟨rfl, hb9⟩
    go_wp2_with fail
    go_ret
    exact ⟨by first | rfl | (simp; done), HB8.out.trans (hb9.mono HB8.out.size)⟩
  · obtain ⟨rfl, rfl⟩ := HNo.out hg
    clear HGo HNo hg HUG
    go_wp2_with fail
    refine (sawake_any _ (HT.out.below HB3.out)).mono ?_
    rintro e w9 ⟨rfl, hb9⟩
    go_wp2_with fail
    go_ret
    exact ⟨by first | rfl | (simp; done), HB3.out.trans (hb9.mono HB3.out.size)⟩
end Go.Proofs.YtakfnojiaakfpaaGreatDoor
