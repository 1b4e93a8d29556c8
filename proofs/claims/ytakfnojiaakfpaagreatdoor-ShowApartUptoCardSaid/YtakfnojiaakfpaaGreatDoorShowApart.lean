/- ShowApart: two trees that differ have two texts. -/
import Derived.Test.YtakfnojiaakfpaaGreatDoorShowSources
namespace Go.Proofs.YtakfnojiaakfpaaGreatDoor
open Go.RowKit

set_option maxRecDepth 100000 in
set_option maxHeartbeats 4000000 in
theorem showApart_any (t v : List Nod) (A Av : Option Addr) (n nv c cv B Bv : Nat) (w : World) (hr : RdNods w B A t) (hrv : RdNods w Bv Av v) (hn : t.length = n) (hnv : v.length = nv) (hB : B ≤ w.heap.size) (hBv : Bv ≤ w.heap.size) (hm : n * 120 ≤ 140737488355328) (hmv : nv * 120 ≤ 140737488355328)
    (hok : ∀ x ∈ t, okNod x) (hos : ∀ x ∈ t, okShow x) (hokv : ∀ x ∈ v, okNod x) (hosv : ∀ x ∈ v, okShow x) (htab : Tab10 w) :
    Calls Tryz.prog 4 #[.slice A n c, .slice Av nv cv] w fun e w' => e = .returned (.bool true) ∧ Below w.heap.size w w' := by
  have HT := Lib.hid htab
  have HN := Lib.hid hn
  have HNv := Lib.hid hnv
  have HOs := Lib.hid hos
  have HOsv := Lib.hid hosv
  have HOkv := Lib.hid hokv
  have HR := Lib.hid hr
  have HRv := Lib.hid hrv
  have HC1 := Lib.hid (copyNodes_any t A n c B w hr hn hB hm hok)
  clear htab hn hok hos hr hnv hosv hokv hrv
  go_enter Tryz.func4, Tryz.ntmps4
  go_wp2_with fail
  refine (HC1.out).mono ?_
  rintro e w2 ⟨A2, c2, rfl, hO2, hb2⟩
  have HB2 := Lib.hid hb2
  obtain ⟨u, g, hug⟩ : ∃ u g, showT t = (u, g) := ⟨_, _, rfl⟩
  have HS := Lib.hid (sshow_of hug A2 n c2 _ w2 hO2.rd HN.out (Nat.le_refl _) hm HOs.out (HT.out.below hb2))
  have HUG := Lib.hid hug
  clear hb2 hO2 HC1 hug
  go_wp2_with fail
  refine (HS.out).mono ?_
  rintro e w3 ⟨rfl, hb3⟩
  have HB3 := Lib.hid (HB2.out.trans (hb3.mono HB2.out.size))
  have HC3 := Lib.hid (copyNodes_any v Av nv cv Bv w3 (HRv.out.below (HB3.out.mono hBv)) HNv.out (Nat.le_trans hBv HB3.out.size) hmv HOkv.out)
  clear hb3 HS
  go_wp2_with fail
  refine (HC3.out).mono ?_
  rintro e w4 ⟨A4, c4, rfl, hO4, hb4⟩
  have HB4 := Lib.hid (HB3.out.trans (hb4.mono HB3.out.size))
  obtain ⟨u2, g2, hug2⟩ : ∃ u g, showT v = (u, g) := ⟨_, _, rfl⟩
  have HS4 := Lib.hid (sshow_of hug2 A4 nv c4 _ w4 hO4.rd HNv.out (Nat.le_refl _) hmv HOsv.out (HT.out.below HB4.out))
  have HUG2 := Lib.hid hug2
  clear hb4 hO4 HC3 hug2
  go_wp2_with fail
  refine (HS4.out).mono ?_
  rintro e w5 ⟨rfl, hb5⟩
  have HB5 := Lib.hid (HB4.out.trans (hb5.mono HB4.out.size))
  clear hb5 HS4
  by_cases hg : g = 0
  · by_cases hg2 : g2 = 0
    · subst hg hg2
      have HSm := Lib.hid (sameNodes_any t v A Av n nv c cv B Bv w5 (HR.out.below (HB5.out.mono hB)) (HRv.out.below (HB5.out.mono hBv)) (Nat.le_trans hB HB5.out.size) (Nat.le_trans hBv HB5.out.size) HN.out HNv.out (by unfold maxLen; omega) (by unfold maxLen; omega))
      by_cases huu : u = u2
      · subst huu
        have hd : decide (t = v) = true := by
          rw [decide_eq_true_eq]
          have h1 := show_parse HUG.out
          have h2 := show_parse HUG2.out
          rw [h1] at h2
          injection h2
        rw [hd] at HSm
        clear hd HUG HUG2
        go_wp2_with fail
        refine (HSm.out).mono ?_
        rintro e w6 ⟨rfl, hb6⟩
        have HB6 := Lib.hid (HB5.out.trans (hb6.mono HB5.out.size))
        clear hb6 HSm
        go_wp2_with fail
        refine (sawake_any _ (HT.out.below HB6.out)).mono ?_
        rintro e w9 ⟨rfl, hb9⟩
        go_wp2_with fail
        go_ret
        exact ⟨by first | rfl | (simp; done), HB6.out.trans (hb9.mono HB6.out.size)⟩
      · have hd : decide (t = v) = false := by
          rw [decide_eq_false_iff_not]
          intro h
          apply huu
          have h1 := HUG.out
          rw [h, HUG2.out] at h1
          injection h1 with h1 _
          exact h1.symm
        rw [hd] at HSm
        have hul : ¬ u.toList = u2.toList := fun h => huu (toList_inj.1 h)
        clear hd HUG HUG2 huu
        go_wp2_with fail
        refine (HSm.out).mono ?_
        rintro e w6 ⟨rfl, hb6⟩
        have HB6 := Lib.hid (HB5.out.trans (hb6.mono HB5.out.size))
        clear hb6 HSm
        go_wp2_with fail
        refine (sawake_any _ (HT.out.below HB6.out)).mono ?_
        rintro e w9 ⟨rfl, hb9⟩
        go_wp2_with fail
        go_ret
        exact ⟨by first | rfl | (simp; done) | simp [hul], HB6.out.trans (hb9.mono HB6.out.size)⟩
    · subst hg
      have hgb : (g2 != 0) = true := by rw [bne_iff_ne]; exact hg2
      clear hg2 HUG HUG2
      go_wp2_with fail
      refine (sawake_any _ (HT.out.below HB5.out)).mono ?_
      rintro e w9 ⟨rfl, hb9⟩
      go_wp2_with fail
      go_ret
      exact ⟨by first | rfl | (simp; done), HB5.out.trans (hb9.mono HB5.out.size)⟩
  · have hgb : (g != 0) = true := by rw [bne_iff_ne]; exact hg
    clear hg HUG HUG2
    go_wp2_with fail
    refine (sawake_any _ (HT.out.below HB5.out)).mono ?_
    rintro e w9 ⟨rfl, hb9⟩
    go_wp2_with fail
    go_ret
    exact ⟨by first | rfl | (simp; done), HB5.out.trans (hb9.mono HB5.out.size)⟩
end Go.Proofs.YtakfnojiaakfpaaGreatDoor
