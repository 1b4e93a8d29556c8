/- ShowSources: a query that means something, written anew, is read as the same tree. -/
import Derived.Test.YtakfnojiaakfpaaGreatDoorShwO
import Derived.Test.YtakfnojiaakfpaaGreatDoorNodE
namespace Go.Proofs.YtakfnojiaakfpaaGreatDoor
open Go.RowKit

theorem tcheck_of {ns : List Nod} {f : Int} (hK : (checkN ns).2.2 = f) (A1 : Option Addr) (n1 c1 B1 : Nat) (w : World) (h1 : RdNods w B1 A1 ns) (hn1 : ns.length = n1) (hB : B1 ≤ w.heap.size) (hm1 : n1 * 120 ≤ 140737488355328) (hok : ∀ x ∈ ns, okNodT x) :
    Calls Tryz.prog 15 #[.slice A1 n1 c1] w fun v w' => (∃ k a, v = .returned (.tuple #[.int .i64 k, .int .i64 a, .int .i64 f])) ∧ Below w.heap.size w w' := by
  refine (tcheck_any ns A1 n1 c1 B1 w h1 hn1 hB hm1 hok).mono ?_
  rintro e w' ⟨rfl, hb⟩
  rw [hK]
  exact ⟨⟨_, _, rfl⟩, hb⟩
theorem sshow_of {ns : List Nod} {u : ByteArray} {g : Int} (hK : showT ns = (u, g)) (A1 : Option Addr) (n1 c1 B1 : Nat) (w : World) (h1 : RdNods w B1 A1 ns) (hn1 : ns.length = n1) (hB : B1 ≤ w.heap.size) (hm1 : n1 * 120 ≤ 140737488355328) (hok : ∀ x ∈ ns, okShow x) (htab : Tab10 w) :
    Calls Tryz.prog 11 #[.slice A1 n1 c1] w fun v w' => v = .returned (.tuple #[.string u, .int .i64 g]) ∧ Below w.heap.size w w' := by
  have := sshow_any ns A1 n1 c1 B1 w h1 hn1 hB hm1 hok htab
  unfold ShowRes at this
  rw [hK] at this
  exact this
set_option maxRecDepth 100000 in
set_option maxHeartbeats 4000000 in
theorem showSources_any (s : ByteArray) (w : World) (hs0 : s.size ≤ 140737488351232) (htab : Tab10 w) : Calls Tryz.prog 6 #[.string s] w fun e w' => e = .returned (.bool true) ∧ Below w.heap.size w w' := by
  have HT := Lib.hid htab
  have hs : s.size ≤ maxLen := by unfold maxLen; omega
  have H1 := Lib.hid (parse_any s w hs (fun _ _ h => lexR_err h))
  clear htab
  go_enter Tryz.func6, Tryz.ntmps6
  go_wp2_with fail
  refine (H1.out).mono ?_
  rintro e w1 ⟨⟨A, c, rfl, hO⟩, hb1⟩
  have HB1 := Lib.hid hb1
  have HR1 := Lib.hid hO.rd
  have HOk := Lib.hid (parseR_okNod s)
  have HOs := Lib.hid (parseR_show s)
  have hlen := parseR_4096 s
  generalize (parseR s).1 = t at *
  generalize (parseR s).2.1 = at_ at *
  generalize (parseR s).2.2 = why at *
  generalize hn : t.length = n at *
  have HN := Lib.hid hn
  clear hb1 hO H1 hn
  by_cases he : why = 0
  · subst he
    have HC1 := Lib.hid (copyNodes_any t A n c _ w1 HR1.out HN.out (Nat.le_refl _) (by omega) HOk.out)
    go_wp2_with fail
    refine (HC1.out).mono ?_
    rintro e w2 ⟨A2, c2, rfl, hO2, hb2⟩
    have HB2 := Lib.hid (HB1.out.trans (hb2.mono HB1.out.size))
    have HR2 := Lib.hid (HR1.out.below hb2)
    have hz2 := hb2.size
    obtain ⟨f, hf⟩ : ∃ f, (checkN t).2.2 = f := ⟨_, rfl⟩
    have HK := Lib.hid (tcheck_of hf A2 n c2 _ w2 hO2.rd HN.out (Nat.le_refl _) (by omega) (fun x hx => (HOs.out x hx).1))
    have HFc := Lib.hid hf
    clear hb2 hO2 HC1 hf
    go_wp2_with fail
    refine (HK.out).mono ?_
    rintro e w3 ⟨⟨kk, aa, rfl⟩, hb3⟩
    have HB3 := Lib.hid (HB2.out.trans (hb3.mono HB2.out.size))
    have HR3 := Lib.hid (HR2.out.below (hb3.mono hz2))
    have hz3 : w1.heap.size ≤ w3.heap.size := Nat.le_trans hz2 hb3.size
    have HC3 := Lib.hid (copyNodes_any t A n c _ w3 HR3.out HN.out hz3 (by omega) HOk.out)
    clear hb3 HK
    go_wp2_with fail
    refine (HC3.out).mono ?_
    rintro e w4 ⟨A4, c4, rfl, hO4, hb4⟩
    have HB4 := Lib.hid (HB3.out.trans (hb4.mono HB3.out.size))
    have HR4 := Lib.hid (HR3.out.below (hb4.mono hz3))
    have hz4 : w1.heap.size ≤ w4.heap.size := Nat.le_trans hz3 hb4.size
    obtain ⟨u, g, hug⟩ : ∃ u g, showT t = (u, g) := ⟨_, _, rfl⟩
    have HS := Lib.hid (sshow_of hug A4 n c4 _ w4 hO4.rd HN.out (Nat.le_refl _) (by omega) HOs.out (HT.out.below HB4.out))
    have HGo : Hid (g = 0 → parseR u = (t, 0, 0) ∧ f = 0 ∧ u.size ≤ 4096) := by
      intro h
      have := showT_goes (ns := t) (by rw [hug]; exact h)
      rw [hug, HFc.out] at this
      exact this
    have HNo : Hid (g ≠ 0 → u = ByteArray.empty) := by
      intro h
      have := showT_fails (ns := t) (by rw [hug]; exact h)
      rw [hug] at this
      exact this.1
    clear hb4 hO4 HC3 hug
    go_wp2_with fail
    refine (HS.out).mono ?_
    rintro e w5 ⟨rfl, hb5⟩
    have HB5 := Lib.hid (HB4.out.trans (hb5.mono HB4.out.size))
    have HR5 := Lib.hid (HR4.out.below (hb5.mono hz4))
    have hz5 : w1.heap.size ≤ w5.heap.size := Nat.le_trans hz4 hb5.size
    clear hb5 HS
    by_cases hg : g = 0
    · obtain ⟨hp, rfl, hu⟩ := HGo.out hg
      subst hg
      have HP := Lib.hid (parse_to hp w5 (by omega))
      clear hp HGo HNo
      go_wp2_with fail
      refine (HP.out).mono ?_
      rintro e w6 ⟨⟨A6, c6, rfl, hO6⟩, hb6⟩
      rw [HN.out] at hO6 ⊢
      have HB6 := Lib.hid (HB5.out.trans (hb6.mono HB5.out.size))
      have HR6 := Lib.hid (HR5.out.below (hb6.mono hz5))
      have hz6 : w1.heap.size ≤ w6.heap.size := Nat.le_trans hz5 hb6.size
      have HSm := Lib.hid (sameNodes_any t t A6 A n n c6 c w6.heap.size w1.heap.size w6 hO6.rd HR6.out (Nat.le_refl _) hz6 HN.out HN.out (by unfold maxLen; omega) (by unfold maxLen; omega))
      clear hb6 hO6 HP
      go_wp2_with fail
      refine (HSm.out).mono ?_
      rintro e w7 ⟨rfl, hb7⟩
      have HB7 := Lib.hid (HB6.out.trans (hb7.mono HB6.out.size))
      have hdd : decide (t = t) = true := by simp
      clear hb7 HSm
      go_wp2_with fail
      refine (sawake_any _ (HT.out.below HB7.out)).mono ?_
      rintro e w9 ⟨rfl, hb9⟩
      go_wp2_with fail
      go_ret
      exact ⟨by first | rfl | (simp; done), HB7.out.trans (hb9.mono HB7.out.size)⟩
    · obtain rfl := HNo.out hg
      have hgb : (g != 0) = true := by rw [bne_iff_ne]; exact hg
      clear HGo HNo
      go_wp2_with fail
      refine (sawake_any _ (HT.out.below HB5.out)).mono ?_
      rintro e w9 ⟨rfl, hb9⟩
      go_wp2_with fail
      go_ret
      exact ⟨by first | rfl | (simp; done), HB5.out.trans (hb9.mono HB5.out.size)⟩
  · have heb : (why != 0) = true := by rw [bne_iff_ne]; exact he
    go_wp2_with fail
    refine (sawake_any _ (HT.out.below HB1.out)).mono ?_
    rintro e w9 ⟨rfl, hb9⟩
    go_wp2_with fail
    go_ret
    exact ⟨by first | rfl | (simp; done), HB1.out.trans (hb9.mono HB1.out.size)⟩
end Go.Proofs.YtakfnojiaakfpaaGreatDoor
