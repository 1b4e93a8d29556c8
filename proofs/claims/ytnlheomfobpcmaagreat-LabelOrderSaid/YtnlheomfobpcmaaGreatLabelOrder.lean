/- LabelOrder: label sets are in one strict order, whatever they are. -/
import Derived.Test.YtnlheomfobpcmaaGreatLabM
import Derived.Test.YtnlheomfobpcmaaGreatLabA
namespace Go.Proofs.YtnlheomfobpcmaaGreat
open Go.RowKit

/-- What the law's last line reckons. -/
theorem order_law (a b c : List Lab) : setCmp a b = -(setCmp b a) ∧ (decide (setCmp a b = 0) = decide (a = b)) ∧ (0 < setCmp a b ∨ 0 < setCmp b c ∨ setCmp a c ≤ 0) ∧ (setCmp a b < 0 ∨ setCmp b c < 0 ∨ 0 ≤ setCmp a c) := by
  have h1 := setCmp_is.anti b a
  refine ⟨by omega, ?_, ?_, ?_⟩
  · rw [decide_eq_decide]; exact setCmp_is.eq a b
  · by_cases x : 0 < setCmp a b
    · exact .inl x
    · by_cases y : 0 < setCmp b c
      · exact .inr (.inl y)
      · exact .inr (.inr (setCmp_is.trans a b c (by omega) (by omega)))
  · by_cases x : setCmp a b < 0
    · exact .inl x
    · by_cases y : setCmp b c < 0
      · exact .inr (.inl y)
      · have h2 := setCmp_is.anti c b
        have h3 := setCmp_is.anti c a
        have := setCmp_is.trans c b a (by omega) (by omega)
        exact .inr (.inr (by omega))
set_option maxRecDepth 100000 in
set_option maxHeartbeats 8000000 in
theorem labelOrder_any (a b c : List Lab) (A1 A2 A3 : Option Addr) (n1 n2 n3 c1 c2 c3 B1 B2 B3 : Nat) (w : World) (h1 : Rd w B1 2 A1 (labsC a)) (h2 : Rd w B2 2 A2 (labsC b)) (h3 : Rd w B3 2 A3 (labsC c)) (hn1 : a.length = n1) (hn2 : b.length = n2) (hn3 : c.length = n3)
    (hB1 : B1 ≤ w.heap.size) (hB2 : B2 ≤ w.heap.size) (hB3 : B3 ≤ w.heap.size) (hm1 : n1 * 32 ≤ 140737488351232) (hm2 : n2 * 32 ≤ 140737488351232) (hm3 : n3 * 32 ≤ 140737488351232) :
    Calls Tryz.prog 5 #[.slice A1 n1 c1, .slice A2 n2 c2, .slice A3 n3 c3] w fun e w' => e = .returned (.bool true) ∧ Below w.heap.size w w' := by
  have hmx : ∀ n : Nat, n * 32 ≤ 140737488351232 → n ≤ maxLen := fun n h => by simp only [maxLen]; omega
  have hcp : ∀ (ls : List Lab) (A : Option Addr) (n c B : Nat), Rd w B 2 A (labsC ls) → ls.length = n → B ≤ w.heap.size → n * 32 ≤ 140737488351232 → ∀ W, Below w.heap.size w W →
      Hid (Calls Tryz.prog 33 #[.slice A n c] W fun e w' => ∃ A' c', e = .returned (.slice A' n c') ∧ (∀ w2, Below w'.heap.size w' w2 → Rd w2 w2.heap.size 2 A' (labsC ls)) ∧ Below W.heap.size W w') := by
    intro ls A n c B hr hn hB hm W hW
    refine (copyLabels_any ls A n c B W (hr.below (hW.mono hB)) hn (by have := hW.size; omega) (by omega)).mono ?_
    rintro e w' ⟨A', c', rfl, ho, hb⟩
    exact ⟨A', c', rfl, fun w2 h2 => (ho.belowAll h2).rd, hb⟩
  have HCpA := hcp a A1 n1 c1 B1 h1 hn1 hB1 hm1
  have HCpB := hcp b A2 n2 c2 B2 h2 hn2 hB2 hm2
  have HCpC := hcp c A3 n3 c3 B3 h3 hn3 hB3 hm3
  have hcm : ∀ (x y : List Lab) (n m : Nat), x.length = n → y.length = m → n * 32 ≤ 140737488351232 → m * 32 ≤ 140737488351232 → ∀ (W : World) (X Y : Option Addr) (d d' : Nat), Rd W W.heap.size 2 X (labsC x) → Rd W W.heap.size 2 Y (labsC y) →
      Hid (Calls Tryz.prog 32 #[.slice X n d, .slice Y m d'] W fun e w' => e = .returned (.int .i64 (setCmp x y)) ∧ (w.heap.size ≤ W.heap.size → Below w.heap.size W w')) := by
    intro x y n m hx hy hn hm W X Y d d' r1 r2
    refine (labCompare_any x y X Y n m d d' _ _ W r1 r2 hx hy (Nat.le_refl _) (Nat.le_refl _) (hmx _ hn) (hmx _ hm)).mono ?_
    rintro e w' ⟨rfl, hb⟩
    exact ⟨rfl, fun h => hb.mono h⟩
  have HCmAB := hcm a b n1 n2 hn1 hn2 hm1 hm2
  have HCmBA := hcm b a n2 n1 hn2 hn1 hm2 hm1
  have HCmBC := hcm b c n2 n3 hn2 hn3 hm2 hm3
  have HCmAC := hcm a c n1 n3 hn1 hn3 hm1 hm3
  have HRC : ∀ W, Below w.heap.size w W → Hid (Calls Tryz.prog 34 #[.slice A1 n1 c1, .slice A2 n2 c2] W fun e w' => e = .returned (.int .i64 (setCmp a b)) ∧ Below w.heap.size w w') := fun W hW => by
    refine (rcompare_any a b A1 A2 n1 n2 c1 c2 B1 B2 W (h1.below (hW.mono hB1)) (h2.below (hW.mono hB2)) hn1 hn2 (hmx _ hm1) (hmx _ hm2)).mono ?_
    rintro e w' ⟨rfl, n, rfl⟩
    exact ⟨rfl, below_drewN hW n⟩
  have HSm : ∀ W, Below w.heap.size w W → Hid (Calls Tryz.prog 28 #[.slice A1 n1 c1, .slice A2 n2 c2] W fun e w' => e = .returned (.bool (decide (setCmp a b = 0))) ∧ Below w.heap.size w w') := fun W hW => by
    refine (sameLabels_any a b A1 A2 n1 n2 c1 c2 B1 B2 W (h1.below (hW.mono hB1)) (h2.below (hW.mono hB2)) hn1 hn2 (hmx _ hm1) (hmx _ hm2)).mono ?_
    rintro e w' ⟨rfl, n, rfl⟩
    exact ⟨ret_bool (order_law a b c).2.1.symm, below_drewN hW n⟩
  have hlaw := order_law a b c
  obtain ⟨l1, _, l3, l4⟩ := hlaw
  have r1 := setCmp_rng a b
  have r2 := setCmp_rng b a
  have r3 := setCmp_rng b c
  have r4 := setCmp_rng a c
  have hb := Below.refl w.heap.size w
  have HB : ∀ {W W'}, Below w.heap.size w W → (w.heap.size ≤ W.heap.size → Below w.heap.size W W') → Below w.heap.size w W' := fun h h' => h.trans (h' h.size)
  generalize setCmp a b = x at *
  generalize setCmp b a = y at *
  generalize setCmp b c = z at *
  generalize setCmp a c = v at *
  clear h1 h2 h3 hcp hcm hn1 hn2 hn3 hmx
  go_enter Tryz.func5, Tryz.ntmps5
  go_wp2_with fail
  refine ((HCpA _ hb).out).mono ?_
  rintro e W1 ⟨X1, d1, rfl, hr1, hb1⟩
  have hbx := hb.trans (hb1.mono hb.size)
  go_wp2_with fail
  refine ((HCpB _ hbx).out).mono ?_
  rintro e W2 ⟨X2, d2, rfl, hr2, hb2⟩
  have hby := hbx.trans (hb2.mono hbx.size)
  go_wp2_with fail
  refine ((HCmAB W2 X1 X2 d1 d2 (hr1 _ hb2) (hr2 _ (Below.refl _ _))).out).mono ?_
  rintro e W3 ⟨rfl, hb3⟩
  replace hb := HB hby hb3
  clear hbx hby hb1 hb2 hb3 hr1 hr2
  go_wp2_with fail
  refine ((HCpB _ hb).out).mono ?_
  rintro e W1 ⟨X1, d1, rfl, hr1, hb1⟩
  have hbx := hb.trans (hb1.mono hb.size)
  go_wp2_with fail
  refine ((HCpA _ hbx).out).mono ?_
  rintro e W2 ⟨X2, d2, rfl, hr2, hb2⟩
  have hby := hbx.trans (hb2.mono hbx.size)
  go_wp2_with fail
  refine ((HCmBA W2 X1 X2 d1 d2 (hr1 _ hb2) (hr2 _ (Below.refl _ _))).out).mono ?_
  rintro e W3 ⟨rfl, hb3⟩
  replace hb := HB hby hb3
  clear hbx hby hb1 hb2 hb3 hr1 hr2
  go_wp2_with fail
  refine ((HCpB _ hb).out).mono ?_
  rintro e W1 ⟨X1, d1, rfl, hr1, hb1⟩
  have hbx := hb.trans (hb1.mono hb.size)
  go_wp2_with fail
  refine ((HCpC _ hbx).out).mono ?_
  rintro e W2 ⟨X2, d2, rfl, hr2, hb2⟩
  have hby := hbx.trans (hb2.mono hbx.size)
  go_wp2_with fail
  refine ((HCmBC W2 X1 X2 d1 d2 (hr1 _ hb2) (hr2 _ (Below.refl _ _))).out).mono ?_
  rintro e W3 ⟨rfl, hb3⟩
  replace hb := HB hby hb3
  clear hbx hby hb1 hb2 hb3 hr1 hr2
  go_wp2_with fail
  refine ((HCpA _ hb).out).mono ?_
  rintro e W1 ⟨X1, d1, rfl, hr1, hb1⟩
  have hbx := hb.trans (hb1.mono hb.size)
  go_wp2_with fail
  refine ((HCpC _ hbx).out).mono ?_
  rintro e W2 ⟨X2, d2, rfl, hr2, hb2⟩
  have hby := hbx.trans (hb2.mono hbx.size)
  go_wp2_with fail
  refine ((HCmAC W2 X1 X2 d1 d2 (hr1 _ hb2) (hr2 _ (Below.refl _ _))).out).mono ?_
  rintro e W3 ⟨rfl, hb3⟩
  replace hb := HB hby hb3
  clear hbx hby hb1 hb2 hb3 hr1 hr2
  clear HCpA HCpB HCpC HCmAB HCmBA HCmBC HCmAC HB
  go_upto_region 4 with fail
  clear hB1 hB2 hB3 hm1 hm2 hm3
  have hw1 : IntKind.i64.wrap (-1) = -1 := by decide
  have hw2 : IntKind.i64.wrap 1 = 1 := by decide
  obtain rfl : x = -y := l1
  rcases (show y = -1 ∨ y = 0 ∨ y = 1 by omega) with rfl | rfl | rfl <;> rcases (show z = -1 ∨ z = 0 ∨ z = 1 by omega) with rfl | rfl | rfl <;> rcases (show v = -1 ∨ v = 0 ∨ v = 1 by omega) with rfl | rfl | rfl <;> first
    | (exfalso; omega)
    | (go_wp2_with (first
        | (go_at_call 34; refine ((HRC _ hb).out).mono ?_; rintro e W1 ⟨rfl, hb1⟩)
        | (go_at_call 28; refine ((HSm _ hb1).out).mono ?_; rintro e W2 ⟨rfl, hb2⟩)
        | (go_at_call 20; refine (awake_any _).mono ?_; rintro e W3 ⟨rfl, hb3⟩))
       go_ret
       exact ⟨rfl, hb2.trans (hb3.mono hb2.size)⟩)
end Go.Proofs.YtnlheomfobpcmaaGreat
