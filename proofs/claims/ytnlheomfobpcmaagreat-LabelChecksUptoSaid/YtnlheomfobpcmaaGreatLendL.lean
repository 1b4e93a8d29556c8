/- Label sets lent with room behind them, and found as they were. -/
import Derived.Test.YtnlheomfobpcmaaGreatLabE
namespace Go.Proofs.YtnlheomfobpcmaaGreat
open Go.RowKit

theorem Rd.pre {w : World} {B sz : Nat} {A : Option Addr} {xs ys : List (List Value)} (h : Rd w B sz A (xs ++ ys)) : Rd w B sz A xs := by
  refine ⟨fun x hx => h.1 x (List.mem_append_left _ hx), fun hne => ?_⟩
  obtain ⟨b, o, e, hb, hc⟩ := h.2 (by simp [hne])
  refine ⟨b, o, e, hb, fun k x j v hk hv => hc k x j v ?_ hv⟩
  rw [List.getElem?_append_left (List.getElem?_eq_some_iff.1 hk).1]
  exact hk
theorem Rd.post {w : World} {B sz : Nat} {b o : Nat} {xs ys : List (List Value)} (h : Rd w B sz (some ⟨b, o, none⟩) (xs ++ ys)) : Rd w B sz (some ⟨b, o + xs.length * sz, none⟩) ys := by
  refine ⟨fun x hx => h.1 x (List.mem_append_right _ hx), fun hne => ?_⟩
  obtain ⟨b', o', e, hb, hc⟩ := h.2 (by simp [hne])
  injection e with e
  injection e with e1 e2
  subst e1 e2
  refine ⟨b, _, rfl, hb, fun k x j v hk hv => ?_⟩
  have := hc (xs.length + k) x j v (by rw [List.getElem?_append_right (by omega)]; rw [show xs.length + k - xs.length = k from by omega]; exact hk) hv
  rw [Nat.add_mul] at this
  rw [show o + xs.length * sz + k * sz + j = o + (xs.length * sz + k * sz) + j from by omega]
  exact this
theorem sameLabels_self (l : List Lab) (A1 A2 : Option Addr) (n c1 c2 B1 B2 : Nat) (w : World) (h1 : Rd w B1 2 A1 (labsC l)) (h2 : Rd w B2 2 A2 (labsC l)) (hn : l.length = n) (hm : n ≤ maxLen) :
    Calls Tryz.prog 28 #[.slice A1 n c1, .slice A2 n c2] w fun e w' => e = .returned (.bool true) ∧ ∃ n, w' = w.drewN n := by
  have h := sameLabels_any l l A1 A2 n n c1 c2 B1 B2 w h1 h2 hn hn hm hm
  rw [decide_eq_true rfl] at h
  exact h
/-- Lent: there is room behind, with two in it. -/
def LentLabels (w : World) (base : Nat) (l : List Lab) (A : Option Addr) (c : Nat) : Prop := Own w base 51 2 A (l.length + 2) c (labsC (l ++ [(⟨#[115, 112, 111, 105, 108, 116]⟩, ⟨#[115, 112, 111, 105, 108, 116]⟩), (⟨#[115, 112, 111, 105, 108, 116]⟩, ⟨#[115, 112, 111, 105, 108, 116]⟩)]))
theorem LentLabels.rd {w : World} {base : Nat} {l : List Lab} {A : Option Addr} {c : Nat} (h : LentLabels w base l A c) : Rd w w.heap.size 2 A (labsC l) := by
  have := Own.rd h
  rw [show labsC (l ++ [(⟨#[115, 112, 111, 105, 108, 116]⟩, ⟨#[115, 112, 111, 105, 108, 116]⟩), (⟨#[115, 112, 111, 105, 108, 116]⟩, ⟨#[115, 112, 111, 105, 108, 116]⟩)]) = labsC l ++ labsC [(⟨#[115, 112, 111, 105, 108, 116]⟩, ⟨#[115, 112, 111, 105, 108, 116]⟩), (⟨#[115, 112, 111, 105, 108, 116]⟩, ⟨#[115, 112, 111, 105, 108, 116]⟩)] from by simp [labsC]] at this
  exact this.pre
theorem LentLabels.belowAll {w w' : World} {base : Nat} {l : List Lab} {A : Option Addr} {c : Nat} (h : LentLabels w base l A c) (hb : Below w.heap.size w w') : LentLabels w' base l A c := Own.belowAll h hb
theorem LentLabels.grown {w w' : World} {base : Nat} {l : List Lab} {A : Option Addr} {c : Nat} {row : Option Nat} (h : LentLabels w base l A c) (hg : w.grownBy w' row) (hne : A = none ∨ A.map Addr.block ≠ row) : LentLabels w' base l A c := Own.grown h hg hne
set_option maxHeartbeats 1000000 in
theorem lendLabels_any (l : List Lab) (A1 : Option Addr) (n1 c1 B1 : Nat) (w : World) (h1 : Rd w B1 2 A1 (labsC l)) (hn1 : l.length = n1) (hB : B1 ≤ w.heap.size) (hm1 : (n1 + 2) * 32 ≤ 140737488355328) :
    Calls Tryz.prog 9 #[.slice A1 n1 c1] w fun e w' => ∃ A c, e = .returned (.slice A n1 c) ∧ LentLabels w' w.heap.size l A c ∧ Below w.heap.size w w' := by
  have HC := Lib.hid (copyLabels_any l A1 n1 c1 B1 w h1 hn1 hB (by omega))
  have Hn := Lib.hid hn1
  clear h1 hn1
  go_enter Tryz.func9, Tryz.ntmps9
  go_wp2_with fail
  refine (HC.out).mono ?_
  rintro e w1 ⟨A2, c2, rfl, ho, hb⟩
  have hz := hb.size
  have HO := Lib.hid ho
  have HB := Lib.hid hb
  clear ho hb HC
  go_wp2_with (at_builtin; go_must (refine wpList_append_rd (ys := labsC [(⟨#[115, 112, 111, 105, 108, 116]⟩, ⟨#[115, 112, 111, 105, 108, 116]⟩), (⟨#[115, 112, 111, 105, 108, 116]⟩, ⟨#[115, 112, 111, 105, 108, 116]⟩)]) _ rfl (.tmp 5) (.tmp 8) _ rfl eiLab rfl (HO.out.alloc _) rfl (Rd.new w1 (xs := labsC [(⟨#[115, 112, 111, 105, 108, 116]⟩, ⟨#[115, 112, 111, 105, 108, 116]⟩), (⟨#[115, 112, 111, 105, 108, 116]⟩, ⟨#[115, 112, 111, 105, 108, 116]⟩)]) (labsC_all _) _ rfl) rfl (labsC_one _) (by simp only [maxLen]; omega) (by omega) (by simp; omega) ?_; intro A3 c3 w3 ho3 hg3 hat3 hb3; have hcap := ho3.cap))
  go_ret
  refine ⟨A3, c3, rfl, ?_, HB.out.trans (((Below.refl _ _).alloc (by omega) _).trans hb3)⟩
  show Own _ _ _ _ _ _ _ _
  rw [Hn.out]
  simpa [labsC] using ho3
set_option maxRecDepth 100000 in
set_option maxHeartbeats 2000000 in
theorem keptLabels_any (l : List Lab) (A A2 : Option Addr) (n c n2 c2 B2 base : Nat) (w : World) (hO : LentLabels w base l A c) (hn : l.length = n) (h2 : Rd w B2 2 A2 (labsC l)) (hn2 : n = n2) (hm : (n + 2) * 32 ≤ 140737488355328) (hB2 : B2 ≤ w.heap.size) :
    Calls Tryz.prog 14 #[.slice A n c, .slice A2 n2 c2] w fun e w' => e = .returned (.bool true) ∧ w.grownBy w' (A.map Addr.block) := by
  subst hn2
  have hr := hO.rd
  have hw := hO.wr
  have hfull := Own.rd hO
  rw [show labsC (l ++ [(⟨#[115, 112, 111, 105, 108, 116]⟩, ⟨#[115, 112, 111, 105, 108, 116]⟩), (⟨#[115, 112, 111, 105, 108, 116]⟩, ⟨#[115, 112, 111, 105, 108, 116]⟩)]) = labsC l ++ labsC [(⟨#[115, 112, 111, 105, 108, 116]⟩, ⟨#[115, 112, 111, 105, 108, 116]⟩), (⟨#[115, 112, 111, 105, 108, 116]⟩, ⟨#[115, 112, 111, 105, 108, 116]⟩)] from by simp [labsC]] at hfull
  unfold LentLabels at hO
  rw [hn] at hO
  have hcap := hO.cap
  rcases hO.form with ⟨_, h0, _⟩ | ⟨g, rfl, hg1, hg2⟩
  · omega
  have hpost := hfull.post
  rw [show (labsC l).length = n from by simp [labsC, hn], Nat.zero_add] at hpost
  obtain ⟨_, _, hW⟩ := hw g 0 rfl
  have HN := Lib.hid hn
  have hS1 := fun (W : World) (hb : Below w.heap.size w W) => Lib.hid (sameLabels_self l (some ⟨g, 0, none⟩) A2 n c c2 w.heap.size B2 W (hr.below hb) (h2.below (hb.mono hB2)) hn (by simp only [maxLen]; omega))
  clear hn hr hw hfull h2
  go_enter Tryz.func14, Tryz.ntmps14
  go_wp2_with fail
  refine ((hS1 _ (Below.refl _ _)).out).mono ?_
  rintro e w1 ⟨rfl, q1, rfl⟩
  have hP1 : Rd (w.drewN q1) w.heap.size 2 (some ⟨g, n * 2, none⟩) (labsC [(⟨#[115, 112, 111, 105, 108, 116]⟩, ⟨#[115, 112, 111, 105, 108, 116]⟩), (⟨#[115, 112, 111, 105, 108, 116]⟩, ⟨#[115, 112, 111, 105, 108, 116]⟩)]) := hpost
  have hR1 : Rd ((w.drewN q1).alloc (.cells #[.string ⟨#[115, 112, 111, 105, 108, 116]⟩, .string ⟨#[115, 112, 111, 105, 108, 116]⟩, .string ⟨#[115, 112, 111, 105, 108, 116]⟩, .string ⟨#[115, 112, 111, 105, 108, 116]⟩] 51)) (w.heap.size + 1) 2 (some ⟨w.heap.size, 0, none⟩) (labsC [(⟨#[115, 112, 111, 105, 108, 116]⟩, ⟨#[115, 112, 111, 105, 108, 116]⟩), (⟨#[115, 112, 111, 105, 108, 116]⟩, ⟨#[115, 112, 111, 105, 108, 116]⟩)]) := Rd.new (w.drewN q1) (labsC_all _) _ rfl
  have HS2 := Lib.hid (sameLabels_self [(⟨#[115, 112, 111, 105, 108, 116]⟩, ⟨#[115, 112, 111, 105, 108, 116]⟩), (⟨#[115, 112, 111, 105, 108, 116]⟩, ⟨#[115, 112, 111, 105, 108, 116]⟩)] (some ⟨g, n * 2, none⟩) (some ⟨w.heap.size, 0, none⟩) 2 (c - n) 2 w.heap.size (w.heap.size + 1) ((w.drewN q1).alloc (.cells #[.string ⟨#[115, 112, 111, 105, 108, 116]⟩, .string ⟨#[115, 112, 111, 105, 108, 116]⟩, .string ⟨#[115, 112, 111, 105, 108, 116]⟩, .string ⟨#[115, 112, 111, 105, 108, 116]⟩] 51)) (hP1.below ((Below.refl w.heap.size (w.drewN q1)).alloc (Nat.le_refl _) _)) hR1 rfl (by simp [maxLen]))
  try simp only [Nat.mul_one] at HS2
  have hcn : n + 2 ≤ c := hcap.1
  clear hS1 hpost hP1 hR1
  go_wp2_with fail
  refine (HS2.out).mono ?_
  rintro e w2 ⟨rfl, q2, rfl⟩
  have hW2 : Wr (((w.drewN q1).alloc (.cells #[.string ⟨#[115, 112, 111, 105, 108, 116]⟩, .string ⟨#[115, 112, 111, 105, 108, 116]⟩, .string ⟨#[115, 112, 111, 105, 108, 116]⟩, .string ⟨#[115, 112, 111, 105, 108, 116]⟩] 51)).drewN q2) g 51 ((n + 2) * 2) := ((hW.less (m' := (n + 2) * 2) (Nat.mul_le_mul_right _ (by omega))).alloc _)
  have hG2 : w.grownBy (((w.drewN q1).alloc (.cells #[.string ⟨#[115, 112, 111, 105, 108, 116]⟩, .string ⟨#[115, 112, 111, 105, 108, 116]⟩, .string ⟨#[115, 112, 111, 105, 108, 116]⟩, .string ⟨#[115, 112, 111, 105, 108, 116]⟩] 51)).drewN q2) (some g) := grownBy_of_below (below_drewN ((below_drewN (Below.refl _ w) q1).alloc (Nat.le_refl _) _) q2)
  have HI : Hid (Wr (((w.drewN q1).alloc (.cells #[.string ⟨#[115, 112, 111, 105, 108, 116]⟩, .string ⟨#[115, 112, 111, 105, 108, 116]⟩, .string ⟨#[115, 112, 111, 105, 108, 116]⟩, .string ⟨#[115, 112, 111, 105, 108, 116]⟩] 51)).drewN q2) g 51 ((n + 2) * 2) ∧ w.grownBy (((w.drewN q1).alloc (.cells #[.string ⟨#[115, 112, 111, 105, 108, 116]⟩, .string ⟨#[115, 112, 111, 105, 108, 116]⟩, .string ⟨#[115, 112, 111, 105, 108, 116]⟩, .string ⟨#[115, 112, 111, 105, 108, 116]⟩] 51)).drewN q2) (some g)) := ⟨hW2, hG2⟩
  clear hW hW2 hG2 HS2 hO
  generalize World.drewN _ q2 = W3 at *
  go_wp2_with fail
  go_loopw [7] (fun i wr => ∃ k : Nat, i = .int .i64 k ∧ k ≤ n + 2 ∧ Hid (Wr wr g 51 ((n + 2) * 2) ∧ w.grownBy wr (some g))) (fun i _ => n + 2 - (intOf i).toNat)
  case atStart => exact ⟨0, rfl, by omega, HI⟩
  case round =>
    clear HI
    obtain ⟨k, rfl, hk, HI⟩ := hrel
    by_cases hlt : k < n + 2
    · have hltI : (k : Int) < (n : Int) + 2 := by omega
      have hltJ : (k : Int) < ((n + 2 : Nat) : Int) := by omega
      have hk0 : (0 : Int) ≤ k := by omega
      obtain ⟨v0, p0⟩ := HI.out.1.cell (j := k * 2) (by omega)
      obtain ⟨v1, p1⟩ := HI.out.1.cell (j := k * 2 + 1) (by omega)
      have hfz := HI.out.1.frozen
      have HI2 : Hid (Wr ((wr.setCell ⟨g, k * 2, none⟩ (.string ⟨#[115, 112, 111, 105, 108, 116]⟩)).setCell ⟨g, k * 2 + 1, none⟩ (.string ⟨#[115, 112, 111, 105, 108, 116]⟩)) g 51 ((n + 2) * 2) ∧ w.grownBy ((wr.setCell ⟨g, k * 2, none⟩ (.string ⟨#[115, 112, 111, 105, 108, 116]⟩)).setCell ⟨g, k * 2 + 1, none⟩ (.string ⟨#[115, 112, 111, 105, 108, 116]⟩)) (some g)) := ⟨(HI.out.1.setCell _ _).setCell _ _, grownBy_setCell (grownBy_setCell HI.out.2 (by simp) _) (by simp) _⟩
      go_wp2_with fail
      go_roundw
      case rel => exact ⟨k + 1, by go_num, by omega, HI2⟩
      case measure => simp [intOf]; omega
    · have hltI : ¬ (k : Int) < (n : Int) + 2 := by omega
      have hltJ : ¬ (k : Int) < ((n + 2 : Nat) : Int) := by omega
      go_wp2_with fail
      go_ret
      exact ⟨rfl, HI.out.2⟩
end Go.Proofs.YtnlheomfobpcmaaGreat
