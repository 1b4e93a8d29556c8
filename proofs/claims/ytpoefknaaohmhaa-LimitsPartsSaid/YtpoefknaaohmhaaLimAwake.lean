/- What every program answers that is one. -/
import Derived.Test.YtpoefknaaohmhaaLimCk
import Derived.Test.YtpoefknaaohmhaaLimRef
import Derived.Test.YtpoefknaaohmhaaNormal
namespace Go.Proofs.Ytpoefknaaohmhaa
open Go.RowKit

def awS : List Samp := [⟨[(⟨#[97]⟩, ⟨#[120]⟩)], 5, 0⟩]
theorem aw1 : limL ⟨#[97]⟩ awS 1 1 = (0, 0) := by decide +kernel
theorem aw2 : limL ⟨#[65]⟩ awS 1 1 = (0, 150) := by decide +kernel
theorem aw3 : tenantB ⟨#[97, 45, 49]⟩ = true := by decide +kernel
theorem aw4 : tenantB ⟨#[]⟩ = false := by decide +kernel
theorem aw5 : normalN 9221120237041090567 = 9221120237041090560 := by decide +kernel
theorem aw6 : normalN 9218868437227405314 = 9218868437227405314 := by decide +kernel
theorem awOk : okSamps awS := by
  intro s hs l hl
  simp [awS] at hs
  subst hs
  simp at hl
  subst hl
  exact ⟨by decide +kernel, by decide +kernel⟩
def awW (w : World) : World := (w.alloc (.cells #[.string ⟨#[97]⟩, .string ⟨#[120]⟩] 52)).alloc (.cells #[.slice (some ⟨w.heap.size, 0, none⟩) 1 1, .int .i64 5, .int .u64 0] 37)
theorem awRd (w : World) : RdSamps (awW w) (awW w).heap.size (some ⟨w.heap.size + 1, 0, none⟩) awS := by
  have hb : Below w.heap.size w (awW w) := ((Below.refl _ _).alloc (Nat.le_refl _) _).alloc (by simp) _
  refine ⟨[[.slice (some ⟨w.heap.size, 0, none⟩) 1 1, .int .i64 5, .int .u64 0]], ?_, rfl, fun k s hs => ?_⟩
  · have := Rd.new (e := 37) (w.alloc (.cells #[.string ⟨#[97]⟩, .string ⟨#[120]⟩] 52)) (sz := 3) (xs := [[.slice (some ⟨w.heap.size, 0, none⟩) 1 1, .int .i64 5, .int .u64 0]]) (by simp) #[.slice (some ⟨w.heap.size, 0, none⟩) 1 1, .int .i64 5, .int .u64 0] rfl
    simp at this
    exact this.more (by simp [awW])
  · have hk : k = 0 := by
      have := (List.getElem?_eq_some_iff.1 hs).1
      simp [awS] at this
      omega
    subst hk
    simp [awS] at hs
    subst hs
    refine ⟨_, rfl, some ⟨w.heap.size, 0, none⟩, 1, rfl, ?_, by simp, by simp [maxLen]⟩
    have h2 := Rd.new (e := 52) w (sz := 2) (xs := labsC [(⟨#[97]⟩, ⟨#[120]⟩)]) (labsC_all _) #[.string ⟨#[97]⟩, .string ⟨#[120]⟩] rfl
    exact (h2.below ((Below.refl _ _).alloc (by simp) _)).more (by simp [awW])
set_option maxRecDepth 100000 in
set_option maxHeartbeats 2000000 in
theorem limAwake_any (w : World) : Calls Try.prog 14 #[] w fun e w' => e = .returned (.bool true) ∧ Below w.heap.size w w' := by
  have h1 := aw1
  have h2 := aw2
  have h3 := aw3
  have h4 := aw4
  have h5 := aw5
  have h6 := aw6
  have hb0 : Below w.heap.size w (awW w) := ((Below.refl _ _).alloc (Nat.le_refl _) _).alloc (by simp) _
  have hs0 : (awW w).heap.size = w.heap.size + 1 + 1 := by simp [awW]
  have HS0 := Lib.hid hs0
  clear hs0
  have hT := fun (s : ByteArray) (W : World) (h : s.size ≤ maxLen) => Lib.hid (tenant1_any s W h)
  have hN := fun (v : Int) (W : World) => Lib.hid (normal_any v W)
  go_enter Try.func14, Try.ntmps14
  go_wp2_with fail
  refine (limCheck_any ⟨#[97]⟩ awS (some ⟨w.heap.size + 1, 0, none⟩) 1 1 (awW w).heap.size 0 1 1 false (awW w) (by decide +kernel) (awRd w) rfl (Nat.le_refl _) awOk).mono ?_
  rintro e w1 ⟨rfl, hb1⟩
  have hs1 := hb1.size
  go_wp2_with fail
  refine (limCheck_any ⟨#[65]⟩ awS (some ⟨w.heap.size + 1, 0, none⟩) 1 1 (awW w).heap.size 0 1 1 false w1 (by decide +kernel) ((awRd w).below hb1) rfl hs1 awOk).mono ?_
  rintro e w2 ⟨rfl, hb2⟩
  go_wp2_with (first | (go_at_call 10; refine ((hT _ _ ?z1).out).mono ?_; (case z1 => decide +kernel); rintro e w' ⟨rfl, rfl⟩) | (go_at_call 12; refine ((hN _ _).out).mono ?_; rintro e w' ⟨rfl, rfl⟩))
  go_ret
  exact ⟨by simp, hb0.trans ((hb1.mono (by have := HS0.out; omega)).trans (hb2.mono (by have := HS0.out; omega)))⟩
end Go.Proofs.Ytpoefknaaohmhaa
