/- wave.Power; what is refused. -/
import Derived.Test.YtbnpleihhbpnlaaDoorWavF
namespace Go.Proofs.YtbnpleihhbpnlaaDoor
open Go.RowKit

def powerV (xs : List Nat) (n : Nat) : Nat := opF .add (opF .mul (lineR (xg xs) n (1 % n)) (lineR (xg xs) n (1 % n))) (opF .mul (lineI (xg xs) n (1 % n)) (lineI (xg xs) n (1 % n)))
theorem power_eqN {xs : List Nat} {n re im : Nat} (hre : EqN re (lineR (xg xs) n (1 % n))) (him : EqN im (lineI (xg xs) n (1 % n))) {W1 W2 W3 : World} :
    toN (rawF .add (rawF .mul re re W1) (rawF .mul im im W2) W3) = powerV xs n := by
  rw [eqN_toN.1 (eqN_op (eqN_op hre hre) (eqN_op him him)), toN_opF]; rfl
def PowerOut (xs : List Nat) (n : Nat) (w : World) (e : Ending) (w' : World) : Prop := e = .returned (.tuple #[.int .u64 (powerV xs n), .int .i64 0]) ∧ Below w.heap.size w w'
set_option maxRecDepth 100000 in
set_option maxHeartbeats 1000000 in
theorem power_any (xs : List Nat) (A : Option Addr) (n c B : Nat) (w : World) (hn : sizeN n) (hl : xs.length = n) (hr : Rd w B 1 A (wrdC xs)) (hB : B ≤ w.heap.size) :
    Calls Tryd.prog 10 #[.slice A n c] w (PowerOut xs n w) := by
  have HZ := fun W => Lib.hid (size_yes hn W)
  have HT := fun v W => Lib.hid (to_any v W)
  have hA := fun t x y W => run_float (P := Tryd.prog) .add rfl t x y W
  have hM := fun t x y W => run_float (P := Tryd.prog) .mul rfl t x y W
  have h0 : 0 < n := by rcases hn with rfl | rfl | rfl | rfl <;> decide
  have HL := fun j hj => Lib.hid (line_any xs A n c B j w hn hl hr hB hj)
  obtain ⟨j, hj⟩ : ∃ j, 1 % n = j := ⟨_, rfl⟩
  have hjn : j < n := by rw [← hj]; exact Nat.mod_lt _ h0
  have HL1 := HL j hjn
  have ht : Int.tmod 1 (n : Int) = (j : Int) := by rw [← hj, show (1 : Int) = ((1 : Nat) : Int) from rfl, Int.ofNat_tmod]
  have hn0 : ¬ (n : Int) = 0 := by omega
  have hn1 : ¬ n = 0 := by omega
  have Hj := Lib.hid hj
  clear hl hr hn HL hj
  go_enter Tryd.func10, Tryd.ntmps10
  go_wp2_with (first
    | (go_at_call 20; refine ((HZ _).out).mono ?_; rintro e w' ⟨rfl, rfl⟩)
    | (go_at_call 21; refine (HL1.out).mono ?_; rintro e w1 ⟨re, im, rfl, hre, him, hb1⟩; replace hre := Lib.hid hre; replace him := Lib.hid him; replace hb1 := Lib.hid hb1)
    | (go_at_call 22; refine ((HT _ _).out).mono ?_; rintro e w' ⟨rfl, rfl⟩)
    | simp only [hA, hM])
  go_ret2
  have hre' := hre.out
  have him' := him.out
  rw [← Hj.out] at hre' him'
  refine ⟨?_, below_drewN hb1.out _⟩
  rw [power_eqN hre' him']
  rfl
set_option maxRecDepth 100000 in
set_option maxHeartbeats 1000000 in
theorem power_no (A : Option Addr) (n c : Nat) (w : World) (hn : ¬ sizeN n) :
    Calls Tryd.prog 10 #[.slice A n c] w fun e w' => e = .returned (.tuple #[.int .u64 0, .int .i64 210]) ∧ w = w' := by
  have HZ := fun W => Lib.hid (size_no hn W)
  clear hn
  go_enter Tryd.func10, Tryd.ntmps10
  go_wp2_with (go_at_call 20; refine ((HZ _).out).mono ?_; rintro e w' ⟨rfl, rfl⟩)
  go_ret2
  exact ⟨rfl, rfl⟩
set_option maxRecDepth 100000 in
set_option maxHeartbeats 1000000 in
theorem spectrum_no (A : Option Addr) (n c : Nat) (w : World) (hn : ¬ sizeN n) :
    Calls Tryd.prog 9 #[.slice A n c] w fun e w' => e = .returned (.tuple #[.slice none 0 0, .slice none 0 0, .int .i64 210]) ∧ w = w' := by
  have HZ := fun W => Lib.hid (size_no hn W)
  clear hn
  go_enter Tryd.func9, Tryd.ntmps9
  go_wp2_with (go_at_call 20; refine ((HZ _).out).mono ?_; rintro e w' ⟨rfl, rfl⟩)
  go_ret3
  exact ⟨rfl, rfl⟩
end Go.Proofs.YtbnpleihhbpnlaaDoor
