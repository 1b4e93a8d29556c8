/- internal/strconv: special, atof64exact: of a number's text. -/
import Derived.Test.YtbnpleihhbpnlaaDoorWavN
import Derived.Test.YtbnpleihhbpnlaaDoorWavL
namespace Go.Proofs.YtbnpleihhbpnlaaDoor
open Go.RowKit

set_option maxRecDepth 100000 in
set_option maxHeartbeats 1000000 in
theorem special_any (s : ByteArray) (w : World) (h0 : 0 < s.size) (hd : dchar s[0] = true) : Calls Tryd.prog 52 #[.string s] w fun e w' => e = .returned (.tuple #[.float .f64 0, .int .i64 0, .bool false]) ∧ w = w' := by
  obtain ⟨h1, h2⟩ : 48 ≤ (s[0].toNat : Int) ∧ (s[0].toNat : Int) ≤ 57 := by
    rcases dclass s[0] with ⟨_, h⟩ | ⟨h1, h2, _⟩ | ⟨_, _, h⟩
    · rw [hd] at h; cases h
    · exact ⟨h1, h2⟩
    · rw [hd] at h; cases h
  have h3 : ((s.size : Int) == 0) = false := by rw [beq_eq_false_iff_ne]; omega
  have h0I : (0 : Int) < s.size := by omega
  clear hd
  go_enter Tryd.func52, Tryd.ntmps52
  go_wp2_with fail
  go_ret3
  exact ⟨rfl, rfl⟩
/-- A whole number over a power of ten. -/
def ratF (m k : Nat) : Nat := opF .quo (Ieee.double.nearest false m 0) (pow10F k)
theorem rat_zero {m : Nat} (hm : m < 9007199254740992) : Ieee.double.nearest false m 0 = ratF m 0 := by
  have h1 := val_int (n := (m : Int)) (by omega)
  rw [Int.natAbs_natCast, show decide ((m : Int) < 0) = false from decide_eq_false (by omega)] at h1
  obtain ⟨hlt, s, k, i, hr, _⟩ := h1
  have hf := fin_of hlt hr
  unfold ratF opF
  have e : floatBits .quo .f64 (Ieee.double.nearest false m 0) (pow10F 0) = some (Ieee.double.nearest false m 0) := by
    have e2 : pow10F 0 = oneF := by decide +kernel
    rw [e2]
    exact div_one hf.1 hf.2
  rw [e]; rfl
set_option maxRecDepth 100000 in
set_option maxHeartbeats 1000000 in
theorem exact_any (m k : Nat) (w : World) (hm : m < 4503599627370496) (hk : k ≤ 22) (hF : FloatMem w) :
    Calls Tryd.prog 63 #[.int .u64 m, .int .i64 (-(k : Int)), .bool false] w fun e w' => ∃ r, e = .returned (.tuple #[.float .f64 r, .bool true]) ∧ EqN r (ratF m k) ∧ ∃ n, w' = w.drewN n := by
  obtain ⟨g1, g2, R, o, c, g3, g4⟩ := hF
  have hQ := fun t x y W => run_float (P := Tryd.prog) .quo rfl t x y W
  have hsh : (m : Int) / 4503599627370496 = 0 := by omega
  have hfl : floatOfInt .f64 (m : Int) = Ieee.double.nearest false m 0 := by
    show Ieee.double.nearest (decide ((m : Int) < 0)) (m : Int).natAbs 0 = _
    rw [Int.natAbs_natCast, show decide ((m : Int) < 0) = false from decide_eq_false (by omega)]
  by_cases h0 : k = 0
  · subst h0
    have HR := Lib.hid (rat_zero (m := m) (by omega))
    go_enter Tryd.func63, Tryd.ntmps63
    go_wp2_with fail
    go_ret2
    exact ⟨_, rfl, .inl HR.out, 0, rfl⟩
  · have hk0 : 0 < k := by omega
    have hk1 : ¬ k = 0 := h0
    have hb : (-(k : Int) == 0) = false := by rw [beq_eq_false_iff_ne]; omega
    have hn : ¬ 0 < -(k : Int) := by omega
    have hn2 : -(k : Int) < 0 := by omega
    have hn3 : -22 ≤ -(k : Int) := by omega
    have hw : IntKind.i64.wrap (k : Int) = (k : Int) := by rw [IntKind.wrap_i64]; omega
    have hk23 : (k : Int) < 23 := by omega
    have gk := g4 k (by omega)
    clear h0
    go_enter Tryd.func63, Tryd.ntmps63
    go_wp2_with (simp only [hQ])
    go_ret2
    exact ⟨_, rfl, rawF_eqN .quo _ _ _, _, rfl⟩
end Go.Proofs.YtbnpleihhbpnlaaDoor
