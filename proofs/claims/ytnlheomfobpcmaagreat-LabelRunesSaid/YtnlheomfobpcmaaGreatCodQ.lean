/- codec: a number read: package codec's own and the document's. -/
import Derived.Test.YtnlheomfobpcmaaGreatProg
import Derived.Test.YtnlheomfobpcmaaGreatCodB
import Derived.Test.YtnlheomfobpcmaaGreatBytesL
import Derived.RegionTactic
namespace Go.Proofs.YtnlheomfobpcmaaGreat
open Go.RowKit

theorem beqT {a b : Int} (h : a = b) : (a == b) = true := by rw [h]; simp
theorem beqF {a b : Int} (h : a ≠ b) : (a == b) = false := by rw [beq_eq_false_iff_ne]; exact h
/-- What is read of a number from its k-th byte on. -/
def uintK (l : List UInt8) (a k v : Nat) : Nat × Int × Int := match getU (l.drop (a + k)) k v with
  | .error e => (0, 0, e)
  | .ok (x, m) => (x, (a : Int) + m, 0)
theorem uintK_zero {l : List UInt8} {a : Nat} (h : a ≤ l.length) : uintR l a = uintK l a 0 0 := by
  unfold uintR uintK
  rw [if_neg (by omega)]
  simp only [Nat.add_zero, Int.toNat_natCast]
  cases getU (l.drop a) 0 0 <;> rfl
theorem uintK_end {l : List UInt8} {a k v : Nat} (h : a + k = l.length) : uintK l a k v = (0, 0, 20) := by
  unfold uintK
  rw [h, List.drop_length]
  rfl
theorem uintK_bad {l : List UInt8} {a k v : Nat} {c : UInt8} (hc : l[a + k]? = some c) (h : (k = 9 ∧ 1 < c.toNat) ∨ (0 < k ∧ c.toNat = 0)) : uintK l a k v = (0, 0, 21) := by
  unfold uintK
  obtain ⟨hk, rfl⟩ := List.getElem?_eq_some_iff.1 hc
  rw [List.drop_eq_getElem_cons hk, getU, if_pos h]
theorem uintK_ok {l : List UInt8} {a k v : Nat} {c : UInt8} (hc : l[a + k]? = some c) (h : ¬ ((k = 9 ∧ 1 < c.toNat) ∨ (0 < k ∧ c.toNat = 0))) (h2 : c.toNat < 128) : uintK l a k v = (v + c.toNat % 128 * 2 ^ (7 * k), (a : Int) + k + 1, 0) := by
  unfold uintK
  obtain ⟨hk, rfl⟩ := List.getElem?_eq_some_iff.1 hc
  rw [List.drop_eq_getElem_cons hk, getU, if_neg h, if_pos h2]
  simp only [Prod.mk.injEq, true_and, and_true]
  omega
theorem uintK_go {l : List UInt8} {a k v : Nat} {c : UInt8} (hc : l[a + k]? = some c) (h : ¬ ((k = 9 ∧ 1 < c.toNat) ∨ (0 < k ∧ c.toNat = 0))) (h2 : ¬ c.toNat < 128) : uintK l a k v = uintK l a (k + 1) (v + c.toNat % 128 * 2 ^ (7 * k)) := by
  conv => lhs; unfold uintK
  obtain ⟨hk, rfl⟩ := List.getElem?_eq_some_iff.1 hc
  rw [List.drop_eq_getElem_cons hk, getU, if_neg h, if_neg h2]
  rfl
/-- The sum that is read so far stays small. -/
theorem seven_lt {v k x : Nat} (hv : v < 2 ^ (7 * k)) (hx : x < 128) : v + x * 2 ^ (7 * k) < 2 ^ (7 * (k + 1)) := by
  have hp : 2 ^ (7 * (k + 1)) = 128 * 2 ^ (7 * k) := by rw [Nat.mul_add, Nat.pow_add, Nat.mul_comm]
  have : x * 2 ^ (7 * k) ≤ 127 * 2 ^ (7 * k) := Nat.mul_le_mul_right _ (by omega)
  omega
theorem seven_64 {v k x : Nat} (hv : v < 2 ^ (7 * k)) (hx : x < 128) (hk : k ≤ 9) (h9 : k = 9 → x ≤ 1) : v + x * 2 ^ (7 * k) < 18446744073709551616 := by
  by_cases e : k = 9
  · subst e
    have : x * 2 ^ (7 * 9) ≤ 1 * 2 ^ (7 * 9) := Nat.mul_le_mul_right _ (h9 rfl)
    simp only [Nat.reduceMul, Nat.reducePow] at *
    omega
  · refine Nat.lt_of_lt_of_le (seven_lt hv hx) (Nat.le_trans (Nat.pow_le_pow_right (by omega) (show 7 * (k + 1) ≤ 63 by omega)) (by omega))
/-- 'v | uint64(c&127)<<(7*k)' -/
theorem read_step (v k : Nat) (c : UInt8) (hv : Hid (v < 2 ^ (7 * k))) (hk : k ≤ 9) (h9 : k = 9 → c.toNat ≤ 1) : bits .or .u64 (v : Int) (IntKind.u64.wrap (IntKind.u64.wrap (bits .and .u8 (c.toNat : Int) 127) * 2 ^ (7 * k))) = ((v + c.toNat % 128 * 2 ^ (7 * k) : Nat) : Int) := by
  have hc : c.toNat % 128 < 128 := Nat.mod_lt _ (by omega)
  have h := seven_64 hv.out hc hk (fun e => by have := h9 e; omega)
  have e : ((c.toNat % 128 : Nat) : Int) * 2 ^ (7 * k) = ((c.toNat % 128 * 2 ^ (7 * k) : Nat) : Int) := by push_cast; rfl
  have e0 : IntKind.u64.wrap ((c.toNat % 128 : Nat) : Int) = ((c.toNat % 128 : Nat) : Int) := by rw [IntKind.wrap_u64]; omega
  rw [u8_lo7, e0, e, IntKind.wrap_u64, Int.emod_eq_of_lt (by omega) (by omega)]
  exact u64_join v _ (7 * k) hv.out h
theorem ret_three {a a' b b' c c' : Int} (h1 : a = a') (h2 : b = b') (h3 : c = c') : Ending.returned (.tuple #[.int .u64 a, .int .i64 b, .int .i64 c]) = Ending.returned (.tuple #[.int .u64 a', .int .i64 b', .int .i64 c']) := by rw [h1, h2, h3]
set_option maxHeartbeats 4000000 in
theorem uint_any (l : List UInt8) (A : Option Addr) (n c B : Nat) (at_ : Int) (w : World) (hr : Rd w B 1 A (bytesC l)) (hn : l.length = n) (hm : n ≤ 140737488355328) (h1 : -9223372036854775808 ≤ at_) (h2 : at_ ≤ 9223372036854775807) :
    Calls Tryz.prog 70 #[.slice A n c, .int .i64 at_] w fun e w' => e = .returned (.tuple #[.int .u64 ((uintR l at_).1 : Nat), .int .i64 (uintR l at_).2.1, .int .i64 (uintR l at_).2.2]) ∧ w = w' := by
  by_cases hneg : at_ < 0
  · have HT : Hid (uintR l at_ = (0, 0, 20)) := by show _ = _; unfold uintR; rw [if_pos (.inl hneg)]
    go_enter Tryz.func70, Tryz.ntmps70
    go_wp2_with fail
    go_ret3
    exact ⟨by rw [HT.out]; rfl, rfl⟩
  · by_cases hbig : (n : Int) < at_
    · have HT : Hid (uintR l at_ = (0, 0, 20)) := by show _ = _; unfold uintR; rw [if_pos (.inr (by omega))]
      go_enter Tryz.func70, Tryz.ntmps70
      go_wp2_with fail
      go_ret3
      exact ⟨by rw [HT.out]; rfl, rfl⟩
    · obtain ⟨a, rfl⟩ : ∃ a : Nat, at_ = a := ⟨at_.toNat, by omega⟩
      have ha : a ≤ n := by omega
      have H0 := Lib.hid (uintK_zero (l := l) (a := a) (by omega))
      have Hn := Lib.hid hn
      clear hn hneg h1 h2
      have hnegI : ¬ (a : Int) < 0 := by omega
      go_enter Tryz.func70, Tryz.ntmps70
      go_wp2_with fail
      go_loop [7, 8] (fun vv kk => ∃ v k : Nat, vv = .int .u64 v ∧ kk = .int .i64 k ∧ k ≤ 9 ∧ a + k ≤ n ∧ Hid (v < 2 ^ (7 * k)) ∧ Hid (uintR l a = uintK l a k v)) (fun _ kk => 10 - (intOf kk).toNat)
      case atStart => exact ⟨0, 0, rfl, rfl, by omega, by omega, by show _ < _; simp, H0⟩
      case round =>
        clear H0
        obtain ⟨v, k, rfl, rfl, hk, hak, HV, HU⟩ := hrel
        by_cases hlt : a + k < n
        · obtain ⟨ch, hch⟩ := get_lt Hn hlt
          obtain ⟨b, o, rfl, hb, hcell⟩ := hr.at1 (bytesC_at hch)
          have hltI : (a : Int) + (k : Int) < (n : Int) := by omega
          have hltK : ¬ (n : Int) ≤ (a : Int) + (k : Int) := by omega
          have h255 : ch.toNat ≤ 255 := by have := ch.toNat_lt; omega
          rcases (show k = 0 ∨ (0 < k ∧ k < 9) ∨ k = 9 by omega) with hk2 | hk2 | hk2 <;> rcases (show ch.toNat = 0 ∨ ch.toNat = 1 ∨ (1 < ch.toNat ∧ ch.toNat < 128) ∨ 128 ≤ ch.toNat by omega) with hc2 | hc2 | hc2 | hc2
          · have b1 : ((k : Int) == 9) = false := beqF (by omega)
            have b2 : ¬ (1 < (ch.toNat : Int)) := by omega
            have b3 : ¬ 0 < k := by omega
            have b4 : ((ch.toNat : Int) == 0) = true := beqT (by omega)
            have b5 : (ch.toNat : Int) < 128 := by omega
            have H9 : Hid (k = 9 → ch.toNat ≤ 1) := by intro e; omega
            have HT := Lib.hid (HU.out.trans (uintK_ok hch (by omega) (by omega)))
            clear hk2 hc2 hch HU
            go_wp2_with fail
            go_ret3
            refine ⟨?_, rfl⟩
            rw [HT.out]
            exact ret_three (read_step v k ch HV hk H9.out) rfl rfl
          · have b1 : ((k : Int) == 9) = false := beqF (by omega)
            have b2 : ¬ (1 < (ch.toNat : Int)) := by omega
            have b3 : ¬ 0 < k := by omega
            have b4 : ((ch.toNat : Int) == 0) = false := beqF (by omega)
            have b5 : (ch.toNat : Int) < 128 := by omega
            have H9 : Hid (k = 9 → ch.toNat ≤ 1) := by intro e; omega
            have HT := Lib.hid (HU.out.trans (uintK_ok hch (by omega) (by omega)))
            clear hk2 hc2 hch HU
            go_wp2_with fail
            go_ret3
            refine ⟨?_, rfl⟩
            rw [HT.out]
            exact ret_three (read_step v k ch HV hk H9.out) rfl rfl
          · have b1 : ((k : Int) == 9) = false := beqF (by omega)
            have b2 : (1 < (ch.toNat : Int)  ) := by omega
            have b3 : ¬ 0 < k := by omega
            have b4 : ((ch.toNat : Int) == 0) = false := beqF (by omega)
            have b5 : (ch.toNat : Int) < 128 := by omega
            have H9 : Hid (k = 9 → ch.toNat ≤ 1) := by intro e; omega
            have HT := Lib.hid (HU.out.trans (uintK_ok hch (by omega) (by omega)))
            clear hk2 hc2 hch HU
            go_wp2_with fail
            go_ret3
            refine ⟨?_, rfl⟩
            rw [HT.out]
            exact ret_three (read_step v k ch HV hk H9.out) rfl rfl
          · have b1 : ((k : Int) == 9) = false := beqF (by omega)
            have b2 : (1 < (ch.toNat : Int)  ) := by omega
            have b3 : ¬ 0 < k := by omega
            have b4 : ((ch.toNat : Int) == 0) = false := beqF (by omega)
            have b5 : ¬ (ch.toNat : Int) < 128 := by omega
            have H9 : Hid (k = 9 → ch.toNat ≤ 1) := by intro e; omega
            have HK9 : Hid (k + 1 ≤ 9) := by show _ ≤ _; omega
            have HT := Lib.hid (HU.out.trans (uintK_go hch (by omega) (by omega)))
            clear hk2 hc2 hch HU
            go_wp2_with fail
            go_round
            case rel => exact ⟨v + ch.toNat % 128 * 2 ^ (7 * k), k + 1, by rw [read_step v k ch HV hk H9.out], by go_num, HK9.out, by omega, seven_lt HV.out (Nat.mod_lt _ (by omega)), HT⟩
            case measure => simp [intOf]; omega
          · have b1 : ((k : Int) == 9) = false := beqF (by omega)
            have b2 : ¬ (1 < (ch.toNat : Int)) := by omega
            have b3 : 0 < k := by omega
            have b4 : ((ch.toNat : Int) == 0) = true := beqT (by omega)
            have b5 : (ch.toNat : Int) < 128 := by omega
            have HT := Lib.hid (HU.out.trans (uintK_bad hch (by omega)))
            clear hk2 hc2 hch HU HV
            go_wp2_with fail
            go_ret3
            exact ⟨by rw [HT.out]; rfl, rfl⟩
          · have b1 : ((k : Int) == 9) = false := beqF (by omega)
            have b2 : ¬ (1 < (ch.toNat : Int)) := by omega
            have b3 : 0 < k := by omega
            have b4 : ((ch.toNat : Int) == 0) = false := beqF (by omega)
            have b5 : (ch.toNat : Int) < 128 := by omega
            have H9 : Hid (k = 9 → ch.toNat ≤ 1) := by intro e; omega
            have HT := Lib.hid (HU.out.trans (uintK_ok hch (by omega) (by omega)))
            clear hk2 hc2 hch HU
            go_wp2_with fail
            go_ret3
            refine ⟨?_, rfl⟩
            rw [HT.out]
            exact ret_three (read_step v k ch HV hk H9.out) rfl rfl
          · have b1 : ((k : Int) == 9) = false := beqF (by omega)
            have b2 : (1 < (ch.toNat : Int)  ) := by omega
            have b3 : 0 < k := by omega
            have b4 : ((ch.toNat : Int) == 0) = false := beqF (by omega)
            have b5 : (ch.toNat : Int) < 128 := by omega
            have H9 : Hid (k = 9 → ch.toNat ≤ 1) := by intro e; omega
            have HT := Lib.hid (HU.out.trans (uintK_ok hch (by omega) (by omega)))
            clear hk2 hc2 hch HU
            go_wp2_with fail
            go_ret3
            refine ⟨?_, rfl⟩
            rw [HT.out]
            exact ret_three (read_step v k ch HV hk H9.out) rfl rfl
          · have b1 : ((k : Int) == 9) = false := beqF (by omega)
            have b2 : (1 < (ch.toNat : Int)  ) := by omega
            have b3 : 0 < k := by omega
            have b4 : ((ch.toNat : Int) == 0) = false := beqF (by omega)
            have b5 : ¬ (ch.toNat : Int) < 128 := by omega
            have H9 : Hid (k = 9 → ch.toNat ≤ 1) := by intro e; omega
            have HK9 : Hid (k + 1 ≤ 9) := by show _ ≤ _; omega
            have HT := Lib.hid (HU.out.trans (uintK_go hch (by omega) (by omega)))
            clear hk2 hc2 hch HU
            go_wp2_with fail
            go_round
            case rel => exact ⟨v + ch.toNat % 128 * 2 ^ (7 * k), k + 1, by rw [read_step v k ch HV hk H9.out], by go_num, HK9.out, by omega, seven_lt HV.out (Nat.mod_lt _ (by omega)), HT⟩
            case measure => simp [intOf]; omega
          · have b1 : ((k : Int) == 9) = true := beqT (by omega)
            have b2 : ¬ (1 < (ch.toNat : Int)) := by omega
            have b3 : 0 < k := by omega
            have b4 : ((ch.toNat : Int) == 0) = true := beqT (by omega)
            have b5 : (ch.toNat : Int) < 128 := by omega
            have HT := Lib.hid (HU.out.trans (uintK_bad hch (by omega)))
            clear hk2 hc2 hch HU HV
            go_wp2_with fail
            go_ret3
            exact ⟨by rw [HT.out]; rfl, rfl⟩
          · have b1 : ((k : Int) == 9) = true := beqT (by omega)
            have b2 : ¬ (1 < (ch.toNat : Int)) := by omega
            have b3 : 0 < k := by omega
            have b4 : ((ch.toNat : Int) == 0) = false := beqF (by omega)
            have b5 : (ch.toNat : Int) < 128 := by omega
            have H9 : Hid (k = 9 → ch.toNat ≤ 1) := by intro e; omega
            have HT := Lib.hid (HU.out.trans (uintK_ok hch (by omega) (by omega)))
            clear hk2 hc2 hch HU
            go_wp2_with fail
            go_ret3
            refine ⟨?_, rfl⟩
            rw [HT.out]
            exact ret_three (read_step v k ch HV hk H9.out) rfl rfl
          · have b1 : ((k : Int) == 9) = true := beqT (by omega)
            have b2 : (1 < (ch.toNat : Int)  ) := by omega
            have b3 : 0 < k := by omega
            have b4 : ((ch.toNat : Int) == 0) = false := beqF (by omega)
            have b5 : (ch.toNat : Int) < 128 := by omega
            have HT := Lib.hid (HU.out.trans (uintK_bad hch (by omega)))
            clear hk2 hc2 hch HU HV
            go_wp2_with fail
            go_ret3
            exact ⟨by rw [HT.out]; rfl, rfl⟩
          · have b1 : ((k : Int) == 9) = true := beqT (by omega)
            have b2 : (1 < (ch.toNat : Int)  ) := by omega
            have b3 : 0 < k := by omega
            have b4 : ((ch.toNat : Int) == 0) = false := beqF (by omega)
            have b5 : ¬ (ch.toNat : Int) < 128 := by omega
            have HT := Lib.hid (HU.out.trans (uintK_bad hch (by omega)))
            clear hk2 hc2 hch HU HV
            go_wp2_with fail
            go_ret3
            exact ⟨by rw [HT.out]; rfl, rfl⟩
        · have HT := Lib.hid (HU.out.trans (uintK_end (by rw [Hn.out]; omega)))
          have hltI : ¬ (a : Int) + (k : Int) < (n : Int) := by omega
          have hltK : (n : Int) ≤ (a : Int) + (k : Int) := by omega
          go_wp2_with fail
          go_ret3
          exact ⟨by rw [HT.out]; rfl, rfl⟩
end Go.Proofs.YtnlheomfobpcmaaGreat
