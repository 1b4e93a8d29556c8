/- Numbers and texts as bytes: the plain answer, and plain laws of it. No program in sight. -/
import Derived.Test.YtnlheomfobpcmaaGreatMem2
namespace Go.Proofs.YtnlheomfobpcmaaGreat
open Go.RowKit

/-- A number's bytes: seven bits each, the least first. -/
def putU (v : Nat) : List UInt8 := if 127 < v then UInt8.ofNat (v % 128 + 128) :: putU (v / 128) else [UInt8.ofNat v]
termination_by v
decreasing_by omega
theorem putU_big {v : Nat} (h : 127 < v) : putU v = UInt8.ofNat (v % 128 + 128) :: putU (v / 128) := by rw [putU, if_pos h]
theorem putU_small {v : Nat} (h : ¬ 127 < v) : putU v = [UInt8.ofNat v] := by rw [putU, if_neg h]
/-- A signed number as a number. -/
def zig (v : Int) : Nat := if 0 ≤ v then (2 * v).toNat else (-2 * v - 1).toNat
def zag (v : Nat) : Int := if v % 2 = 0 then ((v / 2 : Nat) : Int) else -((v / 2 : Nat) : Int) - 1
theorem zag_zig (v : Int) : zag (zig v) = v := by
  unfold zag zig
  split <;> split <;> omega
theorem zig_lt {v : Int} (h1 : -9223372036854775808 ≤ v) (h2 : v ≤ 9223372036854775807) : zig v < 18446744073709551616 := by
  unfold zig
  split <;> omega
/-- A number read from the k-th of its bytes on; v is what is read. -/
def getU : List UInt8 → Nat → Nat → Except Int (Nat × Nat)
  | [], _, _ => .error 20
  | c :: r, k, v => if (k = 9 ∧ 1 < c.toNat) ∨ (0 < k ∧ c.toNat = 0) then .error 21 else if c.toNat < 128 then .ok (v + c.toNat % 128 * 2 ^ (7 * k), k + 1) else getU r (k + 1) (v + c.toNat % 128 * 2 ^ (7 * k))
def uintR (l : List UInt8) (at_ : Int) : Nat × Int × Int :=
  if at_ < 0 ∨ (l.length : Int) < at_ then (0, 0, 20) else
  match getU (l.drop at_.toNat) 0 0 with
  | .error e => (0, 0, e)
  | .ok (v, n) => (v, at_ + n, 0)
def intR (l : List UInt8) (at_ : Int) : Int × Int × Int := (zag (uintR l at_).1, (uintR l at_).2.1, (uintR l at_).2.2)
def mkS (l : List UInt8) : ByteArray := ⟨l.toArray⟩
def textR (l : List UInt8) (at_ : Int) : ByteArray × Int × Int :=
  if (uintR l at_).2.2 ≠ 0 then (ByteArray.empty, 0, (uintR l at_).2.2)
  else if (l.length : Int) - (uintR l at_).2.1 < ((uintR l at_).1 : Int) then (ByteArray.empty, 0, 20)
  else (mkS ((l.drop (uintR l at_).2.1.toNat).take (uintR l at_).1), (uintR l at_).2.1 + (uintR l at_).1, 0)
def putText (l : List UInt8) (s : ByteArray) : List UInt8 := l ++ putU s.size ++ s.data.toList
/-- What is read lies within the bytes. -/
theorem getU_le : ∀ (l : List UInt8) (k v : Nat) (x n : Nat), getU l k v = .ok (x, n) → k < n ∧ n ≤ k + l.length
  | [], k, v, x, n, h => by simp [getU] at h
  | c :: r, k, v, x, n, h => by
    rw [getU] at h
    split at h
    · cases h
    · split at h
      · injection h with h
        injection h with h1 h2
        simp only [List.length_cons]
        omega
      · have := getU_le r (k + 1) _ x n h
        simp only [List.length_cons]
        omega
theorem getU_lt : ∀ (l : List UInt8) (k v : Nat) (x n : Nat), k ≤ 9 → v < 2 ^ (7 * k) → getU l k v = .ok (x, n) → x < 18446744073709551616
  | [], k, v, x, n, hk, hv, h => by simp [getU] at h
  | c :: r, k, v, x, n, hk, hv, h => by
    rw [getU] at h
    have hc : c.toNat % 128 < 128 := Nat.mod_lt _ (by omega)
    have hp : 2 ^ (7 * (k + 1)) = 128 * 2 ^ (7 * k) := by rw [Nat.mul_add, Nat.pow_add, Nat.mul_comm]
    split at h
    · cases h
    · rename_i hn
      have hstep : k < 9 → v + c.toNat % 128 * 2 ^ (7 * k) < 2 ^ (7 * (k + 1)) := by
        intro _
        have : c.toNat % 128 * 2 ^ (7 * k) ≤ 127 * 2 ^ (7 * k) := Nat.mul_le_mul_right _ (by omega)
        omega
      have h9 : k = 9 → v + c.toNat % 128 * 2 ^ (7 * k) < 18446744073709551616 := by
        intro e
        subst e
        have : c.toNat % 128 ≤ 1 := by omega
        have : c.toNat % 128 * 2 ^ (7 * 9) ≤ 1 * 2 ^ (7 * 9) := Nat.mul_le_mul_right _ this
        simp only [Nat.reduceMul, Nat.reducePow] at *
        omega
      split at h
      · injection h with h
        injection h with h1 h2
        subst h1
        by_cases e : k = 9
        · exact h9 e
        · refine Nat.lt_of_lt_of_le (hstep (by omega)) ?_
          exact Nat.le_trans (Nat.pow_le_pow_right (by omega) (show 7 * (k + 1) ≤ 63 by omega)) (by omega)
      · rename_i h128
        by_cases e : k = 9
        · omega
        · exact getU_lt r (k + 1) _ x n (by omega) (hstep (by omega)) h
theorem getU_err : ∀ (l : List UInt8) (k v : Nat), getU l k v ≠ .error 0
  | [], _, _ => by simp [getU]
  | c :: r, k, v => by
    rw [getU]
    split
    · simp
    · split
      · simp
      · exact getU_err r _ _
theorem uintR_ok {l : List UInt8} {at_ : Int} (h : (uintR l at_).2.2 = 0) : 0 ≤ at_ ∧ at_ < (uintR l at_).2.1 ∧ (uintR l at_).2.1 ≤ l.length ∧ (uintR l at_).1 < 18446744073709551616 := by
  unfold uintR at h ⊢
  by_cases h1 : at_ < 0 ∨ (l.length : Int) < at_
  · rw [if_pos h1] at h; simp at h
  · rw [if_neg h1] at h ⊢
    cases hg : getU (l.drop at_.toNat) 0 0 with
    | error e =>
      rw [hg] at h
      simp only at h
      subst h
      exact absurd hg (getU_err _ _ _)
    | ok p =>
      obtain ⟨x, n⟩ := p
      have a := getU_le _ _ _ _ _ hg
      have b := getU_lt _ _ _ _ _ (by omega) (by simp) hg
      rw [List.length_drop] at a
      simp only
      omega
/-- A number's bytes are read back. -/
theorem getU_putU : ∀ (x k v : Nat) (r : List UInt8), x * 2 ^ (7 * k) < 18446744073709551616 → (0 < k → 0 < x) → getU (putU x ++ r) k v = .ok (v + x * 2 ^ (7 * k), k + (putU x).length) := by
  intro x
  induction x using Nat.strongRecOn with
  | ind x ih =>
    intro k v r hx hk
    have hp : 2 ^ (7 * (k + 1)) = 128 * 2 ^ (7 * k) := by rw [Nat.mul_add, Nat.pow_add, Nat.mul_comm]
    have h0 : 0 < 2 ^ (7 * k) := Nat.pow_pos (by omega)
    by_cases hb : 127 < x
    · rw [putU_big hb, List.cons_append, getU]
      have e : (UInt8.ofNat (x % 128 + 128)).toNat = x % 128 + 128 := by rw [UInt8.toNat_ofNat']; omega
      rw [e]
      have hk9 : k < 9 := by
        rcases Nat.lt_or_ge k 9 with h | h
        · exact h
        · have h1 : 2 ^ (7 * 9) ≤ 2 ^ (7 * k) := Nat.pow_le_pow_right (by omega) (by omega)
          have h2 : 128 * 2 ^ (7 * 9) ≤ x * 2 ^ (7 * k) := Nat.mul_le_mul (by omega) h1
          simp only [Nat.reduceMul, Nat.reducePow] at h2
          omega
      rw [if_neg (by omega), if_neg (by omega)]
      have hd : x / 128 * 2 ^ (7 * (k + 1)) ≤ x * 2 ^ (7 * k) := by
        rw [hp, ← Nat.mul_assoc]
        exact Nat.mul_le_mul_right _ (by omega)
      rw [ih (x / 128) (by omega) (k + 1) _ r (by omega) (by omega)]
      have hs : x * 2 ^ (7 * k) = (x % 128) * 2 ^ (7 * k) + x / 128 * 2 ^ (7 * (k + 1)) := by
        rw [hp, ← Nat.mul_assoc, ← Nat.add_mul]
        congr 1
        omega
      rw [show (x % 128 + 128) % 128 = x % 128 from by omega, hs, List.length_cons]
      congr 2
      · omega
      · omega
    · rw [putU_small hb, List.singleton_append, getU]
      have e : (UInt8.ofNat x).toNat = x := by rw [UInt8.toNat_ofNat']; omega
      rw [e]
      have hk9 : k = 9 → x ≤ 1 := by
        intro e9
        subst e9
        rcases Nat.lt_or_ge 1 x with h | h
        · have : 2 * 2 ^ (7 * 9) ≤ x * 2 ^ (7 * 9) := Nat.mul_le_mul_right _ h
          simp only [Nat.reduceMul, Nat.reducePow] at this hx
          omega
        · exact h
      rw [if_neg (by omega), if_pos (by omega), show x % 128 = x from by omega]
      rfl
theorem putU_len (x : Nat) : 1 ≤ (putU x).length := by
  rw [putU]; split <;> simp
theorem putU_len10 : ∀ (k x : Nat), x < 2 ^ (7 * (k + 1)) → (putU x).length ≤ k + 1
  | 0, x, h => by
    rw [putU_small (by simp at h; omega)]; simp
  | k + 1, x, h => by
    by_cases hb : 127 < x
    · rw [putU_big hb, List.length_cons]
      have hp : 2 ^ (7 * (k + 1 + 1)) = 128 * 2 ^ (7 * (k + 1)) := by rw [Nat.mul_add 7 (k + 1) 1, Nat.pow_add, Nat.mul_comm]
      have := putU_len10 k (x / 128) (by omega)
      omega
    · rw [putU_small hb]; simp
theorem putU_le10 {x : Nat} (h : x < 18446744073709551616) : (putU x).length ≤ 10 := putU_len10 9 x (by simp only [Nat.reduceAdd, Nat.reduceMul, Nat.reducePow]; omega)
theorem uintR_put (h r : List UInt8) (x : Nat) (hx : x < 18446744073709551616) : uintR (h ++ putU x ++ r) h.length = (x, ((h.length + (putU x).length : Nat) : Int), 0) := by
  unfold uintR
  rw [if_neg (by simp only [List.length_append]; omega)]
  rw [show ((h.length : Int)).toNat = h.length from by omega, List.append_assoc, List.drop_left, getU_putU x 0 0 r (by simpa using hx) (by omega)]
  simp
theorem textR_put (h r : List UInt8) (s : ByteArray) (hs : s.size < 18446744073709551616) : textR (putText h s ++ r) h.length = (s, ((putText h s).length : Int), 0) := by
  unfold textR putText
  have e : h ++ putU s.size ++ s.data.toList ++ r = h ++ putU s.size ++ (s.data.toList ++ r) := by simp [List.append_assoc]
  rw [e, uintR_put h _ s.size hs]
  have hl : s.data.toList.length = s.size := by rw [Lib.size_eq]
  simp only
  rw [if_neg (by simp), if_neg (by simp only [List.length_append, hl]; omega)]
  have hto : (((h.length + (putU s.size).length : Nat) : Int)).toNat = (h ++ putU s.size).length := by rw [List.length_append]; omega
  rw [hto, List.drop_left, List.take_left' hl]
  simp only [List.length_append, hl, Prod.mk.injEq, and_true]
  exact ⟨by simp [mkS], by omega⟩
end Go.Proofs.YtnlheomfobpcmaaGreat
