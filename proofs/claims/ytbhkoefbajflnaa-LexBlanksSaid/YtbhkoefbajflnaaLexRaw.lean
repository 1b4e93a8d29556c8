/- A token's bytes in a text. -/
import Derived.Test.YtbhkoefbajflnaaLexA
import Derived.Test.YtbhkoefbajflnaaLexLaid
namespace Go.Proofs.Ytbhkoefbajflnaa
open Go.RowKit

theorem blank_no' {c : UInt8} (h : blankB c = false) : ((c.toNat : Int) == 32) = false ∧ ((c.toNat : Int) == 9) = false ∧ ((c.toNat : Int) == 13) = false ∧ ((c.toNat : Int) == 10) = false := by
  simp [blankB] at h
  refine ⟨?_, ?_, ?_, ?_⟩ <;> (rw [beq_eq_false_iff_ne]; omega)
theorem ext_eq {s : ByteArray} {j k : Nat} (h : j = k) (a : Nat) : s.extract a j = s.extract a k := by rw [h]
set_option maxRecDepth 100000 in
set_option maxHeartbeats 2000000 in
theorem raw_any (s : ByteArray) (ts : List Tok) (A : Option Addr) (n c B i m a e : Nat) (t u : Tok) (w : World) (hr : Rd w B 4 A (toksC ts)) (h0 : ts[i]? = some t) (h1 : ts[i + 1]? = some u) (ha : t.at_ = a) (he : u.at_ = e) (hin : i + 1 < n) (hn : n ≤ 1000000) (hm : 1 ≤ m) (hme : a + m ≤ e) (hes : e ≤ s.size) (hs : s.size ≤ 140737488351232)
    (hb : ∀ j (hj : j < s.size), a + m ≤ j → j < e → blankB s[j] = true) (hl : ∀ j (hj : j < s.size), j + 1 = a + m → blankB s[j] = false) :
    Calls Try.prog 19 #[.string s, .slice A n c, .int .i64 (i : Int)] w fun e w' => e = .returned (.string (s.extract a (a + m))) ∧ w = w' := by
  obtain ⟨b, o, rfl, hlt, p0, p1, p2, p3⟩ := hr.at_tok h0
  obtain ⟨b', o', hA, hlt', q0, q1, q2, q3⟩ := hr.at_tok h1
  injection hA with hA; injection hA with hA1 hA2
  subst hA1 hA2
  rw [ha] at p1
  rw [he] at q1
  have HB := Lib.hid hb
  have HL := Lib.hid hl
  have hi0 : (0 : Int) ≤ i := by omega
  have hiI : (i : Int) + 1 < n := by omega
  have hiJ : (i : Int) < n := by omega
  clear p0 p2 p3 q0 q2 q3 ha he hb hl h0 h1
  go_enter Try.func19, Try.ntmps19
  go_wp2_with fail
  go_loop [7] (fun x => ∃ j : Nat, a + m ≤ j ∧ j ≤ e ∧ x = .int .i64 j) (fun x => (intOf x).toNat)
  case atStart => exact ⟨e, hme, Nat.le_refl _, rfl⟩
  case round =>
    obtain ⟨j, hj1, hj2, rfl⟩ := hrel
    obtain ⟨j', rfl⟩ : ∃ j', j = j' + 1 := ⟨j - 1, by omega⟩
    have hjs : j' < s.size := by omega
    have haj : (a : Int) < ((j' + 1 : Nat) : Int) := by omega
    have haj' : (a : Int) < (j' : Int) + 1 := by omega
    have haj2 : a < j' + 1 := by omega
    have hj0 : (0 : Int) ≤ (j' : Int) := by omega
    have hjI : (j' : Int) < s.size := by omega
    by_cases hst : a + m ≤ j'
    · have hbl := HB.out j' hjs hst (by omega)
      have hq : s[j'].toNat = 32 ∨ s[j'].toNat = 9 ∨ s[j'].toNat = 13 ∨ s[j'].toNat = 10 := by simp [blankB] at hbl; omega
      clear hbl
      rcases hq with hq | hq | hq | hq
      · have hqI : (s[j'].toNat : Int) = 32 := by omega
        clear hq
        go_wp2_with fail
        go_round
        case rel => exact ⟨j', hst, by omega, by go_num⟩
        case measure => simp [intOf]
      · have hqI : (s[j'].toNat : Int) = 9 := by omega
        clear hq
        go_wp2_with fail
        go_round
        case rel => exact ⟨j', hst, by omega, by go_num⟩
        case measure => simp [intOf]
      · have hqI : (s[j'].toNat : Int) = 13 := by omega
        clear hq
        go_wp2_with fail
        go_round
        case rel => exact ⟨j', hst, by omega, by go_num⟩
        case measure => simp [intOf]
      · have hqI : (s[j'].toNat : Int) = 10 := by omega
        clear hq
        go_wp2_with fail
        go_round
        case rel => exact ⟨j', hst, by omega, by go_num⟩
        case measure => simp [intOf]
    · obtain ⟨n1, n2, n3, n4⟩ := blank_no' (HL.out j' hjs (by omega))
      have HE : Hid (j' + 1 = a + m) := by show _ = _; omega
      have hjs' : (j' : Int) + 1 ≤ s.size := by omega
      have haj3 : (a : Int) ≤ (j' : Int) + 1 := by omega
      have haj4 : (a : Int) ≤ ((j' + 1 : Nat) : Int) := by omega
      clear hst
      go_wp2_with fail
      go_ret
      exact ⟨by rw [← HE.out]; rfl, rfl⟩
end Go.Proofs.Ytbhkoefbajflnaa
