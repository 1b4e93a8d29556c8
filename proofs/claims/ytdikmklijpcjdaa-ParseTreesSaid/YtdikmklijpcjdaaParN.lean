/- How a query is read: words found in lists; which words are kept. -/
import Derived.Test.YtdikmklijpcjdaaParX
namespace Go.Proofs.Ytdikmklijpcjdaa
open Go.RowKit

theorem numF_at {w : ByteArray} : ∀ (l : List ByteArray) (st k : Nat) (x : ByteArray), (∀ j y, j < k → l[j]? = some y → ¬ (y = w ∧ w ≠ ByteArray.empty)) → l[k]? = some x → x = w → w ≠ ByteArray.empty → numF st l w = ((st + k : Nat) : Int)
  | [], st, k, x, _, hx, _, _ => by simp at hx
  | y :: r, st, 0, x, _, hx, he, hw => by
    simp at hx
    subst hx
    rw [numF, if_pos ⟨he, hw⟩]
    simp
  | y :: r, st, k + 1, x, hb, hx, he, hw => by
    rw [numF, if_neg (hb 0 y (by omega) rfl), numF_at r (st + 1) k x (fun j z hj hz => hb (j + 1) z (by omega) (by simpa using hz)) (by simpa using hx) he hw]
    congr 1
    omega
theorem numF_none {w : ByteArray} : ∀ (l : List ByteArray) (st : Nat), (∀ j y, j < l.length → l[j]? = some y → ¬ (y = w ∧ w ≠ ByteArray.empty)) → numF st l w = 0
  | [], _, _ => rfl
  | y :: r, st, hb => by
    rw [numF, if_neg (hb 0 y (by simp) rfl)]
    exact numF_none r (st + 1) fun j z hj hz => hb (j + 1) z (Nat.succ_lt_succ hj) (by simpa using hz)
theorem num_step {l : List ByteArray} {w : ByteArray} {k : Nat} {x : ByteArray} (hb : Hid (∀ j y, j < k → l[j]? = some y → ¬ (y = w ∧ w ≠ ByteArray.empty))) (h : l[k]? = some x) (he : ¬ (x = w ∧ w ≠ ByteArray.empty)) : Hid (∀ j y, j < k + 1 → l[j]? = some y → ¬ (y = w ∧ w ≠ ByteArray.empty)) := by
  intro j y hj hy
  by_cases e : j = k
  · subst e
    rw [h] at hy
    injection hy with hy
    subst hy
    exact he
  · exact hb j y (by omega) hy
theorem empty_size {w : ByteArray} : w = ByteArray.empty ↔ ¬ 1 ≤ w.size := by
  constructor
  · rintro rfl; decide
  · intro h
    apply WideShapes.bytes_inj
    have : w.data.toList = [] := by
      apply List.eq_nil_of_length_eq_zero
      have := Lib.size_eq w
      omega
    rw [this]
    rfl
set_option maxHeartbeats 1000000 in
theorem number_any_p (l : List ByteArray) (wd : ByteArray) (A : Option Addr) (n c B : Nat) (w : World) (hr : Rd w B 1 A (textsC l)) (hn : l.length = n) (hm : n ≤ maxLen) :
    Calls Try.prog 68 #[.slice A n c, .string wd] w fun e w' => e = .returned (.int .i64 (numW l wd)) ∧ w = w' := by
  unfold maxLen at hm
  have Hn := Lib.hid hn
  clear hn
  by_cases hw : 1 ≤ wd.size
  · have hwe : wd.toList.isEmpty = false := isEmpty_no hw
    have hwn : wd ≠ ByteArray.empty := fun e => empty_size.1 e hw
    have HW := Lib.hid hwn
    clear hwn
    go_enter Try.func68, Try.ntmps68
    go_wp2_with fail
    go_loop [9] (fun i => ∃ k : Nat, i = .int .i64 k ∧ k ≤ n ∧ Hid (∀ j y, j < k → l[j]? = some y → ¬ (y = wd ∧ wd ≠ ByteArray.empty))) (fun i => n - (intOf i).toNat)
    case atStart => exact ⟨0, rfl, by omega, fun j m hj => by omega⟩
    case round =>
      obtain ⟨k, rfl, hk, HA⟩ := hrel
      by_cases hlt : k < n
      · obtain ⟨x, hl⟩ := get_lt Hn hlt
        obtain ⟨b, o, rfl, hbB, g0⟩ := hr.at1 (textsC_at hl)
        have hltI : (k : Int) < (n : Int) := by omega
        by_cases he : x = wd
        · have HT : Hid (numW l wd = (k : Int)) := by show _ = _; rw [numW, numF_at l 0 k x HA.out hl he HW.out]; simp
          have heb : (x.toList == wd.toList) = true := by rw [beq_toList]; exact decide_eq_true he
          clear hl he HA
          go_wp2_with fail
          go_ret
          exact ⟨ret_int HT.out.symm, rfl⟩
        · have heb : (x.toList == wd.toList) = false := by rw [beq_toList]; exact decide_eq_false he
          have HA2 := num_step HA hl (fun h => he h.1)
          clear hl he HA
          go_wp2_with fail
          go_round
          case rel => exact ⟨k + 1, by go_num, by omega, HA2⟩
          case measure => simp [intOf]; omega
      · have hkn : k = n := by omega
        subst hkn
        have HT : Hid (numW l wd = 0) := numF_none l 0 (fun j y hj hy => HA.out j y (by have := Hn.out; omega) hy)
        go_wp2_with fail
        go_ret
        exact ⟨ret_int HT.out.symm, rfl⟩
  · have hwe : wd.toList.isEmpty = true := isEmpty_yes hw
    have hw0 := empty_size.2 hw
    have HT : Hid (numW l wd = 0) := numF_none l 0 (fun j y hj hy h => h.2 hw0)
    clear hw0
    go_enter Try.func68, Try.ntmps68
    go_wp2_with fail
    go_loop [9] (fun i => ∃ k : Nat, i = .int .i64 k ∧ k ≤ n) (fun i => n - (intOf i).toNat)
    case atStart => exact ⟨0, rfl, by omega⟩
    case round =>
      obtain ⟨k, rfl, hk⟩ := hrel
      by_cases hlt : k < n
      · obtain ⟨x, hl⟩ := get_lt Hn hlt
        obtain ⟨b, o, rfl, hbB, g0⟩ := hr.at1 (textsC_at hl)
        have hltI : (k : Int) < (n : Int) := by omega
        clear hl
        by_cases he : x = wd
        · have heb : (x.toList == wd.toList) = true := by rw [beq_toList]; exact decide_eq_true he
          clear he
          go_wp2_with fail
          go_round
          case rel => exact ⟨k + 1, by go_num, by omega⟩
          case measure => simp [intOf]; omega
        · have heb : (x.toList == wd.toList) = false := by rw [beq_toList]; exact decide_eq_false he
          clear he
          go_wp2_with fail
          go_round
          case rel => exact ⟨k + 1, by go_num, by omega⟩
          case measure => simp [intOf]; omega
      · have hkn : k = n := by omega
        subst hkn
        go_wp2_with fail
        go_ret
        exact ⟨ret_int HT.out.symm, rfl⟩
/-- A list of words, newly made. -/
def WordsOut (l : List ByteArray) (n : Nat) (w : World) (e : Ending) (w' : World) : Prop := e = .returned (.slice (some ⟨w.heap.size, 0, none⟩) n n) ∧ Rd w' (w.heap.size + 1) 1 (some ⟨w.heap.size, 0, none⟩) (textsC l) ∧ Below w.heap.size w w'
set_option maxHeartbeats 1000000 in
theorem pops_any (w : World) : Calls Try.prog 69 #[] w (WordsOut opsL 14 w) := by
  go_enter Try.func69, Try.ntmps69
  go_wp2_with fail
  go_ret
  exact ⟨rfl, Rd.new w (textsC_sz _) _ rfl, (Below.refl _ _).alloc (Nat.le_refl _) _⟩
set_option maxHeartbeats 1000000 in
theorem pfuncs_any (w : World) : Calls Try.prog 96 #[] w (WordsOut funcsL 13 w) := by
  go_enter Try.func96, Try.ntmps96
  go_wp2_with fail
  go_ret
  exact ⟨rfl, Rd.new w (textsC_sz _) _ rfl, (Below.refl _ _).alloc (Nat.le_refl _) _⟩
set_option maxHeartbeats 1000000 in
theorem paggs_any (w : World) : Calls Try.prog 97 #[] w (WordsOut aggsL 6 w) := by
  go_enter Try.func97, Try.ntmps97
  go_wp2_with fail
  go_ret
  exact ⟨rfl, Rd.new w (textsC_sz _) _ rfl, (Below.refl _ _).alloc (Nat.le_refl _) _⟩
theorem numops_any (wd : ByteArray) (w : World) (g : Nat) (hr : Rd w (g + 1) 1 (some ⟨g, 0, none⟩) (textsC opsL)) :
    Calls Try.prog 68 #[.slice (some ⟨g, 0, none⟩) 14 14, .string wd] w fun e w' => e = .returned (.int .i64 (numW opsL wd)) ∧ w = w' := number_any_p opsL wd (some ⟨g, 0, none⟩) 14 14 (g + 1) w hr rfl (by simp [maxLen])
theorem numfuncs_any (wd : ByteArray) (w : World) (g : Nat) (hr : Rd w (g + 1) 1 (some ⟨g, 0, none⟩) (textsC funcsL)) :
    Calls Try.prog 68 #[.slice (some ⟨g, 0, none⟩) 13 13, .string wd] w fun e w' => e = .returned (.int .i64 (numW funcsL wd)) ∧ w = w' := number_any_p funcsL wd (some ⟨g, 0, none⟩) 13 13 (g + 1) w hr rfl (by simp [maxLen])
theorem numaggs_any (wd : ByteArray) (w : World) (g : Nat) (hr : Rd w (g + 1) 1 (some ⟨g, 0, none⟩) (textsC aggsL)) :
    Calls Try.prog 68 #[.slice (some ⟨g, 0, none⟩) 6 6, .string wd] w fun e w' => e = .returned (.int .i64 (numW aggsL wd)) ∧ w = w' := number_any_p aggsL wd (some ⟨g, 0, none⟩) 6 6 (g + 1) w hr rfl (by simp [maxLen])
theorem numF_nonneg (w : ByteArray) : ∀ (l : List ByteArray) (st : Nat), 0 ≤ numF st l w
  | [], _ => by simp [numF]
  | x :: r, st => by
    rw [numF]
    split
    · omega
    · exact numF_nonneg w r (st + 1)
theorem numF_le (w : ByteArray) : ∀ (l : List ByteArray) (st : Nat), numF st l w ≤ ((st + l.length : Nat) : Int)
  | [], st => by simp [numF]
  | x :: r, st => by
    rw [numF]
    split
    · simp only [List.length_cons]; omega
    · have := numF_le w r (st + 1)
      simp only [List.length_cons]
      omega
theorem numW_bd (l : List ByteArray) (w : ByteArray) : 0 ≤ numW l w ∧ numW l w ≤ l.length := by
  have := numF_le w l 0
  exact ⟨numF_nonneg w l 0, by rw [numW]; simpa using this⟩
end Go.Proofs.Ytdikmklijpcjdaa
