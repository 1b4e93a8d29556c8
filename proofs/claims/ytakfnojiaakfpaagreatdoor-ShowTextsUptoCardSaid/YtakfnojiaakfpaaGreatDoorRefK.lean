/- How the document reads a query: words in lists; kept words. -/
import Derived.Test.YtakfnojiaakfpaaGreatDoorParP
namespace Go.Proofs.YtakfnojiaakfpaaGreatDoor
open Go.RowKit
def idxF : Nat → List ByteArray → ByteArray → Int
  | _, [], _ => -1
  | k, x :: r, w => if x = w then k else idxF (k + 1) r w
def idxI (l : List ByteArray) (w : ByteArray) : Int := idxF 0 l w
theorem idxF_at {w : ByteArray} : ∀ (l : List ByteArray) (st k : Nat) (x : ByteArray), (∀ j y, j < k → l[j]? = some y → ¬ y = w) → l[k]? = some x → x = w → idxF st l w = ((st + k : Nat) : Int)
  | [], st, k, x, _, hx, _ => by simp at hx
  | y :: r, st, 0, x, _, hx, he => by
    simp at hx
    subst hx
    rw [idxF, if_pos he]
    simp
  | y :: r, st, k + 1, x, hb, hx, he => by
    rw [idxF, if_neg (hb 0 y (by omega) rfl), idxF_at r (st + 1) k x (fun j z hj hz => hb (j + 1) z (by omega) (by simpa using hz)) (by simpa using hx) he]
    congr 1
    omega
theorem idxF_none {w : ByteArray} : ∀ (l : List ByteArray) (st : Nat), (∀ j y, j < l.length → l[j]? = some y → ¬ y = w) → idxF st l w = -1
  | [], _, _ => rfl
  | y :: r, st, hb => by
    rw [idxF, if_neg (hb 0 y (by simp) rfl)]
    exact idxF_none r (st + 1) fun j z hj hz => hb (j + 1) z (Nat.succ_lt_succ hj) (by simpa using hz)
theorem idxF_num (w : ByteArray) : ∀ (l : List ByteArray) (st : Nat), (∀ x ∈ l, x ≠ ByteArray.empty) → numF (st + 1) l w = idxF st l w + 1 ∨ (idxF st l w = -1 ∧ numF (st + 1) l w = 0)
  | [], st, _ => .inr ⟨rfl, rfl⟩
  | x :: r, st, h => by
    by_cases hx : x = w
    · left
      have : w ≠ ByteArray.empty := hx ▸ h x (by simp)
      rw [numF, if_pos ⟨hx, this⟩, idxF, if_pos hx]
      omega
    · rw [numF, if_neg (fun hh => hx hh.1), idxF, if_neg hx]
      exact idxF_num w r (st + 1) fun y hy => h y (List.mem_cons_of_mem _ hy)
theorem idx_num {l : List ByteArray} (h : l.all (fun x => decide (x ≠ ByteArray.empty)) = true) (w : ByteArray) : numW (ByteArray.empty :: l) w = idxI l w + 1 := by
  rw [numW, numF, if_neg (fun hh => hh.2 hh.1.symm)]
  rcases idxF_num w l 0 (fun x hx => of_decide_eq_true (List.all_eq_true.1 h x hx)) with h1 | ⟨h1, h2⟩
  · exact h1
  · rw [idxI, h1, h2]; rfl
theorem idxF_bd (w : ByteArray) : ∀ (l : List ByteArray) (st : Nat), -1 ≤ idxF st l w ∧ idxF st l w < ((st + l.length : Nat) : Int)
  | [], st => by simp [idxF]; omega
  | x :: r, st => by
    rw [idxF]
    split
    · simp only [List.length_cons]; omega
    · have := idxF_bd w r (st + 1)
      simp only [List.length_cons]
      omega
theorem idxF_any (w : ByteArray) : ∀ (l : List ByteArray) (st : Nat), l.any (fun x => decide (w = x)) = decide (0 ≤ idxF st l w)
  | [], st => by simp [idxF]
  | x :: r, st => by
    rw [List.any_cons, idxF]
    by_cases hx : x = w
    · rw [if_pos hx, decide_eq_true hx.symm]
      simp
    · rw [if_neg hx, decide_eq_false (fun h => hx h.symm), Bool.false_or]
      exact idxF_any w r (st + 1)
def funcsR : List ByteArray := funcsL.drop 1
def aggsR : List ByteArray := aggsL.drop 1
theorem funcs_num (w : ByteArray) : numW funcsL w = idxI funcsR w + 1 := idx_num (l := funcsR) (by kernel_rfl) w
theorem aggs_num (w : ByteArray) : numW aggsL w = idxI aggsR w + 1 := idx_num (l := aggsR) (by kernel_rfl) w
theorem keptB_eq (w : ByteArray) : keptB w = (decide (0 ≤ idxI funcsR w) || decide (0 ≤ idxI aggsR w) || decide (0 ≤ idxI keptL w)) := by
  rw [keptB, funcs_num, aggs_num, idxI, idxI, idxI, idxF_any w keptL 0]
  have e : ∀ x : Int, decide (0 < x + 1) = decide (0 ≤ x) := fun x => by by_cases h : 0 ≤ x <;> simp [h] <;> omega
  rw [e, e]
  cases decide (0 ≤ idxF 0 keptL w) <;> cases decide (0 ≤ idxF 0 funcsR w) <;> cases decide (0 ≤ idxF 0 aggsR w) <;> rfl
theorem idx_step {l : List ByteArray} {w : ByteArray} {k : Nat} {x : ByteArray} (hb : Hid (∀ j y, j < k → l[j]? = some y → ¬ y = w)) (h : l[k]? = some x) (he : ¬ x = w) : Hid (∀ j y, j < k + 1 → l[j]? = some y → ¬ y = w) := by
  intro j y hj hy
  by_cases e : j = k
  · subst e
    rw [h] at hy
    injection hy with hy
    subst hy
    exact he
  · exact hb j y (by omega) hy
set_option maxHeartbeats 1000000 in
theorem index_any (l : List ByteArray) (wd : ByteArray) (A : Option Addr) (n c B : Nat) (w : World) (hr : Rd w B 1 A (textsC l)) (hn : l.length = n) (hm : n ≤ maxLen) :
    Calls Tryz.prog 127 #[.slice A n c, .string wd] w fun e w' => e = .returned (.int .i64 (idxI l wd)) ∧ w = w' := by
  unfold maxLen at hm
  have Hn := Lib.hid hn
  clear hn
  go_enter Tryz.func127, Tryz.ntmps127
  go_wp2_with fail
  go_loop [5] (fun i => ∃ k : Nat, i = .int .i64 k ∧ k ≤ n ∧ Hid (∀ j y, j < k → l[j]? = some y → ¬ y = wd)) (fun i => n - (intOf i).toNat)
  case atStart => exact ⟨0, rfl, by omega, fun j m hj => by omega⟩
  case round =>
    obtain ⟨k, rfl, hk, HA⟩ := hrel
    by_cases hlt : k < n
    · obtain ⟨x, hl⟩ := get_lt Hn hlt
      obtain ⟨b, o, rfl, hbB, g0⟩ := hr.at1 (textsC_at hl)
      have hltI : (k : Int) < (n : Int) := by omega
      by_cases he : x = wd
      · have HT : Hid (idxI l wd = (k : Int)) := by show _ = _; rw [idxI, idxF_at l 0 k x HA.out hl he]; simp
        have heb : (x.toList == wd.toList) = true := by rw [beq_toList]; exact decide_eq_true he
        clear hl he HA
        go_wp2_with fail
        go_ret
        exact ⟨ret_int HT.out.symm, rfl⟩
      · have heb : (x.toList == wd.toList) = false := by rw [beq_toList]; exact decide_eq_false he
        have HA2 := idx_step HA hl he
        clear hl he HA
        go_wp2_with fail
        go_round
        case rel => exact ⟨k + 1, by go_num, by omega, HA2⟩
        case measure => simp [intOf]; omega
    · have hkn : k = n := by omega
      subst hkn
      have HT : Hid (idxI l wd = -1) := idxF_none l 0 (fun j y hj hy => HA.out j y (by have := Hn.out; omega) hy)
      go_wp2_with fail
      go_ret
      exact ⟨ret_int HT.out.symm, rfl⟩
set_option maxHeartbeats 1000000 in
theorem rFuncs_any (w : World) : Calls Tryz.prog 37 #[] w (WordsOut funcsR 12 w) := by
  go_enter Tryz.func37, Tryz.ntmps37
  go_wp2_with fail
  go_ret
  exact ⟨rfl, Rd.new w (textsC_sz _) _ rfl, (Below.refl _ _).alloc (Nat.le_refl _) _⟩
set_option maxHeartbeats 1000000 in
theorem rAggs_any (w : World) : Calls Tryz.prog 38 #[] w (WordsOut aggsR 5 w) := by
  go_enter Tryz.func38, Tryz.ntmps38
  go_wp2_with fail
  go_ret
  exact ⟨rfl, Rd.new w (textsC_sz _) _ rfl, (Below.refl _ _).alloc (Nat.le_refl _) _⟩
set_option maxHeartbeats 2000000 in
theorem rKept_any (wd : ByteArray) (w : World) : Calls Tryz.prog 110 #[.string wd] w fun e w' => e = .returned (.bool (keptB wd)) ∧ Below w.heap.size w w' := by
  have HK := Lib.hid (keptB_eq wd)
  have b1 := idxF_bd wd funcsR 0
  have b2 := idxF_bd wd aggsR 0
  have b3 := idxF_bd wd keptL 0
  have HI := fun (l : List ByteArray) (A : Option Addr) (n c B : Nat) (W : World) (hr : Rd W B 1 A (textsC l)) (hn : l.length = n) (hm : n ≤ maxLen) => Lib.hid (index_any l wd A n c B W hr hn hm)
  change -1 ≤ idxI funcsR wd ∧ _ at b1
  change -1 ≤ idxI aggsR wd ∧ _ at b2
  change -1 ≤ idxI keptL wd ∧ _ at b3
  go_enter Tryz.func110, Tryz.ntmps110
  go_wp2_with fail
  refine (rFuncs_any _).mono ?_
  rintro e w1 ⟨rfl, hr1, hb1⟩
  have HR1 := Lib.hid hr1
  have HB1 := Lib.hid hb1
  clear hr1 hb1
  go_wp2_with fail
  refine ((HI funcsR _ 12 12 _ w1 HR1.out rfl (by simp [maxLen])).out).mono ?_
  rintro e w2 ⟨rfl, rfl⟩
  by_cases h1 : 0 ≤ idxI funcsR wd
  · have HT : Hid (keptB wd = true) := by show _ = _; rw [HK.out, decide_eq_true h1]; rfl
    clear HK b1 b2 b3
    go_wp2_with fail
    go_ret
    exact ⟨ret_bool HT.out.symm, HB1.out⟩
  · have HK2 : Hid (keptB wd = (decide (0 ≤ idxI aggsR wd) || decide (0 ≤ idxI keptL wd))) := by show _ = _; rw [HK.out, decide_eq_false h1, Bool.false_or]
    clear HK b1
    go_wp2_with fail
    refine (rAggs_any _).mono ?_
    rintro e w3 ⟨rfl, hr3, hb3⟩
    have HR3 := Lib.hid hr3
    have HB3 := Lib.hid (HB1.out.trans (hb3.mono HB1.out.size))
    clear hr3 hb3
    go_wp2_with fail
    refine ((HI aggsR _ 5 5 _ w3 HR3.out rfl (by simp [maxLen])).out).mono ?_
    rintro e w4 ⟨rfl, rfl⟩
    by_cases h2 : 0 ≤ idxI aggsR wd
    · have HT : Hid (keptB wd = true) := by show _ = _; rw [HK2.out, decide_eq_true h2]; rfl
      clear HK2 b2 b3
      go_wp2_with fail
      go_ret
      exact ⟨ret_bool HT.out.symm, HB3.out⟩
    · have HT : Hid (keptB wd = decide (0 ≤ idxI keptL wd)) := by show _ = _; rw [HK2.out, decide_eq_false h2, Bool.false_or]
      clear HK2 b2
      have hr5 : Rd (w3.alloc (.cells #[.string ⟨#[111, 114]⟩, .string ⟨#[97, 110, 100]⟩, .string ⟨#[117, 110, 108, 101, 115, 115]⟩, .string ⟨#[98, 111, 111, 108]⟩, .string ⟨#[111, 110]⟩, .string ⟨#[105, 103, 110, 111, 114, 105, 110, 103]⟩, .string ⟨#[98, 121]⟩, .string ⟨#[119, 105, 116, 104, 111, 117, 116]⟩, .string ⟨#[111, 102, 102, 115, 101, 116]⟩] 9)) (w3.heap.size + 1) 1 (some ⟨w3.heap.size, 0, none⟩) (textsC keptL) := Rd.new w3 (textsC_sz _) _ rfl
      have HR5 := Lib.hid hr5
      have HB5 := Lib.hid (HB3.out.alloc HB3.out.size (.cells #[.string ⟨#[111, 114]⟩, .string ⟨#[97, 110, 100]⟩, .string ⟨#[117, 110, 108, 101, 115, 115]⟩, .string ⟨#[98, 111, 111, 108]⟩, .string ⟨#[111, 110]⟩, .string ⟨#[105, 103, 110, 111, 114, 105, 110, 103]⟩, .string ⟨#[98, 121]⟩, .string ⟨#[119, 105, 116, 104, 111, 117, 116]⟩, .string ⟨#[111, 102, 102, 115, 101, 116]⟩] 9))
      clear hr5
      go_wp2_with fail
      refine ((HI keptL _ 9 9 _ _ HR5.out rfl (by simp [maxLen])).out).mono ?_
      rintro e w5 ⟨rfl, rfl⟩
      by_cases h3 : 0 ≤ idxI keptL wd
      · rw [decide_eq_true h3] at HT
        go_wp2_with fail
        go_ret
        exact ⟨ret_bool HT.out.symm, HB5.out⟩
      · rw [decide_eq_false h3] at HT
        go_wp2_with fail
        go_ret
        exact ⟨ret_bool (keptB_eq wd).symm, HB5.out⟩
end Go.Proofs.YtakfnojiaakfpaaGreatDoor
