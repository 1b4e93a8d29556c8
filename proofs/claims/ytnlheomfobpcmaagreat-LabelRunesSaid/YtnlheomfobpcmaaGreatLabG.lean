/- label.Get, and the labels of which a name is not one of some: package label's own. -/
import Derived.Test.YtnlheomfobpcmaaGreatLabS
import Derived.Test.YtnlheomfobpcmaaGreatBlk
import Derived.Test.YtnlheomfobpcmaaGreatProg
namespace Go.Proofs.YtnlheomfobpcmaaGreat
open Go.RowKit

/-- The value of a name, or none. -/
def getL : List Lab → ByteArray → ByteArray
  | [], _ => ByteArray.empty
  | l :: r, nm => if l.1 = nm then l.2 else getL r nm
theorem getL_at {ls : List Lab} {nm : ByteArray} {k : Nat} {l : Lab} (hb : ∀ j m, j < k → ls[j]? = some m → m.1 ≠ nm) (h : ls[k]? = some l) (he : l.1 = nm) : getL ls nm = l.2 := by
  induction ls generalizing k with
  | nil => simp at h
  | cons x r ih =>
    rw [getL]
    cases k with
    | zero =>
      obtain rfl : x = l := by simpa using h
      rw [if_pos he]
    | succ k =>
      rw [if_neg (hb 0 x (by omega) rfl)]
      exact ih (k := k) (fun j m hj hm => hb (j + 1) m (by omega) (by simpa using hm)) (by simpa using h)
theorem getL_none {ls : List Lab} {nm : ByteArray} (hb : ∀ j m, j < ls.length → ls[j]? = some m → m.1 ≠ nm) : getL ls nm = ByteArray.empty := by
  induction ls with
  | nil => rfl
  | cons x r ih =>
    rw [getL, if_neg (hb 0 x (by simp) rfl)]
    exact ih (fun j m hj hm => hb (j + 1) m (Nat.succ_lt_succ hj) (by simpa using hm))
theorem getL_step {ls : List Lab} {nm : ByteArray} {k : Nat} {l : Lab} (hb : Hid (∀ j m, j < k → ls[j]? = some m → m.1 ≠ nm)) (h : ls[k]? = some l) (he : l.1 ≠ nm) : Hid (∀ j m, j < k + 1 → ls[j]? = some m → m.1 ≠ nm) := by
  intro j m hj hm
  by_cases e : j = k
  · subst e
    rw [h] at hm
    injection hm with hm
    subst hm
    exact he
  · exact hb j m (by omega) hm
set_option maxHeartbeats 1000000 in
theorem labGet_any (ls : List Lab) (nm : ByteArray) (A : Option Addr) (n c B : Nat) (w : World) (hr : Rd w B 2 A (labsC ls)) (hn : ls.length = n) (hB : B ≤ w.heap.size) (hm : n ≤ maxLen) :
    Calls Tryz.prog 22 #[.slice A n c, .string nm] w fun e w' => e = .returned (.string (getL ls nm)) ∧ Below w.heap.size w w' := by
  unfold maxLen at hm
  have Hn := Lib.hid hn
  clear hn
  go_enter Tryz.func22, Tryz.ntmps22
  go_wp2_with fail
  go_loopw [9] (fun i wr => ∃ k : Nat, i = .int .i64 k ∧ k ≤ n ∧ Below w.heap.size w wr ∧ Hid (∀ j m, j < k → ls[j]? = some m → m.1 ≠ nm)) (fun i _ => n - (intOf i).toNat)
  case atStart => exact ⟨0, rfl, by omega, Below.refl _ _, fun j m hj => by omega⟩
  case round =>
    obtain ⟨k, rfl, hk, hb, HA⟩ := hrel
    have hs := hb.size
    by_cases hlt : k < n
    · obtain ⟨l, hl⟩ := get_lt Hn hlt
      obtain ⟨b, o, rfl, hbB, g0, g1⟩ := (hr.below (hb.mono hB)).at2 (labsC_at hl)
      have hltI : (k : Int) < (n : Int) := by omega
      have HL := Lib.hid hl
      have HB : Hid (∀ o, Below w.heap.size w (wr.alloc o)) := fun o => hb.alloc hs o
      by_cases he : l.1 = nm
      · have HT := Lib.hid (getL_at HA hl he)
        have heb : (l.1.toList == nm.toList) = true := by rw [beq_toList]; exact decide_eq_true he
        clear hl he HA
        go_wp2_with fail
        go_ret
        exact ⟨by rw [HT.out]; rfl, HB.out _⟩
      · have heb : (l.1.toList == nm.toList) = false := by rw [beq_toList]; exact decide_eq_false he
        have HA2 := getL_step HA hl he
        clear hl he HA
        go_wp2_with fail
        go_roundw
        case rel => exact ⟨k + 1, by go_num, by omega, HB.out _, HA2⟩
        case measure => simp [intOf]; omega
    · have hkn : k = n := by omega
      subst hkn
      have HT := Lib.hid (getL_none (nm := nm) (fun j m hj hm => HA.out j m (by have := Hn.out; omega) hm))
      go_wp2_with fail
      go_ret
      exact ⟨by rw [HT.out]; rfl, hb⟩
/-- Texts as cells. -/
def namesC (l : List ByteArray) : List (List Value) := l.map fun x => [.string x]
theorem namesC_at {ls : List ByteArray} {k : Nat} {l : ByteArray} (h : ls[k]? = some l) : (namesC ls)[k]? = some [.string l] := by simp [namesC, h]
theorem namesC_sz (ls : List ByteArray) : ∀ x ∈ namesC ls, x.length = 1 := by
  intro x hx
  obtain ⟨l, _, rfl⟩ := List.mem_map.1 hx
  rfl
theorem index_step {ls : List ByteArray} {nm : ByteArray} {k : Nat} {l : ByteArray} (hb : Hid (∀ j m, j < k → ls[j]? = some m → nm ≠ m)) (h : ls[k]? = some l) (he : nm ≠ l) : Hid (∀ j m, j < k + 1 → ls[j]? = some m → nm ≠ m) := by
  intro j m hj hm
  by_cases e : j = k
  · subst e
    rw [h] at hm
    injection hm with hm
    subst hm
    exact he
  · exact hb j m (by omega) hm
/-- Is a text among some? -/
def memB (ls : List ByteArray) (nm : ByteArray) : Bool := ls.any fun x => decide (nm = x)
theorem memB_yes {ls : List ByteArray} {nm : ByteArray} (h : nm ∈ ls) : memB ls nm = true := by
  unfold memB
  rw [List.any_eq_true]
  exact ⟨nm, h, by simp⟩
theorem memB_no {ls : List ByteArray} {nm : ByteArray} (h : nm ∉ ls) : memB ls nm = false := by
  unfold memB
  rw [List.any_eq_false]
  intro x hx
  simp only [decide_eq_true_eq]
  rintro rfl
  exact h hx
/-- Where a text stands among some, or below nought. -/
def IndexIs (ls : List ByteArray) (nm : ByteArray) (w : World) (e : Ending) (w' : World) : Prop := ∃ i : Int, e = .returned (.int .i64 i) ∧ decide (0 ≤ i) = memB ls nm ∧ w = w'
set_option maxHeartbeats 1000000 in
theorem index_any (ls : List ByteArray) (nm : ByteArray) (A : Option Addr) (n c B : Nat) (w : World) (hr : Rd w B 1 A (namesC ls)) (hn : ls.length = n) (hm : n ≤ maxLen) :
    Calls Tryz.prog 78 #[.slice A n c, .string nm] w (IndexIs ls nm w) := by
  unfold maxLen at hm
  have Hn := Lib.hid hn
  clear hn
  go_enter Tryz.func78, Tryz.ntmps78
  go_wp2_with fail
  go_loop [8] (fun i => ∃ k : Nat, i = .int .i64 k ∧ k ≤ n ∧ Hid (∀ j m, j < k → ls[j]? = some m → nm ≠ m)) (fun i => n - (intOf i).toNat)
  case atStart => exact ⟨0, rfl, by omega, fun j m hj => by omega⟩
  case round =>
    obtain ⟨k, rfl, hk, HA⟩ := hrel
    by_cases hlt : k < n
    · obtain ⟨l, hl⟩ := get_lt Hn hlt
      obtain ⟨b, o, rfl, hbB, g0⟩ := hr.at1 (namesC_at hl)
      have hltI : (k : Int) < (n : Int) := by omega
      by_cases he : nm = l
      · have HT : Hid (decide ((0 : Int) ≤ (k : Int)) = memB ls nm) := by
          show _ = _
          rw [decide_eq_true (by omega : (0 : Int) ≤ (k : Int)), memB_yes (he ▸ List.mem_of_getElem? hl)]
        have heb : (nm.toList == l.toList) = true := by rw [beq_toList]; exact decide_eq_true he
        clear hl he HA
        go_wp2_with fail
        go_ret
        exact ⟨_, rfl, HT.out, rfl⟩
      · have heb : (nm.toList == l.toList) = false := by rw [beq_toList]; exact decide_eq_false he
        have HA2 := index_step HA hl he
        clear hl he HA
        go_wp2_with fail
        go_round
        case rel => exact ⟨k + 1, by go_num, by omega, HA2⟩
        case measure => simp [intOf]; omega
    · have hkn : k = n := by omega
      subst hkn
      have HT : Hid (decide ((0 : Int) ≤ -1) = memB ls nm) := by
        show _ = _
        rw [decide_eq_false (by omega : ¬ (0 : Int) ≤ -1), memB_no]
        intro hmem
        obtain ⟨j, hj, hje⟩ := List.getElem_of_mem hmem
        exact HA.out j _ (by have := Hn.out; omega) (List.getElem?_eq_getElem hj) hje.symm
      go_wp2_with fail
      go_ret
      exact ⟨_, rfl, HT.out, rfl⟩
set_option maxHeartbeats 400000 in
theorem contains_any (ls : List ByteArray) (nm : ByteArray) (A : Option Addr) (n c B : Nat) (w : World) (hr : Rd w B 1 A (namesC ls)) (hn : ls.length = n) (hm : n ≤ maxLen) :
    Calls Tryz.prog 61 #[.slice A n c, .string nm] w fun e w' => e = .returned (.bool (memB ls nm)) ∧ w = w' := by
  have HI := Lib.hid (index_any ls nm A n c B w hr hn hm)
  clear hn hm hr
  go_enter Tryz.func61, Tryz.ntmps61
  go_wp2_with (go_at_call 78; refine (HI.out).mono ?_; rintro e w' ⟨i, rfl, HE, rfl⟩; replace HE := Lib.hid HE)
  go_ret
  exact ⟨ret_bool (by rw [← HE.out]), rfl⟩
end Go.Proofs.YtnlheomfobpcmaaGreat
