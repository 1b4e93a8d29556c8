/- Whether a label set may be: both programs. -/
import Derived.Test.YtnlheomfobpcmaaGreatUtf
import Derived.Test.YtnlheomfobpcmaaGreatName
import Derived.Test.YtnlheomfobpcmaaGreatLabE
namespace Go.Proofs.YtnlheomfobpcmaaGreat
open Go.RowKit

def valB (s : ByteArray) : Bool := decide (1 ≤ s.size ∧ s.size ≤ 256) && validL s.data.toList
def leB (a b : ByteArray) : Bool := Op.bytesLess a.toList b.toList || a.toList == b.toList
def prevOf (ls : List Lab) : Nat → Option Lab
  | 0 => none
  | k + 1 => ls[k]?
theorem prevOf_zero {ls : List Lab} {k : Nat} (h : k = 0) : prevOf ls k = none := by subst h; rfl
theorem prevOf_pos {ls : List Lab} {k : Nat} (h : 0 < k) : prevOf ls k = ls[k - 1]? := by
  obtain ⟨j, rfl⟩ : ∃ j, k = j + 1 := ⟨k - 1, by omega⟩
  rfl
def labErr (prev : Option Lab) (l : Lab) : Int :=
  if nameB l.1 = false then 31 else if valB l.2 = false then 32 else if prev.any (fun p => leB l.1 p.1) = true then 33 else 0
def checkFrom : Option Lab → List Lab → Int
  | _, [] => 0
  | prev, l :: r => if labErr prev l = 0 then checkFrom (some l) r else labErr prev l
def checkL (ls : List Lab) : Int := if ls.length ≤ 16 then checkFrom none ls else 30

theorem drop_cons {α : Type} {ls : List α} {k : Nat} {l : α} (h : ls[k]? = some l) : ls.drop k = l :: ls.drop (k + 1) := by
  obtain ⟨hk, rfl⟩ := List.getElem?_eq_some_iff.1 h
  exact List.drop_eq_getElem_cons hk
theorem check_next {ls : List Lab} {k : Nat} {l : Lab} (h : ls[k]? = some l) (he : labErr (prevOf ls k) l = 0) : checkFrom (prevOf ls k) (ls.drop k) = checkFrom (prevOf ls (k + 1)) (ls.drop (k + 1)) := by
  rw [drop_cons h, checkFrom, if_pos he]; simp only [prevOf, h]
theorem check_stop {ls : List Lab} {k : Nat} {l : Lab} {e : Int} (h : ls[k]? = some l) (he : labErr (prevOf ls k) l = e) (h0 : e ≠ 0) : checkFrom (prevOf ls k) (ls.drop k) = e := by
  rw [drop_cons h, checkFrom, he, if_neg h0]
theorem valB_len {s : ByteArray} (h : ¬ (1 ≤ s.size ∧ s.size ≤ 256)) : valB s = false := by simp only [valB, decide_eq_false h, Bool.false_and]
theorem valB_eq {s : ByteArray} (h : 1 ≤ s.size ∧ s.size ≤ 256) : valB s = validL s.data.toList := by simp only [valB, decide_eq_true h, Bool.true_and]
theorem drop_ne {s : ByteArray} {i : Nat} (h : i < s.size) : ∃ c r, s.data.toList.drop i = c :: r := ⟨_, _, drop_at h⟩
theorem charN_bd {s : ByteArray} {i : Nat} (h : i < s.size) : i + charN (s.data.toList.drop i) ≤ s.size := by
  have hl : (s.data.toList.drop i).length = s.size - i := by rw [List.length_drop, ← Lib.size_eq]
  obtain ⟨c, r, e⟩ := drop_ne h
  rw [e] at hl ⊢
  have := charN_le c r
  omega
theorem valid_at {s : ByteArray} {i : Nat} (h : i < s.size) : validL (s.data.toList.drop i) = if charN (s.data.toList.drop i) = 0 then false else validL (s.data.toList.drop (i + charN (s.data.toList.drop i))) := by
  obtain ⟨c, r, e⟩ := drop_ne h
  have := valid_step c r
  rw [← e] at this
  rw [List.drop_drop] at this
  exact this

set_option maxHeartbeats 1000000 in
theorem valid3_any (s : ByteArray) (w : World) (hs : s.size ≤ maxLen) :
    Calls Tryz.prog 50 #[.string s] w fun e w' => e = .returned (.bool (valB s)) ∧ w = w' := by
  unfold maxLen at hs
  by_cases h : 1 ≤ s.size ∧ s.size ≤ 256
  · have HV := Lib.hid (valB_eq h)
    obtain ⟨h1, h2⟩ := h
    go_enter Tryz.func50, Tryz.ntmps50
    go_wp2
    go_loop [3] (fun i => ∃ k : Nat, k ≤ s.size ∧ i = .int .i64 k ∧ Hid (validL s.data.toList = validL (s.data.toList.drop k))) (fun i => s.size - (intOf i).toNat)
    case atStart => exact ⟨0, by omega, rfl, rfl⟩
    case round =>
      obtain ⟨k, hk, rfl, hall⟩ := hrel
      by_cases hlt : k < s.size
      · have hb := charN_bd hlt
        have HS := Lib.hid (hall.out.trans (valid_at hlt))
        have HC := fun W => Lib.hid (char_any s k W (by omega) hlt)
        generalize charN (s.data.toList.drop k) = n at *
        by_cases hn : n = 0
        · subst hn
          go_wp2_with (go_at_call 75; refine ((HC _).out).mono ?_; rintro e w' ⟨rfl, rfl⟩)
          go_ret
          exact ⟨ret_bool (by rw [HV.out, HS.out]; rfl), rfl⟩
        · have hn1 : 1 ≤ n := by omega
          have hn2 : ((n : Int) == 0) = false := by rw [beq_eq_false_iff_ne]; omega
          have HS2 : Hid (validL s.data.toList = validL (s.data.toList.drop (k + n))) := by have e := HS.out; rw [if_neg hn] at e; exact e
          clear hn
          go_wp2_with (go_at_call 75; refine ((HC _).out).mono ?_; rintro e w' ⟨rfl, rfl⟩)
          go_round
          case rel => exact ⟨k + n, by omega, by go_num, HS2⟩
          case measure => simp [intOf]; omega
      · have hks : k = s.size := by omega
        have HS2 : Hid (valB s = true) := by show _ = _; rw [HV.out, hall.out, hks, drop_end]; rfl
        clear hks
        go_wp2
        go_ret
        exact ⟨ret_bool HS2.out.symm, rfl⟩
  · have HV := Lib.hid (valB_len h)
    by_cases h1 : 1 ≤ s.size
    · have h2 : (256 : Int) < s.size := by omega
      clear h
      go_enter Tryz.func50, Tryz.ntmps50
      go_wp2
      go_ret
      exact ⟨ret_bool HV.out.symm, rfl⟩
    · have h2 : (s.size : Int) < 1 := by omega
      clear h
      go_enter Tryz.func50, Tryz.ntmps50
      go_wp2
      go_ret
      exact ⟨ret_bool HV.out.symm, rfl⟩

/-- Each text of a set is one that can be. -/
def okLabs (ls : List Lab) : Prop := ∀ l ∈ ls, l.1.size ≤ maxLen ∧ l.2.size ≤ maxLen

set_option maxHeartbeats 2000000 in
theorem check3_any (ls : List Lab) (A1 : Option Addr) (n1 c1 B1 : Nat) (w : World) (h1 : Rd w B1 2 A1 (labsC ls)) (hn1 : ls.length = n1) (hm1 : n1 ≤ maxLen) (hok : okLabs ls) :
    Calls Tryz.prog 15 #[.slice A1 n1 c1] w fun e w' => e = .returned (.int .i64 (checkL ls)) ∧ ∃ n, w' = w.drewN n := by
  unfold maxLen at hm1
  by_cases hl : n1 ≤ 16
  · have HL : Hid (checkL ls = checkFrom none ls) := by show _ = _; unfold checkL; rw [if_pos (by omega)]
    have Hn1 := Lib.hid hn1
    clear hn1
    go_enter Tryz.func15, Tryz.ntmps15
    go_wp2
    go_loopw [3] (fun i wr => ∃ k q : Nat, k ≤ n1 ∧ i = .int .i64 k ∧ wr = w.drewN q ∧ Hid (checkL ls = checkFrom (prevOf ls k) (ls.drop k))) (fun i _ => n1 - (intOf i).toNat)
    case atStart => exact ⟨0, 0, by omega, rfl, rfl, HL.out⟩
    case round =>
      obtain ⟨k, q, hk, rfl, rfl, HC⟩ := hrel
      by_cases hlt : k < n1
      · obtain ⟨l, e1⟩ := get_lt Hn1 hlt
        obtain ⟨ok1, ok2⟩ := hok l (List.mem_of_getElem? e1)
        obtain ⟨b1, o1, hA1, hb1, p1, p2⟩ := h1.at2 (labsC_at e1)
        have HN := fun W => Lib.hid (name2_any l.1 W ok1)
        have HV := fun W => Lib.hid (valid3_any l.2 W ok2)
        have E1 := Lib.hid e1
        cases hname : nameB l.1 with
        | false =>
          have HE : Hid (checkL ls = 31) := HC.out.trans (check_stop e1 (by simp [labErr, hname]) (by omega))
          subst hA1
          clear e1
          rw [hname] at HN
          clear hname
          go_wp2_with (go_at_call 49; refine ((HN _).out).mono ?_; rintro e w' ⟨rfl, rfl⟩)
          go_ret
          exact ⟨ret_int HE.out.symm, _, rfl⟩
        | true =>
          rw [hname] at HN
          cases hval : valB l.2 with
          | false =>
            have HE : Hid (checkL ls = 32) := HC.out.trans (check_stop e1 (by simp [labErr, hname, hval]) (by omega))
            subst hA1
            clear e1
            rw [hval] at HV
            clear hname hval
            go_wp2_with (first | (go_at_call 49; refine ((HN _).out).mono ?_; rintro e w' ⟨rfl, rfl⟩) | (go_at_call 50; refine ((HV _).out).mono ?_; rintro e w' ⟨rfl, rfl⟩))
            go_ret
            exact ⟨ret_int HE.out.symm, _, rfl⟩
          | true =>
            rw [hval] at HV
            by_cases hk0 : k = 0
            · have HE : Hid (checkL ls = checkFrom (prevOf ls (k + 1)) (ls.drop (k + 1))) := HC.out.trans (check_next e1 (by simp [labErr, hname, hval, prevOf_zero hk0]))
              subst hA1
              have hd : decide (0 < k) = false := by simp; omega
              clear e1 hname hval hk0
              go_wp2_with (first | (go_at_call 49; refine ((HN _).out).mono ?_; rintro e w' ⟨rfl, rfl⟩) | (go_at_call 50; refine ((HV _).out).mono ?_; rintro e w' ⟨rfl, rfl⟩))
              go_quiet (fail)
              go_wp2
              go_roundw
              case rel => exact ⟨k + 1, _, by omega, by go_num, rfl, HE⟩
              case measure => simp [intOf]; omega
            · obtain ⟨p, e2⟩ := get_lt Hn1 (show k - 1 < n1 by omega)
              obtain ⟨b2, o2, hA2, hb2, p3, p4⟩ := h1.at2 (labsC_at e2)
              have hAA : b2 = b1 ∧ o2 = o1 := by rw [hA1] at hA2; injection hA2 with hA2; injection hA2 with h3 h4; exact ⟨h3.symm, h4.symm⟩
              obtain ⟨rfl, rfl⟩ := hAA
              subst hA1
              have hd : decide (0 < k) = true := by simp; omega
              have hk1 : (0 : Int) < (k : Int) := by omega
              have hk2 : (0 : Int) ≤ (k : Int) - 1 := by omega
              have hk3 : (k : Int) - 1 < n1 := by omega
              have hpv := prevOf_pos (ls := ls) (k := k) (by omega)
              rw [e2] at hpv
              cases hle : leB l.1 p.1 with
              | true =>
                have HE : Hid (checkL ls = 33) := HC.out.trans (check_stop e1 (by simp [labErr, hname, hval, hpv, hle]) (by omega))
                have hle2 : (Op.bytesLess l.1.toList p.1.toList || l.1.toList == p.1.toList) = true := hle
                clear e1 e2 hname hval hpv hle hA2
                go_wp2_with (first | (go_at_call 49; refine ((HN _).out).mono ?_; rintro e w' ⟨rfl, rfl⟩) | (go_at_call 50; refine ((HV _).out).mono ?_; rintro e w' ⟨rfl, rfl⟩))
                go_quiet (fail)
                go_wp2
                go_ret
                exact ⟨ret_int HE.out.symm, _, World.drewN_drewN ..⟩
              | false =>
                have HE : Hid (checkL ls = checkFrom (prevOf ls (k + 1)) (ls.drop (k + 1))) := HC.out.trans (check_next e1 (by simp [labErr, hname, hval, hpv, hle]))
                have hle2 : (Op.bytesLess l.1.toList p.1.toList || l.1.toList == p.1.toList) = false := hle
                clear e1 e2 hname hval hpv hle hA2
                go_wp2_with (first | (go_at_call 49; refine ((HN _).out).mono ?_; rintro e w' ⟨rfl, rfl⟩) | (go_at_call 50; refine ((HV _).out).mono ?_; rintro e w' ⟨rfl, rfl⟩))
                go_quiet (fail)
                go_wp2
                go_roundw
                case rel => exact ⟨k + 1, _, by omega, by go_num, rfl, HE⟩
                case measure => simp [intOf]; omega
      · have hkn : k = n1 := by omega
        have HE : Hid (checkL ls = 0) := by show _ = _; rw [HC.out, hkn, ← Hn1.out, List.drop_length]; rfl
        clear hkn
        go_wp2
        go_ret
        exact ⟨ret_int HE.out.symm, _, rfl⟩
  · have HE : Hid (checkL ls = 30) := by show _ = _; unfold checkL; rw [if_neg (by omega)]
    have h16 : (16 : Int) < n1 := by omega
    clear hl hn1
    go_enter Tryz.func15, Tryz.ntmps15
    go_wp2
    go_ret
    exact ⟨ret_int HE.out.symm, 0, rfl⟩

theorem valB_empty {s : ByteArray} (h : ¬ 1 ≤ s.size) : valB s = false := valB_len (fun g => h g.1)
theorem valB_long {s : ByteArray} (h : ¬ s.size ≤ 256) : valB s = false := valB_len (fun g => h g.2)
set_option maxHeartbeats 2000000 in
theorem check_any (ls : List Lab) (A1 : Option Addr) (n1 c1 B1 : Nat) (w : World) (h1 : Rd w B1 2 A1 (labsC ls)) (hn1 : ls.length = n1) (hB : B1 ≤ w.heap.size) (hm1 : n1 ≤ maxLen) (hok : okLabs ls) :
    Calls Tryz.prog 10 #[.slice A1 n1 c1] w fun e w' => e = .returned (.int .i64 (checkL ls)) ∧ Below w.heap.size w w' := by
  unfold maxLen at hm1
  by_cases hl : n1 ≤ 16
  · have HL : Hid (checkL ls = checkFrom none ls) := by show _ = _; unfold checkL; rw [if_pos (by omega)]
    have Hn1 := Lib.hid hn1
    clear hn1
    go_enter Tryz.func10, Tryz.ntmps10
    go_wp2
    go_loopw [3, 4, 10] (fun _ _ i wr => ∃ k : Nat, k ≤ n1 ∧ i = .int .i64 k ∧ Below w.heap.size w wr ∧ Hid (checkL ls = checkFrom (prevOf ls k) (ls.drop k))) (fun _ _ i _ => n1 - (intOf i).toNat)
    case atStart => exact ⟨0, by omega, rfl, Below.refl _ _, HL.out⟩
    case round =>
      obtain ⟨k, hk, rfl, hb, HC⟩ := hrel
      have hsz := hb.size
      by_cases hlt : k < n1
      · obtain ⟨l, e1⟩ := get_lt Hn1 hlt
        obtain ⟨ok1, ok2⟩ := hok l (List.mem_of_getElem? e1)
        obtain ⟨b1, o1, hA1, hb1, p1, p2⟩ := (h1.below (hb.mono hB)).at2 (labsC_at e1)
        have hb1' : b1 < wr.heap.size := by omega
        have HN := fun W => Lib.hid (name1_any l.1 W ok1)
        have E1 := Lib.hid e1
        have hbn : Below w.heap.size w (wr.alloc (.cells #[.string l.1, .string l.2] 51)) := hb.alloc hsz _
        cases hname : nameB l.1 with
        | false =>
          have HE : Hid (checkL ls = 31) := HC.out.trans (check_stop e1 (by simp [labErr, hname]) (by omega))
          subst hA1
          clear e1
          rw [hname] at HN
          clear hname
          go_wp2_with (go_at_call 39; refine ((HN _).out).mono ?_; rintro e w' ⟨rfl, rfl⟩)
          go_ret
          exact ⟨ret_int HE.out.symm, hbn⟩
        | true =>
          rw [hname] at HN
          by_cases v1 : 1 ≤ l.2.size
          · have hem : l.2.toList.isEmpty = false := isEmpty_no v1
            by_cases v2 : l.2.size ≤ 256
            · have HV := fun W => Lib.hid (valid_any l.2 W ok2)
              have hve := valB_eq ⟨v1, v2⟩
              have v3 : (l.2.size : Int) ≤ 256 := by omega
              cases hval : validL l.2.data.toList with
              | false =>
                have HE : Hid (checkL ls = 32) := HC.out.trans (check_stop e1 (by simp [labErr, hname, hve, hval]) (by omega))
                subst hA1
                rw [hval] at HV
                clear e1 hname hval hve v1 v2
                go_wp2_with (first | (go_at_call 39; refine ((HN _).out).mono ?_; rintro e w' ⟨rfl, rfl⟩) | (go_at_call 40; refine ((HV _).out).mono ?_; rintro e w' ⟨rfl, rfl⟩))
                go_ret
                exact ⟨ret_int HE.out.symm, hbn⟩
              | true =>
                rw [hval] at HV
                by_cases hk0 : k = 0
                · have HE : Hid (checkL ls = checkFrom (prevOf ls (k + 1)) (ls.drop (k + 1))) := HC.out.trans (check_next e1 (by simp [labErr, hname, hve, hval, prevOf_zero hk0]))
                  subst hA1
                  have hd : decide (0 < k) = false := by simp; omega
                  clear e1 hname hval hk0 hve v1 v2
                  go_wp2_with (first | (go_at_call 39; refine ((HN _).out).mono ?_; rintro e w' ⟨rfl, rfl⟩) | (go_at_call 40; refine ((HV _).out).mono ?_; rintro e w' ⟨rfl, rfl⟩))
                  go_quiet (fail)
                  go_wp2
                  go_roundw
                  case rel => exact ⟨k + 1, by omega, by go_num, below_drewN hbn _, HE⟩
                  case measure => simp [intOf]; omega
                · obtain ⟨p, e2⟩ := get_lt Hn1 (show k - 1 < n1 by omega)
                  obtain ⟨b2, o2, hA2, hb2, p3, p4⟩ := (h1.below (hb.mono hB)).at2 (labsC_at e2)
                  have hAA : b2 = b1 ∧ o2 = o1 := by rw [hA1] at hA2; injection hA2 with hA2; injection hA2 with h3 h4; exact ⟨h3.symm, h4.symm⟩
                  obtain ⟨rfl, rfl⟩ := hAA
                  subst hA1
                  have hd : decide (0 < k) = true := by simp; omega
                  have hk1 : (0 : Int) < (k : Int) := by omega
                  have hk2 : (0 : Int) ≤ (k : Int) - 1 := by omega
                  have hk3 : (k : Int) - 1 < n1 := by omega
                  have hpv := prevOf_pos (ls := ls) (k := k) (by omega)
                  rw [e2] at hpv
                  cases hle : leB l.1 p.1 with
                  | true =>
                    have HE : Hid (checkL ls = 33) := HC.out.trans (check_stop e1 (by simp [labErr, hname, hve, hval, hpv, hle]) (by omega))
                    have hle2 : (Op.bytesLess l.1.toList p.1.toList || l.1.toList == p.1.toList) = true := hle
                    clear e1 e2 hname hval hpv hle hA2 hve v1 v2
                    go_wp2_with (first | (go_at_call 39; refine ((HN _).out).mono ?_; rintro e w' ⟨rfl, rfl⟩) | (go_at_call 40; refine ((HV _).out).mono ?_; rintro e w' ⟨rfl, rfl⟩))
                    go_quiet (fail)
                    go_wp2
                    go_ret
                    exact ⟨ret_int HE.out.symm, below_drewN hbn _⟩
                  | false =>
                    have HE : Hid (checkL ls = checkFrom (prevOf ls (k + 1)) (ls.drop (k + 1))) := HC.out.trans (check_next e1 (by simp [labErr, hname, hve, hval, hpv, hle]))
                    have hle2 : (Op.bytesLess l.1.toList p.1.toList || l.1.toList == p.1.toList) = false := hle
                    clear e1 e2 hname hval hpv hle hA2 hve v1 v2
                    go_wp2_with (first | (go_at_call 39; refine ((HN _).out).mono ?_; rintro e w' ⟨rfl, rfl⟩) | (go_at_call 40; refine ((HV _).out).mono ?_; rintro e w' ⟨rfl, rfl⟩))
                    go_quiet (fail)
                    go_wp2
                    go_roundw
                    case rel => exact ⟨k + 1, by omega, by go_num, below_drewN hbn _, HE⟩
                    case measure => simp [intOf]; omega
            · have v3 : (256 : Int) < l.2.size := by omega
              have HE : Hid (checkL ls = 32) := HC.out.trans (check_stop e1 (by simp [labErr, hname, valB_long v2]) (by omega))
              subst hA1
              clear e1 hname v2
              go_wp2_with (go_at_call 39; refine ((HN _).out).mono ?_; rintro e w' ⟨rfl, rfl⟩)
              go_ret
              exact ⟨ret_int HE.out.symm, hbn⟩
          · have hem : l.2.toList.isEmpty = true := isEmpty_yes v1
            have HE : Hid (checkL ls = 32) := HC.out.trans (check_stop e1 (by simp [labErr, hname, valB_empty v1]) (by omega))
            subst hA1
            clear e1 hname v1
            go_wp2_with (go_at_call 39; refine ((HN _).out).mono ?_; rintro e w' ⟨rfl, rfl⟩)
            go_ret
            exact ⟨ret_int HE.out.symm, hbn⟩
      · have hkn : k = n1 := by omega
        have HE : Hid (checkL ls = 0) := by show _ = _; rw [HC.out, hkn, ← Hn1.out, List.drop_length]; rfl
        clear hkn
        go_wp2
        go_ret
        exact ⟨ret_int HE.out.symm, hb⟩
  · have HE : Hid (checkL ls = 30) := by show _ = _; unfold checkL; rw [if_neg (by omega)]
    have h16 : (16 : Int) < n1 := by omega
    clear hl hn1
    go_enter Tryz.func10, Tryz.ntmps10
    go_wp2
    go_ret
    exact ⟨ret_int HE.out.symm, Below.refl _ _⟩
end Go.Proofs.YtnlheomfobpcmaaGreat
