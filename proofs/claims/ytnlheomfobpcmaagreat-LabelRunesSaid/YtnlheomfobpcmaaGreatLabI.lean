/- label.With: a set with another value of a name: package label's own. -/
import Derived.Test.YtnlheomfobpcmaaGreatLabN
import Derived.Test.YtnlheomfobpcmaaGreatCheckE
import Derived.Test.YtnlheomfobpcmaaGreatLater
namespace Go.Proofs.YtnlheomfobpcmaaGreat
open Go.RowKit

theorem rd_new2' (w : World) (o : Obj) (x : ByteArray) : Rd ((w.alloc o).alloc (.cells #[.string x] 9)) (w.heap.size + 2) 1 (some ⟨w.heap.size + 1, 0, none⟩) (namesC [x]) := by
  have := Rd.new (xs := namesC [x]) (sz := 1) (e := 9) (w.alloc o) (by simp [namesC]) #[.string x] rfl
  rw [show (w.alloc o).heap.size = w.heap.size + 1 from by simp] at this
  exact this
set_option maxHeartbeats 1000000 in
theorem with1_any (x y nm : ByteArray) (N : Nat) (w : World) (hc : w.cell? ⟨N, 0, none⟩ = some (.string nm)) :
    Calls Tryz.prog 57 #[.agg #[.string x, .string y], .pointer (some ⟨N, 0, none⟩)] w fun e w' => e = .returned (.bool (!leB x nm)) ∧ Below w.heap.size w w' := by
  have hb : Below w.heap.size w (w.alloc (.cells #[.string x, .string y] 51)) := (Below.refl _ _).alloc (Nat.le_refl _) _
  have h1 := (hb.cell (p := ⟨N, 0, none⟩) (World.block_lt_of_cell? w _ hc)).trans hc
  have HB := Lib.hid hb
  clear hb
  have HL : Hid ((!Op.bytesLess x.toList nm.toList && !(x.toList == nm.toList)) = !leB x nm) := by show _ = _; unfold leB; rw [Bool.not_or]
  go_enter Tryz.func57, Tryz.ntmps57
  go_wp2_with fail
  go_ret
  exact ⟨ret_bool HL.out, HB.out⟩
/-- How many labels stand ahead of a name's place. -/
def posN (ls : List Lab) (nm : ByteArray) : Nat := (ls.takeWhile fun l => leB l.1 nm).length
theorem posN_le (ls : List Lab) (nm : ByteArray) : posN ls nm ≤ ls.length := by
  unfold posN
  induction ls with
  | nil => simp
  | cons x r ih => rw [List.takeWhile_cons]; split <;> simp; exact ih
theorem posN_drop {ls : List Lab} {nm : ByteArray} {k : Nat} (hb : ∀ j m, j < k → ls[j]? = some m → leB m.1 nm = true) (hk : k ≤ ls.length) : posN ls nm = k + posN (ls.drop k) nm := by
  induction k generalizing ls with
  | zero => simp
  | succ k ih =>
    match ls, hk with
    | x :: r, hk =>
      have h0 := hb 0 x (by omega) rfl
      have h1 := ih (ls := r) (fun j m hj hm => hb (j + 1) m (by omega) (by simpa using hm)) (by simpa using hk)
      unfold posN at h1 ⊢
      rw [List.takeWhile_cons, if_pos h0, List.length_cons, h1, List.drop_succ_cons]
      omega
theorem posN_at {ls : List Lab} {nm : ByteArray} {k : Nat} {l : Lab} (hb : Hid (∀ j m, j < k → ls[j]? = some m → leB m.1 nm = true)) (h : ls[k]? = some l) (he : leB l.1 nm = false) : posN ls nm = k := by
  obtain ⟨hk, rfl⟩ := List.getElem?_eq_some_iff.1 h
  rw [posN_drop hb.out (by omega), List.drop_eq_getElem_cons hk]
  unfold posN
  rw [List.takeWhile_cons, if_neg (by rw [he]; decide)]
  rfl
theorem posN_end {ls : List Lab} {nm : ByteArray} (hb : Hid (∀ j m, j < ls.length → ls[j]? = some m → leB m.1 nm = true)) : posN ls nm = ls.length := by
  rw [posN_drop hb.out (Nat.le_refl _), List.drop_length]
  rfl
theorem posN_step {ls : List Lab} {nm : ByteArray} {k : Nat} {l : Lab} (hb : Hid (∀ j m, j < k → ls[j]? = some m → leB m.1 nm = true)) (h : ls[k]? = some l) (he : leB l.1 nm = true) : Hid (∀ j m, j < k + 1 → ls[j]? = some m → leB m.1 nm = true) := by
  intro j m hj hm
  by_cases e : j = k
  · subst e
    rw [h] at hm
    injection hm with hm
    subst hm
    exact he
  · exact hb j m (by omega) hm
/-- The place, or below nought. -/
def idxI (ls : List Lab) (nm : ByteArray) : Int := if posN ls nm < ls.length then (posN ls nm : Int) else -1
set_option maxHeartbeats 1000000 in
theorem indexFunc_any (ls : List Lab) (nm : ByteArray) (N : Nat) (A : Option Addr) (n c B : Nat) (w : World) (hr : Rd w B 2 A (labsC ls)) (hn : ls.length = n) (hB : B ≤ w.heap.size) (hm : n ≤ maxLen) (hc : w.cell? ⟨N, 0, none⟩ = some (.string nm)) :
    Calls Tryz.prog 56 #[.slice A n c, .func (.func 57) #[] #[.pointer (some ⟨N, 0, none⟩)]] w fun e w' => e = .returned (.int .i64 (idxI ls nm)) ∧ Below w.heap.size w w' := by
  unfold maxLen at hm
  have Hn := Lib.hid hn
  have HC := Lib.hid hc
  have hNlt := World.block_lt_of_cell? w _ hc
  clear hn hc
  go_enter Tryz.func56, Tryz.ntmps56
  go_wp2_with fail
  go_loopw [8] (fun i wr => ∃ k : Nat, i = .int .i64 k ∧ k ≤ n ∧ Hid (Below w.heap.size w wr) ∧ Hid (∀ j m, j < k → ls[j]? = some m → leB m.1 nm = true)) (fun i _ => n - (intOf i).toNat)
  case atStart => exact ⟨0, rfl, by omega, Below.refl _ _, fun j m hj => by omega⟩
  case round =>
    obtain ⟨k, rfl, hk, HB, HA⟩ := hrel
    have hs := HB.out.size
    by_cases hlt : k < n
    · obtain ⟨l, hl⟩ := get_lt Hn hlt
      obtain ⟨b, o, rfl, hbB, g0, g1⟩ := (hr.below (HB.out.mono hB)).at2 (labsC_at hl)
      have hltI : (k : Int) < (n : Int) := by omega
      have HW := Lib.hid (with1_any l.1 l.2 nm N wr ((HB.out.cell (p := ⟨N, 0, none⟩) hNlt).trans HC.out))
      cases he : leB l.1 nm with
      | true =>
        rw [he] at HW
        have HA2 := posN_step HA hl he
        clear hl he HA
        go_wp2_with (go_at_call 57; refine (HW.out).mono ?_; rintro e w' ⟨rfl, hb1⟩)
        have HB2 : Hid (Below w.heap.size w w') := HB.out.trans (hb1.mono hs)
        go_wp2_with fail
        go_roundw
        case rel => exact ⟨k + 1, by go_num, by omega, HB2, HA2⟩
        case measure => simp [intOf]; omega
      | false =>
        rw [he] at HW
        have HT : Hid (idxI ls nm = (k : Int)) := by
          show _ = _
          have hp := posN_at HA hl he
          unfold idxI
          rw [hp, if_pos (by rw [Hn.out]; exact hlt)]
        clear hl he HA
        go_wp2_with (go_at_call 57; refine (HW.out).mono ?_; rintro e w' ⟨rfl, hb1⟩)
        go_ret
        exact ⟨ret_int HT.out.symm, HB.out.trans (hb1.mono hs)⟩
    · have hkn : k = n := by omega
      subst hkn
      have HT : Hid (idxI ls nm = -1) := by
        show _ = _
        have hp := posN_end (ls := ls) (nm := nm) (by rw [Hn.out]; exact HA)
        unfold idxI
        rw [hp, if_neg (by omega)]
      go_wp2_with fail
      go_ret
      exact ⟨ret_int HT.out.symm, HB.out⟩
/-- A set with another value of a name. -/
def insL (r : List Lab) (l : Lab) : List Lab := r.take (posN r l.1) ++ l :: r.drop (posN r l.1)
def withL (ls : List Lab) (nm v : ByteArray) : List Lab := if v.size = 0 then withoutL ls [nm] else insL (withoutL ls [nm]) (nm, v)
set_option maxRecDepth 100000 in
set_option maxHeartbeats 2000000 in
theorem with_any (ls : List Lab) (nm v : ByteArray) (A : Option Addr) (n c B : Nat) (w : World) (hr : Rd w B 2 A (labsC ls)) (hn : ls.length = n) (hB : B ≤ w.heap.size) (hm : (n + 1) * 32 ≤ 140737488355328) :
    Calls Tryz.prog 23 #[.slice A n c, .string nm, .string v] w (LabsOut w (withL ls nm v)) := by
  have hmf : ∀ (fn : Fn) (first cap : Array Value) (w : World), (Instr.makeFunc fn first cap).run Tryz.prog w = .ok (.func fn first cap) w := fun _ _ _ _ => rfl
  obtain ⟨W0, hW0⟩ : ∃ W0, W0 = (w.alloc (.cells #[.string nm] 9)).alloc (.cells #[.string nm] 9) := ⟨_, rfl⟩
  have hb0 : Below w.heap.size w W0 := by rw [hW0]; exact ((Below.refl _ w).alloc (Nat.le_refl _) _).alloc (by simp) _
  have hz0 : W0.heap.size = w.heap.size + 2 := by rw [hW0]; simp
  have hN0 : W0.cell? ⟨w.heap.size, 0, none⟩ = some (.string nm) := by rw [hW0]; exact ((Blk.new w 9 [.string nm]).alloc _).cell rfl
  have hrn : Rd W0 (w.heap.size + 2) 1 (some ⟨w.heap.size + 1, 0, none⟩) (namesC [nm]) := by rw [hW0]; exact rd_new2' w _ nm
  have HO := Lib.hid (without_any ls [nm] A (some ⟨w.heap.size + 1, 0, none⟩) n c B 1 1 (w.heap.size + 2) W0 (hr.below (hb0.mono hB)) hn (by omega) (by omega) hrn rfl (by omega) (by simp [maxLen]))
  rw [hW0] at HO
  have hwl : (withoutL ls [nm]).length ≤ n := by rw [← hn]; exact withoutL_len ls [nm]
  have HN := Lib.hid hN0
  have HBB := Lib.hid hb0
  clear hr hn hb0 hN0 hrn
  obtain ⟨r, hr⟩ : ∃ r, r = withoutL ls [nm] := ⟨_, rfl⟩
  have HT : Hid (withL ls nm v = if v.size = 0 then r else insL r (nm, v)) := by show _ = _; rw [hr]; rfl
  rw [← hr] at HO hwl
  clear hr
  by_cases hv : v.size = 0
  · have hv1 : v.toList.isEmpty = true := isEmpty_yes (by omega)
    go_enter Tryz.func23, Tryz.ntmps23
    go_wp2_with (go_at_call 25; refine (HO.out).mono ?_; rintro e w1 ⟨A1, m1, c1, rfl, hm1, ho1, hb1⟩)
    go_ret
    rw [← hW0] at ho1 hb1
    refine ⟨A1, m1, c1, rfl, ?_, ?_, HBB.out.trans (hb1.mono (by omega))⟩
    · rw [HT.out, if_pos hv]; exact hm1
    · rw [HT.out, if_pos hv]; exact ho1.lower (by omega)
  · have hv1 : v.toList.isEmpty = false := isEmpty_no (by omega)
    have HT2 : Hid (withL ls nm v = insL r (nm, v)) := by have := HT.out; rw [if_neg hv] at this; exact this
    clear HT
    go_enter Tryz.func23, Tryz.ntmps23
    go_wp2_with fail
    refine (HO.out).mono ?_
    rintro e w1 ⟨A1, m1, c1, rfl, hm1, ho1, hb1⟩
    rw [← hW0] at ho1 hb1
    have hNw : w1.cell? ⟨w.heap.size, 0, none⟩ = some (.string nm) := (hb1.cell (p := ⟨w.heap.size, 0, none⟩) (by show w.heap.size < _; omega)).trans HN.out
    have hs1 := hb1.size
    have hm1x : m1 ≤ maxLen := by simp only [maxLen]; omega
    have HI := Lib.hid (indexFunc_any r nm w.heap.size A1 m1 c1 w1.heap.size w1 ho1.rd hm1 (Nat.le_refl _) hm1x hNw)
    have hp := posN_le r nm
    have HO1 := Lib.hid ho1
    have HB1 : Hid (Below w.heap.size w w1) := HBB.out.trans (hb1.mono (by omega))
    have hsw : w.heap.size ≤ w1.heap.size := by omega
    have hmm : (m1 + 1) * 32 ≤ 140737488355328 := by omega
    have hz0' := hz0
    have hW0s : W0.heap.size ≤ w1.heap.size := hs1
    clear hb1 ho1 HO hwl HBB hW0 hs1
    by_cases hpl : posN r nm < m1
    · have HX : Hid (idxI r nm = (posN r nm : Int)) := by show _ = _; unfold idxI; rw [if_pos (by omega)]
      rw [HX.out] at HI
      obtain ⟨q, hq⟩ : ∃ q, q = posN r nm := ⟨_, rfl⟩
      have HQ := Lib.hid hq
      rw [← hq] at HI hpl
      clear HX hp hq
      go_wp2_with fail
      refine (HI.out).mono ?_
      rintro e w2 ⟨rfl, hb2⟩
      have hN2 := (hb2.cell (p := ⟨w.heap.size, 0, none⟩) (World.block_lt_of_cell? w1 _ hNw)).trans hNw
      have HO2 := Lib.hid (HO1.out.belowAll hb2)
      have HB2 : Hid (Below w.heap.size w w2) := HB1.out.trans (hb2.mono hsw)
      have hs2 := hb2.size
      clear hb2 HI HO1 HB1
      have HINS : Hid (Calls Tryz.prog 58 #[.slice A1 m1 c1, .int .i64 q, .slice (some ⟨w2.heap.size, 0, none⟩) 1 1] (w2.alloc (.cells #[.string nm, .string v] 51)) (InsAt (w2.alloc (.cells #[.string nm, .string v] 51)) W0.heap.size (m1 + 1) (r.take q ++ (nm, v) :: r.drop q))) :=
        insert_any r (nm, v) q m1 c1 W0.heap.size w2.heap.size A1 _ (HO2.out.alloc _) (by omega) (Blk.new w2 _ _) (fun e => by have := (HO2.out.block e).2; omega) (by simp; omega) hmm
      go_wp2_with (go_at_call 58; refine (HINS.out).mono ?_; rintro e w3 ⟨A3, c3, rfl, ho3, hb3⟩)
      go_ret
      refine ⟨A3, m1 + 1, c3, rfl, ?_, ?_, (HB2.out.alloc (by omega) _).trans (hb3.mono (by omega))⟩
      · rw [HT2.out, insL, List.length_append, List.length_cons, List.length_take, List.length_drop]; omega
      · rw [HT2.out, insL, ← HQ.out]; exact ho3.lower (by omega)
    · have HX : Hid (idxI r nm = -1) := by show _ = _; unfold idxI; rw [if_neg (by omega)]
      rw [HX.out] at HI
      have HQ : Hid (posN r nm = m1) := by show _ = _; omega
      clear HX hp hpl
      go_wp2_with fail
      refine (HI.out).mono ?_
      rintro e w2 ⟨rfl, hb2⟩
      have hN2 := (hb2.cell (p := ⟨w.heap.size, 0, none⟩) (World.block_lt_of_cell? w1 _ hNw)).trans hNw
      have HO2 := Lib.hid (HO1.out.belowAll hb2)
      have HB2 : Hid (Below w.heap.size w w2) := HB1.out.trans (hb2.mono hsw)
      have hs2 := hb2.size
      clear hb2 HI HO1 HB1
      have HINS : Hid (Calls Tryz.prog 58 #[.slice A1 m1 c1, .int .i64 m1, .slice (some ⟨w2.heap.size, 0, none⟩) 1 1] (w2.alloc (.cells #[.string nm, .string v] 51)) (InsAt (w2.alloc (.cells #[.string nm, .string v] 51)) W0.heap.size (m1 + 1) (r.take m1 ++ (nm, v) :: r.drop m1))) :=
        insert_any r (nm, v) m1 m1 c1 W0.heap.size w2.heap.size A1 _ (HO2.out.alloc _) (by omega) (Blk.new w2 _ _) (fun e => by have := (HO2.out.block e).2; omega) (by simp; omega) hmm
      go_wp2_with (go_at_call 58; refine (HINS.out).mono ?_; rintro e w3 ⟨A3, c3, rfl, ho3, hb3⟩)
      go_ret
      refine ⟨A3, m1 + 1, c3, rfl, ?_, ?_, (HB2.out.alloc (by omega) _).trans (hb3.mono (by omega))⟩
      · rw [HT2.out, insL, List.length_append, List.length_cons, List.length_take, List.length_drop, HQ.out]; omega
      · rw [HT2.out, insL, HQ.out]; exact ho3.lower (by omega)
end Go.Proofs.YtnlheomfobpcmaaGreat
