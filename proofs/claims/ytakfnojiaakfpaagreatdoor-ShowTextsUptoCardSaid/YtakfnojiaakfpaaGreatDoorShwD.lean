/- How a tree is written: words, brackets, rows of operations. -/
import Derived.Test.YtakfnojiaakfpaaGreatDoorShwC
import Derived.Test.YtakfnojiaakfpaaGreatDoorRepT
import Derived.Test.YtakfnojiaakfpaaGreatDoorParP
namespace Go.Proofs.YtakfnojiaakfpaaGreatDoor
section
open Go.RowKit
theorem escT_all : ∀ n : Nat, n < 256 → escT (UInt8.ofNat n) = escB (UInt8.ofNat n) := by decide +kernel
theorem escT_eq (c : UInt8) : escT c = escB c := by
  have := escT_all c.toNat c.toNat_lt
  rwa [UInt8.ofNat_toNat] at this
theorem escT_list (l : List UInt8) : l.flatMap escT = escL l := by
  unfold escL
  congr 1
  funext c
  exact escT_eq c
theorem quoT_esc (s : ByteArray) : quoT s = sQuote ++ (⟨(escL s.data.toList).toArray⟩ : ByteArray) ++ sQuote := by rw [quoT, escT_list]; rfl
/-- strings.NewReplacer, then Replace, then a builder's write, in memory behind W2. -/
theorem newRep_at (W2 W : World) (A : Option Addr) (c B : Nat) (hr : Rd W B 1 A (namesC pairsS)) (hB : B ≤ W.heap.size) (h2 : Below W2.heap.size W2 W) :
    Calls Tryz.prog 128 #[.slice A 6 c] W fun e w3 => ∃ R g c3, e = .returned (.pointer (some ⟨R, 0, none⟩)) ∧ W2.heap.size ≤ R ∧ g ≠ R ∧ RplAt w3 R 0 0 .nilIface (.slice (some ⟨g, 0, none⟩) 6 c3) ∧ Rd w3 w3.heap.size 1 (some ⟨g, 0, none⟩) (namesC pairsS) ∧ Below W2.heap.size W2 w3 := by
  refine (newRep_any A c B W hr hB).mono ?_
  rintro e w3 ⟨R, A3, c3, rfl, hR, hp, ho, hb⟩
  have hs := h2.size
  rcases ho.form with ⟨_, h, _⟩ | ⟨g, rfl, _, _⟩
  · omega
  · refine ⟨R, g, c3, rfl, by omega, ?_, hp, ho.rd, h2.trans (hb.mono hs)⟩
    intro e
    have := own_ne_blk ho hp (by decide)
    rw [← e] at this
    exact this rfl
theorem replace_at (W2 w3 : World) (R g c3 : Nat) (s E : ByteArray) (hE : E = ⟨(escL s.data.toList).toArray⟩) (hs : s.size ≤ 1099511627776) (hR : W2.heap.size ≤ R) (hg : g ≠ R) (hp : RplAt w3 R 0 0 .nilIface (.slice (some ⟨g, 0, none⟩) 6 c3)) (hr : Rd w3 w3.heap.size 1 (some ⟨g, 0, none⟩) (namesC pairsS)) (h2 : Below W2.heap.size W2 w3) :
    Calls Tryz.prog 129 #[.pointer (some ⟨R, 0, none⟩), .string s] w3 fun e w4 => e = .returned (.string E) ∧ Below W2.heap.size W2 w4 := by
  refine (replace_any R g 0 c3 s w3.heap.size W2.heap.size w3 hp hr (Nat.le_refl _) hR hg hs).mono ?_
  rintro e w4 ⟨rfl, hb⟩
  exact ⟨by rw [hE], h2.trans hb⟩
set_option maxHeartbeats 1000000 in
theorem squoted_any (s : ByteArray) (w : World) (hs : s.size ≤ 1000000) : Calls Tryz.prog 113 #[.string s] w fun e w' => e = .returned (.string (quoT s)) ∧ Below w.heap.size w w' := by
  have HT := Lib.hid (quoT_esc s)
  have hz : (⟨(escL s.data.toList).toArray⟩ : ByteArray).size ≤ 2000000 := by
    have h1 := (escL_len s.data.toList).2
    have h2 : s.data.toList.length = s.size := (Lib.size_eq _).symm
    have h3 : (⟨(escL s.data.toList).toArray⟩ : ByteArray).size = (escL s.data.toList).length := by simp [ByteArray.size]
    omega
  have hlen : (escL s.data.toList).length ≤ 2000000 := by
    have h1 := (escL_len s.data.toList).2
    have h2 : s.data.toList.length = s.size := (Lib.size_eq _).symm
    omega
  go_enter Tryz.func113, Tryz.ntmps113
  go_wp2_with fail
  generalize hW : World.alloc _ _ = W0
  have hB0 : Below w.heap.size w W0 := by rw [← hW]; exact by repeat (first | exact Below.refl _ _ | refine Below.alloc ?_ (by first | exact Nat.le_refl _ | (simp; done) | (simp; omega)) _ | refine Below.setCell ?_ (by first | exact Nat.le_refl _ | (simp; done) | (simp; omega)) _ | refine Below.drew ?_)
  have hr0 : Rd W0 (w.heap.size + 1) 1 (some ⟨w.heap.size, 0, none⟩) (namesC pairsS) := by rw [← hW]; exact Rd.new w (namesC_sz _) _ rfl
  have hsz : w.heap.size + 1 ≤ W0.heap.size := by rw [← hW]; simp
  clear hW
  refine (newRep_at W0 W0 (some ⟨w.heap.size, 0, none⟩) 6 (w.heap.size + 1) hr0 hsz (Below.refl _ _)).mono ?_
  rintro e w1 ⟨R, g, c, rfl, hR, hg, hp, hr1, hb1⟩
  have HR := Lib.hid (replace_at W0 w1 R g c s _ rfl (by omega) hR hg hp hr1 hb1)
  clear hp hr1 hb1 hr0
  go_wp2_with (go_at_call 129; refine (HR.out).mono ?_; rintro e w2 ⟨rfl, hb2⟩)
  go_ret
  exact ⟨ret_string HT.out.symm, hB0.trans (hb2.mono hB0.size)⟩
end
section
open Go.RowKit
set_option maxHeartbeats 2000000 in
theorem smatcher_any (m : Mat) (w : World) (hk : kindB m.kind = true) (hn : m.name.size ≤ 1000) (hv : m.val.size ≤ 1000) :
    Calls Tryz.prog 80 #[.agg #[.int .i64 m.kind, .string m.name, .string m.val]] w fun e w' => e = .returned (.string (matcherT m)) ∧ Below w.heap.size w w' := by
  have hq : (quoT m.val).size ≤ 2002 := by
    have h1 := (escL_len m.val.data.toList).2
    have h2 : m.val.data.toList.length = m.val.size := (Lib.size_eq _).symm
    have h3 : (⟨(escL m.val.data.toList).toArray⟩ : ByteArray).size = (escL m.val.data.toList).length := by simp [ByteArray.size]
    rw [quoT_esc, ByteArray.size_append, ByteArray.size_append, h3]
    show 1 + _ + 1 ≤ _
    omega
  simp only [kindB, Bool.and_eq_true, decide_eq_true_eq] at hk
  have HQ := fun W : World => Lib.hid (squoted_any m.val W (by omega))
  have HT1 : m.kind = 1 → Hid (matcherT m = m.name ++ matsL.getD 1 ByteArray.empty ++ quoT m.val) := fun h => by show _ = _; rw [matcherT, h]; rfl
  have HT2 : m.kind = 2 → Hid (matcherT m = m.name ++ matsL.getD 2 ByteArray.empty ++ quoT m.val) := fun h => by show _ = _; rw [matcherT, h]; rfl
  have HT3 : m.kind = 3 → Hid (matcherT m = m.name ++ matsL.getD 3 ByteArray.empty ++ quoT m.val) := fun h => by show _ = _; rw [matcherT, h]; rfl
  have HT4 : m.kind = 4 → Hid (matcherT m = m.name ++ matsL.getD 4 ByteArray.empty ++ quoT m.val) := fun h => by show _ = _; rw [matcherT, h]; rfl
  generalize quoT m.val = q at *
  rcases (by omega : m.kind = 1 ∨ m.kind = 2 ∨ m.kind = 3 ∨ m.kind = 4) with h | h | h | h
  · have HT := HT1 h
    clear HT1 HT2 HT3 HT4
    rw [h]
    go_enter Tryz.func80, Tryz.ntmps80
    go_wp2_with fail
    generalize hW : World.alloc _ _ = W0
    have hB0 : Below w.heap.size w W0 := by rw [← hW]; exact by repeat (first | exact Below.refl _ _ | refine Below.alloc ?_ (by first | exact Nat.le_refl _ | (simp; done) | (simp; omega)) _ | refine Below.setCell ?_ (by first | exact Nat.le_refl _ | (simp; done) | (simp; omega)) _ | refine Below.drew ?_)
    have hX : Blk W0 w.heap.size 37 [.int .i64 1, .string m.name, .string m.val] := by rw [← hW]; exact (Blk.new w _ _).alloc _
    clear hW
    have L0 := fun z : Later W0 => later_cell hX (j := 0) rfl z
    have L1 := fun z : Later W0 => later_cell hX (j := 1) rfl z
    have L2 := fun z : Later W0 => later_cell hX (j := 2) rfl z
    refine wp_region_later (by kernel_rfl) (by kernel_rfl) ?_
    repeat (any_goals (first | go_big_quiet_step ((first | (go_at_call 113; with_reducible exact later_call (HQ _).out))) | quiet_step ((first | (go_at_call 113; with_reducible exact later_call (HQ _).out))) | (refine wpQuiet_step (fun K hK => ?_); go_simp; split <;> (refine hK _ ?_; clear hK K))))
    all_goals (refine wpQuiet_nil ?_; intro _ hw'; obtain ⟨z, rfl⟩ := hw')
    all_goals
      go_wp2_with fail
      go_ret
      exact ⟨ret_string HT.out.symm, hB0.trans ((later_below z).mono hB0.size)⟩
  · have HT := HT2 h
    clear HT1 HT2 HT3 HT4
    rw [h]
    go_enter Tryz.func80, Tryz.ntmps80
    go_wp2_with fail
    generalize hW : World.alloc _ _ = W0
    have hB0 : Below w.heap.size w W0 := by rw [← hW]; exact by repeat (first | exact Below.refl _ _ | refine Below.alloc ?_ (by first | exact Nat.le_refl _ | (simp; done) | (simp; omega)) _ | refine Below.setCell ?_ (by first | exact Nat.le_refl _ | (simp; done) | (simp; omega)) _ | refine Below.drew ?_)
    have hX : Blk W0 w.heap.size 37 [.int .i64 2, .string m.name, .string m.val] := by rw [← hW]; exact (Blk.new w _ _).alloc _
    clear hW
    have L0 := fun z : Later W0 => later_cell hX (j := 0) rfl z
    have L1 := fun z : Later W0 => later_cell hX (j := 1) rfl z
    have L2 := fun z : Later W0 => later_cell hX (j := 2) rfl z
    refine wp_region_later (by kernel_rfl) (by kernel_rfl) ?_
    repeat (any_goals (first | go_big_quiet_step ((first | (go_at_call 113; with_reducible exact later_call (HQ _).out))) | quiet_step ((first | (go_at_call 113; with_reducible exact later_call (HQ _).out))) | (refine wpQuiet_step (fun K hK => ?_); go_simp; split <;> (refine hK _ ?_; clear hK K))))
    all_goals (refine wpQuiet_nil ?_; intro _ hw'; obtain ⟨z, rfl⟩ := hw')
    all_goals
      go_wp2_with fail
      go_ret
      exact ⟨ret_string HT.out.symm, hB0.trans ((later_below z).mono hB0.size)⟩
  · have HT := HT3 h
    clear HT1 HT2 HT3 HT4
    rw [h]
    go_enter Tryz.func80, Tryz.ntmps80
    go_wp2_with fail
    generalize hW : World.alloc _ _ = W0
    have hB0 : Below w.heap.size w W0 := by rw [← hW]; exact by repeat (first | exact Below.refl _ _ | refine Below.alloc ?_ (by first | exact Nat.le_refl _ | (simp; done) | (simp; omega)) _ | refine Below.setCell ?_ (by first | exact Nat.le_refl _ | (simp; done) | (simp; omega)) _ | refine Below.drew ?_)
    have hX : Blk W0 w.heap.size 37 [.int .i64 3, .string m.name, .string m.val] := by rw [← hW]; exact (Blk.new w _ _).alloc _
    clear hW
    have L0 := fun z : Later W0 => later_cell hX (j := 0) rfl z
    have L1 := fun z : Later W0 => later_cell hX (j := 1) rfl z
    have L2 := fun z : Later W0 => later_cell hX (j := 2) rfl z
    refine wp_region_later (by kernel_rfl) (by kernel_rfl) ?_
    repeat (any_goals (first | go_big_quiet_step ((first | (go_at_call 113; with_reducible exact later_call (HQ _).out))) | quiet_step ((first | (go_at_call 113; with_reducible exact later_call (HQ _).out))) | (refine wpQuiet_step (fun K hK => ?_); go_simp; split <;> (refine hK _ ?_; clear hK K))))
    all_goals (refine wpQuiet_nil ?_; intro _ hw'; obtain ⟨z, rfl⟩ := hw')
    all_goals
      go_wp2_with fail
      go_ret
      exact ⟨ret_string HT.out.symm, hB0.trans ((later_below z).mono hB0.size)⟩
  · have HT := HT4 h
    clear HT1 HT2 HT3 HT4
    rw [h]
    go_enter Tryz.func80, Tryz.ntmps80
    go_wp2_with fail
    generalize hW : World.alloc _ _ = W0
    have hB0 : Below w.heap.size w W0 := by rw [← hW]; exact by repeat (first | exact Below.refl _ _ | refine Below.alloc ?_ (by first | exact Nat.le_refl _ | (simp; done) | (simp; omega)) _ | refine Below.setCell ?_ (by first | exact Nat.le_refl _ | (simp; done) | (simp; omega)) _ | refine Below.drew ?_)
    have hX : Blk W0 w.heap.size 37 [.int .i64 4, .string m.name, .string m.val] := by rw [← hW]; exact (Blk.new w _ _).alloc _
    clear hW
    have L0 := fun z : Later W0 => later_cell hX (j := 0) rfl z
    have L1 := fun z : Later W0 => later_cell hX (j := 1) rfl z
    have L2 := fun z : Later W0 => later_cell hX (j := 2) rfl z
    refine wp_region_later (by kernel_rfl) (by kernel_rfl) ?_
    repeat (any_goals (first | go_big_quiet_step ((first | (go_at_call 113; with_reducible exact later_call (HQ _).out))) | quiet_step ((first | (go_at_call 113; with_reducible exact later_call (HQ _).out))) | (refine wpQuiet_step (fun K hK => ?_); go_simp; split <;> (refine hK _ ?_; clear hK K))))
    all_goals (refine wpQuiet_nil ?_; intro _ hw'; obtain ⟨z, rfl⟩ := hw')
    all_goals
      go_wp2_with fail
      go_ret
      exact ⟨ret_string HT.out.symm, hB0.trans ((later_below z).mono hB0.size)⟩
end
section
open Go.RowKit
theorem word_no {s : ByteArray} {k : Nat} (h : k < s.size) (hc : wordC s[k] = false) : wordT s = false := by
  have : s.data.toList.all wordC = false := by
    rw [List.all_eq_false]
    have h' : k < s.data.toList.length := by rw [← Lib.size_eq]; exact h
    exact ⟨s.data.toList[k], List.getElem_mem h', by rw [show s.data.toList[k] = s[k] from rfl, hc]; decide⟩
  rw [wordT, this, Bool.and_false]
theorem word_first {s : ByteArray} (h : 0 < s.size) : wordT s = (!dchar s[0] && s.data.toList.all wordC) := by
  rw [wordT]
  cases hl : s.data.toList with
  | nil => rw [Lib.size_eq, hl] at h; simp at h
  | cons c r =>
    have : s[0] = c := by
      have e : s[0] = s.data.toList[0]'(by rw [hl]; simp) := rfl
      rw [e]; simp [hl]
    rw [this]
theorem word_all {s : ByteArray} (h : ∀ j (hj : j < s.size), wordC s[j] = true) : s.data.toList.all wordC = true := by
  rw [List.all_eq_true]
  intro c hc
  obtain ⟨j, hj, rfl⟩ := List.getElem_of_mem hc
  exact h j (by rw [Lib.size_eq]; exact hj)
theorem word_step {s : ByteArray} {k : Nat} (h : k < s.size) (hc : wordC s[k] = true) (ha : Hid (∀ j (hj : j < s.size), j < k → wordC s[j] = true)) : Hid (∀ j (hj : j < s.size), j < k + 1 → wordC s[j] = true) := by
  intro j hj hlt
  by_cases e : j = k
  · subst e; exact hc
  · exact ha j hj (by omega)
set_option maxHeartbeats 1000000 in
theorem lword_any (s : ByteArray) (w : World) (hs : s.size ≤ 1000000) :
    Calls Tryz.prog 78 #[.string s] w fun e w' => e = .returned (.bool (wordT s)) ∧ w = w' := by
  by_cases h0 : 0 < s.size
  · have he : s.toList.isEmpty = false := isEmpty_no h0
    have HT := Lib.hid (word_first h0)
    have HD := fun W : World => Lib.hid (digit_any s[0] W)
    cases hd : dchar s[0] with
    | true =>
      rw [hd] at HT HD
      have HF : Hid (wordT s = false) := by show _ = _; rw [HT.out]; rfl
      go_enter Tryz.func78, Tryz.ntmps78
      go_wp2_with (go_at_call 56; refine ((HD _).out).mono ?_; rintro e w' ⟨rfl, rfl⟩)
      go_ret
      exact ⟨ret_bool HF.out.symm, rfl⟩
    | false =>
      rw [hd] at HT HD
      clear hd
      go_enter Tryz.func78, Tryz.ntmps78
      go_wp2_with (go_at_call 56; refine ((HD _).out).mono ?_; rintro e w' ⟨rfl, rfl⟩)
      clear HD
      go_loop [3] (fun i => ∃ k : Nat, k ≤ s.size ∧ i = .int .i64 k ∧ Hid (∀ j (hj : j < s.size), j < k → wordC s[j] = true)) (fun i => s.size - (intOf i).toNat)
      case atStart => exact ⟨0, by omega, rfl, fun j _ hj => by omega⟩
      case round =>
        obtain ⟨k, hk, rfl, hall⟩ := hrel
        by_cases hlt : k < s.size
        · have hltI : (k : Int) < (s.size : Int) := by omega
          have HL := fun W : World => Lib.hid (letter_any s[k] W)
          have HG := fun W : World => Lib.hid (digit_any s[k] W)
          have hcase : wordC s[k] = (letB s[k] || dchar s[k]) := rfl
          cases h1 : letB s[k] <;> cases h2 : dchar s[k]
          · rw [h1] at HL; rw [h2] at HG; rw [h1, h2] at hcase
            have HF := Lib.hid (word_no hlt hcase)
            clear h1 h2 hcase
            go_wp2_with (first | (go_at_call 56; refine ((HG _).out).mono ?_; rintro e w' ⟨rfl, rfl⟩) | (go_at_call 57; refine ((HL _).out).mono ?_; rintro e w' ⟨rfl, rfl⟩))
            go_ret
            exact ⟨ret_bool HF.out.symm, rfl⟩
          all_goals
            rw [h1] at HL; rw [h2] at HG; rw [h1, h2] at hcase
            have hall2 := word_step hlt hcase hall
            clear h1 h2 hcase hall
            go_wp2_with (first | (go_at_call 56; refine ((HG _).out).mono ?_; rintro e w' ⟨rfl, rfl⟩) | (go_at_call 57; refine ((HL _).out).mono ?_; rintro e w' ⟨rfl, rfl⟩))
            go_round
            case rel => exact ⟨k + 1, by omega, by go_num, hall2⟩
            case measure => simp [intOf]; omega
        · have hltI : ¬ (k : Int) < (s.size : Int) := by omega
          have HF : Hid (wordT s = true) := by show _ = _; rw [HT.out, word_all fun j hj => hall.out j hj (by omega)]; rfl
          go_wp2
          go_ret
          exact ⟨ret_bool HF.out.symm, rfl⟩
  · have hz : s.size = 0 := by omega
    have he : s.toList.isEmpty = true := by
      rw [List.isEmpty_iff, toList_data', ← List.length_eq_zero_iff, ← Lib.size_eq]; exact hz
    have HF : Hid (wordT s = false) := by
      show _ = _
      have : s.data.toList = [] := by rw [← List.length_eq_zero_iff, ← Lib.size_eq]; exact hz
      rw [wordT, this]; rfl
    go_enter Tryz.func78, Tryz.ntmps78
    go_wp2
    go_ret
    exact ⟨ret_bool HF.out.symm, rfl⟩
end
section
open Go.RowKit
theorem getD_at {l : List ByteArray} {k : Nat} (h : k < l.length) : l[k]? = some (l.getD k ByteArray.empty) := by
  rw [List.getD_eq_getElem?_getD, List.getElem?_eq_getElem h]
  rfl
set_option maxHeartbeats 400000 in
theorem sopsw_any (k : Nat) (hk : k < 14) (w : World) : Calls Tryz.prog 87 #[.int .i64 (k : Int)] w fun e w' => e = .returned (.string (opsL.getD k ByteArray.empty)) ∧ Below w.heap.size w w' := by
  have H := Lib.hid (pops_any w)
  have hkI : (k : Int) < 14 := by omega
  have hk0 : (0 : Int) ≤ k := by omega
  have hat := Lib.hid (getD_at (l := opsL) (k := k) hk)
  generalize opsL.getD k ByteArray.empty = x at *
  go_enter Tryz.func87, Tryz.ntmps87
  go_wp2_with (go_at_call 92; refine (H.out).mono ?_; rintro e w' ⟨rfl, hr, hb⟩; obtain ⟨b, o, hA, hbl, p0⟩ := hr.at1 (textsC_at hat.out); injection hA with hA; injection hA with e1 e2; subst e1 e2; rw [Nat.zero_add] at p0)
  go_ret
  exact ⟨rfl, hb⟩
set_option maxHeartbeats 400000 in
theorem sfuncsw_any (k : Nat) (hk : k < 13) (w : World) : Calls Tryz.prog 49 #[.int .i64 (k : Int)] w fun e w' => e = .returned (.string (funcsL.getD k ByteArray.empty)) ∧ Below w.heap.size w w' := by
  have H := Lib.hid (pfuncs_any w)
  have hkI : (k : Int) < 13 := by omega
  have hk0 : (0 : Int) ≤ k := by omega
  have hat := Lib.hid (getD_at (l := funcsL) (k := k) hk)
  generalize funcsL.getD k ByteArray.empty = x at *
  go_enter Tryz.func49, Tryz.ntmps49
  go_wp2_with (go_at_call 83; refine (H.out).mono ?_; rintro e w' ⟨rfl, hr, hb⟩; obtain ⟨b, o, hA, hbl, p0⟩ := hr.at1 (textsC_at hat.out); injection hA with hA; injection hA with e1 e2; subst e1 e2; rw [Nat.zero_add] at p0)
  go_ret
  exact ⟨rfl, hb⟩
set_option maxHeartbeats 400000 in
theorem saggsw_any (k : Nat) (hk : k < 6) (w : World) : Calls Tryz.prog 84 #[.int .i64 (k : Int)] w fun e w' => e = .returned (.string (aggsL.getD k ByteArray.empty)) ∧ Below w.heap.size w w' := by
  have H := Lib.hid (paggs_any w)
  have hkI : (k : Int) < 6 := by omega
  have hk0 : (0 : Int) ≤ k := by omega
  have hat := Lib.hid (getD_at (l := aggsL) (k := k) hk)
  generalize aggsL.getD k ByteArray.empty = x at *
  go_enter Tryz.func84, Tryz.ntmps84
  go_wp2_with (go_at_call 112; refine (H.out).mono ?_; rintro e w' ⟨rfl, hr, hb⟩; obtain ⟨b, o, hA, hbl, p0⟩ := hr.at1 (textsC_at hat.out); injection hA with hA; injection hA with e1 e2; subst e1 e2; rw [Nat.zero_add] at p0)
  go_ret
  exact ⟨rfl, hb⟩
/-- A node by value. -/
def nodeV (n : Nod) (Am An : Option Addr) (cm cn : Nat) : Value := .agg #[.int .i64 n.kind, .int .i64 n.op, .string n.text, .slice Am n.mat.length cm, .int .i64 n.width, .int .i64 n.back, .int .i64 n.grp, .slice An n.names.length cn, .bool n.cmp, .int .i64 n.parts]
/-- A node's names in memory, and their size. -/
structure NamesAt (n : Nod) (An : Option Addr) (cn : Nat) (w : World) : Prop where
  rd : Rd w w.heap.size 1 An (textsC n.names)
  le : n.names.length ≤ cn
  len : n.names.length ≤ 140737488355328
  size : (joinT n.names).size ≤ 1000000000000
set_option maxRecDepth 100000 in
set_option maxHeartbeats 2000000 in
theorem sagg_any (n : Nod) (Am An : Option Addr) (cm cn : Nat) (a : Sd) (w : World) (hop : inB 1 5 n.op = true) (hg : n.grp = 0 ∨ n.grp = 1 ∨ n.grp = 2) (hN : NamesAt n An cn w) (h1 : a.text.size ≤ 1000000) (h3 : 0 ≤ a.deep) (h4 : a.deep ≤ 1000) :
    Calls Tryz.prog 51 #[nodeV n Am An cm cn, sdV a] w fun e w' => e = .returned (sdV (a.inside (aggW n))) ∧ Below w.heap.size w w' := by
  simp only [inB, Bool.and_eq_true, decide_eq_true_eq] at hop
  obtain ⟨k, hk⟩ : ∃ k : Nat, n.op = (k : Int) := ⟨n.op.toNat, by omega⟩
  have hkn : n.op.toNat = k := by omega
  have hk6 : k < 6 := by omega
  obtain ⟨q1, q2, q3, q4⟩ := hN
  have HW := fun W : World => Lib.hid (saggsw_any k hk6 W)
  have HN := fun (W : World) (hb : Below w.heap.size w W) => Lib.hid (snames_any n.names An n.names.length cn w.heap.size W (q1.below hb) rfl q2 q3 hb.size (by omega))
  have hww : (aggsL.getD k ByteArray.empty).size ≤ 100 := by
    have : ∀ k : Nat, k < 6 → (aggsL.getD k ByteArray.empty).size ≤ 100 := by decide +kernel
    exact this k hk6
  have hns : (namesT n.names).size ≤ 1000000000002 := by
    rw [namesT, ByteArray.size_append, ByteArray.size_append]
    show 1 + _ + 1 ≤ _
    omega
  have HI := fun (wd : ByteArray) (hs : wd.size ≤ 1099511627776) (W : World) => Lib.hid (sinside_any a wd W h1 hs h3 h4)
  have HT0 : Hid (aggsL.getD n.op.toNat ByteArray.empty = aggsL.getD k ByteArray.empty) := by rw [hkn]; exact rfl
  unfold nodeV
  rw [hk]
  unfold sdV at HI ⊢
  generalize aggsL.getD k ByteArray.empty = wd at *
  rcases hg with hg | hg | hg
  · have HT : Hid (aggW n = wd) := by show _ = _; rw [aggW, HT0.out, hg]; simp
    rw [hg]
    go_enter Tryz.func51, Tryz.ntmps51
    go_wp2_with fail
    generalize hW : World.alloc _ _ = W0
    have hB0 : Below w.heap.size w W0 := by rw [← hW]; exact by repeat (first | exact Below.refl _ _ | refine Below.alloc ?_ (by first | exact Nat.le_refl _ | (simp; done) | (simp; omega)) _ | refine Below.setCell ?_ (by first | exact Nat.le_refl _ | (simp; done) | (simp; omega)) _ | refine Below.drew ?_)
    have hX : Blk W0 w.heap.size 41 [.int .i64 n.kind, .int .i64 k, .string n.text, .slice Am n.mat.length cm, .int .i64 n.width, .int .i64 n.back, .int .i64 0, .slice An n.names.length cn, .bool n.cmp, .int .i64 n.parts] := by rw [← hW]; exact ((Blk.new w _ _).alloc _).alloc _
    have hS : Blk W0 (w.heap.size + 1) 53 [.string a.text, .int .i64 a.row, .int .i64 a.deep] := by
      rw [← hW]
      have := (Blk.new (w.alloc (.cells #[.int .i64 n.kind, .int .i64 k, .string n.text, .slice Am n.mat.length cm, .int .i64 n.width, .int .i64 n.back, .int .i64 0, .slice An n.names.length cn, .bool n.cmp, .int .i64 n.parts] 41)) 53 [.string a.text, .int .i64 a.row, .int .i64 a.deep]).alloc (.cells #[.string ⟨#[]⟩, .int .i64 0, .int .i64 0] 53)
      simpa using this
    have hR : Blk W0 (w.heap.size + 1 + 1) 53 [.string ⟨#[]⟩, .int .i64 0, .int .i64 0] := by
      rw [← hW]
      have := Blk.new ((w.alloc (.cells #[.int .i64 n.kind, .int .i64 k, .string n.text, .slice Am n.mat.length cm, .int .i64 n.width, .int .i64 n.back, .int .i64 0, .slice An n.names.length cn, .bool n.cmp, .int .i64 n.parts] 41)).alloc (.cells #[.string a.text, .int .i64 a.row, .int .i64 a.deep] 53)) 53 [.string ⟨#[]⟩, .int .i64 0, .int .i64 0]
      simpa using this
    clear hW
    refine ((HW W0).out).mono ?_
    rintro e w1 ⟨rfl, hb1⟩
    have bX := hX.below hb1 hX.lt
    have bS := hS.below hb1 hS.lt
    have bR := hR.below hb1 hR.lt
    have hB1 := hB0.trans (hb1.mono hB0.size)
    clear hX hS hR hB0 hb1
    have c6 := bX.cell (j := 6) rfl
    have c7 := bX.cell (j := 7) rfl
    have s0 := bS.cell (j := 0) rfl
    have s1 := bS.cell (j := 1) rfl
    have s2 := bS.cell (j := 2) rfl
    go_wp2_with fail
    refine ((HI (wd) (by omega) w1).out).mono ?_
    rintro e w3 ⟨rfl, hb3⟩
    have bR3 := bR.below hb3 bR.lt
    have hB3 := hB1.trans (hb3.mono hB1.size)
    have c0 := bR3.cell (j := 0) rfl
    have c1 := bR3.cell (j := 1) rfl
    have c2 := bR3.cell (j := 2) rfl
    have f0 := bR3.frozen
    go_wp2_with fail
    rw [HT.out]
    have bE := ((bR3.set 0 (.string (a.inside (wd)).text)).set 1 (.int .i64 (a.inside (wd)).row)).set 2 (.int .i64 (a.inside (wd)).deep)
    have d0 := bE.cell (j := 0) rfl
    have d1 := bE.cell (j := 1) rfl
    have d2 := bE.cell (j := 2) rfl
    exact bodyPost_ret (v := sdV (a.inside (wd))) (by simp [results, Tryz.results51, go_sem, d0, d1, d2]; rfl) rfl ⟨rfl, ((hB3.setCell (by simp; omega) _).setCell (by simp; omega) _).setCell (by simp; omega) _⟩
  · have HT : Hid (aggW n = wd ++ (sByB ++ namesT n.names ++ sBlank)) := by show _ = _; rw [aggW, HT0.out, hg]; simp
    have hs : (wd ++ (sByB ++ namesT n.names ++ sBlank)).size ≤ 1099511627776 := by
      simp only [ByteArray.size_append]
      show _ + (4 + _ + 1) ≤ _
      omega
    rw [hg]
    go_enter Tryz.func51, Tryz.ntmps51
    go_wp2_with fail
    generalize hW : World.alloc _ _ = W0
    have hB0 : Below w.heap.size w W0 := by rw [← hW]; exact by repeat (first | exact Below.refl _ _ | refine Below.alloc ?_ (by first | exact Nat.le_refl _ | (simp; done) | (simp; omega)) _ | refine Below.setCell ?_ (by first | exact Nat.le_refl _ | (simp; done) | (simp; omega)) _ | refine Below.drew ?_)
    have hX : Blk W0 w.heap.size 41 [.int .i64 n.kind, .int .i64 k, .string n.text, .slice Am n.mat.length cm, .int .i64 n.width, .int .i64 n.back, .int .i64 1, .slice An n.names.length cn, .bool n.cmp, .int .i64 n.parts] := by rw [← hW]; exact ((Blk.new w _ _).alloc _).alloc _
    have hS : Blk W0 (w.heap.size + 1) 53 [.string a.text, .int .i64 a.row, .int .i64 a.deep] := by
      rw [← hW]
      have := (Blk.new (w.alloc (.cells #[.int .i64 n.kind, .int .i64 k, .string n.text, .slice Am n.mat.length cm, .int .i64 n.width, .int .i64 n.back, .int .i64 1, .slice An n.names.length cn, .bool n.cmp, .int .i64 n.parts] 41)) 53 [.string a.text, .int .i64 a.row, .int .i64 a.deep]).alloc (.cells #[.string ⟨#[]⟩, .int .i64 0, .int .i64 0] 53)
      simpa using this
    have hR : Blk W0 (w.heap.size + 1 + 1) 53 [.string ⟨#[]⟩, .int .i64 0, .int .i64 0] := by
      rw [← hW]
      have := Blk.new ((w.alloc (.cells #[.int .i64 n.kind, .int .i64 k, .string n.text, .slice Am n.mat.length cm, .int .i64 n.width, .int .i64 n.back, .int .i64 1, .slice An n.names.length cn, .bool n.cmp, .int .i64 n.parts] 41)).alloc (.cells #[.string a.text, .int .i64 a.row, .int .i64 a.deep] 53)) 53 [.string ⟨#[]⟩, .int .i64 0, .int .i64 0]
      simpa using this
    clear hW
    refine ((HW W0).out).mono ?_
    rintro e w1 ⟨rfl, hb1⟩
    have bX := hX.below hb1 hX.lt
    have bS := hS.below hb1 hS.lt
    have bR := hR.below hb1 hR.lt
    have hB1 := hB0.trans (hb1.mono hB0.size)
    clear hX hS hR hB0 hb1
    have c6 := bX.cell (j := 6) rfl
    have c7 := bX.cell (j := 7) rfl
    have s0 := bS.cell (j := 0) rfl
    have s1 := bS.cell (j := 1) rfl
    have s2 := bS.cell (j := 2) rfl
    go_wp2_with fail
    refine ((HN w1 hB1).out).mono ?_
    rintro e w2 ⟨rfl, hb2⟩
    have bS2 := bS.below hb2 bS.lt
    have bR2 := bR.below hb2 bR.lt
    have hB2 := hB1.trans (hb2.mono hB1.size)
    clear bX bS bR hB1 hb2 c6 c7 s0 s1 s2
    have s0 := bS2.cell (j := 0) rfl
    have s1 := bS2.cell (j := 1) rfl
    have s2 := bS2.cell (j := 2) rfl
    go_wp2_with fail
    refine ((HI (wd ++ (sByB ++ namesT n.names ++ sBlank)) (by exact hs) w2).out).mono ?_
    rintro e w3 ⟨rfl, hb3⟩
    have bR3 := bR2.below hb3 bR2.lt
    have hB3 := hB2.trans (hb3.mono hB2.size)
    have c0 := bR3.cell (j := 0) rfl
    have c1 := bR3.cell (j := 1) rfl
    have c2 := bR3.cell (j := 2) rfl
    have f0 := bR3.frozen
    go_wp2_with fail
    rw [HT.out]
    have bE := ((bR3.set 0 (.string (a.inside (wd ++ (sByB ++ namesT n.names ++ sBlank))).text)).set 1 (.int .i64 (a.inside (wd ++ (sByB ++ namesT n.names ++ sBlank))).row)).set 2 (.int .i64 (a.inside (wd ++ (sByB ++ namesT n.names ++ sBlank))).deep)
    have d0 := bE.cell (j := 0) rfl
    have d1 := bE.cell (j := 1) rfl
    have d2 := bE.cell (j := 2) rfl
    exact bodyPost_ret (v := sdV (a.inside (wd ++ (sByB ++ namesT n.names ++ sBlank)))) (by simp [results, Tryz.results51, go_sem, d0, d1, d2]; rfl) rfl ⟨rfl, ((hB3.setCell (by simp; omega) _).setCell (by simp; omega) _).setCell (by simp; omega) _⟩
  · have HT : Hid (aggW n = wd ++ (sWithoutB ++ namesT n.names ++ sBlank)) := by show _ = _; rw [aggW, HT0.out, hg]; simp
    have hs : (wd ++ (sWithoutB ++ namesT n.names ++ sBlank)).size ≤ 1099511627776 := by
      simp only [ByteArray.size_append]
      show _ + (9 + _ + 1) ≤ _
      omega
    rw [hg]
    go_enter Tryz.func51, Tryz.ntmps51
    go_wp2_with fail
    generalize hW : World.alloc _ _ = W0
    have hB0 : Below w.heap.size w W0 := by rw [← hW]; exact by repeat (first | exact Below.refl _ _ | refine Below.alloc ?_ (by first | exact Nat.le_refl _ | (simp; done) | (simp; omega)) _ | refine Below.setCell ?_ (by first | exact Nat.le_refl _ | (simp; done) | (simp; omega)) _ | refine Below.drew ?_)
    have hX : Blk W0 w.heap.size 41 [.int .i64 n.kind, .int .i64 k, .string n.text, .slice Am n.mat.length cm, .int .i64 n.width, .int .i64 n.back, .int .i64 2, .slice An n.names.length cn, .bool n.cmp, .int .i64 n.parts] := by rw [← hW]; exact ((Blk.new w _ _).alloc _).alloc _
    have hS : Blk W0 (w.heap.size + 1) 53 [.string a.text, .int .i64 a.row, .int .i64 a.deep] := by
      rw [← hW]
      have := (Blk.new (w.alloc (.cells #[.int .i64 n.kind, .int .i64 k, .string n.text, .slice Am n.mat.length cm, .int .i64 n.width, .int .i64 n.back, .int .i64 2, .slice An n.names.length cn, .bool n.cmp, .int .i64 n.parts] 41)) 53 [.string a.text, .int .i64 a.row, .int .i64 a.deep]).alloc (.cells #[.string ⟨#[]⟩, .int .i64 0, .int .i64 0] 53)
      simpa using this
    have hR : Blk W0 (w.heap.size + 1 + 1) 53 [.string ⟨#[]⟩, .int .i64 0, .int .i64 0] := by
      rw [← hW]
      have := Blk.new ((w.alloc (.cells #[.int .i64 n.kind, .int .i64 k, .string n.text, .slice Am n.mat.length cm, .int .i64 n.width, .int .i64 n.back, .int .i64 2, .slice An n.names.length cn, .bool n.cmp, .int .i64 n.parts] 41)).alloc (.cells #[.string a.text, .int .i64 a.row, .int .i64 a.deep] 53)) 53 [.string ⟨#[]⟩, .int .i64 0, .int .i64 0]
      simpa using this
    clear hW
    refine ((HW W0).out).mono ?_
    rintro e w1 ⟨rfl, hb1⟩
    have bX := hX.below hb1 hX.lt
    have bS := hS.below hb1 hS.lt
    have bR := hR.below hb1 hR.lt
    have hB1 := hB0.trans (hb1.mono hB0.size)
    clear hX hS hR hB0 hb1
    have c6 := bX.cell (j := 6) rfl
    have c7 := bX.cell (j := 7) rfl
    have s0 := bS.cell (j := 0) rfl
    have s1 := bS.cell (j := 1) rfl
    have s2 := bS.cell (j := 2) rfl
    go_wp2_with fail
    refine ((HN w1 hB1).out).mono ?_
    rintro e w2 ⟨rfl, hb2⟩
    have bS2 := bS.below hb2 bS.lt
    have bR2 := bR.below hb2 bR.lt
    have hB2 := hB1.trans (hb2.mono hB1.size)
    clear bX bS bR hB1 hb2 c6 c7 s0 s1 s2
    have s0 := bS2.cell (j := 0) rfl
    have s1 := bS2.cell (j := 1) rfl
    have s2 := bS2.cell (j := 2) rfl
    go_wp2_with fail
    refine ((HI (wd ++ (sWithoutB ++ namesT n.names ++ sBlank)) (by exact hs) w2).out).mono ?_
    rintro e w3 ⟨rfl, hb3⟩
    have bR3 := bR2.below hb3 bR2.lt
    have hB3 := hB2.trans (hb3.mono hB2.size)
    have c0 := bR3.cell (j := 0) rfl
    have c1 := bR3.cell (j := 1) rfl
    have c2 := bR3.cell (j := 2) rfl
    have f0 := bR3.frozen
    go_wp2_with fail
    rw [HT.out]
    have bE := ((bR3.set 0 (.string (a.inside (wd ++ (sWithoutB ++ namesT n.names ++ sBlank))).text)).set 1 (.int .i64 (a.inside (wd ++ (sWithoutB ++ namesT n.names ++ sBlank))).row)).set 2 (.int .i64 (a.inside (wd ++ (sWithoutB ++ namesT n.names ++ sBlank))).deep)
    have d0 := bE.cell (j := 0) rfl
    have d1 := bE.cell (j := 1) rfl
    have d2 := bE.cell (j := 2) rfl
    exact bodyPost_ret (v := sdV (a.inside (wd ++ (sWithoutB ++ namesT n.names ++ sBlank)))) (by simp [results, Tryz.results51, go_sem, d0, d1, d2]; rfl) rfl ⟨rfl, ((hB3.setCell (by simp; omega) _).setCell (by simp; omega) _).setCell (by simp; omega) _⟩
end
end Go.Proofs.YtakfnojiaakfpaaGreatDoor
