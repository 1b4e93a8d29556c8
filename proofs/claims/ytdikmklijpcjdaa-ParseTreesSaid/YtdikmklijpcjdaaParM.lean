/- How a query is read: words that are kept, names, groups, spans. -/
import Derived.Test.YtdikmklijpcjdaaParN
namespace Go.Proofs.Ytdikmklijpcjdaa
open Go.RowKit
attribute [local go_sem ↓] tok_f0 tok_f2 tok_f3

theorem lit_toList (l : List UInt8) : (⟨l.toArray⟩ : ByteArray).toList = l := by rw [Lib.toList_data]
theorem beq_lit (t : ByteArray) (l : List UInt8) (h : ¬ t = ⟨l.toArray⟩) : (t.toList == l) = false := by
  have h1 := beq_toList (a := t) (b := ⟨l.toArray⟩)
  rw [decide_eq_false h] at h1
  have e := lit_toList l
  rw [e] at h1
  exact h1
theorem keptB_in {w : ByteArray} (h : w ∈ keptL) : keptB w = true := by
  have : keptL.any (fun x => decide (w = x)) = true := by
    rw [List.any_eq_true]
    exact ⟨w, h, by simp⟩
  simp [keptB, this]
theorem keptB_out {w : ByteArray} (h : w ∉ keptL) : keptB w = (decide (0 < numW funcsL w) || decide (0 < numW aggsL w)) := by
  have : keptL.any (fun x => decide (w = x)) = false := by
    rw [List.any_eq_false]
    intro x hx
    simp only [decide_eq_true_eq]
    rintro rfl
    exact h hx
  simp [keptB, this]
set_option maxHeartbeats 2000000 in
theorem kept_any (t : ByteArray) (w : World) : Calls Try.prog 101 #[.string t] w fun e w' => e = .returned (.bool (keptB t)) ∧ Below w.heap.size w w' := by
  by_cases eor : t = ⟨#[111, 114]⟩
  · subst eor
    have HT : Hid (keptB ⟨#[111, 114]⟩ = true) := keptB_in (by simp [keptL, sOr, sAnd, sUnless, sBool, sOn, sIgn, sBy, sWithout, sOffset])
    go_enter Try.func101, Try.ntmps101
    go_wp2_with fail
    go_ret
    exact ⟨ret_bool HT.out.symm, Below.refl _ _⟩
  by_cases eand : t = ⟨#[97, 110, 100]⟩
  · subst eand
    have HT : Hid (keptB ⟨#[97, 110, 100]⟩ = true) := keptB_in (by simp [keptL, sOr, sAnd, sUnless, sBool, sOn, sIgn, sBy, sWithout, sOffset])
    go_enter Try.func101, Try.ntmps101
    go_wp2_with fail
    go_ret
    exact ⟨ret_bool HT.out.symm, Below.refl _ _⟩
  by_cases eunless : t = ⟨#[117, 110, 108, 101, 115, 115]⟩
  · subst eunless
    have HT : Hid (keptB ⟨#[117, 110, 108, 101, 115, 115]⟩ = true) := keptB_in (by simp [keptL, sOr, sAnd, sUnless, sBool, sOn, sIgn, sBy, sWithout, sOffset])
    go_enter Try.func101, Try.ntmps101
    go_wp2_with fail
    go_ret
    exact ⟨ret_bool HT.out.symm, Below.refl _ _⟩
  by_cases ebool : t = ⟨#[98, 111, 111, 108]⟩
  · subst ebool
    have HT : Hid (keptB ⟨#[98, 111, 111, 108]⟩ = true) := keptB_in (by simp [keptL, sOr, sAnd, sUnless, sBool, sOn, sIgn, sBy, sWithout, sOffset])
    go_enter Try.func101, Try.ntmps101
    go_wp2_with fail
    go_ret
    exact ⟨ret_bool HT.out.symm, Below.refl _ _⟩
  by_cases eon : t = ⟨#[111, 110]⟩
  · subst eon
    have HT : Hid (keptB ⟨#[111, 110]⟩ = true) := keptB_in (by simp [keptL, sOr, sAnd, sUnless, sBool, sOn, sIgn, sBy, sWithout, sOffset])
    go_enter Try.func101, Try.ntmps101
    go_wp2_with fail
    go_ret
    exact ⟨ret_bool HT.out.symm, Below.refl _ _⟩
  by_cases eignoring : t = ⟨#[105, 103, 110, 111, 114, 105, 110, 103]⟩
  · subst eignoring
    have HT : Hid (keptB ⟨#[105, 103, 110, 111, 114, 105, 110, 103]⟩ = true) := keptB_in (by simp [keptL, sOr, sAnd, sUnless, sBool, sOn, sIgn, sBy, sWithout, sOffset])
    go_enter Try.func101, Try.ntmps101
    go_wp2_with fail
    go_ret
    exact ⟨ret_bool HT.out.symm, Below.refl _ _⟩
  by_cases eby : t = ⟨#[98, 121]⟩
  · subst eby
    have HT : Hid (keptB ⟨#[98, 121]⟩ = true) := keptB_in (by simp [keptL, sOr, sAnd, sUnless, sBool, sOn, sIgn, sBy, sWithout, sOffset])
    go_enter Try.func101, Try.ntmps101
    go_wp2_with fail
    go_ret
    exact ⟨ret_bool HT.out.symm, Below.refl _ _⟩
  by_cases ewithout : t = ⟨#[119, 105, 116, 104, 111, 117, 116]⟩
  · subst ewithout
    have HT : Hid (keptB ⟨#[119, 105, 116, 104, 111, 117, 116]⟩ = true) := keptB_in (by simp [keptL, sOr, sAnd, sUnless, sBool, sOn, sIgn, sBy, sWithout, sOffset])
    go_enter Try.func101, Try.ntmps101
    go_wp2_with fail
    go_ret
    exact ⟨ret_bool HT.out.symm, Below.refl _ _⟩
  by_cases eoffset : t = ⟨#[111, 102, 102, 115, 101, 116]⟩
  · subst eoffset
    have HT : Hid (keptB ⟨#[111, 102, 102, 115, 101, 116]⟩ = true) := keptB_in (by simp [keptL, sOr, sAnd, sUnless, sBool, sOn, sIgn, sBy, sWithout, sOffset])
    go_enter Try.func101, Try.ntmps101
    go_wp2_with fail
    go_ret
    exact ⟨ret_bool HT.out.symm, Below.refl _ _⟩
  have HT := Lib.hid (keptB_out (w := t) (by simp only [keptL, List.mem_cons, List.not_mem_nil, or_false, not_or]; exact ⟨eor, eand, eunless, ebool, eon, eignoring, eby, ewithout, eoffset⟩))
  have bor : (t.toList == [111, 114]) = false := beq_lit t _ eor
  have band : (t.toList == [97, 110, 100]) = false := beq_lit t _ eand
  have bunless : (t.toList == [117, 110, 108, 101, 115, 115]) = false := beq_lit t _ eunless
  have bbool : (t.toList == [98, 111, 111, 108]) = false := beq_lit t _ ebool
  have bon : (t.toList == [111, 110]) = false := beq_lit t _ eon
  have bignoring : (t.toList == [105, 103, 110, 111, 114, 105, 110, 103]) = false := beq_lit t _ eignoring
  have bby : (t.toList == [98, 121]) = false := beq_lit t _ eby
  have bwithout : (t.toList == [119, 105, 116, 104, 111, 117, 116]) = false := beq_lit t _ ewithout
  have boffset : (t.toList == [111, 102, 102, 115, 101, 116]) = false := beq_lit t _ eoffset
  clear eor eand eunless ebool eon eignoring eby ewithout eoffset
  have HF := fun (W : World) => Lib.hid (pfuncs_any W)
  have HA := fun (W : World) => Lib.hid (paggs_any W)
  have hbf := numW_bd funcsL t
  have hba := numW_bd aggsL t
  by_cases hf : 0 < numW funcsL t
  · have HNf := fun (W : World) (g : Nat) (h : Rd W (g + 1) 1 (some ⟨g, 0, none⟩) (textsC funcsL)) => Lib.hid (numfuncs_any t W g h)
    have HTT : Hid (keptB t = true) := by show _ = _; rw [HT.out, decide_eq_true hf, Bool.true_or]
    generalize numW funcsL t = f at *
    go_enter Try.func101, Try.ntmps101
    go_wp2_with (first | (go_at_call 96; refine ((HF _).out).mono ?_; rintro e w1 ⟨rfl, hr1, hb1⟩) | (go_at_call 68; refine ((HNf _ _ hr1).out).mono ?_; rintro e w2 ⟨rfl, rfl⟩))
    go_ret
    exact ⟨ret_bool HTT.out.symm, hb1⟩
  · have hf0 : numW funcsL t = 0 := by omega
    have HNf : ∀ (W : World) (g : Nat) (h : Rd W (g + 1) 1 (some ⟨g, 0, none⟩) (textsC funcsL)), Hid (Calls Try.prog 68 #[.slice (some ⟨g, 0, none⟩) 13 13, .string t] W fun e w' => e = .returned (.int .i64 0) ∧ W = w') := fun W g h => by
      have := numfuncs_any t W g h
      rw [hf0] at this
      exact this
    have HNa := fun (W : World) (g : Nat) (h : Rd W (g + 1) 1 (some ⟨g, 0, none⟩) (textsC aggsL)) => Lib.hid (numaggs_any t W g h)
    have HTT : Hid (keptB t = decide (0 < numW aggsL t)) := by show _ = _; rw [HT.out, decide_eq_false hf, Bool.false_or]
    clear hf hf0 hbf
    generalize numW aggsL t = a at *
    go_enter Try.func101, Try.ntmps101
    go_wp2_with (first | (go_at_call 96; refine ((HF _).out).mono ?_; rintro e w1 ⟨rfl, hr1, hb1⟩) | (go_at_call 97; refine ((HA _).out).mono ?_; rintro e w3 ⟨rfl, hr3, hb3⟩) | (go_at_call 68; with_reducible refine ((HNf _ _ hr1).out).mono ?_; rintro e w2 ⟨rfl, rfl⟩) | (go_at_call 68; with_reducible refine ((HNa _ _ hr3).out).mono ?_; rintro e w4 ⟨rfl, rfl⟩))
    go_ret
    exact ⟨by rw [HTT.out]; rfl, hb1.trans (hb3.mono hb1.size)⟩
end Go.Proofs.Ytdikmklijpcjdaa
