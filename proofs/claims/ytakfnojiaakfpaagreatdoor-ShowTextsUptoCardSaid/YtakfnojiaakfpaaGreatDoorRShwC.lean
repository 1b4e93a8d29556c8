/- The document's writer: words, brackets, rows, lists of words. -/
import Derived.Test.YtakfnojiaakfpaaGreatDoorRShwB
import Derived.Test.YtakfnojiaakfpaaGreatDoorRefLexP
import Derived.Test.YtakfnojiaakfpaaGreatDoorRefK
namespace Go.Proofs.YtakfnojiaakfpaaGreatDoor
open Go.RowKit
theorem word_yes {s : ByteArray} (h : wordT s = true) (hs : s.size ≤ 4096) : ∃ t u, lexR s = .ok [t, u] ∧ t.kind = 3 ∧ t.text.size = s.size := by
  obtain ⟨ts, hk, hl⟩ := lx_word h 0 [] (fun _ _ e => by cases e)
  rw [List.append_nil] at hl
  have hlex : lexR s = .ok (ts ++ [⟨0, 0 + s.data.toList.length, mkB [], 0⟩]) := by rw [lexR, if_neg (by omega), hl]; rfl
  obtain ⟨t, rfl⟩ := List.length_eq_one_iff.1 (show ts.length = 1 by have := congrArg List.length hk; simpa using this)
  simp only [List.map_cons, List.map_nil, List.cons.injEq, and_true, Tok.key, wordK, Prod.mk.injEq] at hk
  exact ⟨t, _, hlex, hk.1, by rw [hk.2.1]⟩
theorem word_only {s : ByteArray} {t u : Tok} (h : lexR s = .ok [t, u]) (hk : t.kind = 3) (hz : t.text.size = s.size) : wordT s = true := by
  have h4 : ¬ 4096 < s.size := by intro h4; rw [lexR, if_pos h4] at h; cases h
  rw [lexR, if_neg h4] at h
  have hsz := Lib.size_eq s
  cases hl : s.data.toList with
  | nil =>
    rw [hl] at h
    have h : LexR.ok [_] = _ := h
    injection h with h
    cases h
  | cons c r =>
    rw [hl] at h hsz
    rw [lexL_cons] at h
    cases ho : oneL 0 (c :: r) with
    | err p e => rw [ho] at h; cases h
    | ok ts n =>
      rw [ho] at h
      dsimp only at h
      cases hr : lexL (0 + n) ((c :: r).drop n) with
      | err p e => rw [hr] at h; cases h
      | ok y =>
        rw [hr] at h
        have h : ts ++ y = [t, u] := by injection h
        have hn := oneL_n ho
        obtain ⟨h1, h2⟩ := oneL_tok ho
        match ts, ho, h, h1 with
        | [], ho, h, _ =>
          have ht : t ∈ y := by rw [List.nil_append] at h; rw [h]; exact List.mem_cons_self
          have := ((lexL_toks _ _ _ _ (Nat.le_refl _) hr).2.2 t ht).2
          rw [List.length_drop] at this
          omega
        | [t'], ho, h, _ =>
          have e : t' = t := by injection h
          subst e
          rw [oneL] at ho
          by_cases b1 : blankB c = true
          · rw [if_pos b1] at ho; injection ho with ho; cases ho
          rw [if_neg b1] at ho
          by_cases b2 : dchar c = true
          · rw [if_pos b2, numTok] at ho
            split at ho
            · injection ho with ho; injection ho with ho; subst ho; cases hk
            split at ho
            · injection ho with ho; injection ho with ho; subst ho; cases hk
            · cases ho
          rw [if_neg b2] at ho
          by_cases b3 : letB c = true
          · rw [if_pos b3] at ho
            injection ho with ho
            injection ho with ho
            subst ho
            have hz : ((c :: r).takeWhile wordC).length = (c :: r).length := by
              have e2 : (mkB ((c :: r).takeWhile wordC)).size = ((c :: r).takeWhile wordC).length := by rw [Lib.size_eq, mkB_toList]
              have hz : (mkB ((c :: r).takeWhile wordC)).size = s.size := hz
              omega
            have hw : (c :: r).takeWhile wordC = c :: r := (List.takeWhile_prefix wordC).eq_of_length hz
            have hall : (c :: r).all wordC = true := by rw [← hw]; exact List.all_takeWhile
            rw [wordT, hl, hall]
            simp [b2]
          rw [if_neg b3] at ho
          by_cases b4 : c.toNat = 34
          · rw [if_pos b4] at ho
            cases hx : textS false r with
            | none => rw [hx] at ho; cases ho
            | some x =>
              rw [hx] at ho
              injection ho with ho
              injection ho with ho
              subst ho
              cases hk
          rw [if_neg b4] at ho
          split at ho
          · injection ho with ho; injection ho with ho; subst ho; cases hk
          · cases ho
set_option maxHeartbeats 1000000 in
theorem rword_any (s : ByteArray) (w : World) (hs : s.size ≤ 4096) : Calls Tryz.prog 75 #[.string s] w fun e w' => e = .returned (.bool (wordT s && !keptB s)) ∧ Below w.heap.size w w' := by
  have HL := Lib.hid (rlex_any s w (by unfold maxLen; omega))
  have HK := fun W : World => Lib.hid (rKept_any s W)
  have HY : Hid (wordT s = true → ∃ t u, lexR s = .ok [t, u] ∧ t.kind = 3 ∧ t.text.size = s.size) := fun h => word_yes h hs
  have HN : Hid (∀ t u, lexR s = .ok [t, u] → t.kind = 3 → t.text.size = s.size → wordT s = true) := fun _ _ => word_only
  have HE : Hid (∀ p e, lexR s = .err p e → e ≠ 0) := fun _ _ h => lexR_err h
  have HTS : Hid (∀ ts, lexR s = .ok ts → ts.length ≤ 4097 ∧ ∀ t ∈ ts, t.text.size ≤ 4096) := fun ts h => ⟨(lexR_toks h).2.1, fun t ht => ((lexR_toks h).2.2 t ht).2⟩
  have nof : ∀ {b : Bool}, (b = true → False) → b = false := fun h => by
    rename_i b
    cases b with
    | false => rfl
    | true => exact (h rfl).elim
  obtain ⟨res, hres⟩ : ∃ res, res = (wordT s && !keptB s) := ⟨_, rfl⟩
  rw [← hres]
  have HRes := Lib.hid hres
  clear hres
  unfold LexOk at HL
  go_enter Tryz.func75, Tryz.ntmps75
  go_wp2_with fail
  cases hr : lexR s with
  | err p e =>
    rw [hr] at HL HY
    dsimp only at HL
    have hw : wordT s = false := nof fun h => by obtain ⟨t, u, h, _⟩ := HY.out h; cases h
    have heb : (e == 0) = false := by rw [beq_eq_false_iff_ne]; exact HE.out _ _ hr
    clear hr HY HN HE HTS HK
    refine (HL.out).mono ?_
    rintro e' w2 ⟨rfl, hb⟩
    have HR2 : Hid (false = res) := by show _ = _; rw [HRes.out, hw]; rfl
    clear hw
    go_wp2_with fail
    go_ret
    exact ⟨ret_bool HR2.out, hb⟩
  | ok ts =>
    obtain ⟨hl, htx⟩ := HTS.out _ hr
    have HTX := Lib.hid htx
    rw [hr] at HL HY HN
    dsimp only at HL
    clear htx HTS HE hr
    by_cases h2 : ts.length = 2
    · obtain ⟨t, u, rfl⟩ : ∃ t u, ts = [t, u] := by
        match ts, h2 with
        | [t, u], _ => exact ⟨t, u, rfl⟩
      have ht4 := HTX.out t List.mem_cons_self
      have hl2 : ([t, u] : List Tok).length = 2 := rfl
      rw [hl2] at HL
      refine (HL.out).mono ?_
      rintro e' w2 ⟨⟨A, c, rfl, ho⟩, hb⟩
      obtain ⟨b, o, hA, hbl, hc⟩ := (Own.rd ho).2 (by simp [toksC])
      subst hA
      have m0 := hc 0 (tokC t) 0 _ (by simp [toksC]) rfl
      have m2 := hc 0 (tokC t) 2 _ (by simp [toksC]) rfl
      simp only [Nat.zero_mul, Nat.add_zero] at m0 m2
      have HB := Lib.hid hb
      clear hc ho hb HL hl h2 hl2
      by_cases h3 : t.kind = 3
      · have h3b : (t.kind == 3) = true := by rw [h3]; rfl
        by_cases h4 : t.text.size = s.size
        · have hw : wordT s = true := HN.out t u rfl h3 h4
          have h4I : (t.text.size : Int) = (s.size : Int) := by omega
          have HR2 : Hid ((!keptB s) = res) := by show _ = _; rw [HRes.out, hw]; rfl
          clear hw HN HY h3
          go_wp2_with (go_at_call 110; refine ((HK _).out).mono ?_; rintro e w3 ⟨rfl, hb3⟩)
          go_ret
          exact ⟨ret_bool HR2.out, HB.out.trans (hb3.mono HB.out.size)⟩
        · have hw : wordT s = false := nof fun h => by
            obtain ⟨t', u', h, _, hz⟩ := HY.out h
            injection h with h
            injection h with h _
            subst h
            exact h4 hz
          have h4I : ¬ (t.text.size : Int) = (s.size : Int) := by omega
          clear HN HY h3 h4
          have HR2 : Hid (false = res) := by show _ = _; rw [HRes.out, hw]; rfl
          clear hw
          go_wp2_with fail
          go_ret
          exact ⟨ret_bool HR2.out, HB.out⟩
      · have hw : wordT s = false := nof fun h => by
          obtain ⟨t', u', h, hk, _⟩ := HY.out h
          injection h with h
          injection h with h _
          subst h
          exact h3 hk
        have h3b : (t.kind == 3) = false := by rw [beq_eq_false_iff_ne]; exact h3
        clear HN HY h3
        have HR2 : Hid (false = res) := by show _ = _; rw [HRes.out, hw]; rfl
        clear hw
        go_wp2_with fail
        go_ret
        exact ⟨ret_bool HR2.out, HB.out⟩
    · have hw : wordT s = false := nof fun h => by
        obtain ⟨t, u, h, _⟩ := HY.out h
        injection h with h
        subst h
        exact h2 rfl
      have h2I : ¬ (ts.length : Int) = 2 := by omega
      clear HN HY h2
      refine (HL.out).mono ?_
      rintro e' w2 ⟨⟨A, c, rfl, ho⟩, hb⟩
      clear ho
      have HR2 : Hid (false = res) := by show _ = _; rw [HRes.out, hw]; rfl
      clear hw
      go_wp2_with fail
      go_ret
      exact ⟨ret_bool HR2.out, hb⟩
theorem inside_empty (s : Sd) : s.inside ByteArray.empty = ⟨(⟨#[40]⟩ : ByteArray) ++ s.text ++ (⟨#[41]⟩ : ByteArray), 7, s.deep + 1⟩ := by
  have hE : ByteArray.empty ++ sO = (⟨#[40]⟩ : ByteArray) := by decide +kernel
  rw [Sd.inside, hE]
  rfl
def wrapS (s : Sd) (b : Bool) : Sd := if b = true then s.inside ByteArray.empty else s
set_option maxHeartbeats 400000 in
theorem rwrap_any (s : Sd) (b : Bool) (w : World) (h1 : s.text.size ≤ 1000000) (h3 : 0 ≤ s.deep) (h4 : s.deep ≤ 1000) :
    Calls Tryz.prog 40 #[sdV s, .bool b] w fun e w' => e = .returned (sdV (wrapS s b)) ∧ Below w.heap.size w w' := by
  have HI := Lib.hid (inside_empty s)
  unfold sdV
  cases b with
  | false =>
    go_enter Tryz.func40, Tryz.ntmps40
    go_wp2_with fail
    exact bodyPost_ret (v := sdV s) (by simp [results, Tryz.results40, go_sem]; rfl) rfl ⟨rfl, ((Below.refl _ _).alloc (Nat.le_refl _) _).alloc (by simp) _⟩
  | true =>
    go_enter Tryz.func40, Tryz.ntmps40
    go_wp2_with fail
    exact bodyPost_ret (v := sdV (s.inside ByteArray.empty)) (by rw [HI.out]; simp [results, Tryz.results40, go_sem]; rfl) rfl ⟨rfl, ((Below.refl _ _).alloc (Nat.le_refl _) _).alloc (by simp) _⟩
set_option maxHeartbeats 400000 in
theorem rrow20_any (op : Int) (w : World) : Calls Tryz.prog 41 #[.int .i64 op] w fun e w' => e = .returned (.int .i64 (rowN op)) ∧ w = w' := by
  have HT : Hid (rowN op = if op = 12 then 1 else if op = 11 ∨ op = 13 then 2 else if 5 ≤ op ∧ op ≤ 10 then 3 else if op = 1 ∨ op = 2 then 4 else 5) := by
    show _ = _
    unfold rowN setB cmpB inB
    by_cases h12 : op = 12
    · rw [if_pos h12, if_pos h12]
    rw [if_neg h12, if_neg h12]
    by_cases h11 : op = 11 ∨ op = 13
    · rw [if_pos h11, if_pos (by simp only [Bool.and_eq_true, decide_eq_true_eq]; omega)]
    rw [if_neg h11, if_neg (by simp only [Bool.and_eq_true, decide_eq_true_eq]; omega)]
    by_cases h5 : 5 ≤ op ∧ op ≤ 10
    · rw [if_pos h5, if_pos (by simp only [Bool.and_eq_true, decide_eq_true_eq]; omega)]
    rw [if_neg h5, if_neg (by simp only [Bool.and_eq_true, decide_eq_true_eq]; omega)]
  generalize rowN op = r at *
  have h12 : (op == 12) = decide (op = 12) := rfl
  have h11 : (op == 11) = decide (op = 11) := rfl
  have h13 : (op == 13) = decide (op = 13) := rfl
  have h1 : (op == 1) = decide (op = 1) := rfl
  have h2 : (op == 2) = decide (op = 2) := rfl
  go_enter Tryz.func41, Tryz.ntmps41
  by_cases c12 : op = 12
  · subst c12
    go_wp2; go_ret
    exact ⟨ret_int HT.out.symm, rfl⟩
  by_cases c11 : op = 11
  · subst c11
    go_wp2; go_ret
    exact ⟨ret_int HT.out.symm, rfl⟩
  by_cases c13 : op = 13
  · subst c13
    go_wp2; go_ret
    exact ⟨ret_int HT.out.symm, rfl⟩
  by_cases c1 : op = 1
  · subst c1
    go_wp2; go_ret
    exact ⟨ret_int HT.out.symm, rfl⟩
  by_cases c2 : op = 2
  · subst c2
    go_wp2; go_ret
    exact ⟨ret_int HT.out.symm, rfl⟩
  rw [decide_eq_false c12] at h12
  rw [decide_eq_false c11] at h11
  rw [decide_eq_false c13] at h13
  rw [decide_eq_false c1] at h1
  rw [decide_eq_false c2] at h2
  have HT := HT.out
  rw [if_neg c12, if_neg (by omega)] at HT
  by_cases c5 : 5 ≤ op
  · by_cases c10 : op ≤ 10
    · rw [if_pos ⟨c5, c10⟩] at HT
      subst HT
      clear c12 c11 c13 c1 c2
      go_wp2; go_ret
      exact ⟨rfl, rfl⟩
    · rw [if_neg (by omega), if_neg (by omega)] at HT
      subst HT
      clear c12 c11 c13 c1 c2
      go_wp2; go_ret
      exact ⟨rfl, rfl⟩
  · rw [if_neg (by omega), if_neg (by omega)] at HT
    subst HT
    clear c12 c11 c13 c1 c2
    go_wp2; go_ret
    exact ⟨rfl, rfl⟩
/-- Words in one new block. -/
def textsF (l : List ByteArray) : List Value := l.map Value.string
theorem textsF_at {l : List ByteArray} {k : Nat} {x : ByteArray} (h : l[k]? = some x) : (textsF l)[k]? = some (.string x) := by simp [textsF, h]
def wordObj (l : List ByteArray) : Obj := .cells (textsF l).toArray 9
def ops20 : List ByteArray := opsL.drop 1
set_option maxHeartbeats 1000000 in
theorem rFuncsA_any (w : World) : Calls Tryz.prog 37 #[] w fun e w' => e = .returned (.slice (some ⟨w.heap.size, 0, none⟩) 12 12) ∧ w' = w.alloc (wordObj funcsR) := by
  go_enter Tryz.func37, Tryz.ntmps37
  go_wp2_with fail
  go_ret
  exact ⟨rfl, rfl⟩
set_option maxHeartbeats 1000000 in
theorem rAggsA_any (w : World) : Calls Tryz.prog 38 #[] w fun e w' => e = .returned (.slice (some ⟨w.heap.size, 0, none⟩) 5 5) ∧ w' = w.alloc (wordObj aggsR) := by
  go_enter Tryz.func38, Tryz.ntmps38
  go_wp2_with fail
  go_ret
  exact ⟨rfl, rfl⟩
set_option maxHeartbeats 1000000 in
theorem rOpsA_any (w : World) : Calls Tryz.prog 42 #[] w fun e w' => e = .returned (.slice (some ⟨w.heap.size, 0, none⟩) 13 13) ∧ w' = w.alloc (wordObj ops20) := by
  go_enter Tryz.func42, Tryz.ntmps42
  go_wp2_with fail
  go_ret
  exact ⟨rfl, rfl⟩
end Go.Proofs.YtakfnojiaakfpaaGreatDoor
