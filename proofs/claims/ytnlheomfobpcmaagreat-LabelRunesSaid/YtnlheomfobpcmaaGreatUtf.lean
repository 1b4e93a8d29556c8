/- The two ways to say what UTF-8 is are one. Plain lemmas. -/
import Derived.Test.YtnlheomfobpcmaaGreatChar
namespace Go.Proofs.YtnlheomfobpcmaaGreat
open Go.RowKit

theorem charFin1 {n least v : Nat} (hn : 2 ≤ n) : charFin n least v [] = 0 := by
  unfold charFin; rw [if_pos (by simp; omega)]
theorem charFin2_cons {least v : Nat} {b : UInt8} {r : List UInt8} : charFin 2 least v (b :: r) = if 128 ≤ b.toNat ∧ b.toNat ≤ 191 then (if runeOk least (v * 64 + b.toNat % 64) then 2 else 0) else 0 := by
  unfold charFin
  rw [if_neg (by simp)]
  by_cases h : 128 ≤ b.toNat ∧ b.toNat ≤ 191 <;> simp [conts, h]
theorem charFin3_one {least v : Nat} {b : UInt8} : charFin 3 least v [b] = 0 := by unfold charFin; rw [if_pos (by simp)]
theorem charFin3_cons {least v : Nat} {b c : UInt8} {r : List UInt8} : charFin 3 least v (b :: c :: r) = if (128 ≤ b.toNat ∧ b.toNat ≤ 191) ∧ 128 ≤ c.toNat ∧ c.toNat ≤ 191 then (if runeOk least ((v * 64 + b.toNat % 64) * 64 + c.toNat % 64) then 3 else 0) else 0 := by
  unfold charFin
  rw [if_neg (by simp)]
  by_cases h : 128 ≤ b.toNat ∧ b.toNat ≤ 191 <;> by_cases h2 : 128 ≤ c.toNat ∧ c.toNat ≤ 191 <;> simp [conts, h, h2]
theorem charFin4_one {least v : Nat} {b : UInt8} : charFin 4 least v [b] = 0 := by unfold charFin; rw [if_pos (by simp)]
theorem charFin4_two {least v : Nat} {b c : UInt8} : charFin 4 least v [b, c] = 0 := by unfold charFin; rw [if_pos (by simp)]
theorem charFin4_cons {least v : Nat} {b c d : UInt8} {r : List UInt8} : charFin 4 least v (b :: c :: d :: r) = if (128 ≤ b.toNat ∧ b.toNat ≤ 191) ∧ (128 ≤ c.toNat ∧ c.toNat ≤ 191) ∧ 128 ≤ d.toNat ∧ d.toNat ≤ 191 then (if runeOk least (((v * 64 + b.toNat % 64) * 64 + c.toNat % 64) * 64 + d.toNat % 64) then 4 else 0) else 0 := by
  unfold charFin
  rw [if_neg (by simp)]
  by_cases h : 128 ≤ b.toNat ∧ b.toNat ≤ 191 <;> by_cases h2 : 128 ≤ c.toNat ∧ c.toNat ≤ 191 <;> by_cases h3 : 128 ≤ d.toNat ∧ d.toNat ≤ 191 <;> simp [conts, h, h2, h3]
theorem vst1_cons {lo hi : Nat} {b : UInt8} {r : List UInt8} : vst 1 lo hi (b :: r) = (decide (lo ≤ b.toNat ∧ b.toNat ≤ hi) && validL r) := rfl
theorem vst2_cons {lo hi : Nat} {b c : UInt8} {r : List UInt8} : vst 2 lo hi (b :: c :: r) = (decide (lo ≤ b.toNat ∧ b.toNat ≤ hi) && (decide (128 ≤ c.toNat ∧ c.toNat ≤ 191) && validL r)) := rfl
theorem vst3_cons {lo hi : Nat} {b c d : UInt8} {r : List UInt8} : vst 3 lo hi (b :: c :: d :: r) = (decide (lo ≤ b.toNat ∧ b.toNat ≤ hi) && (decide (128 ≤ c.toNat ∧ c.toNat ≤ 191) && (decide (128 ≤ d.toNat ∧ d.toNat ≤ 191) && validL r))) := rfl
theorem vst1_nil {m lo hi : Nat} : vst (m + 1) lo hi [] = false := rfl
theorem vst2_one {m lo hi : Nat} {b : UInt8} : vst (m + 2) lo hi [b] = false := by simp [vst]
theorem vst3_two {m lo hi : Nat} {b c : UInt8} : vst (m + 3) lo hi [b, c] = false := by simp [vst]

theorem runeOk_true {l v : Nat} (h : l ≤ v ∧ v ≤ 1114111 ∧ (v < 55296 ∨ 57343 < v)) : runeOk l v = true := by simp [runeOk]; omega
theorem runeOk_false {l v : Nat} (h : ¬ (l ≤ v ∧ v ≤ 1114111 ∧ (v < 55296 ∨ 57343 < v))) : runeOk l v = false := by
  cases hr : runeOk l v with
  | false => rfl
  | true => simp [runeOk] at hr; omega
theorem valid_two {c : Nat} (hc : 192 ≤ c ∧ c < 224) (r : List UInt8) : (match vfirst c with | some (m, lo, hi) => vst m lo hi r | none => false) = if charFin 2 128 (c % 32) r = 0 then false else validL (r.drop (charFin 2 128 (c % 32) r - 1)) := by
  have e : vfirst c = if 194 ≤ c then some (1, 128, 191) else none := by
    unfold vfirst
    by_cases h : 194 ≤ c
    · rw [if_neg (by omega), if_pos (by omega), if_pos h]
    · rw [if_neg h]; repeat rw [if_neg (by omega)]
  rw [e]
  cases r with
  | nil => by_cases h : 194 ≤ c <;> simp [h, charFin1, vst1_nil]
  | cons b r =>
    rw [charFin2_cons]
    by_cases hb : 128 ≤ b.toNat ∧ b.toNat ≤ 191
    · by_cases h : 194 ≤ c
      · rw [if_pos h, if_pos hb, runeOk_true (by omega)]; simp [vst1_cons, hb]
      · rw [if_neg h, if_pos hb, runeOk_false (by omega)]; simp
    · by_cases h : 194 ≤ c
      · rw [if_pos h, if_neg hb]; simp only [vst1_cons, decide_eq_false hb, Bool.false_and, if_true]
      · rw [if_neg h, if_neg hb]; simp
theorem valid_three {c : Nat} (hc : 224 ≤ c ∧ c < 240) (r : List UInt8) : (match vfirst c with | some (m, lo, hi) => vst m lo hi r | none => false) = if charFin 3 2048 (c % 16) r = 0 then false else validL (r.drop (charFin 3 2048 (c % 16) r - 1)) := by
  obtain ⟨lo, hi, e, hlo⟩ : ∃ lo hi, vfirst c = some (2, lo, hi) ∧ ((c = 224 ∧ lo = 160 ∧ hi = 191) ∨ (c = 237 ∧ lo = 128 ∧ hi = 159) ∨ (c ≠ 224 ∧ c ≠ 237 ∧ lo = 128 ∧ hi = 191)) := by
    unfold vfirst
    rw [if_neg (by omega), if_neg (by omega)]
    by_cases h1 : c = 224
    · exact ⟨160, 191, by rw [if_pos h1], by omega⟩
    · by_cases h2 : c = 237
      · exact ⟨128, 159, by rw [if_neg h1, if_pos h2], by omega⟩
      · exact ⟨128, 191, by rw [if_neg h1, if_neg h2, if_pos (by omega)], by omega⟩
  rw [e]
  match r with
  | [] => simp [charFin1, vst1_nil]
  | [b] => simp [charFin3_one, vst2_one]
  | b :: d :: r =>
    simp only [vst2_cons]
    by_cases hd : 128 ≤ d.toNat ∧ d.toNat ≤ 191
    · by_cases hb : lo ≤ b.toNat ∧ b.toNat ≤ hi
      · have hn : charFin 3 2048 (c % 16) (b :: d :: r) = 3 := by rw [charFin3_cons, if_pos ⟨by omega, hd⟩, runeOk_true (by omega)]; rfl
        rw [hn]; simp [hb, hd]
      · have hn : charFin 3 2048 (c % 16) (b :: d :: r) = 0 := by
          rw [charFin3_cons]
          by_cases hb2 : 128 ≤ b.toNat ∧ b.toNat ≤ 191
          · rw [if_pos ⟨hb2, hd⟩, runeOk_false (by omega)]; rfl
          · rw [if_neg (fun h => hb2 h.1)]
        rw [hn, decide_eq_false hb]; simp
    · have hn : charFin 3 2048 (c % 16) (b :: d :: r) = 0 := by rw [charFin3_cons, if_neg (fun h => hd h.2)]
      rw [hn, decide_eq_false hd]; simp
theorem valid_four {c : Nat} (hc : 240 ≤ c ∧ c < 248) (r : List UInt8) : (match vfirst c with | some (m, lo, hi) => vst m lo hi r | none => false) = if charFin 4 65536 (c % 8) r = 0 then false else validL (r.drop (charFin 4 65536 (c % 8) r - 1)) := by
  by_cases h4 : c ≤ 244
  · obtain ⟨lo, hi, e, hlo⟩ : ∃ lo hi, vfirst c = some (3, lo, hi) ∧ ((c = 240 ∧ lo = 144 ∧ hi = 191) ∨ (c = 244 ∧ lo = 128 ∧ hi = 143) ∨ (c ≠ 240 ∧ c ≠ 244 ∧ lo = 128 ∧ hi = 191)) := by
      unfold vfirst
      rw [if_neg (by omega), if_neg (by omega), if_neg (by omega), if_neg (by omega), if_neg (by omega)]
      by_cases h1 : c = 240
      · exact ⟨144, 191, by rw [if_pos h1], by omega⟩
      · by_cases h2 : c = 244
        · exact ⟨128, 143, by rw [if_neg h1, if_pos h2], by omega⟩
        · exact ⟨128, 191, by rw [if_neg h1, if_neg h2, if_pos (by omega)], by omega⟩
    rw [e]
    match r with
    | [] => simp [charFin1, vst1_nil]
    | [b] => simp [charFin4_one, vst2_one]
    | [b, d] => simp [charFin4_two, vst3_two]
    | b :: d :: f :: r =>
      simp only [vst3_cons]
      by_cases hd : 128 ≤ d.toNat ∧ d.toNat ≤ 191
      · by_cases hf : 128 ≤ f.toNat ∧ f.toNat ≤ 191
        · by_cases hb : lo ≤ b.toNat ∧ b.toNat ≤ hi
          · have hn : charFin 4 65536 (c % 8) (b :: d :: f :: r) = 4 := by rw [charFin4_cons, if_pos ⟨by omega, hd, hf⟩, runeOk_true (by omega)]; rfl
            rw [hn]; simp [hb, hd, hf]
          · have hn : charFin 4 65536 (c % 8) (b :: d :: f :: r) = 0 := by
              rw [charFin4_cons]
              by_cases hb2 : 128 ≤ b.toNat ∧ b.toNat ≤ 191
              · rw [if_pos ⟨hb2, hd, hf⟩, runeOk_false (by omega)]; rfl
              · rw [if_neg (fun h => hb2 h.1)]
            rw [hn, decide_eq_false hb]; simp
        · have hn : charFin 4 65536 (c % 8) (b :: d :: f :: r) = 0 := by rw [charFin4_cons, if_neg (fun h => hf h.2.2)]
          rw [hn, decide_eq_false hf]; simp
      · have hn : charFin 4 65536 (c % 8) (b :: d :: f :: r) = 0 := by rw [charFin4_cons, if_neg (fun h => hd h.2.1)]
        rw [hn, decide_eq_false hd]; simp
  · have e : vfirst c = none := by unfold vfirst; repeat rw [if_neg (by omega)]
    rw [e]
    have hz : charFin 4 65536 (c % 8) r = 0 := by
      match r with
      | [] => simp [charFin1]
      | [b] => simp [charFin4_one]
      | [b, d] => simp [charFin4_two]
      | b :: d :: f :: r =>
        rw [charFin4_cons]
        by_cases h : (128 ≤ b.toNat ∧ b.toNat ≤ 191) ∧ (128 ≤ d.toNat ∧ d.toNat ≤ 191) ∧ 128 ≤ f.toNat ∧ f.toNat ≤ 191
        · rw [if_pos h, runeOk_false (by omega)]; simp
        · rw [if_neg h]
    rw [hz]; simp
/-- A value's characters, one by one. -/
theorem valid_step (c : UInt8) (r : List UInt8) : validL (c :: r) = if charN (c :: r) = 0 then false else validL ((c :: r).drop (charN (c :: r))) := by
  have hu : c.toNat < 256 := c.toNat_lt
  show (match vfirst c.toNat with | some (m, lo, hi) => vst m lo hi r | none => false) = _
  by_cases h1 : c.toNat < 128
  · rw [show charN (c :: r) = 1 from by simp only [charN, if_pos h1]]
    rw [show vfirst c.toNat = some (0, 128, 191) from by unfold vfirst; rw [if_pos h1]]
    simp; rfl
  · by_cases h2 : c.toNat < 192
    · rw [show charN (c :: r) = 0 from by simp only [charN, if_neg h1, if_pos h2]]
      rw [show vfirst c.toNat = none from by unfold vfirst; repeat rw [if_neg (by omega)]]
      simp
    · have key : ∀ n, charN (c :: r) = n → (2 ≤ n ∨ n = 0) → (if n = 0 then false else validL (r.drop (n - 1))) = if charN (c :: r) = 0 then false else validL ((c :: r).drop (charN (c :: r))) := by
        intro n hn hp
        rw [hn]
        rcases hp with hp | hp
        · obtain ⟨m, rfl⟩ : ∃ m, n = m + 1 := ⟨n - 1, by omega⟩
          simp
        · subst hp; simp
      have two : ∀ n least v r, 2 ≤ n → (2 ≤ charFin n least v r ∨ charFin n least v r = 0) := by
        intro n least v r hn
        unfold charFin
        repeat' split
        all_goals omega
      by_cases h3 : c.toNat < 224
      · rw [valid_two ⟨by omega, h3⟩]
        exact key _ (by simp only [charN, if_neg h1, if_neg h2, if_pos h3]) (two _ _ _ _ (by omega))
      · by_cases h4 : c.toNat < 240
        · rw [valid_three ⟨by omega, h4⟩]
          exact key _ (by simp only [charN, if_neg h1, if_neg h2, if_neg h3, if_pos h4]) (two _ _ _ _ (by omega))
        · by_cases h5 : c.toNat < 248
          · rw [valid_four ⟨by omega, h5⟩]
            exact key _ (by simp only [charN, if_neg h1, if_neg h2, if_neg h3, if_neg h4, if_pos h5]) (two _ _ _ _ (by omega))
          · rw [show charN (c :: r) = 0 from by simp only [charN, if_neg h1, if_neg h2, if_neg h3, if_neg h4, if_neg h5]]
            rw [show vfirst c.toNat = none from by unfold vfirst; repeat rw [if_neg (by omega)]]
            simp
theorem charN_le (c : UInt8) (r : List UInt8) : charN (c :: r) ≤ (c :: r).length := by
  have key : ∀ n least v r, charFin n least v r ≤ r.length + 1 := by
    intro n least v r
    unfold charFin
    repeat' split
    all_goals omega
  simp only [charN, List.length_cons]
  repeat' split
  all_goals first | omega | exact key _ _ _ _
end Go.Proofs.YtnlheomfobpcmaaGreat
