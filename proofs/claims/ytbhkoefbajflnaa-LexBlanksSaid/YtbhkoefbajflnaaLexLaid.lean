/- A text that is cut: its tokens' own bytes, with blanks between; laid anew they are the same tokens. -/
import Derived.Test.YtbhkoefbajflnaaLexPlain
namespace Go.Proofs.Ytbhkoefbajflnaa
open Go.RowKit

def allBlank (l : List UInt8) : Prop := ∀ c ∈ l, blankB c = true
/-- The bytes y by themselves are the token t, wherever they stand, if a blank is behind. -/
structure Good (t : Tok) (y : List UInt8) : Prop where
  ne : 1 ≤ y.length
  last : ∃ c, y.getLast? = some c ∧ blankB c = false
  one : ∀ q x b, blankB x = true → oneL q (y ++ x :: b) = .ok [⟨t.kind, q, t.text, t.span⟩] y.length
inductive Laid : Nat → List UInt8 → List (Tok × List UInt8) → Prop
  | nil {p : Nat} {l : List UInt8} (h : allBlank l) : Laid p l []
  | cons {p : Nat} {bl y r : List UInt8} {t : Tok} {ps : List (Tok × List UInt8)} (hb : allBlank bl) (hg : Good t y) (ha : t.at_ = p + bl.length) (h : Laid (p + bl.length + y.length) r ps) : Laid p (bl ++ (y ++ r)) ((t, y) :: ps)
theorem Laid.blank {p : Nat} {c : UInt8} {l : List UInt8} {ps : List (Tok × List UInt8)} (hc : blankB c = true) (h : Laid (p + 1) l ps) : Laid p (c :: l) ps := by
  cases h with
  | nil h =>
    refine .nil fun x hx => ?_
    rcases List.mem_cons.1 hx with rfl | hx
    · exact hc
    · exact h x hx
  | @cons _ bl y r t ps hb hg ha h =>
    have : Laid p ((c :: bl) ++ (y ++ r)) ((t, y) :: ps) := .cons (fun x hx => by
      rcases List.mem_cons.1 hx with rfl | hx
      · exact hc
      · exact hb x hx) hg (by rw [ha, List.length_cons]; omega) (by rw [List.length_cons, show p + (bl.length + 1) + y.length = p + 1 + bl.length + y.length from by omega]; exact h)
    exact this
theorem textS_cut : ∀ (l : List UInt8) (f : Bool) (x : List UInt8) (n : Nat), textS f l = some (x, n) → textS f (l.take n) = some (x, n) ∧ (l.take n).getLast? = some 34
  | [], f, x, n, h => by cases f <;> simp [textS] at h
  | c :: r, false, x, n, h => by
    simp only [textS] at h
    split at h
    · cases h
    rename_i h1
    split at h
    · rename_i h2
      injection h with h; injection h with e1 e2; subst e1 e2
      refine ⟨by simp [textS, h2], ?_⟩
      have : c = 34 := UInt8.toNat_inj.1 h2
      simp [this]
    rename_i h2
    split at h
    · rename_i h3
      simp only [Option.map_eq_some_iff] at h
      obtain ⟨⟨z, m⟩, hz, he⟩ := h
      injection he with e1 e2; subst e1 e2
      obtain ⟨i1, i2⟩ := textS_cut r _ z m hz
      rw [List.take_succ_cons]
      refine ⟨?_, ?_⟩
      · simp only [textS]; rw [if_neg h1, if_neg h2, if_pos h3, i1]; rfl
      · rw [List.getLast?_cons, i2]; rfl
    · rename_i h3
      simp only [Option.map_eq_some_iff] at h
      obtain ⟨⟨z, m⟩, hz, he⟩ := h
      injection he with e1 e2; subst e1 e2
      obtain ⟨i1, i2⟩ := textS_cut r _ z m hz
      rw [List.take_succ_cons]
      refine ⟨?_, ?_⟩
      · simp only [textS]; rw [if_neg h1, if_neg h2, if_neg h3, i1]; rfl
      · rw [List.getLast?_cons, i2]; rfl
  | c :: r, true, x, n, h => by
    simp only [textS] at h
    split at h
    · rename_i h1
      simp only [Option.map_eq_some_iff] at h
      obtain ⟨⟨z, m⟩, hz, he⟩ := h
      injection he with e1 e2; subst e1 e2
      obtain ⟨i1, i2⟩ := textS_cut r _ z m hz
      rw [List.take_succ_cons]
      refine ⟨?_, ?_⟩
      · simp only [textS]; rw [if_pos h1, i1]; rfl
      · rw [List.getLast?_cons, i2]; rfl
    rename_i h1
    split at h
    · rename_i h2
      simp only [Option.map_eq_some_iff] at h
      obtain ⟨⟨z, m⟩, hz, he⟩ := h
      injection he with e1 e2; subst e1 e2
      obtain ⟨i1, i2⟩ := textS_cut r _ z m hz
      rw [List.take_succ_cons]
      refine ⟨?_, ?_⟩
      · simp only [textS]; rw [if_neg h1, if_pos h2, i1]; rfl
      · rw [List.getLast?_cons, i2]; rfl
    · cases h
theorem tw_take (q : UInt8 → Bool) : ∀ l : List UInt8, l.take (l.takeWhile q).length = l.takeWhile q
  | [] => rfl
  | c :: r => by
    rw [List.takeWhile_cons]
    split
    · rw [List.length_cons, List.take_succ_cons, tw_take q r]
    · rfl
theorem tw_tw (q : UInt8 → Bool) : ∀ l : List UInt8, (l.takeWhile q).takeWhile q = l.takeWhile q
  | [] => rfl
  | c :: r => by
    rw [List.takeWhile_cons]
    split
    · rename_i h; rw [List.takeWhile_cons, if_pos h, tw_tw q r]
    · rfl
theorem tw_last (q : UInt8 → Bool) {l : List UInt8} (h : 1 ≤ (l.takeWhile q).length) : ∃ c, (l.takeWhile q).getLast? = some c ∧ q c = true := by
  have hne : l.takeWhile q ≠ [] := by intro h0; rw [h0] at h; simp at h
  refine ⟨(l.takeWhile q).getLast hne, List.getLast?_eq_some_getLast hne, ?_⟩
  have := List.getLast_mem hne
  exact List.all_eq_true.1 (List.all_takeWhile (p := q) (l := l)) _ this
theorem blank_not {q : UInt8 → Bool} (hq : ∀ x, blankB x = true → q x = false) {c : UInt8} (h : q c = true) : blankB c = false := by
  cases hb : blankB c with
  | false => rfl
  | true => rw [hq c hb] at h; cases h
/-- The step at a byte that is no blank, cut to its own bytes. -/
theorem one_cut {p n : Nat} {c : UInt8} {r : List UInt8} {ts : List Tok} (hc : blankB c = false) (h : oneL p (c :: r) = .ok ts n) : ∃ t, ts = [t] ∧ t.at_ = p ∧ Good t ((c :: r).take n) ∧ ((c :: r).take n).length = n := by
  have hn := oneL_n h
  have hlen : ((c :: r).take n).length = n := by rw [List.length_take]; omega
  have key : ∀ t : Tok, ts = [t] → t.at_ = p → (∃ e, ((c :: r).take n).getLast? = some e ∧ blankB e = false) → oneL p ((c :: r).take n) = .ok ts n → ∃ t, ts = [t] ∧ t.at_ = p ∧ Good t ((c :: r).take n) ∧ ((c :: r).take n).length = n := by
    intro t h1 h2 h3 h4
    refine ⟨t, h1, h2, ⟨by omega, h3, fun q x b hx => ?_⟩, hlen⟩
    have h5 := one_join hx h4 b
    have e1 := oneL_sh p 0 ((c :: r).take n ++ x :: b)
    have e2 := oneL_sh q 0 ((c :: r).take n ++ x :: b)
    rw [Nat.add_zero] at e1 e2
    rw [e1] at h5
    rw [e2, hlen]
    cases h6 : oneL 0 ((c :: r).take n ++ x :: b) with
    | err a b => rw [h6] at h5; cases h5
    | ok us m =>
      rw [h6] at h5
      simp only [OneR.sh] at h5
      injection h5 with h7 h8
      rw [h1] at h7
      match us, h7 with
      | [u], h7 =>
        simp only [List.map_cons, List.map_nil, List.cons.injEq, and_true] at h7
        subst h8
        simp only [OneR.sh, List.map_cons, List.map_nil]
        have ha : u.at_ = 0 := by have := congrArg Tok.at_ h7; simp only [Tok.sh] at this; omega
        rw [← h7]
        simp [Tok.sh, ha]
  simp only [oneL] at h
  rw [if_neg (by simp [hc])] at h
  split at h
  · rename_i hd
    have hy : 1 ≤ ((c :: r).takeWhile numC).length := by rw [List.takeWhile_cons, if_pos (dchar_numC hd)]; simp
    have hlast := tw_last numC hy
    obtain ⟨e, he, hq⟩ := hlast
    have hb := blank_not (fun x hx => (blank_num hx).1) hq
    have hone : ∀ y : List UInt8, y = (c :: r).takeWhile numC → oneL p y = numTok p y := by
      intro y hy2
      have hy3 : y.takeWhile numC = y := by rw [hy2, tw_tw]
      rw [List.takeWhile_cons, if_pos (dchar_numC hd)] at hy2
      subst hy2
      simp only [oneL]
      rw [if_neg (by simp [hc]), if_pos hd, hy3]
    have hk : n = ((c :: r).takeWhile numC).length ∧ ∃ t, ts = [t] ∧ t.at_ = p := by
      simp only [numTok] at h
      split at h
      · injection h with h1 h2; subst h1 h2; exact ⟨rfl, _, rfl, rfl⟩
      split at h
      · injection h with h1 h2; subst h1 h2; exact ⟨rfl, _, rfl, rfl⟩
      · cases h
    obtain ⟨rfl, t, h1, h2⟩ := hk
    refine key t h1 h2 ⟨e, by rw [tw_take]; exact he, hb⟩ ?_
    rw [tw_take, hone _ rfl]; exact h
  rename_i hd
  split at h
  · rename_i hl
    have hy : 1 ≤ ((c :: r).takeWhile wordC).length := by rw [List.takeWhile_cons, if_pos (letB_wordC hl)]; simp
    obtain ⟨e, he, hq⟩ := tw_last wordC hy
    have hb := blank_not (fun x hx => (blank_num hx).2) hq
    injection h with h1 h2
    subst h1
    have h2' : n = ((c :: r).takeWhile wordC).length := h2.symm
    subst h2'
    refine key _ rfl rfl ⟨e, by rw [tw_take]; exact he, hb⟩ ?_
    rw [tw_take]
    have hz : ∀ y : List UInt8, y = (c :: r).takeWhile wordC → oneL p y = .ok [⟨3, p, mkB y, 0⟩] y.length := by
      intro y hy2
      have hy3 : y.takeWhile wordC = y := by rw [hy2, tw_tw]
      rw [List.takeWhile_cons, if_pos (letB_wordC hl)] at hy2
      subst hy2
      simp only [oneL, runN]
      rw [if_neg (by simp [hc]), if_neg hd, if_pos hl, hy3]
    exact hz _ rfl
  rename_i hl
  split at h
  · rename_i hq
    cases ht : textS false r with
    | none => rw [ht] at h; cases h
    | some z =>
      obtain ⟨x, m⟩ := z
      rw [ht] at h
      simp only [textTok, List.nil_append] at h
      injection h with h1 h2
      subst h1 h2
      obtain ⟨i1, i2⟩ := textS_cut _ _ _ _ ht
      rw [Nat.add_comm 1 m, List.take_succ_cons] at key
      rw [Nat.add_comm 1 m, List.take_succ_cons]
      refine key _ rfl rfl ⟨34, by rw [List.getLast?_cons, i2]; rfl, by decide⟩ ?_
      simp only [oneL]
      rw [if_neg (by simp [hc]), if_neg hd, if_neg hl, if_pos hq, i1]
      simp only [textTok, List.nil_append]
      rw [Nat.add_comm 1 m]
  rename_i hq
  split at h
  · rename_i hs
    injection h with h1 h2
    subst h1 h2
    have hcut : signN ((c :: r).take (signN (c :: r))) = signN (c :: r) ∧ ∃ e, ((c :: r).take (signN (c :: r))).getLast? = some e ∧ blankB e = false := by
      cases r with
      | nil =>
        have : signN [c] = 1 := by
          have := signN_le [c]; simp at this; omega
        rw [this]
        exact ⟨this, c, rfl, hc⟩
      | cons d r =>
        by_cases h2 : sign2 [c, d] = true
        · have e2 : signN (c :: d :: r) = 2 := by simp [signN, h2]
          rw [e2]
          refine ⟨by simp [signN, h2], d, rfl, ?_⟩
          cases hb : blankB d with
          | false => rfl
          | true => rw [sign2_blank c hb] at h2; cases h2
        · have e1 : signN (c :: d :: r) = if sign1 c = true then 1 else 0 := by
            by_cases h3 : sign1 c = true <;> simp [signN, h2, h3]
          by_cases h3 : sign1 c = true
          · rw [e1, if_pos h3]
            exact ⟨by simp [signN, h3], c, rfl, hc⟩
          · rw [e1, if_neg h3] at hs; omega
    obtain ⟨hc1, hc2⟩ := hcut
    refine key _ rfl rfl hc2 ?_
    obtain ⟨y, hy⟩ : ∃ y, (c :: r).take (signN (c :: r)) = y := ⟨_, rfl⟩
    obtain ⟨m, hm⟩ : ∃ m, signN (c :: r) = m + 1 := ⟨signN (c :: r) - 1, by omega⟩
    rw [hm, List.take_succ_cons] at hc1 ⊢
    simp only [oneL]
    rw [if_neg (by simp [hc]), if_neg hd, if_neg hl, if_neg hq, hc1, if_pos (by omega), ← List.take_succ_cons, List.take_take, Nat.min_self]
  · cases h
theorem lex_laid : ∀ (m p : Nat) (l : List UInt8) (x : List Tok), l.length ≤ m → lexL p l = .ok x → ∃ ps, x = ps.map (·.1) ++ [⟨0, p + l.length, mkB [], 0⟩] ∧ Laid p l ps := by
  intro m
  induction m with
  | zero => intro p l x hl h; cases l with
    | nil => rw [lexL_nil] at h; injection h with h; subst h; exact ⟨[], rfl, .nil fun c hc => by simp at hc⟩
    | cons c r => simp at hl
  | succ m ih =>
    intro p l x hl h
    cases l with
    | nil => rw [lexL_nil] at h; injection h with h; subst h; exact ⟨[], rfl, .nil fun c hc => by simp at hc⟩
    | cons c r =>
      rw [lexL_cons] at h
      cases ho : oneL p (c :: r) with
      | err q e => rw [ho] at h; cases h
      | ok ts k =>
        have hk := oneL_n ho
        have hk2 : k ≤ r.length + 1 := hk.2
        rw [ho] at h
        replace h : (lexL (p + k) ((c :: r).drop k)).pre ts = .ok x := h
        cases hr : lexL (p + k) ((c :: r).drop k) with
        | err q e => rw [hr] at h; cases h
        | ok y =>
          rw [hr] at h
          injection h with h
          subst h
          have hlen : p + k + ((c :: r).drop k).length = p + (c :: r).length := by rw [List.length_drop]; simp only [List.length_cons]; omega
          obtain ⟨ps, rfl, hL⟩ := ih (p + k) _ y (by rw [List.length_drop]; omega) hr
          cases hb : blankB c with
          | true =>
            have : oneL p (c :: r) = .ok [] 1 := by simp only [oneL]; rw [if_pos hb]
            rw [this] at ho
            injection ho with e1 e2
            subst e1 e2
            exact ⟨ps, by rw [hlen]; rfl, Laid.blank hb hL⟩
          | false =>
            obtain ⟨t, rfl, ht, hg, hl2⟩ := one_cut hb ho
            refine ⟨(t, (c :: r).take k) :: ps, by rw [hlen]; rfl, ?_⟩
            have := Laid.cons (p := p) (bl := []) (y := (c :: r).take k) (r := (c :: r).drop k) (t := t) (ps := ps) (fun c hc => by simp at hc) hg (by simpa using ht) (by rw [hl2]; exact hL)
            rw [List.nil_append, List.take_append_drop] at this
            exact this
/-- Laid anew, with a blank and another behind each. -/
def layG : List (Tok × List UInt8) → List UInt8 → List UInt8
  | (_, y) :: ps, g :: gs => y ++ (g :: 32 :: layG ps gs)
  | _, _ => []
theorem layG_snoc : ∀ (ps : List (Tok × List UInt8)) (gs : List UInt8) (t : Tok) (y : List UInt8) (g : UInt8), ps.length = gs.length → layG (ps ++ [(t, y)]) (gs ++ [g]) = layG ps gs ++ (y ++ [g, 32])
  | [], [], t, y, g, _ => by simp [layG]
  | (_, z) :: ps, x :: gs, t, y, g, h => by
    simp only [List.cons_append, layG, List.append_assoc]
    rw [layG_snoc ps gs t y g (by simpa using h)]
  | [], _ :: _, _, _, _, h => by simp at h
  | _ :: _, [], _, _, _, h => by simp at h
def sumY (ps : List (Tok × List UInt8)) : Nat := (ps.map (·.2.length)).sum
theorem layG_len : ∀ (ps : List (Tok × List UInt8)) (gs : List UInt8), ps.length = gs.length → (layG ps gs).length = sumY ps + 2 * ps.length
  | [], [], _ => rfl
  | (_, z) :: ps, x :: gs, h => by
    have := layG_len ps gs (by simpa using h)
    simp only [layG, List.length_append, List.length_cons, sumY, List.map_cons, List.sum_cons] at this ⊢
    omega
  | [], _ :: _, h => by simp at h
  | _ :: _, [], h => by simp at h
theorem Laid.sum {p : Nat} {l : List UInt8} {ps : List (Tok × List UInt8)} (h : Laid p l ps) : sumY ps ≤ l.length := by
  induction h with
  | nil h => simp [sumY]
  | cons hb hg ha h ih => simp only [sumY, List.map_cons, List.sum_cons, List.length_append] at ih ⊢; omega
theorem sumY_take (ps : List (Tok × List UInt8)) (k : Nat) : sumY (ps.take k) ≤ sumY ps := by
  have : sumY ps = sumY (ps.take k) + sumY (ps.drop k) := by
    simp only [sumY, List.map_take, List.map_drop]
    rw [← List.sum_append, List.take_append_drop]
  omega
theorem Laid.good {p : Nat} {l : List UInt8} {ps : List (Tok × List UInt8)} (h : Laid p l ps) : ∀ x ∈ ps, Good x.1 x.2 := by
  induction h with
  | nil h => intro x hx; simp at hx
  | cons hb hg ha h ih =>
    intro x hx
    rcases List.mem_cons.1 hx with rfl | hx
    · exact hg
    · exact ih x hx
/-- The tokens of the text laid anew: alike but for their places. -/
theorem lay_lex : ∀ (ps : List (Tok × List UInt8)) (gs : List UInt8) (q : Nat), ps.length = gs.length → (∀ g ∈ gs, blankB g = true) → (∀ x ∈ ps, Good x.1 x.2) →
    ∃ ts, lexL q (layG ps gs) = .ok (ts ++ [⟨0, q + (layG ps gs).length, mkB [], 0⟩]) ∧ ts.length = ps.length ∧ ∀ (k : Nat) (t : Tok) (y : List UInt8), ps[k]? = some (t, y) → ∃ a, ts[k]? = some ⟨t.kind, a, t.text, t.span⟩
  | [], [], q, _, _, _ => ⟨[], rfl, rfl, fun k t y h => by simp at h⟩
  | (t, y) :: ps, g :: gs, q, hl, hg, hp => by
    have hgood := hp (t, y) (by simp)
    have h1 := hgood.one q g (32 :: layG ps gs) (hg g (by simp))
    obtain ⟨ts, h2, h3, h4⟩ := lay_lex ps gs (q + y.length + 1 + 1) (by simpa using hl) (fun x hx => hg x (by simp [hx])) (fun x hx => hp x (by simp [hx]))
    have hne := hgood.ne
    have step : ∀ (a : Nat) (x : UInt8) (b : List UInt8), blankB x = true → lexL a (x :: b) = lexL (a + 1) b := by
      intro a x b hx
      rw [lexL_cons]
      have : oneL a (x :: b) = .ok [] 1 := by simp only [oneL]; rw [if_pos hx]
      rw [this]
      show (lexL (a + 1) b).pre [] = _
      rw [pre_nil]
    have h5 : lexL q (y ++ (g :: 32 :: layG ps gs)) = (lexL (q + y.length) (g :: 32 :: layG ps gs)).pre [⟨t.kind, q, t.text, t.span⟩] := by
      cases y with
      | nil => simp at hne
      | cons c r =>
        rw [List.cons_append] at h1 ⊢
        rw [lexL_cons, h1]
        show (lexL _ (((c :: r) ++ (g :: 32 :: layG ps gs)).drop (c :: r).length)).pre _ = _
        rw [List.drop_left' rfl]
    rw [step _ _ _ (hg g (by simp)), step _ _ _ (by rfl), h2] at h5
    refine ⟨⟨t.kind, q, t.text, t.span⟩ :: ts, ?_, by simp [h3], ?_⟩
    · simp only [layG]
      rw [h5]
      simp only [LexR.pre, List.length_append, List.length_cons]
      rw [show q + y.length + 1 + 1 + (layG ps gs).length = q + (y.length + ((layG ps gs).length + 1 + 1)) from by omega]
      rfl
    · intro k t' y' hk
      cases k with
      | zero => simp at hk; obtain ⟨rfl, rfl⟩ := hk; exact ⟨q, rfl⟩
      | succ k => simp at hk; simpa using h4 k t' y' hk
  | [], _ :: _, _, h, _, _ => by simp at h
  | _ :: _, [], _, h, _, _ => by simp at h
/-- Where the pieces lie: piece k from its token's place on, then blanks up to the next one's place. -/
theorem Laid.at_ {p : Nat} {l : List UInt8} {ps : List (Tok × List UInt8)} (h : Laid p l ps) : ∀ (k : Nat) (t : Tok) (y : List UInt8), ps[k]? = some (t, y) →
    ∃ e, ((ps.map (·.1) ++ [⟨0, p + l.length, mkB [], 0⟩])[k + 1]?.map Tok.at_) = some e ∧ p ≤ t.at_ ∧ t.at_ + y.length ≤ e ∧ e ≤ p + l.length ∧ ((l.drop (t.at_ - p)).take y.length = y) ∧ (∀ i, t.at_ + y.length ≤ i → i < e → ∃ c, l[i - p]? = some c ∧ blankB c = true) := by
  induction h with
  | nil h => intro k t y hk; simp at hk
  | @cons p bl y r t ps hb hg ha h ih =>
    intro k t' y' hk
    cases k with
    | zero =>
      simp at hk
      obtain ⟨rfl, rfl⟩ := hk
      have htake : ((bl ++ (y ++ r)).drop (t.at_ - p)).take y.length = y := by
        rw [ha, Nat.add_sub_cancel_left, List.drop_left' rfl, List.take_left' rfl]
      cases h with
      | @nil _ r h0 =>
        refine ⟨p + (bl ++ (y ++ r)).length, by simp, by omega, by rw [ha]; simp; omega, Nat.le_refl _, htake, ?_⟩
        intro i h1 h2
        simp only [List.length_append] at h2
        have : (bl ++ (y ++ r))[i - p]? = r[i - p - bl.length - y.length]? := by
          rw [List.getElem?_append_right (by omega), List.getElem?_append_right (by omega)]
        rw [this, List.getElem?_eq_getElem (by omega)]
        exact ⟨_, rfl, h0 _ (List.getElem_mem _)⟩
      | @cons _ bl2 y2 r2 t2 ps2 hb2 hg2 ha2 h2 =>
        refine ⟨t2.at_, by simp, by omega, by omega, by rw [ha2]; simp; omega, htake, ?_⟩
        intro i h1 h3
        have : (bl ++ (y ++ (bl2 ++ (y2 ++ r2))))[i - p]? = bl2[i - p - bl.length - y.length]? := by
          rw [List.getElem?_append_right (by omega), List.getElem?_append_right (by omega), List.getElem?_append_left (by omega)]
        rw [this, List.getElem?_eq_getElem (by omega)]
        exact ⟨_, rfl, hb2 _ (List.getElem_mem _)⟩
    | succ k =>
      simp only [List.getElem?_cons_succ] at hk
      obtain ⟨e, h1, h2, h3, h4, h5, h6⟩ := ih k t' y' hk
      have hlen : p + (bl ++ (y ++ r)).length = p + bl.length + y.length + r.length := by simp only [List.length_append]; omega
      refine ⟨e, ?_, by omega, h3, by omega, ?_, ?_⟩
      · rw [hlen]; simpa using h1
      · conv => rhs; rw [← h5]
        congr 1
        rw [show t'.at_ - p = bl.length + (y.length + (t'.at_ - (p + bl.length + y.length))) from by omega, ← List.drop_drop, List.drop_left' rfl, ← List.drop_drop, List.drop_left' rfl]
      · intro i h7 h8
        obtain ⟨c, h9, h10⟩ := h6 i h7 h8
        refine ⟨c, ?_, h10⟩
        rw [List.getElem?_append_right (by omega), List.getElem?_append_right (by omega), ← h9]
        congr 1; omega
end Go.Proofs.Ytbhkoefbajflnaa
