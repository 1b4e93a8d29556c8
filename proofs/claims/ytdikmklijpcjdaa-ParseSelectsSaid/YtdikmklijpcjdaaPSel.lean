/- A select's text is read as just its node. Plain. -/
import Derived.Test.YtdikmklijpcjdaaPQuery
namespace Go.Proofs.Ytdikmklijpcjdaa
open Go.RowKit

def loB (c : UInt8) : Bool := decide (97 ≤ c.toNat) && decide (c.toNat ≤ 122)
def vaB (c : UInt8) : Bool := !(decide (c.toNat < 32) || decide (c.toNat = 34) || decide (c.toNat = 92))
theorem lo_all : ∀ n : Nat, n < 256 → loB (UInt8.ofNat n) = true → blankB (UInt8.ofNat n) = false ∧ dchar (UInt8.ofNat n) = false ∧ letB (UInt8.ofNat n) = true ∧ nchar (UInt8.ofNat n) = true ∧ wordC (UInt8.ofNat n) = true := by decide +kernel
theorem lo_is {c : UInt8} (h : loB c = true) : blankB c = false ∧ dchar c = false ∧ letB c = true ∧ nchar c = true ∧ wordC c = true := by
  have := lo_all c.toNat c.toNat_lt
  rw [UInt8.ofNat_toNat] at this
  exact this h
theorem tw_all {q : UInt8 → Bool} {x : UInt8} (hx : q x = false) (b : List UInt8) : ∀ l : List UInt8, l.all q = true → (l ++ x :: b).takeWhile q = l
  | [], _ => by simp [hx]
  | c :: r, h => by
    rw [List.all_cons, Bool.and_eq_true] at h
    rw [List.cons_append, List.takeWhile_cons, if_pos h.1, tw_all hx b r h.2]
theorem tw_full {q : UInt8 → Bool} : ∀ l : List UInt8, l.all q = true → l.takeWhile q = l
  | [], _ => rfl
  | c :: r, h => by
    rw [List.all_cons, Bool.and_eq_true] at h
    rw [List.takeWhile_cons, if_pos h.1, tw_full r h.2]
theorem lex_word {x : UInt8} (hx : wordC x = false) (p : Nat) (b : List UInt8) {l : List UInt8} (hl : l.all loB = true) (hn : 1 ≤ l.length) : lexL p (l ++ x :: b) = (lexL (p + l.length) (x :: b)).pre [⟨3, p, mkB l, 0⟩] := by
  have hw : l.all wordC = true := List.all_eq_true.2 fun c hc => (lo_is (List.all_eq_true.1 hl c hc)).2.2.2.2
  have ht := tw_all hx b l hw
  cases l with
  | nil => simp at hn
  | cons c r =>
    rw [List.all_cons, Bool.and_eq_true] at hl
    obtain ⟨h1, h2, h3, _, _⟩ := lo_is hl.1
    rw [List.cons_append] at ht
    rw [List.cons_append, lexL_cons]
    simp only [oneL, runN, ht]
    rw [if_neg (by rw [h1]; decide), if_neg (by rw [h2]; decide), if_pos h3]
    dsimp only
    rw [← List.cons_append, List.drop_left]
/-- A byte that begins a sign. -/
def sgB (c : UInt8) : Bool := !blankB c && !dchar c && !letB c && !decide (c.toNat = 34)
theorem lex_sign {c : UInt8} (hc : sgB c = true) (p n : Nat) (r : List UInt8) (hn : signN (c :: r) = n) (h1 : 1 ≤ n) : lexL p (c :: r) = (lexL (p + n) ((c :: r).drop n)).pre [⟨5, p, mkB ((c :: r).take n), 0⟩] := by
  simp only [sgB, Bool.and_eq_true, Bool.not_eq_true', decide_eq_false_iff_not] at hc
  obtain ⟨⟨⟨h2, h3⟩, h4⟩, h5⟩ := hc
  rw [lexL_cons]
  simp only [oneL]
  rw [if_neg (by rw [h2]; decide), if_neg (by rw [h3]; decide), if_neg (by rw [h4]; decide), if_neg h5, if_pos (by rw [hn]; exact h1), hn]
theorem lex_span {l : List UInt8} (hl : l.all numC = true) (hd : ∃ c r, l = c :: r ∧ dchar c = true ∧ blankB c = false) (hs : 0 < spanN l) (p : Nat) {b : List UInt8} (hb : ∀ x r, b = x :: r → numC x = false) : lexL p (l ++ b) = (lexL (p + l.length) b).pre [⟨2, p, mkB l, spanN l⟩] := by
  obtain ⟨c, r, rfl, hc, hbl⟩ := hd
  have ht : ((c :: r) ++ b).takeWhile numC = c :: r := by
    cases b with
    | nil => rw [List.append_nil]; exact tw_full _ hl
    | cons x b => exact tw_all (hb x b rfl) b _ hl
  rw [List.cons_append] at ht
  rw [List.cons_append, lexL_cons]
  simp only [oneL, ht]
  rw [if_neg (by rw [hbl]; decide), if_pos hc]
  simp only [numTok]
  rw [if_pos hs]
  dsimp only
  rw [← List.cons_append, List.drop_left]
theorem textS_plain (b : List UInt8) : ∀ l : List UInt8, l.all vaB = true → textS false (l ++ 34 :: b) = some (l, l.length + 1)
  | [], _ => by simp [textS]
  | c :: r, h => by
    rw [List.all_cons, Bool.and_eq_true] at h
    have h1 := h.1
    simp only [vaB, Bool.not_eq_true', Bool.or_eq_false_iff, decide_eq_false_iff_not] at h1
    rw [List.cons_append, textS, if_neg h1.1.1, if_neg h1.1.2, if_neg h1.2, textS_plain b r h.2]
    rfl
theorem lex_text (p : Nat) (b : List UInt8) {l : List UInt8} (hl : l.all vaB = true) : lexL p (34 :: (l ++ 34 :: b)) = (lexL (p + (1 + (l.length + 1))) b).pre [⟨4, p, mkB l, 0⟩] := by
  rw [lexL_cons]
  simp only [oneL]
  rw [if_neg (by decide), if_neg (by decide), if_neg (by decide), if_pos (by decide), textS_plain b l hl]
  simp only [textTok, List.nil_append]
  rw [show (34 :: (l ++ 34 :: b)).drop (1 + (l.length + 1)) = b from by
    rw [Nat.add_comm, List.drop_succ_cons, show l ++ 34 :: b = (l ++ [34]) ++ b from by simp, show l.length + 1 = (l ++ [34]).length from by simp, List.drop_left]]
/-- A number's digits. -/
def digs : Nat → Nat → List UInt8 → List UInt8
  | 0, _, acc => acc
  | f + 1, n, acc => if n = 0 then acc else digs f (n / 10) (UInt8.ofNat (48 + n % 10) :: acc)
def digT (n : Nat) : List UInt8 := digs 5 n []
def numOk (n u k : Nat) : Bool := (digT n ++ [UInt8.ofNat u]).all numC && (match digT n with | c :: _ => dchar c && !blankB c | [] => false) && decide (spanN (digT n ++ [UInt8.ofNat u]) = n * k) && decide ((digT n).length ≤ 4)
theorem num_w : ((List.range 1000).all fun i => numOk (i + 1) 115 1) = true := by kernel_rfl
theorem num_b : ((List.range 2).all fun i => numOk (i + 1) 104 3600) = true := by kernel_rfl
theorem numOk_at {n u k : Nat} (h : numOk n u k = true) : (digT n ++ [UInt8.ofNat u]).all numC = true ∧ (∃ c r, digT n ++ [UInt8.ofNat u] = c :: r ∧ dchar c = true ∧ blankB c = false) ∧ spanN (digT n ++ [UInt8.ofNat u]) = n * k ∧ (digT n).length ≤ 4 := by
  simp only [numOk, Bool.and_eq_true, decide_eq_true_eq] at h
  obtain ⟨⟨⟨h1, h2⟩, h3⟩, h4⟩ := h
  refine ⟨h1, ?_, h3, h4⟩
  cases hd : digT n with
  | nil => rw [hd] at h2; cases h2
  | cons c r =>
    rw [hd] at h2
    simp only [Bool.and_eq_true, Bool.not_eq_true'] at h2
    exact ⟨c, r ++ [UInt8.ofNat u], rfl, h2.1, h2.2⟩
def matT (k : Nat) : ByteArray := matsL.getD (k + 1) ByteArray.empty
theorem mat_sign : ((List.range 4).all fun k => decide (signN ((matT k).data.toList ++ [34]) = (matT k).size) && decide (numW matsL (matT k) = (k : Int) + 1) && (match (matT k).data.toList with | c :: _ => sgB c && !wordC c && decide (c.toNat ≠ 34) | [] => false) && decide ((matT k).size ≤ 2)) = true := by kernel_rfl
theorem sign_34 (b : List UInt8) : ∀ (l : List UInt8), 1 ≤ l.length → l.length ≤ 2 → signN (l ++ 34 :: b) = signN (l ++ [34])
  | [c], _, _ => by
    show (if (decide (1 < (c :: 34 :: b).length) && sign2 [c, 34]) = true then 2 else if sign1 c = true then 1 else 0) = if (decide (1 < [c, 34].length) && sign2 [c, 34]) = true then 2 else if sign1 c = true then 1 else 0
    rw [decide_eq_true (show 1 < (c :: 34 :: b).length by simp), decide_eq_true (show 1 < [c, (34 : UInt8)].length by simp)]
  | [c, d], _, _ => by
    show (if (decide (1 < (c :: d :: 34 :: b).length) && sign2 [c, d]) = true then 2 else if sign1 c = true then 1 else 0) = if (decide (1 < [c, d, 34].length) && sign2 [c, d]) = true then 2 else if sign1 c = true then 1 else 0
    rw [decide_eq_true (show 1 < (c :: d :: 34 :: b).length by simp), decide_eq_true (show 1 < [c, d, (34 : UInt8)].length by simp)]
  | c :: d :: e :: r, _, h => by simp at h
theorem lex_mat {k : Nat} (hk : k < 4) (p : Nat) (b : List UInt8) : ∃ c r, (matT k).data.toList = c :: r ∧ wordC c = false ∧ (matT k).size ≤ 2 ∧ numW matsL (matT k) = (k : Int) + 1 ∧ lexL p ((matT k).data.toList ++ 34 :: b) = (lexL (p + (matT k).size) (34 :: b)).pre [⟨5, p, matT k, 0⟩] := by
  have h := List.all_eq_true.1 mat_sign k (List.mem_range.2 hk)
  simp only [Bool.and_eq_true, decide_eq_true_eq] at h
  obtain ⟨⟨⟨h1, h2⟩, h3⟩, h4⟩ := h
  have hs : (matT k).data.toList.length = (matT k).size := (Lib.size_eq _).symm
  cases hd : (matT k).data.toList with
  | nil => rw [hd] at h3; cases h3
  | cons c r =>
    rw [hd] at h3 hs h1
    simp only [Bool.and_eq_true, Bool.not_eq_true', decide_eq_true_eq] at h3
    refine ⟨c, r, rfl, h3.1.2, h4, h2, ?_⟩
    have hn : signN (c :: (r ++ 34 :: b)) = (matT k).size := by
      rw [← List.cons_append, sign_34 b (c :: r) (by simp) (by omega), h1]
    rw [List.cons_append, lex_sign h3.1.1 p _ _ hn (by rw [← hs]; simp), ← hs, ← List.cons_append, List.drop_left, List.take_left]
    congr 2
    have : mkB (c :: r) = matT k := by rw [← hd]; rfl
    rw [this]
theorem sg1 (c d : UInt8) (h : (sgB c && sign1 c && !sign2 [c, d]) = true) (p : Nat) (b : List UInt8) : lexL p (c :: d :: b) = (lexL (p + 1) (d :: b)).pre [⟨5, p, mkB [c], 0⟩] := by
  simp only [Bool.and_eq_true, Bool.not_eq_true'] at h
  have hn : signN (c :: d :: b) = 1 := by simp [signN, h.2, h.1.2]
  rw [lex_sign h.1.1 p 1 _ hn (by decide)]
  simp
theorem sg0 (c : UInt8) (h : (sgB c && sign1 c) = true) (p : Nat) : lexL p [c] = (lexL (p + 1) []).pre [⟨5, p, mkB [c], 0⟩] := by
  simp only [Bool.and_eq_true] at h
  have hn : signN [c] = 1 := by simp [signN, h.2]
  rw [lex_sign h.1 p 1 _ hn (by decide)]
  simp
def offL : List UInt8 := [111, 102, 102, 115, 101, 116]
def backT (b : Nat) : List UInt8 := if b = 0 then [] else 32 :: (offL ++ 32 :: (digT b ++ [104]))
def selL (W V : List UInt8) (k w b : Nat) : List UInt8 := W ++ 123 :: 32 :: (W ++ ((matT k).data.toList ++ 34 :: (V ++ 34 :: 32 :: 125 :: 91 :: (digT w ++ 115 :: 93 :: backT b))))
theorem lex_back {b : Nat} (hb : b < 3) (p : Nat) : ∃ y, lexL p (93 :: backT b) = .ok (⟨5, p, sUnsq, 0⟩ :: y) ∧ ∃ e : Tok, e.kind = 0 ∧ ((b = 0 ∧ y = [e]) ∨ ∃ q1 q2 X, 0 < b ∧ y = [⟨3, q1, sOffset, 0⟩, ⟨2, q2, X, b * 3600⟩, e]) := by
  by_cases h0 : b = 0
  · subst h0
    refine ⟨[⟨0, p + 1, mkB [], 0⟩], ?_, ⟨0, p + 1, mkB [], 0⟩, rfl, .inl ⟨rfl, rfl⟩⟩
    show lexL p [93] = _
    rw [sg0 93 (by decide) p, lexL_nil]
    rfl
  · obtain ⟨i, rfl⟩ : ∃ i, b = i + 1 := ⟨b - 1, by omega⟩
    obtain ⟨h1, h2, h3, _⟩ := numOk_at (List.all_eq_true.1 num_b i (List.mem_range.2 (by omega)))
    refine ⟨_, ?_, ⟨0, p + 1 + 1 + offL.length + 1 + (digT (i + 1) ++ [UInt8.ofNat 104]).length, mkB [], 0⟩, rfl, .inr ⟨p + 1 + 1, p + 1 + 1 + offL.length + 1, mkB (digT (i + 1) ++ [UInt8.ofNat 104]), by omega, rfl⟩⟩
    rw [backT, if_neg h0, sg1 93 32 (by decide) p, lex_blank, lex_word (by decide) _ _ (by decide) (by decide), lex_blank]
    have := lex_span h1 h2 (by omega) (p + 1 + 1 + offL.length + 1) (b := []) (fun x r h => by cases h)
    rw [List.append_nil] at this
    rw [show (104 : UInt8) = UInt8.ofNat 104 from rfl, this, lexL_nil, h3]
    rfl
theorem sel_lex {W V : List UInt8} {k w b : Nat} (hW : W.all loB = true) (hW1 : 1 ≤ W.length) (hV : V.all vaB = true) (hk : k < 4) (hw1 : 1 ≤ w) (hw2 : w ≤ 1000) (hb : b < 3) :
    ∃ p1 p2 p3 p4 p5 p6 p7 p8 X y, lexL 0 (selL W V k w b) = .ok (⟨3, 0, mkB W, 0⟩ :: ⟨5, p1, sCurl, 0⟩ :: ⟨3, p2, mkB W, 0⟩ :: ⟨5, p3, matT k, 0⟩ :: ⟨4, p4, mkB V, 0⟩ :: ⟨5, p5, sUncurl, 0⟩ :: ⟨5, p6, sSq, 0⟩ :: ⟨2, p7, X, w⟩ :: ⟨5, p8, sUnsq, 0⟩ :: y) ∧
      ∃ e : Tok, e.kind = 0 ∧ ((b = 0 ∧ y = [e]) ∨ ∃ q1 q2 X, 0 < b ∧ y = [⟨3, q1, sOffset, 0⟩, ⟨2, q2, X, b * 3600⟩, e]) := by
  obtain ⟨i, rfl⟩ : ∃ i, w = i + 1 := ⟨w - 1, by omega⟩
  obtain ⟨h1, h2, h3, _⟩ := numOk_at (List.all_eq_true.1 num_w i (List.mem_range.2 (by omega)))
  rw [Nat.mul_one] at h3
  obtain ⟨y, hy, hy2⟩ := lex_back hb (0 + W.length + 1 + 1 + W.length + (matT k).size + (1 + (V.length + 1)) + 1 + 1 + 1 + (digT (i + 1) ++ [UInt8.ofNat 115]).length)
  obtain ⟨c, r, hm, hmc, _, _, _⟩ := lex_mat hk 0 []
  refine ⟨0 + W.length, 0 + W.length + 1 + 1, 0 + W.length + 1 + 1 + W.length, 0 + W.length + 1 + 1 + W.length + (matT k).size, 0 + W.length + 1 + 1 + W.length + (matT k).size + (1 + (V.length + 1)) + 1, 0 + W.length + 1 + 1 + W.length + (matT k).size + (1 + (V.length + 1)) + 1 + 1, 0 + W.length + 1 + 1 + W.length + (matT k).size + (1 + (V.length + 1)) + 1 + 1 + 1, 0 + W.length + 1 + 1 + W.length + (matT k).size + (1 + (V.length + 1)) + 1 + 1 + 1 + (digT (i + 1) ++ [UInt8.ofNat 115]).length, mkB (digT (i + 1) ++ [UInt8.ofNat 115]), y, ?_, hy2⟩
  rw [selL, lex_word (by decide) 0 _ hW hW1, sg1 123 32 (by decide), lex_blank]
  have e1 : W ++ ((matT k).data.toList ++ 34 :: (V ++ 34 :: 32 :: 125 :: 91 :: (digT (i + 1) ++ 115 :: 93 :: backT b))) = W ++ c :: (r ++ 34 :: (V ++ 34 :: 32 :: 125 :: 91 :: (digT (i + 1) ++ 115 :: 93 :: backT b))) := by rw [hm]; rfl
  rw [e1, lex_word hmc _ _ hW hW1, ← List.cons_append, ← hm, (lex_mat hk _ _).choose_spec.choose_spec.2.2.2.2, lex_text _ _ hV, lex_blank, sg1 125 91 (by decide)]
  have hdd : ∃ c' r', digT (i + 1) ++ 115 :: 93 :: backT b = c' :: r' ∧ dchar c' = true := by
    obtain ⟨c', r', e, hc, _⟩ := h2
    exact ⟨c', r' ++ 93 :: backT b, by rw [← List.cons_append, ← e]; simp, hc⟩
  obtain ⟨c', r', e2, hc'⟩ := hdd
  have hs91 : (sgB 91 && sign1 91 && !sign2 [91, c']) = true := by simp [sign2]; decide
  rw [e2, sg1 91 c' hs91, ← e2, show digT (i + 1) ++ 115 :: 93 :: backT b = (digT (i + 1) ++ [UInt8.ofNat 115]) ++ 93 :: backT b from by simp, lex_span h1 h2 (by omega) _ (fun x r h => by injection h with h _; subst h; decide), hy, h3]
  rfl
theorem numW_not {w : ByteArray} (h : keptB w = false) : numW funcsL w ≤ 0 ∧ numW aggsL w ≤ 0 := by
  simp only [keptB, Bool.or_eq_false_iff, decide_eq_false_iff_not] at h
  omega
/-- A select is read. -/
theorem sel_read {W V M X : ByteArray} {k w b : Nat} {p0 p1 p2 p3 p4 p5 p6 p7 p8 : Nat} {y : List Tok} {e : Tok} (hkept : keptB W = false) (hnm : nameB W = true) (hM : numW matsL M = (k : Int) + 1) (h1 : matCode [⟨1, sNameN, W⟩] = 0) (h2 : matCode [⟨1, sNameN, W⟩, ⟨(k : Int) + 1, W, V⟩] = 0)
    (he : e.kind = 0) (hy : (b = 0 ∧ y = [e]) ∨ ∃ q1 q2 X, 0 < b ∧ y = [⟨3, q1, sOffset, 0⟩, ⟨2, q2, X, b * 3600⟩, e]) (n : Nat) :
    orP (unaryP (n + 1)) ⟨⟨3, p0, W, 0⟩ :: ⟨5, p1, sCurl, 0⟩ :: ⟨3, p2, W, 0⟩ :: ⟨5, p3, M, 0⟩ :: ⟨4, p4, V, 0⟩ :: ⟨5, p5, sUncurl, 0⟩ :: ⟨5, p6, sSq, 0⟩ :: ⟨2, p7, X, w⟩ :: ⟨5, p8, sUnsq, 0⟩ :: y, 0, []⟩ =
      .ok ⟨[e], 0, [selN 3 [⟨1, sNameN, W⟩, ⟨(k : Int) + 1, W, V⟩] w ((b * 3600 : Nat) : Int)]⟩ := by
  obtain ⟨f1, f2⟩ := numW_not hkept
  have f1' : ¬ 0 < numW funcsL W := by omega
  have f2' : ¬ 0 < numW aggsL W := by omega
  have u1 : sCurl ≠ sUncurl := by decide
  have hk0 : ¬ ((k : Int) + 1 = 0) := by omega
  have s1 : PS.sel1 ⟨⟨3, p0, W, 0⟩ :: ⟨5, p1, sCurl, 0⟩ :: ⟨3, p2, W, 0⟩ :: ⟨5, p3, M, 0⟩ :: ⟨4, p4, V, 0⟩ :: ⟨5, p5, sUncurl, 0⟩ :: ⟨5, p6, sSq, 0⟩ :: ⟨2, p7, X, w⟩ :: ⟨5, p8, sUnsq, 0⟩ :: y, 0, []⟩ = .ok (⟨⟨5, p1, sCurl, 0⟩ :: ⟨3, p2, W, 0⟩ :: ⟨5, p3, M, 0⟩ :: ⟨4, p4, V, 0⟩ :: ⟨5, p5, sUncurl, 0⟩ :: ⟨5, p6, sSq, 0⟩ :: ⟨2, p7, X, w⟩ :: ⟨5, p8, sUnsq, 0⟩ :: y, 0, []⟩, [⟨1, sNameN, W⟩]) := by
    simp [PS.sel1, PS.wordB, PS.hd, PS.on, hkept, addM, h1]
  have s2 : PS.sel2 ⟨⟨5, p1, sCurl, 0⟩ :: ⟨3, p2, W, 0⟩ :: ⟨5, p3, M, 0⟩ :: ⟨4, p4, V, 0⟩ :: ⟨5, p5, sUncurl, 0⟩ :: ⟨5, p6, sSq, 0⟩ :: ⟨2, p7, X, w⟩ :: ⟨5, p8, sUnsq, 0⟩ :: y, 0, []⟩ true [⟨1, sNameN, W⟩] = .ok (⟨⟨5, p6, sSq, 0⟩ :: ⟨2, p7, X, w⟩ :: ⟨5, p8, sUnsq, 0⟩ :: y, 0, []⟩, [⟨1, sNameN, W⟩, ⟨(k : Int) + 1, W, V⟩]) := by
    simp [PS.sel2, PS.is, PS.hd, PS.on, PS.matchers, matchersF, PS.comma, PS.name, hnm, hM, hk0, addM, h2]
  have s3 : PS.sel3 ⟨⟨5, p6, sSq, 0⟩ :: ⟨2, p7, X, w⟩ :: ⟨5, p8, sUnsq, 0⟩ :: y, 0, []⟩ = .ok (⟨y, 0, []⟩, 3, (w : Int)) := by
    simp [PS.sel3, PS.is, PS.hd, PS.on, PS.span, PS.sign]
  have s4 : PS.sel4 ⟨y, 0, []⟩ = .ok (⟨[e], 0, []⟩, ((b * 3600 : Nat) : Int)) := by
    rcases hy with ⟨rfl, rfl⟩ | ⟨q1, q2, X, hb, rfl⟩
    · simp [PS.sel4, PS.is, PS.hd, he]
    · simp [PS.sel4, PS.is, PS.hd, PS.on, PS.span]
  have hch : chooseP ⟨⟨3, p0, W, 0⟩ :: ⟨5, p1, sCurl, 0⟩ :: ⟨3, p2, W, 0⟩ :: ⟨5, p3, M, 0⟩ :: ⟨4, p4, V, 0⟩ :: ⟨5, p5, sUncurl, 0⟩ :: ⟨5, p6, sSq, 0⟩ :: ⟨2, p7, X, w⟩ :: ⟨5, p8, sUnsq, 0⟩ :: y, 0, []⟩ = .ok ⟨[e], 0, [selN 3 [⟨1, sNameN, W⟩, ⟨(k : Int) + 1, W, V⟩] w ((b * 3600 : Nat) : Int)]⟩ := by
    have hw : PS.wordB ⟨⟨3, p0, W, 0⟩ :: ⟨5, p1, sCurl, 0⟩ :: ⟨3, p2, W, 0⟩ :: ⟨5, p3, M, 0⟩ :: ⟨4, p4, V, 0⟩ :: ⟨5, p5, sUncurl, 0⟩ :: ⟨5, p6, sSq, 0⟩ :: ⟨2, p7, X, w⟩ :: ⟨5, p8, sUnsq, 0⟩ :: y, 0, []⟩ = true := by simp [PS.wordB, PS.hd, hkept]
    rw [chooseP, s1]
    dsimp only
    rw [hw, s2]
    dsimp only
    rw [s3]
    dsimp only
    rw [s4]
    rfl
  refine orP_stop (zr := [e]) ?_ ⟨e, [], rfl, .inl he⟩
  rw [unaryP, if_neg (by simp [PS.is, PS.hd]), oneP, if_neg (by simp [PS.hd]), if_neg (by simp [PS.is, PS.hd]), if_neg (by simp [PS.hd]; omega), if_neg (by simp [PS.hd]; omega)]
  exact hch
/-- The node that a select's text says. -/
def nodK (W V : ByteArray) (k w b : Nat) : Nod := selN 3 [⟨1, sNameN, W⟩, ⟨(k : Int) + 1, W, V⟩] w ((b * 3600 : Nat) : Int)
theorem word_name {W : ByteArray} (hW : W.data.toList.all loB = true) (h1 : 1 ≤ W.size) (h2 : W.size ≤ 60) : nameB W = true := by
  have hs := Lib.size_eq W
  simp only [nameB, Bool.and_eq_true, decide_eq_true_eq, Bool.not_eq_true']
  refine ⟨⟨⟨h1, by omega⟩, ?_⟩, List.all_eq_true.2 fun c hc => (lo_is (List.all_eq_true.1 hW c hc)).2.2.2.1⟩
  cases hd : W.data.toList with
  | nil => rw [hd] at hs; have : W.size = 0 := hs; omega
  | cons c r =>
    rw [hd, List.all_cons, Bool.and_eq_true] at hW
    simp [(lo_is hW.1).2.1]
theorem sel_law {W V s : ByteArray} {k w b : Nat} (hW : W.data.toList.all loB = true) (hW1 : 1 ≤ W.size) (hW2 : W.size ≤ 60) (hkept : keptB W = false) (hV : V.data.toList.all vaB = true) (hV2 : V.size ≤ 200) (hk : k < 4) (hw1 : 1 ≤ w) (hw2 : w ≤ 1000) (hb : b < 3)
    (hs : s.data.toList = selL W.data.toList V.data.toList k w b) (hs2 : s.size ≤ 4096) : parseR s = ([nodK W V k w b], 0, 0) := by
  have hnm := word_name hW hW1 hW2
  obtain ⟨p1, p2, p3, p4, p5, p6, p7, p8, X, y, hl, e, he, hy⟩ := sel_lex hW (by rw [← Lib.size_eq]; exact hW1) hV hk hw1 hw2 hb
  obtain ⟨_, _, _, _, _, hM, _⟩ := lex_mat hk 0 []
  have eW : mkB W.data.toList = W := rfl
  have eV : mkB V.data.toList = V := rfl
  have nN : nameB sNameN = true := by kernel_rfl
  have b1 : matB ⟨1, sNameN, W⟩ = true := by simp [matB, kindB, nN]; omega
  have b2 : matB ⟨(k : Int) + 1, W, V⟩ = true := by simp [matB, kindB, hnm]; omega
  have h1 : matCode [⟨1, sNameN, W⟩] = 0 := by simp [matCode, b1]
  have h2 : matCode [⟨1, sNameN, W⟩, ⟨(k : Int) + 1, W, V⟩] = 0 := by simp [matCode, b1, b2]
  rw [eW, eV] at hl
  rw [parseR, lexR, if_neg (by omega), hs, hl]
  dsimp only
  rw [List.length_cons, sel_read hkept hnm hM h1 h2 he hy]
  dsimp only
  rw [if_pos (by simpa [PS.hd] using he)]
  rfl
/-- A word and braces that hold a number. -/
theorem bad_law {W s : ByteArray} (hW : W.data.toList.all loB = true) (hW1 : 1 ≤ W.size) (hW2 : W.size ≤ 60) (hkept : keptB W = false) (hs : s.data.toList = W.data.toList ++ [123, 49, 125]) : parseR s = ([], (W.size : Int) + 1, 181) := by
  obtain ⟨f1, f2⟩ := numW_not hkept
  have hl : lexL 0 (W.data.toList ++ [123, 49, 125]) = .ok [⟨3, 0, W, 0⟩, ⟨5, W.size, sCurl, 0⟩, ⟨1, W.size + 1, mkB [49], 0⟩, ⟨5, W.size + 2, sUncurl, 0⟩, ⟨0, W.size + 3, mkB [], 0⟩] := by
    have hnum : lexL (W.data.toList.length + 1) [49, 125] = .ok [⟨1, W.data.toList.length + 1, mkB [49], 0⟩, ⟨5, W.data.toList.length + 2, sUncurl, 0⟩, ⟨0, W.data.toList.length + 3, mkB [], 0⟩] := by
      have := lexL_sh (W.data.toList.length + 1) 2 0 [49, 125] (by simp)
      have e0 : lexL 0 [49, 125] = .ok [⟨1, 0, mkB [49], 0⟩, ⟨5, 1, sUncurl, 0⟩, ⟨0, 2, mkB [], 0⟩] := by kernel_rfl
      rw [e0] at this
      rw [this]
      rfl
    rw [lex_word (by decide) 0 _ hW (by rw [← Lib.size_eq]; exact hW1), sg1 123 49 (by decide), Nat.zero_add, hnum, ← Lib.size_eq]
    rfl
  have hz : s.size = W.size + 3 := by
    rw [Lib.size_eq, hs, List.length_append, ← Lib.size_eq]
    rfl
  have nN : nameB sNameN = true := by kernel_rfl
  have b1 : matB ⟨1, sNameN, W⟩ = true := by simp [matB, kindB, nN]; omega
  have h1 : matCode [⟨1, sNameN, W⟩] = 0 := by simp [matCode, b1]
  rw [parseR, lexR, if_neg (by omega), hs, hl]
  dsimp only
  have hE : ∀ n, orP (unaryP (n + 1)) ⟨[⟨3, 0, W, 0⟩, ⟨5, W.size, sCurl, 0⟩, ⟨1, W.size + 1, mkB [49], 0⟩, ⟨5, W.size + 2, sUncurl, 0⟩, ⟨0, W.size + 3, mkB [], 0⟩], 0, []⟩ = .error (181, ((W.size + 1 : Nat) : Int)) := by
    intro n
    refine orP_err ?_
    rw [unaryP, if_neg (by simp [PS.is, PS.hd]), oneP, if_neg (by simp [PS.hd]), if_neg (by simp [PS.is, PS.hd]), if_neg (by simp [PS.hd]; omega), if_neg (by simp [PS.hd]; omega)]
    simp [chooseP, PS.sel1, PS.sel2, PS.wordB, PS.is, PS.hd, PS.on, hkept, addM, h1, PS.matchers, matchersF, PS.comma, PS.name, PS.stuck]
  rw [show [(⟨3, 0, W, 0⟩ : Tok), ⟨5, W.size, sCurl, 0⟩, ⟨1, W.size + 1, mkB [49], 0⟩, ⟨5, W.size + 2, sUncurl, 0⟩, ⟨0, W.size + 3, mkB [], 0⟩].length = 4 + 1 from rfl, hE]
  simp
end Go.Proofs.Ytdikmklijpcjdaa
