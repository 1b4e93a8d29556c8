/- Plain laws: two trees with one text are one; a span is shown in its greatest unit. -/
import Derived.Test.YtakfnojiaakfpaaGreatDoorPQuery
import Derived.Test.YtakfnojiaakfpaaGreatDoorTypSrc
import Derived.Lib.ItoaNum
namespace Go.Proofs.YtakfnojiaakfpaaGreatDoor
section
/-! ## PSel -/
open Go.RowKit

def loB (c : UInt8) : Bool := decide (97 ≤ c.toNat) && decide (c.toNat ≤ 122)
def vaB (c : UInt8) : Bool := !(decide (c.toNat < 32) || decide (c.toNat = 34) || decide (c.toNat = 92))
theorem lo_all : ∀ n : Nat, n < 256 → loB (UInt8.ofNat n) = true → blankB (UInt8.ofNat n) = false ∧ dchar (UInt8.ofNat n) = false ∧ letB (UInt8.ofNat n) = true ∧ nchar (UInt8.ofNat n) = true ∧ wordC (UInt8.ofNat n) = true := by decide +kernel
theorem lo_is {c : UInt8} (h : loB c = true) : blankB c = false ∧ dchar c = false ∧ letB c = true ∧ nchar c = true ∧ wordC c = true := by
  have := lo_all c.toNat c.toNat_lt
  rw [UInt8.ofNat_toNat] at this
  exact this h
theorem tw_all {q : UInt8 → Bool} {x : UInt8} (hx : q x = false) (b : List UInt8) : ∀ l : List UInt8, l.all q = true → (l ++ x :: b).takeWhile q = l
  | [], _ => by simp [hx]
  | c :: r, h => by
    rw [List.all_cons, Bool.and_eq_true] at h
    rw [List.cons_append, List.takeWhile_cons, if_pos h.1, tw_all hx b r h.2]
theorem tw_full {q : UInt8 → Bool} : ∀ l : List UInt8, l.all q = true → l.takeWhile q = l
  | [], _ => rfl
  | c :: r, h => by
    rw [List.all_cons, Bool.and_eq_true] at h
    rw [List.takeWhile_cons, if_pos h.1, tw_full r h.2]
theorem lex_word {x : UInt8} (hx : wordC x = false) (p : Nat) (b : List UInt8) {l : List UInt8} (hl : l.all loB = true) (hn : 1 ≤ l.length) : lexL p (l ++ x :: b) = (lexL (p + l.length) (x :: b)).pre [⟨3, p, mkB l, 0⟩] := by
  have hw : l.all wordC = true := List.all_eq_true.2 fun c hc => (lo_is (List.all_eq_true.1 hl c hc)).2.2.2.2
  have ht := tw_all hx b l hw
  cases l with
  | nil => simp at hn
  | cons c r =>
    rw [List.all_cons, Bool.and_eq_true] at hl
    obtain ⟨h1, h2, h3, _, _⟩ := lo_is hl.1
    rw [List.cons_append] at ht
    rw [List.cons_append, lexL_cons]
    simp only [oneL, runN, ht]
    rw [if_neg (by rw [h1]; decide), if_neg (by rw [h2]; decide), if_pos h3]
    dsimp only
    rw [← List.cons_append, List.drop_left]
/-- A byte that begins a sign. -/
def sgB (c : UInt8) : Bool := !blankB c && !dchar c && !letB c && !decide (c.toNat = 34)
theorem lex_sign {c : UInt8} (hc : sgB c = true) (p n : Nat) (r : List UInt8) (hn : signN (c :: r) = n) (h1 : 1 ≤ n) : lexL p (c :: r) = (lexL (p + n) ((c :: r).drop n)).pre [⟨5, p, mkB ((c :: r).take n), 0⟩] := by
  simp only [sgB, Bool.and_eq_true, Bool.not_eq_true', decide_eq_false_iff_not] at hc
  obtain ⟨⟨⟨h2, h3⟩, h4⟩, h5⟩ := hc
  rw [lexL_cons]
  simp only [oneL]
  rw [if_neg (by rw [h2]; decide), if_neg (by rw [h3]; decide), if_neg (by rw [h4]; decide), if_neg h5, if_pos (by rw [hn]; exact h1), hn]
theorem lex_span {l : List UInt8} (hl : l.all numC = true) (hd : ∃ c r, l = c :: r ∧ dchar c = true ∧ blankB c = false) (hs : 0 < spanN l) (p : Nat) {b : List UInt8} (hb : ∀ x r, b = x :: r → numC x = false) : lexL p (l ++ b) = (lexL (p + l.length) b).pre [⟨2, p, mkB l, spanN l⟩] := by
  obtain ⟨c, r, rfl, hc, hbl⟩ := hd
  have ht : ((c :: r) ++ b).takeWhile numC = c :: r := by
    cases b with
    | nil => rw [List.append_nil]; exact tw_full _ hl
    | cons x b => exact tw_all (hb x b rfl) b _ hl
  rw [List.cons_append] at ht
  rw [List.cons_append, lexL_cons]
  simp only [oneL, ht]
  rw [if_neg (by rw [hbl]; decide), if_pos hc]
  simp only [numTok]
  rw [if_pos hs]
  dsimp only
  rw [← List.cons_append, List.drop_left]
theorem textS_plain (b : List UInt8) : ∀ l : List UInt8, l.all vaB = true → textS false (l ++ 34 :: b) = some (l, l.length + 1)
  | [], _ => by simp [textS]
  | c :: r, h => by
    rw [List.all_cons, Bool.and_eq_true] at h
    have h1 := h.1
    simp only [vaB, Bool.not_eq_true', Bool.or_eq_false_iff, decide_eq_false_iff_not] at h1
    rw [List.cons_append, textS, if_neg h1.1.1, if_neg h1.1.2, if_neg h1.2, textS_plain b r h.2]
    rfl
theorem lex_text (p : Nat) (b : List UInt8) {l : List UInt8} (hl : l.all vaB = true) : lexL p (34 :: (l ++ 34 :: b)) = (lexL (p + (1 + (l.length + 1))) b).pre [⟨4, p, mkB l, 0⟩] := by
  rw [lexL_cons]
  simp only [oneL]
  rw [if_neg (by decide), if_neg (by decide), if_neg (by decide), if_pos (by decide), textS_plain b l hl]
  simp only [textTok, List.nil_append]
  rw [show (34 :: (l ++ 34 :: b)).drop (1 + (l.length + 1)) = b from by
    rw [Nat.add_comm, List.drop_succ_cons, show l ++ 34 :: b = (l ++ [34]) ++ b from by simp, show l.length + 1 = (l ++ [34]).length from by simp, List.drop_left]]
/-- A number's digits. -/
def digs : Nat → Nat → List UInt8 → List UInt8
  | 0, _, acc => acc
  | f + 1, n, acc => if n = 0 then acc else digs f (n / 10) (UInt8.ofNat (48 + n % 10) :: acc)
def digT (n : Nat) : List UInt8 := digs 5 n []
def numOk (n u k : Nat) : Bool := (digT n ++ [UInt8.ofNat u]).all numC && (match digT n with | c :: _ => dchar c && !blankB c | [] => false) && decide (spanN (digT n ++ [UInt8.ofNat u]) = n * k) && decide ((digT n).length ≤ 4)
theorem num_w : ((List.range 1000).all fun i => numOk (i + 1) 115 1) = true := by kernel_rfl
theorem num_b : ((List.range 2).all fun i => numOk (i + 1) 104 3600) = true := by kernel_rfl
theorem numOk_at {n u k : Nat} (h : numOk n u k = true) : (digT n ++ [UInt8.ofNat u]).all numC = true ∧ (∃ c r, digT n ++ [UInt8.ofNat u] = c :: r ∧ dchar c = true ∧ blankB c = false) ∧ spanN (digT n ++ [UInt8.ofNat u]) = n * k ∧ (digT n).length ≤ 4 := by
  simp only [numOk, Bool.and_eq_true, decide_eq_true_eq] at h
  obtain ⟨⟨⟨h1, h2⟩, h3⟩, h4⟩ := h
  refine ⟨h1, ?_, h3, h4⟩
  cases hd : digT n with
  | nil => rw [hd] at h2; cases h2
  | cons c r =>
    rw [hd] at h2
    simp only [Bool.and_eq_true, Bool.not_eq_true'] at h2
    exact ⟨c, r ++ [UInt8.ofNat u], rfl, h2.1, h2.2⟩
def matT (k : Nat) : ByteArray := matsL.getD (k + 1) ByteArray.empty
theorem mat_sign : ((List.range 4).all fun k => decide (signN ((matT k).data.toList ++ [34]) = (matT k).size) && decide (numW matsL (matT k) = (k : Int) + 1) && (match (matT k).data.toList with | c :: _ => sgB c && !wordC c && decide (c.toNat ≠ 34) | [] => false) && decide ((matT k).size ≤ 2)) = true := by kernel_rfl
theorem sign_34 (b : List UInt8) : ∀ (l : List UInt8), 1 ≤ l.length → l.length ≤ 2 → signN (l ++ 34 :: b) = signN (l ++ [34])
  | [c], _, _ => by
    show (if (decide (1 < (c :: 34 :: b).length) && sign2 [c, 34]) = true then 2 else if sign1 c = true then 1 else 0) = if (decide (1 < [c, 34].length) && sign2 [c, 34]) = true then 2 else if sign1 c = true then 1 else 0
    rw [decide_eq_true (show 1 < (c :: 34 :: b).length by simp), decide_eq_true (show 1 < [c, (34 : UInt8)].length by simp)]
  | [c, d], _, _ => by
    show (if (decide (1 < (c :: d :: 34 :: b).length) && sign2 [c, d]) = true then 2 else if sign1 c = true then 1 else 0) = if (decide (1 < [c, d, 34].length) && sign2 [c, d]) = true then 2 else if sign1 c = true then 1 else 0
    rw [decide_eq_true (show 1 < (c :: d :: 34 :: b).length by simp), decide_eq_true (show 1 < [c, d, (34 : UInt8)].length by simp)]
  | c :: d :: e :: r, _, h => by simp at h
theorem lex_mat {k : Nat} (hk : k < 4) (p : Nat) (b : List UInt8) : ∃ c r, (matT k).data.toList = c :: r ∧ wordC c = false ∧ (matT k).size ≤ 2 ∧ numW matsL (matT k) = (k : Int) + 1 ∧ lexL p ((matT k).data.toList ++ 34 :: b) = (lexL (p + (matT k).size) (34 :: b)).pre [⟨5, p, matT k, 0⟩] := by
  have h := List.all_eq_true.1 mat_sign k (List.mem_range.2 hk)
  simp only [Bool.and_eq_true, decide_eq_true_eq] at h
  obtain ⟨⟨⟨h1, h2⟩, h3⟩, h4⟩ := h
  have hs : (matT k).data.toList.length = (matT k).size := (Lib.size_eq _).symm
  cases hd : (matT k).data.toList with
  | nil => rw [hd] at h3; cases h3
  | cons c r =>
    rw [hd] at h3 hs h1
    simp only [Bool.and_eq_true, Bool.not_eq_true', decide_eq_true_eq] at h3
    refine ⟨c, r, rfl, h3.1.2, h4, h2, ?_⟩
    have hn : signN (c :: (r ++ 34 :: b)) = (matT k).size := by
      rw [← List.cons_append, sign_34 b (c :: r) (by simp) (by omega), h1]
    rw [List.cons_append, lex_sign h3.1.1 p _ _ hn (by rw [← hs]; simp), ← hs, ← List.cons_append, List.drop_left, List.take_left]
    congr 2
    have : mkB (c :: r) = matT k := by rw [← hd]; rfl
    rw [this]
theorem sg1 (c d : UInt8) (h : (sgB c && sign1 c && !sign2 [c, d]) = true) (p : Nat) (b : List UInt8) : lexL p (c :: d :: b) = (lexL (p + 1) (d :: b)).pre [⟨5, p, mkB [c], 0⟩] := by
  simp only [Bool.and_eq_true, Bool.not_eq_true'] at h
  have hn : signN (c :: d :: b) = 1 := by simp [signN, h.2, h.1.2]
  rw [lex_sign h.1.1 p 1 _ hn (by decide)]
  simp
theorem sg0 (c : UInt8) (h : (sgB c && sign1 c) = true) (p : Nat) : lexL p [c] = (lexL (p + 1) []).pre [⟨5, p, mkB [c], 0⟩] := by
  simp only [Bool.and_eq_true] at h
  have hn : signN [c] = 1 := by simp [signN, h.2]
  rw [lex_sign h.1 p 1 _ hn (by decide)]
  simp
def offL : List UInt8 := [111, 102, 102, 115, 101, 116]
def backT (b : Nat) : List UInt8 := if b = 0 then [] else 32 :: (offL ++ 32 :: (digT b ++ [104]))
def selL (W V : List UInt8) (k w b : Nat) : List UInt8 := W ++ 123 :: 32 :: (W ++ ((matT k).data.toList ++ 34 :: (V ++ 34 :: 32 :: 125 :: 91 :: (digT w ++ 115 :: 93 :: backT b))))
theorem lex_back {b : Nat} (hb : b < 3) (p : Nat) : ∃ y, lexL p (93 :: backT b) = .ok (⟨5, p, sUnsq, 0⟩ :: y) ∧ ∃ e : Tok, e.kind = 0 ∧ ((b = 0 ∧ y = [e]) ∨ ∃ q1 q2 X, 0 < b ∧ y = [⟨3, q1, sOffset, 0⟩, ⟨2, q2, X, b * 3600⟩, e]) := by
  by_cases h0 : b = 0
  · subst h0
    refine ⟨[⟨0, p + 1, mkB [], 0⟩], ?_, ⟨0, p + 1, mkB [], 0⟩, rfl, .inl ⟨rfl, rfl⟩⟩
    show lexL p [93] = _
    rw [sg0 93 (by decide) p, lexL_nil]
    rfl
  · obtain ⟨i, rfl⟩ : ∃ i, b = i + 1 := ⟨b - 1, by omega⟩
    obtain ⟨h1, h2, h3, _⟩ := numOk_at (List.all_eq_true.1 num_b i (List.mem_range.2 (by omega)))
    refine ⟨_, ?_, ⟨0, p + 1 + 1 + offL.length + 1 + (digT (i + 1) ++ [UInt8.ofNat 104]).length, mkB [], 0⟩, rfl, .inr ⟨p + 1 + 1, p + 1 + 1 + offL.length + 1, mkB (digT (i + 1) ++ [UInt8.ofNat 104]), by omega, rfl⟩⟩
    rw [backT, if_neg h0, sg1 93 32 (by decide) p, lex_blank, lex_word (by decide) _ _ (by decide) (by decide), lex_blank]
    have := lex_span h1 h2 (by omega) (p + 1 + 1 + offL.length + 1) (b := []) (fun x r h => by cases h)
    rw [List.append_nil] at this
    rw [show (104 : UInt8) = UInt8.ofNat 104 from rfl, this, lexL_nil, h3]
    rfl
theorem sel_lex {W V : List UInt8} {k w b : Nat} (hW : W.all loB = true) (hW1 : 1 ≤ W.length) (hV : V.all vaB = true) (hk : k < 4) (hw1 : 1 ≤ w) (hw2 : w ≤ 1000) (hb : b < 3) :
    ∃ p1 p2 p3 p4 p5 p6 p7 p8 X y, lexL 0 (selL W V k w b) = .ok (⟨3, 0, mkB W, 0⟩ :: ⟨5, p1, sCurl, 0⟩ :: ⟨3, p2, mkB W, 0⟩ :: ⟨5, p3, matT k, 0⟩ :: ⟨4, p4, mkB V, 0⟩ :: ⟨5, p5, sUncurl, 0⟩ :: ⟨5, p6, sSq, 0⟩ :: ⟨2, p7, X, w⟩ :: ⟨5, p8, sUnsq, 0⟩ :: y) ∧
      ∃ e : Tok, e.kind = 0 ∧ ((b = 0 ∧ y = [e]) ∨ ∃ q1 q2 X, 0 < b ∧ y = [⟨3, q1, sOffset, 0⟩, ⟨2, q2, X, b * 3600⟩, e]) := by
  obtain ⟨i, rfl⟩ : ∃ i, w = i + 1 := ⟨w - 1, by omega⟩
  obtain ⟨h1, h2, h3, _⟩ := numOk_at (List.all_eq_true.1 num_w i (List.mem_range.2 (by omega)))
  rw [Nat.mul_one] at h3
  obtain ⟨y, hy, hy2⟩ := lex_back hb (0 + W.length + 1 + 1 + W.length + (matT k).size + (1 + (V.length + 1)) + 1 + 1 + 1 + (digT (i + 1) ++ [UInt8.ofNat 115]).length)
  obtain ⟨c, r, hm, hmc, _, _, _⟩ := lex_mat hk 0 []
  refine ⟨0 + W.length, 0 + W.length + 1 + 1, 0 + W.length + 1 + 1 + W.length, 0 + W.length + 1 + 1 + W.length + (matT k).size, 0 + W.length + 1 + 1 + W.length + (matT k).size + (1 + (V.length + 1)) + 1, 0 + W.length + 1 + 1 + W.length + (matT k).size + (1 + (V.length + 1)) + 1 + 1, 0 + W.length + 1 + 1 + W.length + (matT k).size + (1 + (V.length + 1)) + 1 + 1 + 1, 0 + W.length + 1 + 1 + W.length + (matT k).size + (1 + (V.length + 1)) + 1 + 1 + 1 + (digT (i + 1) ++ [UInt8.ofNat 115]).length, mkB (digT (i + 1) ++ [UInt8.ofNat 115]), y, ?_, hy2⟩
  rw [selL, lex_word (by decide) 0 _ hW hW1, sg1 123 32 (by decide), lex_blank]
  have e1 : W ++ ((matT k).data.toList ++ 34 :: (V ++ 34 :: 32 :: 125 :: 91 :: (digT (i + 1) ++ 115 :: 93 :: backT b))) = W ++ c :: (r ++ 34 :: (V ++ 34 :: 32 :: 125 :: 91 :: (digT (i + 1) ++ 115 :: 93 :: backT b))) := by rw [hm]; rfl
  rw [e1, lex_word hmc _ _ hW hW1, ← List.cons_append, ← hm, (lex_mat hk _ _).choose_spec.choose_spec.2.2.2.2, lex_text _ _ hV, lex_blank, sg1 125 91 (by decide)]
  have hdd : ∃ c' r', digT (i + 1) ++ 115 :: 93 :: backT b = c' :: r' ∧ dchar c' = true := by
    obtain ⟨c', r', e, hc, _⟩ := h2
    exact ⟨c', r' ++ 93 :: backT b, by rw [← List.cons_append, ← e]; simp, hc⟩
  obtain ⟨c', r', e2, hc'⟩ := hdd
  have hs91 : (sgB 91 && sign1 91 && !sign2 [91, c']) = true := by simp [sign2]; decide
  rw [e2, sg1 91 c' hs91, ← e2, show digT (i + 1) ++ 115 :: 93 :: backT b = (digT (i + 1) ++ [UInt8.ofNat 115]) ++ 93 :: backT b from by simp, lex_span h1 h2 (by omega) _ (fun x r h => by injection h with h _; subst h; decide), hy, h3]
  rfl
theorem numW_not {w : ByteArray} (h : keptB w = false) : numW funcsL w ≤ 0 ∧ numW aggsL w ≤ 0 := by
  simp only [keptB, Bool.or_eq_false_iff, decide_eq_false_iff_not] at h
  omega
/-- A select is read. -/
theorem sel_read {W V M X : ByteArray} {k w b : Nat} {p0 p1 p2 p3 p4 p5 p6 p7 p8 : Nat} {y : List Tok} {e : Tok} (hkept : keptB W = false) (hnm : nameB W = true) (hM : numW matsL M = (k : Int) + 1) (h1 : matCode [⟨1, sNameN, W⟩] = 0) (h2 : matCode [⟨1, sNameN, W⟩, ⟨(k : Int) + 1, W, V⟩] = 0)
    (he : e.kind = 0) (hy : (b = 0 ∧ y = [e]) ∨ ∃ q1 q2 X, 0 < b ∧ y = [⟨3, q1, sOffset, 0⟩, ⟨2, q2, X, b * 3600⟩, e]) (n : Nat) :
    orP (unaryP (n + 1)) ⟨⟨3, p0, W, 0⟩ :: ⟨5, p1, sCurl, 0⟩ :: ⟨3, p2, W, 0⟩ :: ⟨5, p3, M, 0⟩ :: ⟨4, p4, V, 0⟩ :: ⟨5, p5, sUncurl, 0⟩ :: ⟨5, p6, sSq, 0⟩ :: ⟨2, p7, X, w⟩ :: ⟨5, p8, sUnsq, 0⟩ :: y, 0, []⟩ =
      .ok ⟨[e], 0, [selN 3 [⟨1, sNameN, W⟩, ⟨(k : Int) + 1, W, V⟩] w ((b * 3600 : Nat) : Int)]⟩ := by
  obtain ⟨f1, f2⟩ := numW_not hkept
  have f1' : ¬ 0 < numW funcsL W := by omega
  have f2' : ¬ 0 < numW aggsL W := by omega
  have u1 : sCurl ≠ sUncurl := by decide
  have hk0 : ¬ ((k : Int) + 1 = 0) := by omega
  have s1 : PS.sel1 ⟨⟨3, p0, W, 0⟩ :: ⟨5, p1, sCurl, 0⟩ :: ⟨3, p2, W, 0⟩ :: ⟨5, p3, M, 0⟩ :: ⟨4, p4, V, 0⟩ :: ⟨5, p5, sUncurl, 0⟩ :: ⟨5, p6, sSq, 0⟩ :: ⟨2, p7, X, w⟩ :: ⟨5, p8, sUnsq, 0⟩ :: y, 0, []⟩ = .ok (⟨⟨5, p1, sCurl, 0⟩ :: ⟨3, p2, W, 0⟩ :: ⟨5, p3, M, 0⟩ :: ⟨4, p4, V, 0⟩ :: ⟨5, p5, sUncurl, 0⟩ :: ⟨5, p6, sSq, 0⟩ :: ⟨2, p7, X, w⟩ :: ⟨5, p8, sUnsq, 0⟩ :: y, 0, []⟩, [⟨1, sNameN, W⟩]) := by
    simp [PS.sel1, PS.wordB, PS.hd, PS.on, hkept, addM, h1]
  have s2 : PS.sel2 ⟨⟨5, p1, sCurl, 0⟩ :: ⟨3, p2, W, 0⟩ :: ⟨5, p3, M, 0⟩ :: ⟨4, p4, V, 0⟩ :: ⟨5, p5, sUncurl, 0⟩ :: ⟨5, p6, sSq, 0⟩ :: ⟨2, p7, X, w⟩ :: ⟨5, p8, sUnsq, 0⟩ :: y, 0, []⟩ true [⟨1, sNameN, W⟩] = .ok (⟨⟨5, p6, sSq, 0⟩ :: ⟨2, p7, X, w⟩ :: ⟨5, p8, sUnsq, 0⟩ :: y, 0, []⟩, [⟨1, sNameN, W⟩, ⟨(k : Int) + 1, W, V⟩]) := by
    simp [PS.sel2, PS.is, PS.hd, PS.on, PS.matchers, matchersF, PS.comma, PS.name, hnm, hM, hk0, addM, h2]
  have s3 : PS.sel3 ⟨⟨5, p6, sSq, 0⟩ :: ⟨2, p7, X, w⟩ :: ⟨5, p8, sUnsq, 0⟩ :: y, 0, []⟩ = .ok (⟨y, 0, []⟩, 3, (w : Int)) := by
    simp [PS.sel3, PS.is, PS.hd, PS.on, PS.span, PS.sign]
  have s4 : PS.sel4 ⟨y, 0, []⟩ = .ok (⟨[e], 0, []⟩, ((b * 3600 : Nat) : Int)) := by
    rcases hy with ⟨rfl, rfl⟩ | ⟨q1, q2, X, hb, rfl⟩
    · simp [PS.sel4, PS.is, PS.hd, he]
    · simp [PS.sel4, PS.is, PS.hd, PS.on, PS.span]
  have hch : chooseP ⟨⟨3, p0, W, 0⟩ :: ⟨5, p1, sCurl, 0⟩ :: ⟨3, p2, W, 0⟩ :: ⟨5, p3, M, 0⟩ :: ⟨4, p4, V, 0⟩ :: ⟨5, p5, sUncurl, 0⟩ :: ⟨5, p6, sSq, 0⟩ :: ⟨2, p7, X, w⟩ :: ⟨5, p8, sUnsq, 0⟩ :: y, 0, []⟩ = .ok ⟨[e], 0, [selN 3 [⟨1, sNameN, W⟩, ⟨(k : Int) + 1, W, V⟩] w ((b * 3600 : Nat) : Int)]⟩ := by
    have hw : PS.wordB ⟨⟨3, p0, W, 0⟩ :: ⟨5, p1, sCurl, 0⟩ :: ⟨3, p2, W, 0⟩ :: ⟨5, p3, M, 0⟩ :: ⟨4, p4, V, 0⟩ :: ⟨5, p5, sUncurl, 0⟩ :: ⟨5, p6, sSq, 0⟩ :: ⟨2, p7, X, w⟩ :: ⟨5, p8, sUnsq, 0⟩ :: y, 0, []⟩ = true := by simp [PS.wordB, PS.hd, hkept]
    rw [chooseP, s1]
    dsimp only
    rw [hw, s2]
    dsimp only
    rw [s3]
    dsimp only
    rw [s4]
    rfl
  refine orP_stop (zr := [e]) ?_ ⟨e, [], rfl, .inl he⟩
  rw [unaryP, if_neg (by simp [PS.is, PS.hd]), oneP, if_neg (by simp [PS.hd]), if_neg (by simp [PS.is, PS.hd]), if_neg (by simp [PS.hd]; omega), if_neg (by simp [PS.hd]; omega)]
  exact hch
/-- The node that a select's text says. -/
def nodK (W V : ByteArray) (k w b : Nat) : Nod := selN 3 [⟨1, sNameN, W⟩, ⟨(k : Int) + 1, W, V⟩] w ((b * 3600 : Nat) : Int)
theorem word_name {W : ByteArray} (hW : W.data.toList.all loB = true) (h1 : 1 ≤ W.size) (h2 : W.size ≤ 60) : nameB W = true := by
  have hs := Lib.size_eq W
  simp only [nameB, Bool.and_eq_true, decide_eq_true_eq, Bool.not_eq_true']
  refine ⟨⟨⟨h1, by omega⟩, ?_⟩, List.all_eq_true.2 fun c hc => (lo_is (List.all_eq_true.1 hW c hc)).2.2.2.1⟩
  cases hd : W.data.toList with
  | nil => rw [hd] at hs; have : W.size = 0 := hs; omega
  | cons c r =>
    rw [hd, List.all_cons, Bool.and_eq_true] at hW
    simp [(lo_is hW.1).2.1]
theorem sel_law {W V s : ByteArray} {k w b : Nat} (hW : W.data.toList.all loB = true) (hW1 : 1 ≤ W.size) (hW2 : W.size ≤ 60) (hkept : keptB W = false) (hV : V.data.toList.all vaB = true) (hV2 : V.size ≤ 200) (hk : k < 4) (hw1 : 1 ≤ w) (hw2 : w ≤ 1000) (hb : b < 3)
    (hs : s.data.toList = selL W.data.toList V.data.toList k w b) (hs2 : s.size ≤ 4096) : parseR s = ([nodK W V k w b], 0, 0) := by
  have hnm := word_name hW hW1 hW2
  obtain ⟨p1, p2, p3, p4, p5, p6, p7, p8, X, y, hl, e, he, hy⟩ := sel_lex hW (by rw [← Lib.size_eq]; exact hW1) hV hk hw1 hw2 hb
  obtain ⟨_, _, _, _, _, hM, _⟩ := lex_mat hk 0 []
  have eW : mkB W.data.toList = W := rfl
  have eV : mkB V.data.toList = V := rfl
  have nN : nameB sNameN = true := by kernel_rfl
  have b1 : matB ⟨1, sNameN, W⟩ = true := by simp [matB, kindB, nN]; omega
  have b2 : matB ⟨(k : Int) + 1, W, V⟩ = true := by simp [matB, kindB, hnm]; omega
  have h1 : matCode [⟨1, sNameN, W⟩] = 0 := by simp [matCode, b1]
  have h2 : matCode [⟨1, sNameN, W⟩, ⟨(k : Int) + 1, W, V⟩] = 0 := by simp [matCode, b1, b2]
  rw [eW, eV] at hl
  rw [parseR, lexR, if_neg (by omega), hs, hl]
  dsimp only
  rw [List.length_cons, sel_read hkept hnm hM h1 h2 he hy]
  dsimp only
  rw [if_pos (by simpa [PS.hd] using he)]
  rfl
/-- A word and braces that hold a number. -/
theorem bad_law {W s : ByteArray} (hW : W.data.toList.all loB = true) (hW1 : 1 ≤ W.size) (hW2 : W.size ≤ 60) (hkept : keptB W = false) (hs : s.data.toList = W.data.toList ++ [123, 49, 125]) : parseR s = ([], (W.size : Int) + 1, 181) := by
  obtain ⟨f1, f2⟩ := numW_not hkept
  have hl : lexL 0 (W.data.toList ++ [123, 49, 125]) = .ok [⟨3, 0, W, 0⟩, ⟨5, W.size, sCurl, 0⟩, ⟨1, W.size + 1, mkB [49], 0⟩, ⟨5, W.size + 2, sUncurl, 0⟩, ⟨0, W.size + 3, mkB [], 0⟩] := by
    have hnum : lexL (W.data.toList.length + 1) [49, 125] = .ok [⟨1, W.data.toList.length + 1, mkB [49], 0⟩, ⟨5, W.data.toList.length + 2, sUncurl, 0⟩, ⟨0, W.data.toList.length + 3, mkB [], 0⟩] := by
      have := lexL_sh (W.data.toList.length + 1) 2 0 [49, 125] (by simp)
      have e0 : lexL 0 [49, 125] = .ok [⟨1, 0, mkB [49], 0⟩, ⟨5, 1, sUncurl, 0⟩, ⟨0, 2, mkB [], 0⟩] := by kernel_rfl
      rw [e0] at this
      rw [this]
      rfl
    rw [lex_word (by decide) 0 _ hW (by rw [← Lib.size_eq]; exact hW1), sg1 123 49 (by decide), Nat.zero_add, hnum, ← Lib.size_eq]
    rfl
  have hz : s.size = W.size + 3 := by
    rw [Lib.size_eq, hs, List.length_append, ← Lib.size_eq]
    rfl
  have nN : nameB sNameN = true := by kernel_rfl
  have b1 : matB ⟨1, sNameN, W⟩ = true := by simp [matB, kindB, nN]; omega
  have h1 : matCode [⟨1, sNameN, W⟩] = 0 := by simp [matCode, b1]
  rw [parseR, lexR, if_neg (by omega), hs, hl]
  dsimp only
  have hE : ∀ n, orP (unaryP (n + 1)) ⟨[⟨3, 0, W, 0⟩, ⟨5, W.size, sCurl, 0⟩, ⟨1, W.size + 1, mkB [49], 0⟩, ⟨5, W.size + 2, sUncurl, 0⟩, ⟨0, W.size + 3, mkB [], 0⟩], 0, []⟩ = .error (181, ((W.size + 1 : Nat) : Int)) := by
    intro n
    refine orP_err ?_
    rw [unaryP, if_neg (by simp [PS.is, PS.hd]), oneP, if_neg (by simp [PS.hd]), if_neg (by simp [PS.is, PS.hd]), if_neg (by simp [PS.hd]; omega), if_neg (by simp [PS.hd]; omega)]
    simp [chooseP, PS.sel1, PS.sel2, PS.wordB, PS.is, PS.hd, PS.on, hkept, addM, h1, PS.matchers, matchersF, PS.comma, PS.name, PS.stuck]
  rw [show [(⟨3, 0, W, 0⟩ : Tok), ⟨5, W.size, sCurl, 0⟩, ⟨1, W.size + 1, mkB [49], 0⟩, ⟨5, W.size + 2, sUncurl, 0⟩, ⟨0, W.size + 3, mkB [], 0⟩].length = 4 + 1 from rfl, hE]
  simp
end
section
/-! ## ShowS -/
open Go.RowKit

/-- A part's text, its row, and how deep it is nested. -/
structure Sd where
  text : ByteArray
  row : Int
  deep : Int
def sBlank : ByteArray := ⟨#[32]⟩
def sCommaB : ByteArray := ⟨#[44, 32]⟩
def sQuote : ByteArray := ⟨#[34]⟩
def sDay : ByteArray := ⟨#[100]⟩
def sHour : ByteArray := ⟨#[104]⟩
def sMin : ByteArray := ⟨#[109]⟩
def sSec : ByteArray := ⟨#[115]⟩
def sOffsetB : ByteArray := ⟨#[32, 111, 102, 102, 115, 101, 116, 32]⟩
def sBoolB : ByteArray := ⟨#[32, 98, 111, 111, 108]⟩
def sOnB : ByteArray := ⟨#[32, 111, 110, 32]⟩
def sIgnB : ByteArray := ⟨#[32, 105, 103, 110, 111, 114, 105, 110, 103, 32]⟩
def sByB : ByteArray := ⟨#[32, 98, 121, 32]⟩
def sWithoutB : ByteArray := ⟨#[32, 119, 105, 116, 104, 111, 117, 116, 32]⟩
/-- A part in brackets behind a word. -/
def Sd.inside (s : Sd) (w : ByteArray) : Sd := ⟨w ++ sO ++ s.text ++ sC, 7, s.deep + 1⟩
/-- A part, in brackets if its row is below one. -/
def Sd.within (s : Sd) (k : Int) : Sd := if k ≤ s.row then s else s.inside ByteArray.empty
def decT (v : Int) : ByteArray := mkB (Lib.decDigits v.toNat)
def spanT (v : Int) : ByteArray :=
  if v % 86400 = 0 then decT (v / 86400) ++ sDay else if v % 3600 = 0 then decT (v / 3600) ++ sHour else if v % 60 = 0 then decT (v / 60) ++ sMin else decT v ++ sSec
/-- Texts with a comma and a blank between them. -/
def joinT : List ByteArray → ByteArray
  | [] => ByteArray.empty
  | [x] => x
  | x :: y :: r => x ++ sCommaB ++ joinT (y :: r)
def namesT (l : List ByteArray) : ByteArray := sO ++ joinT l ++ sC
/-- A byte in quotes. -/
def escT (c : UInt8) : List UInt8 := if c.toNat = 92 then [92, 92] else if c.toNat = 34 then [92, 34] else if c.toNat = 10 then [92, 110] else [c]
def quoT (s : ByteArray) : ByteArray := sQuote ++ mkB (s.data.toList.flatMap escT) ++ sQuote
def matcherT (m : Mat) : ByteArray := m.name ++ matsL.getD m.kind.toNat ByteArray.empty ++ quoT m.val
/-- Is it a word? -/
def wordT (s : ByteArray) : Bool := (match s.data.toList with
  | [] => false
  | c :: _ => !dchar c) && s.data.toList.all wordC
/-- Can a select's first matcher stand as a word? -/
def namedT : List Mat → Bool
  | [] => false
  | m :: _ => decide (m.kind = 1) && decide (m.name = sNameN) && wordT m.val && !keptB m.val
def headT (ms : List Mat) : ByteArray := if namedT ms = true then (ms.headD ⟨0, ByteArray.empty, ByteArray.empty⟩).val else ByteArray.empty
def restT (ms : List Mat) : List Mat := if namedT ms = true then ms.tail else ms
def bracesT (ms : List Mat) : ByteArray := sCurl ++ joinT (ms.map matcherT) ++ sUncurl
def sel0 (ms : List Mat) : ByteArray := if namedT ms = true ∧ restT ms = [] then headT ms else headT ms ++ bracesT (restT ms)
def sel1T (n : Nod) : ByteArray := if n.kind = 3 then sel0 n.mat ++ sSq ++ spanT n.width ++ sUnsq else sel0 n.mat
/-- A select's text. -/
def selT (n : Nod) : ByteArray := if 0 < n.back then sel1T n ++ sOffsetB ++ spanT n.back else sel1T n
def rowN (op : Int) : Int := if op = 12 then 1 else if setB op = true then 2 else if cmpB op = true then 3 else if op = 1 ∨ op = 2 then 4 else 5
def opT (op : Int) : ByteArray := opsL.getD op.toNat ByteArray.empty
def binMid (n : Nod) : ByteArray :=
  (if n.cmp = true then sBlank ++ opT n.op ++ sBoolB else sBlank ++ opT n.op) ++ (if n.grp = 3 then sOnB ++ namesT n.names else if n.grp = 4 then sIgnB ++ namesT n.names else ByteArray.empty)
def binT (n : Nod) (a b : Sd) : Sd :=
  ⟨(a.within (rowN n.op)).text ++ binMid n ++ sBlank ++ (b.within (rowN n.op + 1)).text, rowN n.op, max (a.within (rowN n.op)).deep (b.within (rowN n.op + 1)).deep⟩
def aggW (n : Nod) : ByteArray :=
  aggsL.getD n.op.toNat ByteArray.empty ++ (if n.grp = 1 then sByB ++ namesT n.names ++ sBlank else if n.grp = 2 then sWithoutB ++ namesT n.names ++ sBlank else ByteArray.empty)
def negT (a : Sd) : Sd := ⟨sMinus ++ (a.within 6).text, 6, (a.within 6).deep + 1⟩
def sd0 : Sd := ⟨ByteArray.empty, 0, 0⟩
/-- A node over its parts. -/
def sayT (n : Nod) (p : List Sd) : Sd :=
  if n.kind = 1 then ⟨n.text, 7, 0⟩
  else if n.kind = 2 ∨ n.kind = 3 then ⟨selT n, 7, 0⟩
  else if n.kind = 4 then (p.getD 0 sd0).inside (funcsL.getD n.op.toNat ByteArray.empty)
  else if n.kind = 5 then (p.getD 0 sd0).inside (aggW n)
  else if n.kind = 6 then binT n (p.getD 0 sd0) (p.getD 1 sd0)
  else negT (p.getD 0 sd0)
def cutT (st : List Sd) (n : Nod) : Nat := st.length - n.parts.toNat
def Sd.over (s : Sd) : Bool := decide (4096 < s.text.size) || decide (64 < s.deep)
def showF : List Nod → List Sd → Option (List Sd)
  | [], st => some st
  | n :: r, st => if (sayT n (st.drop (cutT st n))).over = true then none else showF r (st.take (cutT st n) ++ [sayT n (st.drop (cutT st n))])
/-- Can a value be written? -/
def cleanB (s : ByteArray) : Bool := s.data.toList.all fun c => decide (32 ≤ c.toNat) || decide (c.toNat = 10)
def mayB (ns : List Nod) : Bool := ns.all fun n => n.mat.all fun m => cleanB m.val
/-- Any tree is written, or refused. -/
def showT (ns : List Nod) : ByteArray × Int :=
  if (checkN ns).2.2 ≠ 0 ∨ mayB ns = false then (ByteArray.empty, 200)
  else match showF ns [] with
    | none => (ByteArray.empty, 200)
    | some st => ((st.getD 0 sd0).text, 0)
end
section
/-! ## ShowL -/
open Go.RowKit

abbrev Key := Int × ByteArray × Nat
theorem mkB_data (t : ByteArray) : mkB t.data.toList = t := rfl
theorem mkB_toList (l : List UInt8) : (mkB l).data.toList = l := by simp [mkB]
theorem app_data (a b : ByteArray) : (a ++ b).data.toList = a.data.toList ++ b.data.toList := by simp [ByteArray.data_append]
/-- A text is cut into these, if what stands behind begins with such a byte. -/
def Lx (P : UInt8 → Prop) (l : List UInt8) (ks : List Key) : Prop :=
  ∀ (p : Nat) (b : List UInt8), (∀ x r, b = x :: r → P x) → ∃ ts : List Tok, ts.map Tok.key = ks ∧ lexL p (l ++ b) = (lexL (p + l.length) b).pre ts
def AnyP : UInt8 → Prop := fun _ => True
def WordP : UInt8 → Prop := fun x => wordC x = false
def NumP : UInt8 → Prop := fun x => numC x = false
theorem Lx.mono {P Q : UInt8 → Prop} {l : List UInt8} {ks : List Key} (h : Lx P l ks) (hq : ∀ x, Q x → P x) : Lx Q l ks := fun p b hb => h p b fun x r e => hq x (hb x r e)
theorem Lx.any {Q : UInt8 → Prop} {l : List UInt8} {ks : List Key} (h : Lx AnyP l ks) : Lx Q l ks := h.mono fun _ _ => trivial
theorem Lx.word {l : List UInt8} {ks : List Key} (h : Lx WordP l ks) : Lx Cuts l ks := h.mono fun _ hx => hx.word
theorem Lx.num {l : List UInt8} {ks : List Key} (h : Lx NumP l ks) : Lx Cuts l ks := h.mono fun _ hx => hx.num
theorem Lx.nil {P : UInt8 → Prop} : Lx P [] [] := fun p b _ => ⟨[], rfl, by simp [pre_nil]⟩
theorem Lx.app {P Q : UInt8 → Prop} {a b : List UInt8} {ka kb : List Key} (h1 : Lx P a ka) (h2 : Lx Q b kb) (hb : ∀ x r, b = x :: r → P x) (hn : b ≠ []) : Lx Q (a ++ b) (ka ++ kb) := by
  intro p c hc
  obtain ⟨t1, e1, f1⟩ := h1 p (b ++ c) (by
    intro x r e
    cases b with
    | nil => exact absurd rfl hn
    | cons y s =>
      rw [List.cons_append] at e
      injection e with e _
      subst e
      exact hb _ s rfl)
  obtain ⟨t2, e2, f2⟩ := h2 (p + a.length) c hc
  refine ⟨t1 ++ t2, by rw [List.map_append, e1, e2], ?_⟩
  rw [List.append_assoc, f1, f2, pre_pre, List.length_append, Nat.add_assoc]
theorem Lx.app_any {Q : UInt8 → Prop} {a b : List UInt8} {ka kb : List Key} (h1 : Lx AnyP a ka) (h2 : Lx Q b kb) : Lx Q (a ++ b) (ka ++ kb) := by
  intro p c hc
  obtain ⟨t1, e1, f1⟩ := h1 p (b ++ c) fun _ _ _ => trivial
  obtain ⟨t2, e2, f2⟩ := h2 (p + a.length) c hc
  refine ⟨t1 ++ t2, by rw [List.map_append, e1, e2], ?_⟩
  rw [List.append_assoc, f1, f2, pre_pre, List.length_append, Nat.add_assoc]
/-- A text that is cut by itself. -/
theorem lx_of {l : List UInt8} {ks : List Key} (h : lexesB l ks = true) : Lx Cuts l ks := by
  obtain ⟨y, hy, hk⟩ := lexes_of h
  intro p b hb
  cases b with
  | nil =>
    have e := lexL_sh p l.length 0 l (Nat.le_refl _)
    rw [hy, Nat.add_zero] at e
    obtain ⟨ts, k1, _, _⟩ := lex_stop cuts_32 _ p l _ (Nat.le_refl _) e
    refine ⟨ts, ?_, ?_⟩
    · have := congrArg (List.map Tok.key) k1
      rw [sh_key, hk, List.map_append] at this
      exact ((List.append_inj' this rfl).1).symm
    · rw [List.append_nil, e]
      show LexR.ok _ = _
      rw [k1]
      rfl
  | cons x r =>
    obtain ⟨ts, ts', k1, _, k3, k4⟩ := lex_amid (hb x r rfl) hy p
    refine ⟨ts', ?_, k4 r⟩
    rw [k1, List.map_append] at hk
    rw [k3]
    exact (List.append_inj' hk rfl).1
theorem lx_blank : Lx AnyP [32] [] := fun p b _ => ⟨[], rfl, by rw [pre_nil]; exact lex_blank p b⟩
/-- One byte that is a sign whatever stands behind it. -/
theorem lx_sign (c : UInt8) (h : (sgB c && sign1 c) = true) (h2 : ∀ x, sign2 [c, x] = false) : Lx AnyP [c] [(5, mkB [c], 0)] := by
  intro p b _
  simp only [Bool.and_eq_true] at h
  have hn : signN (c :: b) = 1 := by
    cases b with
    | nil => simp [signN, h.2]
    | cons x b => simp [signN, h.2, h2]
  refine ⟨[⟨5, p, mkB [c], 0⟩], rfl, ?_⟩
  show lexL p (c :: b) = _
  rw [lex_sign h.1 p 1 _ hn (by decide)]
  simp
theorem lx_open : Lx AnyP [40] [openK] := lx_sign 40 (by decide) fun x => by simp [sign2]
theorem lx_close : Lx AnyP [41] [closeK] := lx_sign 41 (by decide) fun x => by simp [sign2]
theorem lx_minus : Lx AnyP [45] [(5, sMinus, 0)] := lx_sign 45 (by decide) fun x => by simp [sign2]
theorem lx_comma : Lx AnyP [44] [(5, sComma, 0)] := lx_sign 44 (by decide) fun x => by simp [sign2]
theorem lx_curl : Lx AnyP [123] [(5, sCurl, 0)] := lx_sign 123 (by decide) fun x => by simp [sign2]
theorem lx_uncurl : Lx AnyP [125] [(5, sUncurl, 0)] := lx_sign 125 (by decide) fun x => by simp [sign2]
theorem lx_sq : Lx AnyP [91] [(5, sSq, 0)] := lx_sign 91 (by decide) fun x => by simp [sign2]
theorem lx_unsq : Lx AnyP [93] [(5, sUnsq, 0)] := lx_sign 93 (by decide) fun x => by simp [sign2]
theorem cuts_44 : Cuts 44 := ⟨by decide, by decide, fun c => by simp [sign2]⟩
theorem cuts_123 : Cuts 123 := ⟨by decide, by decide, fun c => by simp [sign2]⟩
theorem cuts_125 : Cuts 125 := ⟨by decide, by decide, fun c => by simp [sign2]⟩
theorem cuts_91 : Cuts 91 := ⟨by decide, by decide, fun c => by simp [sign2]⟩
theorem cuts_93 : Cuts 93 := ⟨by decide, by decide, fun c => by simp [sign2]⟩
theorem let_all : ∀ n : Nat, n < 256 → letB (UInt8.ofNat n) = true → blankB (UInt8.ofNat n) = false ∧ dchar (UInt8.ofNat n) = false := by decide +kernel
theorem let_is {c : UInt8} (h : letB c = true) : blankB c = false ∧ dchar c = false := by
  have := let_all c.toNat c.toNat_lt
  rw [UInt8.ofNat_toNat] at this
  exact this h
theorem dig_all : ∀ n : Nat, n < 256 → dchar (UInt8.ofNat n) = true → blankB (UInt8.ofNat n) = false ∧ numC (UInt8.ofNat n) = true := by decide +kernel
theorem dig_is {c : UInt8} (h : dchar c = true) : blankB c = false ∧ numC c = true := by
  have := dig_all c.toNat c.toNat_lt
  rw [UInt8.ofNat_toNat] at this
  exact this h
theorem nch_all : ∀ n : Nat, n < 256 → nchar (UInt8.ofNat n) = true → wordC (UInt8.ofNat n) = true := by decide +kernel
theorem nch_is {c : UInt8} (h : nchar c = true) : wordC c = true := by
  have := nch_all c.toNat c.toNat_lt
  rw [UInt8.ofNat_toNat] at this
  exact this h
theorem tw_end {q : UInt8 → Bool} {l b : List UInt8} (hl : l.all q = true) (hb : ∀ x r, b = x :: r → q x = false) : (l ++ b).takeWhile q = l := by
  cases b with
  | nil => rw [List.append_nil]; exact tw_full l hl
  | cons x b => exact tw_all (hb x b rfl) b l hl
/-- A word. -/
theorem lx_word {w : ByteArray} (h : wordT w = true) : Lx WordP w.data.toList [wordK w] := by
  intro p b hb
  simp only [wordT, Bool.and_eq_true] at h
  obtain ⟨h1, h2⟩ := h
  have ht := tw_end h2 hb
  cases hl : w.data.toList with
  | nil => rw [hl] at h1; cases h1
  | cons c r =>
    have hw : mkB (c :: r) = w := by rw [← hl]; rfl
    rw [hl] at h1 h2 ht
    simp only [Bool.not_eq_true'] at h1
    rw [List.all_cons, Bool.and_eq_true] at h2
    have h3 : letB c = true := by
      have := h2.1
      simp only [wordC, h1, Bool.or_false] at this
      exact this
    refine ⟨[⟨3, p, w, 0⟩], rfl, ?_⟩
    rw [List.cons_append] at ht
    rw [List.cons_append, lexL_cons]
    simp only [oneL, runN, ht]
    rw [if_neg (by rw [(let_is h3).1]; decide), if_neg (by rw [h1]; decide), if_pos h3]
    dsimp only
    rw [← List.cons_append, List.drop_left, hw]
theorem name_word {w : ByteArray} (h : nameB w = true) : wordT w = true := by
  simp only [nameB, Bool.and_eq_true, decide_eq_true_eq] at h
  obtain ⟨⟨h1, h2⟩, h3⟩ := h
  simp only [wordT, Bool.and_eq_true]
  refine ⟨?_, List.all_eq_true.2 fun c hc => nch_is (List.all_eq_true.1 h3 c hc)⟩
  rw [Lib.size_eq] at h1
  cases hl : w.data.toList with
  | nil => rw [hl] at h1; simp at h1
  | cons c r => rw [hl] at h2; simpa using h2
/-- A number. -/
theorem num_all {l : List UInt8} (h : numB l = true) : l.all numC = true ∧ spanN l = 0 ∧ ∃ c r, l = c :: r ∧ dchar c = true := by
  unfold numB at h
  have hdn : ∀ x : List UInt8, ∀ c ∈ x.takeWhile dchar, numC c = true := fun x c hc => (dig_is (List.all_eq_true.1 List.all_takeWhile c hc)).2
  have htk : l.takeWhile dchar = l.take (digN l) := List.prefix_iff_eq_take.1 (List.takeWhile_prefix dchar)
  by_cases h1 : digN l = 0 ∨ needB (l.take (digN l)) = true
  · rw [if_pos h1] at h; cases h
  rw [if_neg h1] at h
  have h0 : digN l ≠ 0 := fun e => h1 (.inl e)
  have hhd : ∃ c r, l = c :: r ∧ dchar c = true := by
    cases hl : l with
    | nil => rw [hl] at h0; exact absurd rfl h0
    | cons c r =>
      refine ⟨c, r, rfl, ?_⟩
      cases hc : dchar c with
      | true => rfl
      | false => rw [hl, digN, List.takeWhile_cons, hc] at h0; exact absurd rfl h0
  have hle : digN l ≤ l.length := by rw [digN]; exact (List.takeWhile_sublist _).length_le
  by_cases h2 : digN l = l.length
  · refine ⟨?_, ?_, hhd⟩
    · rw [List.all_eq_true]
      intro c hc
      rw [h2, List.take_length] at htk
      rw [← htk] at hc
      exact hdn _ c hc
    · rw [spanN, if_pos (by omega)]
  · rw [if_neg h2] at h
    simp only [Bool.and_eq_true, decide_eq_true_eq] at h
    obtain ⟨⟨⟨h3, h4⟩, h5⟩, _⟩ := h
    refine ⟨?_, ?_, hhd⟩
    · rw [List.all_eq_true]
      intro c hc
      rw [← List.take_append_drop (digN l) l] at hc
      rcases List.mem_append.1 hc with hc | hc
      · rw [← htk] at hc; exact hdn _ c hc
      · have hlt : digN l < l.length := by omega
        rw [List.drop_eq_getElem_cons hlt] at hc
        rcases List.mem_cons.1 hc with rfl | hc
        · rw [List.getElem?_eq_getElem hlt] at h3
          simp only [dotB, beq_iff_eq] at h3
          have : (l[digN l]).toNat = 46 := by omega
          simp [numC, this]
        · have hz : (l.drop (digN l + 1)).takeWhile dchar = l.drop (digN l + 1) := by
            have e := List.takeWhile_append_dropWhile (p := dchar) (l := l.drop (digN l + 1))
            have e2 : (l.drop (digN l + 1)).length = digN (l.drop (digN l + 1)) := by rw [List.length_drop]; omega
            have e3 := congrArg List.length e
            have e5 : ((l.drop (digN l + 1)).takeWhile dchar).length = digN (l.drop (digN l + 1)) := rfl
            rw [List.length_append, e5, e2] at e3
            have e4 : (l.drop (digN l + 1)).dropWhile dchar = [] := List.length_eq_zero_iff.1 (by omega)
            rw [e4, List.append_nil] at e
            exact e
          rw [← hz] at hc
          exact hdn _ c hc
    · rw [spanN, if_pos (by omega)]
theorem lx_num {t : ByteArray} (h : numB t.data.toList = true) : Lx NumP t.data.toList [(1, t, 0)] := by
  intro p b hb
  obtain ⟨h1, h2, c, r, hl, hc⟩ := num_all h
  have ht := tw_end h1 hb
  have hw : mkB (c :: r) = t := by rw [← hl]; rfl
  refine ⟨[⟨1, p, t, 0⟩], rfl, ?_⟩
  rw [hl] at ht h h2
  rw [hl]
  rw [List.cons_append] at ht
  rw [List.cons_append, lexL_cons]
  simp only [oneL, ht]
  rw [if_neg (by rw [(dig_is hc).1]; decide), if_pos hc]
  simp only [numTok]
  rw [if_neg (by omega), if_pos h]
  dsimp only
  rw [← List.cons_append, List.drop_left, hw]
/-- A text in quotes. -/
theorem esc_all : ∀ n : Nat, n < 256 → (32 ≤ n ∨ n = 10) → (n = 92 ∧ escT (UInt8.ofNat n) = [92, 92]) ∨ (n = 34 ∧ escT (UInt8.ofNat n) = [92, 34]) ∨ (n = 10 ∧ escT (UInt8.ofNat n) = [92, 110]) ∨ (32 ≤ n ∧ n ≠ 34 ∧ n ≠ 92 ∧ escT (UInt8.ofNat n) = [UInt8.ofNat n]) := by decide +kernel
theorem textS_esc (b : List UInt8) : ∀ l : List UInt8, (l.all fun c => decide (32 ≤ c.toNat) || decide (c.toNat = 10)) = true → textS false (l.flatMap escT ++ 34 :: b) = some (l, (l.flatMap escT).length + 1)
  | [], _ => by simp [textS]
  | c :: r, h => by
    rw [List.all_cons, Bool.and_eq_true] at h
    have ih := textS_esc b r h.2
    have hc := h.1
    simp only [Bool.or_eq_true, decide_eq_true_eq] at hc
    have := esc_all c.toNat c.toNat_lt hc
    rw [UInt8.ofNat_toNat] at this
    rw [List.flatMap_cons]
    rcases this with ⟨e, e2⟩ | ⟨e, e2⟩ | ⟨e, e2⟩ | ⟨e1, e3, e4, e2⟩
    · obtain rfl : c = 92 := UInt8.toNat_inj.1 e
      rw [e2]
      simp [textS, ih]
    · obtain rfl : c = 34 := UInt8.toNat_inj.1 e
      rw [e2]
      simp [textS, ih]
    · obtain rfl : c = 10 := UInt8.toNat_inj.1 e
      rw [e2]
      simp [textS, ih]
    · rw [e2]
      simp only [List.cons_append, List.nil_append, textS]
      rw [if_neg (by omega), if_neg e3, if_neg e4, ih]
      simp
theorem quo_data (v : ByteArray) : (quoT v).data.toList = 34 :: (v.data.toList.flatMap escT ++ [34]) := by
  rw [quoT, app_data, app_data, mkB_toList]
  rfl
theorem lx_quo {v : ByteArray} (h : cleanB v = true) : Lx AnyP (quoT v).data.toList [(4, v, 0)] := by
  intro p b _
  refine ⟨[⟨4, p, v, 0⟩], rfl, ?_⟩
  rw [quo_data, List.cons_append, List.append_assoc, List.singleton_append, lexL_cons]
  simp only [oneL]
  rw [if_neg (by decide), if_neg (by decide), if_neg (by decide), if_pos (by decide), textS_esc b _ h]
  simp only [textTok, List.nil_append, mkB_data]
  congr 1
  have e1 : (34 :: (v.data.toList.flatMap escT ++ [34])).length = 1 + ((v.data.toList.flatMap escT).length + 1) := by simp; omega
  rw [e1, show 34 :: (v.data.toList.flatMap escT ++ 34 :: b) = (34 :: (v.data.toList.flatMap escT ++ [34])) ++ b from by simp, ← e1, List.drop_left]
/-- Decimal digits. -/
theorem d10_all : ∀ k : Nat, k < 10 → dchar (UInt8.ofNat (48 + k)) = true ∧ (UInt8.ofNat (48 + k)).toNat = 48 + k := by decide +kernel
theorem dd_all (u : Nat) : ∀ c ∈ Lib.decDigits u, dchar c = true := by
  induction u using Nat.strongRecOn with
  | _ u ih =>
    intro c hc
    rw [Lib.decDigits] at hc
    split at hc
    · rw [List.mem_singleton] at hc
      subst hc
      exact (d10_all u (by omega)).1
    · rcases List.mem_append.1 hc with hc | hc
      · exact ih (u / 10) (by omega) c hc
      · rw [List.mem_singleton] at hc
        subst hc
        exact (d10_all (u % 10) (by omega)).1
theorem dd_val (u : Nat) : decN (Lib.decDigits u) = u := by
  induction u using Nat.strongRecOn with
  | _ u ih =>
    rw [Lib.decDigits]
    split
    · have := (d10_all u (by omega)).2
      simp only [decN, List.foldl_cons, List.foldl_nil]
      omega
    · have h1 := (d10_all (u % 10) (by omega)).2
      have h2 := ih (u / 10) (by omega)
      unfold decN at h2 ⊢
      rw [List.foldl_append, h2]
      simp only [List.foldl_cons, List.foldl_nil]
      omega
theorem dd_head (u : Nat) (h : 0 < u) : ∃ c r, Lib.decDigits u = c :: r ∧ c.toNat ≠ 48 := by
  induction u using Nat.strongRecOn with
  | _ u ih =>
    rw [Lib.decDigits]
    split
    · refine ⟨_, [], rfl, ?_⟩
      have := (d10_all u (by omega)).2
      omega
    · obtain ⟨c, r, e, hc⟩ := ih (u / 10) (by omega) (by omega)
      exact ⟨c, r ++ [UInt8.ofNat (48 + u % 10)], by rw [e]; rfl, hc⟩
theorem dd_len : ∀ (k u : Nat), u < 10 ^ (k + 1) → (Lib.decDigits u).length ≤ k + 1
  | 0, u, h => by
    rw [Lib.decDigits, dif_pos (by simpa using h)]
    simp
  | k + 1, u, h => by
    rw [Lib.decDigits]
    split
    · simp
    · have := dd_len k (u / 10) (by rw [Nat.pow_succ] at h; omega)
      rw [List.length_append, List.length_singleton]
      omega
theorem digN_uptoS : ∀ {l r : List UInt8} {x : UInt8}, (∀ c ∈ l, dchar c = true) → dchar x = false → digN (l ++ x :: r) = l.length
  | [], r, x, _, hx => by simp [digN, hx]
  | c :: l, r, x, h, hx => by
    have h1 := h c List.mem_cons_self
    have h2 := digN_uptoS (r := r) (fun d hd => h d (List.mem_cons_of_mem c hd)) hx
    unfold digN at h2 ⊢
    rw [List.cons_append, List.takeWhile_cons, if_pos h1, List.length_cons, h2, List.length_cons]
theorem lx_spanU {q k : Nat} {u : UInt8} (h1 : dchar u = false) (h2 : unitN u.toNat = k) (h3 : numC u = true) (h4 : 0 < q * k) (h5 : q * k < 2147483648) : Lx NumP (Lib.decDigits q ++ [u]) [(2, mkB (Lib.decDigits q ++ [u]), q * k)] := by
  intro p b hb
  have hq : 0 < q := Nat.pos_of_mul_pos_right h4
  have hk : 0 < k := Nat.pos_of_mul_pos_left h4
  have hq2 : q < 10 ^ (9 + 1) := by
    have : q * 1 ≤ q * k := Nat.mul_le_mul_left q hk
    omega
  have hall := dd_all q
  have hdig := digN_uptoS (r := []) hall h1
  obtain ⟨c, r, hc, hc2⟩ := dd_head q hq
  have hlen := dd_len 9 q hq2
  have hpos : 1 ≤ (Lib.decDigits q).length := by rw [hc]; simp
  have hsp : spanN (Lib.decDigits q ++ [u]) = q * k := by
    rw [spanN, hdig, if_neg ?_]
    · rw [List.take_left, dd_val, List.getElem?_append_right (Nat.le_refl _), Nat.sub_self]
      show spanU q (unitN u.toNat) = _
      rw [h2, spanU, if_neg (by omega)]
    · have hn : nought (Lib.decDigits q ++ [u]).head? = false := by
        rw [hc]
        simp only [List.cons_append, List.head?_cons, nought, beq_eq_false_iff_ne, ne_eq]
        omega
      rw [hn, List.length_append, List.length_singleton]
      rintro (h | h | h | h)
      · omega
      · omega
      · cases h
      · exact h rfl
  refine ⟨[⟨2, p, mkB (Lib.decDigits q ++ [u]), q * k⟩], rfl, ?_⟩
  have := lex_span (l := Lib.decDigits q ++ [u]) (by
    rw [List.all_append, Bool.and_eq_true]
    exact ⟨List.all_eq_true.2 fun c hc => (dig_is (hall c hc)).2, by simp [h3]⟩) ⟨c, r ++ [u], by rw [hc]; rfl, hall c (by rw [hc]; exact List.mem_cons_self), (dig_is (hall c (by rw [hc]; exact List.mem_cons_self))).1⟩ (by omega) p hb
  rw [this, hsp]
theorem dec_unit (q : Nat) (u : ByteArray) : (mkB (Lib.decDigits q) ++ u).data.toList = Lib.decDigits q ++ u.data.toList := by rw [app_data, mkB_toList]
theorem lx_span1 {v : Int} {k : Nat} (u : UInt8) (h1 : dchar u = false) (h2 : unitN u.toNat = k) (h3 : numC u = true) (hv : 1 ≤ v) (hv2 : v < 2147483648) (hk : (v / (k : Int)).toNat * k = v.toNat) :
    Lx NumP (decT (v / (k : Int)) ++ mkB [u]).data.toList [(2, decT (v / (k : Int)) ++ mkB [u], v.toNat)] := by
  have e : (decT (v / (k : Int)) ++ mkB [u]).data.toList = Lib.decDigits (v / (k : Int)).toNat ++ [u] := by rw [decT, dec_unit, mkB_toList]
  have e2 : decT (v / (k : Int)) ++ mkB [u] = mkB (Lib.decDigits (v / (k : Int)).toNat ++ [u]) := by rw [← e]; rfl
  rw [e, e2, ← hk]
  exact lx_spanU h1 h2 h3 (by omega) (by omega)
/-- A span. -/
theorem lx_spanT {v : Int} (h1 : 1 ≤ v) (h2 : v < 2147483648) : Lx NumP (spanT v).data.toList [(2, spanT v, v.toNat)] := by
  unfold spanT
  by_cases hd : v % 86400 = 0
  · rw [if_pos hd]
    exact lx_span1 (k := 86400) 100 (by decide) (by decide) (by decide) h1 h2 (by omega)
  rw [if_neg hd]
  by_cases hh : v % 3600 = 0
  · rw [if_pos hh]
    exact lx_span1 (k := 3600) 104 (by decide) (by decide) (by decide) h1 h2 (by omega)
  rw [if_neg hh]
  by_cases hm : v % 60 = 0
  · rw [if_pos hm]
    exact lx_span1 (k := 60) 109 (by decide) (by decide) (by decide) h1 h2 (by omega)
  rw [if_neg hm]
  have := lx_span1 (v := v) (k := 1) 115 (by decide) (by decide) (by decide) h1 h2 (by omega)
  rw [show ((1 : Nat) : Int) = 1 from rfl, Int.ediv_one] at this
  exact this
/-- Parts with commas between them. -/
def commaK : List (List Key) → List Key
  | [] => []
  | [x] => x
  | x :: y :: r => x ++ (5, sComma, 0) :: commaK (y :: r)
theorem lx_join : ∀ (l : List (ByteArray × List Key)), (∀ x ∈ l, Lx Cuts x.1.data.toList x.2) → Lx Cuts (joinT (l.map Prod.fst)).data.toList (commaK (l.map Prod.snd))
  | [], _ => Lx.nil
  | [x], h => h x List.mem_cons_self
  | x :: y :: r, h => by
    have ih := lx_join (y :: r) fun z hz => h z (List.mem_cons_of_mem x hz)
    have h1 := h x List.mem_cons_self
    have h2 : Lx Cuts ([44] ++ ([32] ++ (joinT ((y :: r).map Prod.fst)).data.toList)) ([(5, sComma, 0)] ++ ([] ++ commaK ((y :: r).map Prod.snd))) := lx_comma.app_any (lx_blank.app_any ih)
    have h3 := h1.app h2 (fun z s e => by injection e with e _; subst e; exact cuts_44) (by simp)
    have e : (joinT ((x :: y :: r).map Prod.fst)).data.toList = x.1.data.toList ++ ([44] ++ ([32] ++ (joinT ((y :: r).map Prod.fst)).data.toList)) := by
      show (x.1 ++ sCommaB ++ joinT ((y :: r).map Prod.fst)).data.toList = _
      rw [app_data, app_data, List.append_assoc]
      rfl
    rw [e]
    exact h3
def namesK (l : List ByteArray) : List Key := openK :: (commaK (l.map fun n => [wordK n]) ++ [closeK])
theorem lx_names {l : List ByteArray} (h : l.all nameB = true) : Lx AnyP (namesT l).data.toList (namesK l) := by
  have hj := lx_join (l.map fun n => (n, [wordK n])) (fun x hx => by
    obtain ⟨n, hn, rfl⟩ := List.mem_map.1 hx
    exact (lx_word (name_word (List.all_eq_true.1 h n hn))).word)
  rw [List.map_map, List.map_map] at hj
  have e : (namesT l).data.toList = [40] ++ ((joinT l).data.toList ++ [41]) := by
    rw [namesT, app_data, app_data, List.append_assoc]
    rfl
  rw [e]
  have hm : l.map (Prod.fst ∘ fun n => (n, [wordK n])) = l := by
    conv => rhs; rw [← List.map_id l]
    rfl
  rw [hm] at hj
  exact lx_open.app_any (hj.app lx_close (fun z s e => by injection e with e _; subst e; exact cuts_41) (by simp))
def matKs (m : Mat) : List Key := [wordK m.name, (5, matsL.getD m.kind.toNat ByteArray.empty, 0), (4, m.val, 0)]
theorem lx_matcher {m : Mat} (h : matB m = true) (hc : cleanB m.val = true) : Lx AnyP (matcherT m).data.toList (matKs m) := by
  simp only [matB, kindB, Bool.and_eq_true, decide_eq_true_eq] at h
  obtain ⟨⟨⟨h1, h2⟩, h3⟩, _⟩ := h
  obtain ⟨k, hk, hk4⟩ : ∃ k : Nat, m.kind.toNat = k + 1 ∧ k < 4 := ⟨m.kind.toNat - 1, by omega, by omega⟩
  have e : (matcherT m).data.toList = m.name.data.toList ++ ((matT k).data.toList ++ (quoT m.val).data.toList) := by
    rw [matcherT, app_data, app_data, List.append_assoc, hk]
    rfl
  obtain ⟨c, r, hm, hmc, _, _, _⟩ := lex_mat hk4 0 []
  have hs : Lx AnyP ((matT k).data.toList ++ (quoT m.val).data.toList) [(5, matT k, 0), (4, m.val, 0)] := by
    intro p b hb
    obtain ⟨t2, e2, f2⟩ := lx_quo hc (p + (matT k).size) b hb
    obtain ⟨_, _, _, _, _, _, hlx⟩ := lex_mat hk4 p (m.val.data.toList.flatMap escT ++ [34] ++ b)
    refine ⟨⟨5, p, matT k, 0⟩ :: t2, by rw [List.map_cons, e2]; rfl, ?_⟩
    have hs : (matT k).data.toList.length = (matT k).size := (Lib.size_eq _).symm
    rw [quo_data] at f2 ⊢
    have e4 : (matT k).data.toList ++ 34 :: (m.val.data.toList.flatMap escT ++ [34]) ++ b = (matT k).data.toList ++ 34 :: (m.val.data.toList.flatMap escT ++ [34] ++ b) := by simp
    rw [e4, hlx]
    rw [List.cons_append] at f2
    rw [f2, pre_pre, List.length_append, hs, Nat.add_assoc]
    rfl
  rw [e, matKs, hk]
  exact (lx_word (name_word h3)).app hs (fun z s e => by
    rw [hm] at e
    injection e with e _
    subst e
    exact hmc) (by rw [hm]; simp)
def bracesK (ms : List Mat) : List Key := (5, sCurl, 0) :: (commaK (ms.map matKs) ++ [(5, sUncurl, 0)])
theorem lx_braces {ms : List Mat} (h : ∀ m ∈ ms, matB m = true ∧ cleanB m.val = true) : Lx AnyP (bracesT ms).data.toList (bracesK ms) := by
  have hj := lx_join (ms.map fun m => (matcherT m, matKs m)) (fun x hx => by
    obtain ⟨m, hm, rfl⟩ := List.mem_map.1 hx
    exact (lx_matcher (h m hm).1 (h m hm).2).any)
  rw [List.map_map, List.map_map] at hj
  have e : (bracesT ms).data.toList = [123] ++ ((joinT (ms.map matcherT)).data.toList ++ [125]) := by
    rw [bracesT, app_data, app_data, List.append_assoc]
    rfl
  rw [e]
  exact lx_curl.app_any (Lx.app hj lx_uncurl (fun z s e => by injection e with e _; subst e; exact cuts_125) (by simp))
def headK (ms : List Mat) : List Key := if namedT ms = true then [wordK (headT ms)] else []
def sel0K (ms : List Mat) : List Key := if namedT ms = true ∧ restT ms = [] then headK ms else headK ms ++ bracesK (restT ms)
def rangeK (n : Nod) : List Key := if n.kind = 3 then [(5, sSq, 0), (2, spanT n.width, n.width.toNat), (5, sUnsq, 0)] else []
def backK (n : Nod) : List Key := if 0 < n.back then [wordK sOffset, (2, spanT n.back, n.back.toNat)] else []
def selK (n : Nod) : List Key := sel0K n.mat ++ rangeK n ++ backK n
theorem named_word {ms : List Mat} (h : namedT ms = true) : ∃ m r, ms = m :: r ∧ m.kind = 1 ∧ m.name = sNameN ∧ wordT m.val = true ∧ keptB m.val = false ∧ headT ms = m.val ∧ restT ms = r := by
  cases ms with
  | nil => cases h
  | cons m r =>
    have hh := h
    simp only [namedT, Bool.and_eq_true, decide_eq_true_eq, Bool.not_eq_true'] at hh
    exact ⟨m, r, rfl, hh.1.1.1, hh.1.1.2, hh.1.2, hh.2, by rw [headT, if_pos h]; rfl, by rw [restT, if_pos h]; rfl⟩
theorem lx_head (ms : List Mat) : Lx WordP (headT ms).data.toList (headK ms) := by
  by_cases h : namedT ms = true
  · obtain ⟨m, r, _, _, _, hw, _, e, _⟩ := named_word h
    rw [headK, if_pos h, e]
    exact lx_word hw
  · rw [headK, headT, if_neg h, if_neg h]
    exact Lx.nil
theorem rest_sub {ms : List Mat} : ∀ m ∈ restT ms, m ∈ ms := by
  intro m hm
  unfold restT at hm
  split at hm
  · exact List.mem_of_mem_tail hm
  · exact hm
theorem lx_sel0 {ms : List Mat} (h : ∀ m ∈ ms, matB m = true ∧ cleanB m.val = true) : Lx Cuts (sel0 ms).data.toList (sel0K ms) := by
  unfold sel0 sel0K
  by_cases hn : namedT ms = true ∧ restT ms = []
  · rw [if_pos hn, if_pos hn]
    exact (lx_head ms).word
  · rw [if_neg hn, if_neg hn, app_data]
    refine (lx_head ms).app (lx_braces fun m hm => h m (rest_sub m hm)).any (fun z s e => ?_) ?_
    · rw [bracesT, app_data, app_data] at e
      injection e with e _
      subst e
      exact cuts_123.word
    · rw [bracesT, app_data, app_data]
      show [123] ++ _ ++ _ ≠ []
      simp
/-- A select. -/
theorem lx_sel {n : Nod} (h : ∀ m ∈ n.mat, matB m = true ∧ cleanB m.val = true) (hw : n.kind = 3 → 1 ≤ n.width ∧ n.width < 2147483648) (hb : n.back < 2147483648) : Lx Cuts (selT n).data.toList (selK n) := by
  have h1 : Lx Cuts (sel1T n).data.toList (sel0K n.mat ++ rangeK n) := by
    unfold sel1T rangeK
    by_cases hk : n.kind = 3
    · rw [if_pos hk, if_pos hk, app_data, app_data, app_data, List.append_assoc, List.append_assoc]
      have := lx_sq.app_any ((lx_spanT (hw hk).1 (hw hk).2).app lx_unsq (fun z s e => by injection e with e _; subst e; exact cuts_93.num) (by simp))
      exact (lx_sel0 h).app this.any (fun z s e => by injection e with e _; subst e; exact cuts_91) (List.cons_ne_nil _ _)
    · rw [if_neg hk, if_neg hk, List.append_nil]
      exact lx_sel0 h
  unfold selT selK backK
  by_cases hk : 0 < n.back
  · rw [if_pos hk, if_pos hk, app_data, app_data, List.append_assoc]
    have hoff : Lx AnyP sOffsetB.data.toList [wordK sOffset] := by
      have h0 : Lx Cuts ([32, 111, 102, 102, 115, 101, 116] : List UInt8) [wordK sOffset] := lx_of (by kernel_rfl)
      exact h0.app lx_blank (fun z s e => by injection e with e _; subst e; exact cuts_32) (by simp)
    exact h1.app (hoff.app_any (lx_spanT (by omega) hb)).num (fun z s e => by injection e with e _; subst e; exact cuts_32) (by rw [show sOffsetB.data.toList = [32, 111, 102, 102, 115, 101, 116, 32] from rfl]; simp)
  · rw [if_neg hk, if_neg hk, List.append_nil]
    exact h1
end
section
/-! ## ShowR -/
open Go.RowKit

/-! ### levels -/
def LP (l n : Nat) : PS → Rp PS :=
  if l = 1 then orP (unaryP n) else if l = 2 then andP (unaryP n) else if l = 3 then cmpP (unaryP n) else if l = 4 then sumP (unaryP n) else if l = 5 then termP (unaryP n) else unaryP n
def loL (l : Nat) : Int := if l = 1 then 12 else if l = 2 then 11 else if l = 3 then 5 else if l = 4 then 1 else 3
def hiL (l : Nat) : Int := if l = 1 then 12 else if l = 2 then 13 else if l = 3 then 10 else if l = 4 then 2 else 4
theorem LP_eq {l : Nat} (h1 : 1 ≤ l) (h5 : l ≤ 5) (n : Nat) : LP l n = rowP (LP (l + 1) n) (loL l) (hiL l) := by
  rcases (by omega : l = 1 ∨ l = 2 ∨ l = 3 ∨ l = 4 ∨ l = 5) with h | h | h | h | h <;> subst h <;> rfl
theorem LP_top (n : Nat) : LP 6 n = unaryP n := rfl
theorem LP_one (n : Nat) : LP 1 n = orP (unaryP n) := rfl
/-- Does a token follow an operand? -/
def StopZ (z : Tok) : Prop := z.kind = 0 ∨ (z.kind = 5 ∧ z.text = sC) ∨ ((z.kind = 5 ∨ z.kind = 3) ∧ 1 ≤ numW opsL z.text)
def tokRow (z : Tok) : Int := if (z.kind = 5 ∨ z.kind = 3) ∧ 1 ≤ numW opsL z.text then rowN (numW opsL z.text) else 0
theorem ops_range (w : ByteArray) : 0 ≤ numW opsL w ∧ numW opsL w ≤ 13 := by
  rcases numF_in w opsL 0 with h | ⟨h1, h2⟩
  · rw [numW, h]; decide
  · have : opsL.length = 14 := by decide
    rw [this] at h2
    simp only [numW]
    omega
def rowChk (k l : Nat) : Bool := decide (1 ≤ rowN (k : Int)) && decide (rowN (k : Int) ≤ 5) && (decide (¬ rowN (k : Int) < (l : Int)) || decide ((k : Int) < loL l) || decide (hiL l < (k : Int)) || (decide (loL l = 11) && decide ((k : Int) = 12))) &&
  (decide (¬ rowN (k : Int) = (l : Int)) || (decide (¬ (k : Int) < loL l) && decide (¬ hiL l < (k : Int)) && !(decide (loL l = 11) && decide ((k : Int) = 12))))
theorem row_all : ((List.range 14).all fun k => (List.range 6).all fun l => k == 0 || l == 0 || rowChk k l) = true := by decide +kernel
theorem row_at {k : Int} (h1 : 1 ≤ k) (h2 : k ≤ 13) {l : Nat} (hl1 : 1 ≤ l) (hl : l ≤ 5) : 1 ≤ rowN k ∧ rowN k ≤ 5 ∧ (rowN k < (l : Int) → k < loL l ∨ hiL l < k ∨ (loL l = 11 ∧ k = 12)) ∧
    (rowN k = (l : Int) → ¬ k < loL l ∧ ¬ hiL l < k ∧ ¬ (loL l = 11 ∧ k = 12)) := by
  have h := List.all_eq_true.1 (List.all_eq_true.1 row_all k.toNat (List.mem_range.2 (by omega))) l (List.mem_range.2 (by omega))
  have e1 : (k.toNat == 0) = false := by simp; omega
  have e2 : (l == 0) = false := by simp; omega
  rw [e1, e2, Bool.false_or, Bool.false_or] at h
  simp only [rowChk, show ((k.toNat : Nat) : Int) = k by omega, Bool.and_eq_true, Bool.or_eq_true, decide_eq_true_eq, Bool.not_eq_true', Bool.and_eq_false_iff, decide_eq_false_iff_not] at h
  obtain ⟨⟨⟨h1, h2⟩, h3⟩, h4⟩ := h
  refine ⟨h1, h2, fun h => ?_, fun h => ?_⟩
  · rcases h3 with ((h3 | h3) | h3) | h3
    · exact absurd h h3
    · exact .inl h3
    · exact .inr (.inl h3)
    · exact .inr (.inr h3)
  · rcases h4 with h4 | ⟨⟨h4, h5⟩, h6⟩
    · exact absurd h h4
    · exact ⟨h4, h5, fun ⟨x, y⟩ => h6.elim (fun z => z x) fun z => z y⟩
theorem lo_pos (l : Nat) : 1 ≤ loL l := by
  unfold loL
  split
  · decide
  split
  · decide
  split
  · decide
  split <;> decide
theorem tokRow_le (z : Tok) : tokRow z ≤ 5 := by
  unfold tokRow
  split
  · rename_i h
    exact (row_at h.2 (ops_range _).2 (l := 1) (by decide) (by decide)).2.1
  · decide
theorem rowEnd_low {z : Tok} {r : List Tok} {d : Nat} {o : List Nod} {l : Nat} (h1 : 1 ≤ l) (h5 : l ≤ 5) (hz : tokRow z < (l : Int)) : PS.rowEnd ⟨z :: r, d, o⟩ (loL l) (hiL l) = true := by
  have hh : PS.hd ⟨z :: r, d, o⟩ = z := rfl
  rw [PS.rowEnd, hh]
  simp only [Bool.or_eq_true, Bool.and_eq_true, decide_eq_true_eq]
  by_cases hk : (z.kind = 5 ∨ z.kind = 3) ∧ 1 ≤ numW opsL z.text
  · rw [tokRow, if_pos hk] at hz
    rcases (row_at hk.2 (ops_range _).2 h1 h5).2.2.1 hz with h | h | h
    · exact .inl (.inl (.inr h))
    · exact .inl (.inr h)
    · exact .inr h
  · by_cases hk2 : z.kind = 5 ∨ z.kind = 3
    · have : ¬ 1 ≤ numW opsL z.text := fun h => hk ⟨hk2, h⟩
      have h0 := lo_pos l
      exact .inl (.inl (.inr (by omega)))
    · exact .inl (.inl (.inl ⟨fun h => hk2 (.inl h), fun h => hk2 (.inr h)⟩))
theorem rowEnd_here {z : Tok} {r : List Tok} {d : Nat} {o : List Nod} {l : Nat} {k : Int} (h1 : 1 ≤ l) (h5 : l ≤ 5) (hk : z.kind = 5 ∨ z.kind = 3) (hn : numW opsL z.text = k) (k1 : 1 ≤ k) (hr : rowN k = (l : Int)) : PS.rowEnd ⟨z :: r, d, o⟩ (loL l) (hiL l) = false := by
  have hh : PS.hd ⟨z :: r, d, o⟩ = z := rfl
  have k2 : k ≤ 13 := by rw [← hn]; exact (ops_range _).2
  obtain ⟨a, b, c⟩ := (row_at k1 k2 h1 h5).2.2.2 hr
  rw [PS.rowEnd, hh, hn]
  rw [Bool.eq_false_iff]
  intro h
  simp only [Bool.or_eq_true, Bool.and_eq_true, decide_eq_true_eq] at h
  rcases h with ((⟨x, y⟩ | h) | h) | h
  · rcases hk with hk | hk
    · exact x hk
    · exact y hk
  · exact a h
  · exact b h
  · exact c h
/-- What stands ahead is read at a level, up to what stands behind. -/
def AtL (l n : Nat) (s : PS) (Z : List Tok) (o' : List Nod) : Prop :=
  if 6 ≤ l then unaryP n s = .ok ⟨Z, s.deep, o'⟩ else ∃ m, Z.length ≤ m ∧ LP l n s = rowF (LP (l + 1) n) (loL l) (hiL l) m ⟨Z, s.deep, o'⟩
theorem AtL.ok {l n : Nat} {s : PS} {z : Tok} {zr : List Tok} {o' : List Nod} (h : AtL l n s (z :: zr) o') (h1 : 1 ≤ l) (h6 : l ≤ 6) (hz : tokRow z < (l : Int)) : LP l n s = .ok ⟨z :: zr, s.deep, o'⟩ := by
  unfold AtL at h
  by_cases h7 : 6 ≤ l
  · rw [if_pos h7] at h
    obtain rfl : l = 6 := by omega
    exact h
  · rw [if_neg h7] at h
    obtain ⟨m, _, hm⟩ := h
    rw [hm]
    exact rowF_end (rowEnd_low h1 (by omega) hz) m
theorem AtL.down {l n : Nat} {s : PS} {z : Tok} {zr : List Tok} {o' : List Nod} (h : AtL (l + 1) n s (z :: zr) o') (h1 : 1 ≤ l) (h5 : l ≤ 5) (hz : tokRow z ≤ (l : Int)) : AtL l n s (z :: zr) o' := by
  have hk := h.ok (by omega) (by omega) (by omega)
  unfold AtL
  rw [if_neg (by omega)]
  refine ⟨(z :: zr).length, Nat.le_refl _, ?_⟩
  rw [LP_eq h1 h5, rowP, hk]
/-- Tokens that are read as a tree, of such a row and so deep. -/
structure Rdd (ks : List Key) (r dp : Nat) (seg : List Nod) : Prop where
  row : 1 ≤ r ∧ r ≤ 7
  len : dp < ks.length
  head : ∃ k t, ks = k :: t ∧ (k.1 = 3 → k.2.1 ≠ sBool ∧ k.2.1 ≠ sOn ∧ k.2.1 ≠ sIgn)
  read : ∀ (n d : Nat) (o : List Nod) (toks : List Tok) (z : Tok) (zr : List Tok), toks.map Tok.key = ks → dp < n → d + dp ≤ 64 → StopZ z → tokRow z ≤ (r : Int) → AtL (min r 6) n ⟨toks ++ z :: zr, d, o⟩ (z :: zr) (o ++ seg)
theorem Rdd.at {ks : List Key} {r dp : Nat} {seg : List Nod} (h : Rdd ks r dp seg) {n d : Nat} {o : List Nod} {toks : List Tok} {z : Tok} {zr : List Tok} (hk : toks.map Tok.key = ks) (hn : dp < n) (hd : d + dp ≤ 64) (hs : StopZ z) :
    ∀ (j l : Nat), l + j = min r 6 → 1 ≤ l → tokRow z ≤ (l : Int) → AtL l n ⟨toks ++ z :: zr, d, o⟩ (z :: zr) (o ++ seg)
  | 0, l, hl, _, hz => by
    have := h.read n d o toks z zr hk hn hd hs (by omega)
    rw [Nat.add_zero] at hl
    rw [hl]
    exact this
  | j + 1, l, hl, h1, hz => (Rdd.at h hk hn hd hs j (l + 1) (by omega) (by omega) (by omega)).down h1 (by omega) hz
theorem Rdd.lev {ks : List Key} {r dp : Nat} {seg : List Nod} (h : Rdd ks r dp seg) {n d : Nat} {o : List Nod} {toks : List Tok} {z : Tok} {zr : List Tok} (hk : toks.map Tok.key = ks) (hn : dp < n) (hd : d + dp ≤ 64) (hs : StopZ z)
    {l : Nat} (h1 : 1 ≤ l) (h2 : l ≤ r) (h6 : l ≤ 6) (hz : tokRow z ≤ (l : Int)) : AtL l n ⟨toks ++ z :: zr, d, o⟩ (z :: zr) (o ++ seg) :=
  h.at hk hn hd hs (min r 6 - l) l (by omega) h1 hz
/-! ### one operand -/
theorem AtL.six {n r : Nat} (hr : 6 ≤ r) {s : PS} {Z : List Tok} {o' : List Nod} (h : unaryP n s = .ok ⟨Z, s.deep, o'⟩) : AtL (min r 6) n s Z o' := by
  rw [show min r 6 = 6 by omega, AtL, if_pos (Nat.le_refl _)]
  exact h
theorem rdd_num {t : ByteArray} : Rdd [(1, t, 0)] 7 0 [numN t] where
  row := by decide
  len := by simp
  head := ⟨_, [], rfl, fun h => by cases h⟩
  read := by
    intro n d o toks z zr hk hn hd hs hz
    obtain ⟨a, r, rfl, ha, hr⟩ := keys_cons hk
    obtain rfl := keys_nil hr
    obtain ⟨n, rfl⟩ : ∃ m, n = m + 1 := ⟨n - 1, by omega⟩
    refine AtL.six (by decide) ?_
    obtain ⟨h1, h2⟩ := key_at ha
    have e1 : PS.is ⟨a :: z :: zr, d, o⟩ 5 sMinus = false := by simp [PS.is, PS.hd, h1]
    show unaryP (n + 1) ⟨a :: z :: zr, d, o⟩ = _
    rw [unaryP, e1, if_neg (by decide), oneP, if_pos (by simp [PS.hd, h1])]
    simp [PS.on, PS.lay, PS.hd, h2]
theorem tokRow_close {c : Tok} (h : c.key = closeK) : tokRow c = 0 := by
  obtain ⟨_, h2⟩ := key_close h
  have hn : numW opsL sC = 0 := by kernel_rfl
  rw [tokRow, h2, hn, if_neg (by omega)]
theorem stopZ_close {c : Tok} (h : c.key = closeK) : StopZ c := .inr (.inl (key_close h))
/-- Brackets around what is read. -/
theorem Rdd.bracket {ks : List Key} {r dp : Nat} {seg : List Nod} (h : Rdd ks r dp seg) {x : List Tok} (hx : x.map Tok.key = openK :: (ks ++ [closeK])) {n d : Nat} (hn : dp < n) (hd : d + (dp + 1) ≤ 64) (o : List Nod) (zr : List Tok) :
    bracketP (orP (unaryP n)) ⟨x ++ zr, d, o⟩ = .ok ⟨zr, d, o ++ seg⟩ ∧ ∃ a y, x = a :: y ∧ a.key = openK := by
  obtain ⟨a, y, rfl, ha, hy⟩ := keys_cons hx
  obtain ⟨b, c1, rfl, hb, hcc⟩ := keys_app hy
  obtain ⟨c, c2, rfl, hc, hc2⟩ := keys_cons hcc
  obtain rfl := keys_nil hc2
  refine ⟨?_, a, _, rfl, ha⟩
  obtain ⟨h1, h2⟩ := key_open ha
  obtain ⟨h3, h4⟩ := key_close hc
  have e2 : PS.is ⟨a :: (b ++ [c]) ++ zr, d, o⟩ 5 sO = true := by simp [PS.is, PS.hd, h1, h2]
  have h5 := (h.lev hb hn (d := d + 1) (by omega) (o := o) (stopZ_close hc) (zr := zr) (l := 1) (by decide) h.row.1 (by decide) (by rw [tokRow_close hc]; decide)).ok (by decide) (by decide) (by rw [tokRow_close hc]; decide)
  rw [LP_one] at h5
  rw [bracketP, if_pos e2, openP, if_neg (by show ¬ d = 64; omega)]
  have e3 : (a :: (b ++ [c]) ++ zr).tail = b ++ c :: zr := by simp
  simp only [e3, innerP, h5]
  simp [PS.sign, PS.is, PS.hd, PS.on, h3, h4]
theorem rdd_bracket {ks : List Key} {r dp : Nat} {seg : List Nod} (h : Rdd ks r dp seg) : Rdd (openK :: (ks ++ [closeK])) 7 (dp + 1) seg where
  row := by decide
  len := by have := h.len; simp only [List.length_cons, List.length_append, List.length_nil]; omega
  head := ⟨_, _, rfl, fun h => by cases h⟩
  read := by
    intro n d o toks z zr hk hn hd hs hz
    obtain ⟨n, rfl⟩ : ∃ m, n = m + 1 := ⟨n - 1, by omega⟩
    refine AtL.six (by decide) ?_
    obtain ⟨hb, a, y, rfl, ha⟩ := h.bracket hk (n := n) (by omega) hd o (z :: zr)
    obtain ⟨h1, h2⟩ := key_open ha
    have e1 : PS.is ⟨a :: y ++ z :: zr, d, o⟩ 5 sMinus = false := by simp [PS.is, PS.hd, h1, h2, sO, sMinus]
    have e2 : PS.is ⟨a :: y ++ z :: zr, d, o⟩ 5 sO = true := by simp [PS.is, PS.hd, h1, h2]
    rw [unaryP, e1, if_neg (by decide), oneP, if_neg (by simp [PS.hd, h1]), if_pos e2, hb]
theorem rdd_neg {ks : List Key} {r dp : Nat} {seg : List Nod} (h : Rdd ks r dp seg) (hr : 6 ≤ r) : Rdd ((5, sMinus, 0) :: ks) 6 (dp + 1) (seg ++ [negN]) where
  row := by decide
  len := by have := h.len; simp only [List.length_cons]; omega
  head := ⟨_, _, rfl, fun h => by cases h⟩
  read := by
    intro n d o toks z zr hk hn hd hs hz
    obtain ⟨n, rfl⟩ : ∃ m, n = m + 1 := ⟨n - 1, by omega⟩
    refine AtL.six (by decide) ?_
    obtain ⟨a, y, rfl, ha, hy⟩ := keys_cons hk
    obtain ⟨h1, h2⟩ := key_at ha
    have e1 : PS.is ⟨a :: y ++ z :: zr, d, o⟩ 5 sMinus = true := by simp [PS.is, PS.hd, h1, h2]
    have htr := tokRow_le z
    have h5 := (h.lev hy (n := n) (by omega) (d := d + 1) (by omega) (o := o) hs (zr := zr) (l := 6) (by decide) hr (by decide) (by omega)).ok (by decide) (by decide) (by omega)
    rw [LP_top] at h5
    rw [unaryP, if_pos e1, openP, if_neg (by show ¬ d = 64; omega)]
    have e3 : (a :: y ++ z :: zr).tail = y ++ z :: zr := by simp
    simp only [e3, h5]
    simp [PS.lay]
/-! ### names -/
def namesTail : Bool → List ByteArray → List Key
  | _, [] => [closeK]
  | true, n :: r => wordK n :: namesTail false r
  | false, n :: r => (5, sComma, 0) :: wordK n :: namesTail false r
theorem names_tail : ∀ (l : List ByteArray), commaK (l.map fun n => [wordK n]) ++ [closeK] = namesTail true l
  | [] => rfl
  | [n] => rfl
  | n :: m :: r => by
    have ih := names_tail (m :: r)
    have e : namesTail true (n :: m :: r) = wordK n :: (5, sComma, 0) :: namesTail true (m :: r) := rfl
    rw [e, ← ih]
    rfl
theorem namesF_read (d : Nat) (o : List Nod) (zr : List Tok) : ∀ (l : List ByteArray) (m : Nat) (x : List Tok) (acc : List ByteArray), x.map Tok.key = namesTail acc.isEmpty l → l.all nameB = true → l.length < m → namesF m ⟨x ++ zr, d, o⟩ acc = .ok (⟨zr, d, o⟩, acc ++ l)
  | [], m, x, acc, hx, _, hm => by
    obtain ⟨m, rfl⟩ : ∃ k, m = k + 1 := ⟨m - 1, by simp at hm; omega⟩
    have hx' : x.map Tok.key = [closeK] := by cases hb : acc.isEmpty <;> rw [hb] at hx <;> exact hx
    obtain ⟨c, y, rfl, hc, hy⟩ := keys_cons hx'
    obtain rfl := keys_nil hy
    obtain ⟨h1, h2⟩ := key_close hc
    rw [namesF, if_pos (by simp [PS.is, PS.hd, h1, h2])]
    simp [PS.on]
  | w :: r, m, x, acc, hx, hn, hm => by
    obtain ⟨m, rfl⟩ : ∃ k, m = k + 1 := ⟨m - 1, by simp at hm; omega⟩
    rw [List.all_cons, Bool.and_eq_true] at hn
    have step : ∀ (a : Tok) (y : List Tok), a.key = wordK w → y.map Tok.key = namesTail false r → ∀ s : PS, s = ⟨a :: y ++ zr, d, o⟩ → s.name = .ok (⟨y ++ zr, d, o⟩, w) := by
      intro a y ha _ s hs
      obtain ⟨h1, h2⟩ := key_at ha
      rw [hs, PS.name, if_pos ⟨by simp [PS.hd, h1], by simp [PS.hd, h2, hn.1]⟩]
      simp [PS.on, PS.hd, h2]
    have rest : ∀ y : List Tok, y.map Tok.key = namesTail false r → namesF m ⟨y ++ zr, d, o⟩ (acc ++ [w]) = .ok (⟨zr, d, o⟩, acc ++ w :: r) := by
      intro y hy
      rw [namesF_read d o zr r m y (acc ++ [w]) (by rw [show (acc ++ [w]).isEmpty = false by simp]; exact hy) hn.2 (by simp at hm; omega)]
      simp
    cases hb : acc.isEmpty with
    | true =>
      rw [hb] at hx
      obtain ⟨a, y, rfl, ha, hy⟩ := keys_cons hx
      obtain ⟨h1, h2⟩ := key_at ha
      rw [namesF, if_neg (by simp [PS.is, PS.hd, h1]), hb]
      simp only [PS.comma, if_true]
      rw [step a y ha hy _ rfl]
      exact rest y hy
    | false =>
      rw [hb] at hx
      obtain ⟨c, y, rfl, hc, hy⟩ := keys_cons hx
      obtain ⟨a, y, rfl, ha, hy⟩ := keys_cons hy
      obtain ⟨h1, h2⟩ := key_at hc
      rw [namesF, if_neg (by simp [PS.is, PS.hd, h1, h2, sComma, sC]), hb]
      have e1 : PS.is ⟨c :: a :: y ++ zr, d, o⟩ 5 sComma = true := by simp [PS.is, PS.hd, h1, h2]
      simp only [PS.comma, Bool.false_eq_true, if_false, PS.sign, e1, if_true]
      have e2 : PS.on ⟨c :: a :: y ++ zr, d, o⟩ = ⟨a :: y ++ zr, d, o⟩ := rfl
      rw [e2, step a y ha hy _ rfl]
      exact rest y hy
theorem names_len {l : List ByteArray} : ∀ b, l.length + 1 ≤ (namesTail b l).length := by
  induction l with
  | nil => intro b; cases b <;> decide
  | cons n r ih =>
    intro b
    have := ih false
    cases b <;> simp only [namesTail, List.length_cons] <;> omega
theorem names_read {l : List ByteArray} (hl : l.all nameB = true) {x : List Tok} (hx : x.map Tok.key = namesK l) (d : Nat) (o : List Nod) (zr : List Tok) : PS.names ⟨x ++ zr, d, o⟩ = .ok (⟨zr, d, o⟩, l) := by
  rw [namesK, names_tail] at hx
  obtain ⟨a, y, rfl, ha, hy⟩ := keys_cons hx
  obtain ⟨h1, h2⟩ := key_open ha
  have e1 : PS.is ⟨a :: y ++ zr, d, o⟩ 5 sO = true := by simp [PS.is, PS.hd, h1, h2]
  have hlen : l.length + 1 ≤ y.length := by
    have := congrArg List.length hy
    rw [List.length_map] at this
    rw [this]
    exact names_len true
  rw [PS.names, PS.sign, if_pos e1]
  show namesF (y ++ zr).length ⟨y ++ zr, d, o⟩ [] = _
  rw [namesF_read d o zr l _ y [] hy hl (by rw [List.length_append]; omega)]
  rfl
end
section
/-! ## ShowB -/
open Go.RowKit

def noGrp (w : ByteArray) : Bool := !decide (w = sBool) && !decide (w = sOn) && !decide (w = sIgn)
theorem noGrp_of {w : ByteArray} (h : noGrp w = true) : w ≠ sBool ∧ w ≠ sOn ∧ w ≠ sIgn := by
  simp only [noGrp, Bool.and_eq_true, Bool.not_eq_true', decide_eq_false_iff_not] at h
  exact ⟨h.1.1, h.1.2, h.2⟩
def funcW (f : Int) : ByteArray := funcsL.getD f.toNat ByteArray.empty
def aggsW (a : Int) : ByteArray := aggsL.getD a.toNat ByteArray.empty
theorem funcs_all : ((List.range 13).all fun k => k == 0 || (decide (numW funcsL (funcW k) = k) && wordT (funcW k) && noGrp (funcW k))) = true := by decide +kernel
theorem func_at {f : Int} (h : inB 1 12 f = true) : numW funcsL (funcW f) = f ∧ wordT (funcW f) = true ∧ noGrp (funcW f) = true := by
  simp only [inB, Bool.and_eq_true, decide_eq_true_eq] at h
  have h2 := List.all_eq_true.1 funcs_all f.toNat (List.mem_range.2 (by omega))
  have e1 : (f.toNat == 0) = false := by simp; omega
  rw [e1, Bool.false_or, show ((f.toNat : Nat) : Int) = f by omega] at h2
  simp only [Bool.and_eq_true, decide_eq_true_eq] at h2
  exact ⟨h2.1.1, h2.1.2, h2.2⟩
theorem aggs_all : ((List.range 6).all fun k => k == 0 || (decide (numW aggsL (aggsW k) = k) && decide (numW funcsL (aggsW k) = 0) && wordT (aggsW k) && noGrp (aggsW k))) = true := by decide +kernel
theorem agg_at {f : Int} (h : inB 1 5 f = true) : numW aggsL (aggsW f) = f ∧ numW funcsL (aggsW f) = 0 ∧ wordT (aggsW f) = true ∧ noGrp (aggsW f) = true := by
  simp only [inB, Bool.and_eq_true, decide_eq_true_eq] at h
  have h2 := List.all_eq_true.1 aggs_all f.toNat (List.mem_range.2 (by omega))
  have e1 : (f.toNat == 0) = false := by simp; omega
  rw [e1, Bool.false_or, show ((f.toNat : Nat) : Int) = f by omega] at h2
  simp only [Bool.and_eq_true, decide_eq_true_eq] at h2
  exact ⟨h2.1.1.1, h2.1.1.2, h2.1.2, h2.2⟩
/-- A word's token is neither a minus nor a bracket. -/
theorem is_word {a : Tok} {w : ByteArray} (ha : a.key = wordK w) (r : List Tok) (d : Nat) (o : List Nod) (t : ByteArray) : PS.is ⟨a :: r, d, o⟩ 5 t = false := by
  obtain ⟨h1, _⟩ := key_at ha
  simp [PS.is, PS.hd, h1]
theorem rdd_call {ks : List Key} {r dp : Nat} {seg : List Nod} (h : Rdd ks r dp seg) {f : Int} (hf : inB 1 12 f = true) : Rdd (wordK (funcW f) :: openK :: (ks ++ [closeK])) 7 (dp + 1) (seg ++ [callN f]) where
  row := by decide
  len := by have := h.len; simp only [List.length_cons, List.length_append, List.length_nil]; omega
  head := ⟨_, _, rfl, fun _ => noGrp_of (func_at hf).2.2⟩
  read := by
    intro n d o toks z zr hk hn hd hs hz
    obtain ⟨n, rfl⟩ : ∃ m, n = m + 1 := ⟨n - 1, by omega⟩
    refine AtL.six (by decide) ?_
    obtain ⟨a, y, rfl, ha, hy⟩ := keys_cons hk
    obtain ⟨hb, _⟩ := h.bracket hy (n := n) (by omega) hd o (z :: zr)
    obtain ⟨h1, h2⟩ := key_at ha
    have hf1 := (func_at hf).1
    have hf0 : 1 ≤ f := by simp only [inB, Bool.and_eq_true, decide_eq_true_eq] at hf; exact hf.1
    have e3 : PS.hd ⟨a :: y ++ z :: zr, d, o⟩ = a := rfl
    have e4 : PS.on ⟨a :: y ++ z :: zr, d, o⟩ = ⟨y ++ z :: zr, d, o⟩ := rfl
    rw [unaryP, List.cons_append, is_word ha, if_neg (by decide), oneP, ← List.cons_append, e3, h1, h2, if_neg (by decide), List.cons_append, is_word ha, if_neg (by decide), if_pos ⟨rfl, by rw [hf1]; omega⟩, ← List.cons_append, e4, hb, hf1]
    simp [PS.lay]
/-! ### groups -/
def groupKs (w1 w2 : ByteArray) (k1 k2 g : Int) (l : List ByteArray) : List Key := if g = k1 then wordK w1 :: namesK l else if g = k2 then wordK w2 :: namesK l else []
theorem group_read {w1 w2 : ByteArray} {k1 k2 g : Int} {l : List ByteArray} (hw : w1 ≠ w2) (hl : l.all nameB = true) (hg : g = k1 ∨ g = k2 ∨ (g = 0 ∧ l = [])) {x : List Tok} (hx : x.map Tok.key = groupKs w1 w2 k1 k2 g l)
    {a : Tok} (ha : ¬ (a.kind = 3 ∧ (a.text = w1 ∨ a.text = w2))) (d : Nat) (o : List Nod) (zr : List Tok) : PS.group ⟨x ++ a :: zr, d, o⟩ w1 w2 k1 k2 = .ok (⟨a :: zr, d, o⟩, g, l) := by
  unfold groupKs at hx
  by_cases h1 : g = k1
  · rw [if_pos h1] at hx
    obtain ⟨b, y, rfl, hb, hy⟩ := keys_cons hx
    obtain ⟨e1, e2⟩ := key_at hb
    have e3 : PS.on ⟨b :: y ++ a :: zr, d, o⟩ = ⟨y ++ a :: zr, d, o⟩ := rfl
    rw [PS.group, if_pos (by simp [PS.is, PS.hd, e1, e2]), e3, names_read hl hy]
    simp [h1]
  rw [if_neg h1] at hx
  by_cases h2 : g = k2
  · rw [if_pos h2] at hx
    obtain ⟨b, y, rfl, hb, hy⟩ := keys_cons hx
    obtain ⟨e1, e2⟩ := key_at hb
    have e3 : PS.on ⟨b :: y ++ a :: zr, d, o⟩ = ⟨y ++ a :: zr, d, o⟩ := rfl
    rw [PS.group, if_neg (by simp [PS.is, PS.hd, e1, e2]; exact fun h => hw h.symm), if_pos (by simp [PS.is, PS.hd, e1, e2]), e3, names_read hl hy]
    simp [h2]
  rw [if_neg h2] at hx
  obtain rfl := keys_nil hx
  obtain ⟨e1, e2⟩ : g = 0 ∧ l = [] := by
    rcases hg with h | h | h
    · exact absurd h h1
    · exact absurd h h2
    · exact h
  subst e1 e2
  have n1 : ¬ PS.is ⟨[] ++ a :: zr, d, o⟩ 3 w1 = true := by
    intro h
    exact ha ⟨is_kind h, .inl (is_text h)⟩
  have n2 : ¬ PS.is ⟨[] ++ a :: zr, d, o⟩ 3 w2 = true := by
    intro h
    exact ha ⟨is_kind h, .inr (is_text h)⟩
  rw [PS.group, if_neg n1, if_neg n2]
  rfl
theorem rdd_agg {ks : List Key} {r dp : Nat} {seg : List Nod} (h : Rdd ks r dp seg) {f g : Int} {l : List ByteArray} (hf : inB 1 5 f = true) (hl : l.all nameB = true) (hg : g = 1 ∨ g = 2 ∨ (g = 0 ∧ l = [])) :
    Rdd (wordK (aggsW f) :: (groupKs sBy sWithout 1 2 g l ++ openK :: (ks ++ [closeK]))) 7 (dp + 1) (seg ++ [aggN f g l]) where
  row := by decide
  len := by have := h.len; simp only [List.length_cons, List.length_append, List.length_nil]; omega
  head := ⟨_, _, rfl, fun _ => noGrp_of (agg_at hf).2.2.2⟩
  read := by
    intro n d o toks z zr hk hn hd hs hz
    obtain ⟨n, rfl⟩ : ∃ m, n = m + 1 := ⟨n - 1, by omega⟩
    refine AtL.six (by decide) ?_
    obtain ⟨a, y, rfl, ha, hy⟩ := keys_cons hk
    obtain ⟨gx, x, rfl, hgx, hx⟩ := keys_app hy
    obtain ⟨hb, b, y, rfl, hbk⟩ := h.bracket hx (n := n) (by omega) hd o (z :: zr)
    obtain ⟨h1, h2⟩ := key_at ha
    obtain ⟨h3, _⟩ := key_open hbk
    obtain ⟨hf1, hf2, _, _⟩ := agg_at hf
    have hf0 : 1 ≤ f := by simp only [inB, Bool.and_eq_true, decide_eq_true_eq] at hf; exact hf.1
    have hgr := group_read (w1 := sBy) (w2 := sWithout) (k1 := 1) (k2 := 2) (by decide) hl hg hgx (a := b) (by rintro ⟨h, _⟩; rw [h3] at h; exact absurd h (by decide)) d o (y ++ z :: zr)
    have e3 : PS.hd ⟨a :: (gx ++ b :: y) ++ z :: zr, d, o⟩ = a := rfl
    have e4 : PS.on ⟨a :: (gx ++ b :: y) ++ z :: zr, d, o⟩ = ⟨gx ++ b :: (y ++ z :: zr), d, o⟩ := by simp [PS.on]
    have hb' : bracketP (orP (unaryP n)) ⟨b :: (y ++ z :: zr), d, o⟩ = .ok ⟨z :: zr, d, o ++ seg⟩ := hb
    rw [unaryP, List.cons_append, is_word ha, if_neg (by decide), oneP, ← List.cons_append, e3, h1, h2, if_neg (by decide), List.cons_append, is_word ha, if_neg (by decide), if_neg (by rw [hf2]; rintro ⟨_, h⟩; exact absurd h (by decide)), if_pos ⟨rfl, by rw [hf1]; omega⟩, ← List.cons_append, e4, hgr]
    simp only [hb', hf1]
    simp [PS.lay]
/-! ### rows of operations -/
def opK (op : Int) : Key := (if op ≤ 10 then 5 else 3, opT op, 0)
theorem ops_all : ((List.range 14).all fun k => k == 0 || decide (numW opsL (opT k) = k)) = true := by decide +kernel
theorem op_at {k : Int} (h : inB 1 13 k = true) : numW opsL (opT k) = k := by
  simp only [inB, Bool.and_eq_true, decide_eq_true_eq] at h
  have h2 := List.all_eq_true.1 ops_all k.toNat (List.mem_range.2 (by omega))
  have e1 : (k.toNat == 0) = false := by simp; omega
  rw [e1, Bool.false_or, show ((k.toNat : Nat) : Int) = k by omega] at h2
  simpa using h2
def cmpKs (b : Bool) : List Key := if b = true then [wordK sBool] else []
def binKs (op g : Int) (l : List ByteArray) (b : Bool) : List Key := opK op :: (cmpKs b ++ groupKs sOn sIgn 3 4 g l)
theorem rdd_bin {ka kb : List Key} {ra rb da db : Nat} {sa sb : List Nod} (ha : Rdd ka ra da sa) (hb : Rdd kb rb db sb) {op g : Int} {l : List ByteArray} {b : Bool} (hop : inB 1 13 op = true) (hl : l.all nameB = true) (hg : g = 3 ∨ g = 4 ∨ (g = 0 ∧ l = []))
    (hc : b = true → cmpB op = true) (h1 : rowN op ≤ (ra : Int)) (h2 : rowN op + 1 ≤ (rb : Int)) : Rdd (ka ++ (binKs op g l b ++ kb)) (rowN op).toNat (max da db) (sa ++ sb ++ [binN op g l b]) := by
  have hop' : 1 ≤ op ∧ op ≤ 13 := by simpa [inB] using hop
  have hrow := row_at hop'.1 hop'.2 (l := 1) (by decide) (by decide)
  obtain ⟨L, hL⟩ : ∃ L : Nat, rowN op = (L : Int) := ⟨(rowN op).toNat, by omega⟩
  have hL1 : 1 ≤ L ∧ L ≤ 5 := by omega
  rw [hL] at h1 h2
  rw [show (rowN op).toNat = L by omega]
  refine ⟨by omega, by have := ha.len; have := hb.len; simp only [List.length_append, binKs, List.length_cons]; omega, ?_, ?_⟩
  · obtain ⟨k, t, e, hk⟩ := ha.head
    exact ⟨k, t ++ (binKs op g l b ++ kb), by rw [e]; rfl, hk⟩
  intro n d o toks z zr hk hn hd hs hz
  obtain ⟨ta, x, rfl, hta, hx⟩ := keys_app hk
  obtain ⟨x, tb, rfl, hx, htb⟩ := keys_app hx
  obtain ⟨t, x, rfl, ht, hx⟩ := keys_cons hx
  obtain ⟨xc, xg, rfl, hxc, hxg⟩ := keys_app hx
  obtain ⟨kb1, kbr, hkb, hkb2⟩ := hb.head
  obtain ⟨b1, br, rfl, hb1, _⟩ := keys_cons (htb.trans hkb)
  have hb1k : ¬ (b1.kind = 3 ∧ (b1.text = sBool ∨ b1.text = sOn ∨ b1.text = sIgn)) := by
    rintro ⟨e1, e2⟩
    have e3 : kb1.1 = 3 := by rw [← hb1]; exact e1
    have e4 : kb1.2.1 = b1.text := by rw [← hb1]; rfl
    obtain ⟨n1, n2, n3⟩ := hkb2 e3
    rw [e4] at n1 n2 n3
    rcases e2 with e | e | e
    · exact n1 e
    · exact n2 e
    · exact n3 e
  have htk : (t.kind = 5 ∨ t.kind = 3) ∧ t.text = opT op := by
    obtain ⟨e1, e2⟩ := key_at ht
    refine ⟨?_, e2⟩
    rw [e1]
    split
    · exact .inl rfl
    · exact .inr rfl
  have hnum : numW opsL t.text = op := by rw [htk.2]; exact op_at hop
  have hstop : StopZ t := .inr (.inr ⟨htk.1, by rw [hnum]; exact hop'.1⟩)
  have htr : tokRow t = (L : Int) := by rw [tokRow, if_pos ⟨htk.1, by rw [hnum]; exact hop'.1⟩, hnum, hL]
  have hA := ha.lev hta (n := n) (by omega) (d := d) (by omega) (o := o) hstop (zr := (xc ++ xg) ++ b1 :: br ++ z :: zr) (l := L) hL1.1 (by omega) (by omega) (by omega)
  rw [AtL, if_neg (by omega)] at hA
  obtain ⟨m, hm, hA⟩ := hA
  obtain ⟨m, rfl⟩ : ∃ k, m = k + 1 := ⟨m - 1, by simp only [List.length_cons] at hm; omega⟩
  rw [AtL, if_neg (by omega), show min L 6 = L by omega]
  refine ⟨m, by simp only [List.length_cons, List.length_append] at hm ⊢; omega, ?_⟩
  have eT : ta ++ (t :: (xc ++ xg) ++ b1 :: br) ++ z :: zr = ta ++ t :: ((xc ++ xg) ++ b1 :: br ++ z :: zr) := by simp
  rw [eT, hA, rowF, rowEnd_here hL1.1 hL1.2 htk.1 hnum hop'.1 hL, if_neg (by decide)]
  have e3 : PS.hd ⟨t :: ((xc ++ xg) ++ b1 :: br ++ z :: zr), d, o ++ sa⟩ = t := rfl
  have e4 : PS.on ⟨t :: ((xc ++ xg) ++ b1 :: br ++ z :: zr), d, o ++ sa⟩ = ⟨xc ++ (xg ++ b1 :: (br ++ z :: zr)), d, o ++ sa⟩ := by simp [PS.on]
  have hgr := group_read (w1 := sOn) (w2 := sIgn) (k1 := 3) (k2 := 4) (by decide) hl hg hxg (a := b1) (by rintro ⟨e, h⟩; exact hb1k ⟨e, .inr h⟩) d (o ++ sa) (br ++ z :: zr)
  have hB := (hb.lev htb (n := n) (by omega) (d := d) (by omega) (o := o ++ sa) hs (zr := zr) (l := L + 1) (by omega) (by omega) (by omega) (by omega)).ok (by omega) (by omega) (by omega)
  have hB' : LP (L + 1) n ⟨b1 :: (br ++ z :: zr), d, o ++ sa⟩ = .ok ⟨z :: zr, d, o ++ sa ++ sb⟩ := hB
  simp only [e3, hnum, e4]
  have hbool : PS.boolN ⟨xc ++ (xg ++ b1 :: (br ++ z :: zr)), d, o ++ sa⟩ op = b ∧ (if b = true then PS.on ⟨xc ++ (xg ++ b1 :: (br ++ z :: zr)), d, o ++ sa⟩ else ⟨xc ++ (xg ++ b1 :: (br ++ z :: zr)), d, o ++ sa⟩) = ⟨xg ++ b1 :: (br ++ z :: zr), d, o ++ sa⟩ := by
    unfold cmpKs at hxc
    cases b with
    | true =>
      rw [if_pos rfl] at hxc
      obtain ⟨c, y, rfl, hcK, hy⟩ := keys_cons hxc
      obtain rfl := keys_nil hy
      obtain ⟨c1, c2⟩ := key_at hcK
      have := hc rfl
      simp only [cmpB, inB, Bool.and_eq_true, decide_eq_true_eq] at this
      refine ⟨?_, rfl⟩
      simp [PS.boolN, PS.is, PS.hd, c1, c2, this.1, this.2]
    | false =>
      rw [if_neg (by decide)] at hxc
      obtain rfl := keys_nil hxc
      refine ⟨?_, rfl⟩
      have hn : PS.is ⟨[] ++ (xg ++ b1 :: (br ++ z :: zr)), d, o ++ sa⟩ 3 sBool = false := by
        rw [Bool.eq_false_iff]
        intro h
        cases xg with
        | nil =>
          exact hb1k ⟨is_kind h, .inl (is_text h)⟩
        | cons y ys =>
          have h2 : y.text = sBool := is_text h
          unfold groupKs at hxg
          split at hxg
          · rw [List.map_cons] at hxg
            injection hxg with e _
            obtain ⟨_, e2⟩ := key_at e
            rw [e2] at h2
            exact absurd h2 (by decide)
          split at hxg
          · rw [List.map_cons] at hxg
            injection hxg with e _
            obtain ⟨_, e2⟩ := key_at e
            rw [e2] at h2
            exact absurd h2 (by decide)
          · cases hxg
      rw [PS.boolN, hn, Bool.and_false]
  rw [hbool.1, hbool.2, hgr]
  simp only [hB', PS.lay]
  rw [show o ++ (sa ++ sb ++ [binN op g l b]) = o ++ sa ++ sb ++ [binN op g l b] by simp]
end
section
/-! ## ShowC -/
open Go.RowKit

/-! ### matchers -/
theorem mats_all : ((List.range 5).all fun k => k == 0 || decide (numW matsL (matsL.getD k ByteArray.empty) = k)) = true := by decide +kernel
theorem mat_at {k : Int} (h : kindB k = true) : numW matsL (matsL.getD k.toNat ByteArray.empty) = k := by
  simp only [kindB, Bool.and_eq_true, decide_eq_true_eq] at h
  have h2 := List.all_eq_true.1 mats_all k.toNat (List.mem_range.2 (by omega))
  have e1 : (k.toNat == 0) = false := by simp; omega
  rw [e1, Bool.false_or] at h2
  simp only [decide_eq_true_eq] at h2
  omega
theorem matCode_iff {ms : List Mat} : matCode ms = 0 ↔ ms.length ≤ 8 ∧ ms.all matB = true := by
  unfold matCode
  split
  · constructor
    · intro h; cases h
    · rintro ⟨h, _⟩; omega
  · split
    · rename_i h1 h2; exact ⟨fun _ => ⟨by omega, h2⟩, fun _ => rfl⟩
    · rename_i h1 h2
      constructor
      · intro h; cases h
      · rintro ⟨_, h⟩; exact absurd h h2
theorem matCode_pre {a b : List Mat} (h : matCode (a ++ b) = 0) : matCode a = 0 := by
  rw [matCode_iff] at h ⊢
  rw [List.length_append, List.all_append, Bool.and_eq_true] at h
  exact ⟨by omega, h.2.1⟩
def matchTail : Bool → List Mat → List Key
  | _, [] => [(5, sUncurl, 0)]
  | true, m :: r => matKs m ++ matchTail false r
  | false, m :: r => (5, sComma, 0) :: (matKs m ++ matchTail false r)
theorem match_tail : ∀ (l : List Mat), commaK (l.map matKs) ++ [(5, sUncurl, 0)] = matchTail true l
  | [] => rfl
  | [m] => rfl
  | n :: m :: r => by
    have ih := match_tail (m :: r)
    have e : matchTail true (n :: m :: r) = matKs n ++ (5, sComma, 0) :: matchTail true (m :: r) := rfl
    rw [e, ← ih]
    show matKs n ++ (5, sComma, 0) :: commaK (matKs m :: r.map matKs) ++ [(5, sUncurl, 0)] = _
    simp
theorem match_len {l : List Mat} : ∀ b, l.length + 1 ≤ (matchTail b l).length := by
  induction l with
  | nil => intro b; cases b <;> decide
  | cons n r ih =>
    intro b
    have := ih false
    cases b <;> simp only [matchTail, List.length_cons, List.length_append, matKs] <;> omega
theorem matchersF_read (d : Nat) (o : List Nod) (zr : List Tok) : ∀ (l : List Mat) (f : Nat) (x : List Tok) (acc : List Mat) (b : Bool), x.map Tok.key = matchTail b l → matCode (acc ++ l) = 0 → l.length < f → matchersF f b ⟨x ++ zr, d, o⟩ acc = .ok (⟨zr, d, o⟩, acc ++ l)
  | [], f, x, acc, b, hx, _, hf => by
    obtain ⟨f, rfl⟩ : ∃ k, f = k + 1 := ⟨f - 1, by simp at hf; omega⟩
    have hx' : x.map Tok.key = [(5, sUncurl, 0)] := by cases b <;> exact hx
    obtain ⟨c, y, rfl, hc, hy⟩ := keys_cons hx'
    obtain rfl := keys_nil hy
    obtain ⟨h1, h2⟩ := key_at hc
    rw [matchersF, if_pos (by simp [PS.is, PS.hd, h1, h2])]
    simp [PS.on]
  | m :: r, f, x, acc, b, hx, hm, hf => by
    obtain ⟨f, rfl⟩ : ∃ k, f = k + 1 := ⟨f - 1, by simp at hf; omega⟩
    have hm2 : matCode (acc ++ [m]) = 0 := matCode_pre (b := r) (by simpa using hm)
    have hmB : matB m = true := by
      have := (matCode_iff.1 hm2).2
      rw [List.all_append, Bool.and_eq_true] at this
      simpa using this.2
    simp only [matB, Bool.and_eq_true] at hmB
    obtain ⟨⟨hkd, hnm⟩, _⟩ := hmB
    have hk0 : m.kind ≠ 0 := by
      simp only [kindB, Bool.and_eq_true, decide_eq_true_eq] at hkd
      omega
    have key : ∀ (t : Tok) (y : List Tok), (t :: y).map Tok.key = matKs m ++ matchTail false r → ∀ s : PS, s = ⟨t :: y ++ zr, d, o⟩ → (match s.name with
        | .error e => .error e
        | .ok (s2, nm) =>
          if s2.hd.kind ≠ 5 ∨ numW matsL s2.hd.text = 0 then .error s2.stuck
          else if s2.on.hd.kind ≠ 4 then .error s2.on.stuck
          else match addM acc ⟨numW matsL s2.hd.text, nm, s2.on.hd.text⟩ s2.on.hd.at_ with
            | .error e => .error e
            | .ok ms2 => matchersF f false s2.on.on ms2) = (.ok (⟨zr, d, o⟩, acc ++ m :: r) : Rp (PS × List Mat)) := by
      intro t y hy s hs
      subst hs
      obtain ⟨t1, y, e, ht1, hy⟩ := keys_cons hy
      injection e with e1 e2
      subst e1 e2
      obtain ⟨t2, y, rfl, ht2, hy⟩ := keys_cons hy
      obtain ⟨t3, y, rfl, ht3, hy⟩ := keys_cons hy
      obtain ⟨a1, a2⟩ := key_at ht1
      obtain ⟨b1, b2⟩ := key_at ht2
      obtain ⟨c1, c2⟩ := key_at ht3
      have hN : PS.name ⟨t :: t2 :: t3 :: y ++ zr, d, o⟩ = .ok (⟨t2 :: t3 :: y ++ zr, d, o⟩, m.name) := by
        rw [PS.name, if_pos ⟨by simp [PS.hd, a1], by simp [PS.hd, a2, hnm]⟩]
        simp [PS.on, PS.hd, a2]
      have e1 : PS.hd ⟨t2 :: t3 :: y ++ zr, d, o⟩ = t2 := rfl
      have e2 : PS.on ⟨t2 :: t3 :: y ++ zr, d, o⟩ = ⟨t3 :: y ++ zr, d, o⟩ := rfl
      have e3 : PS.hd ⟨t3 :: y ++ zr, d, o⟩ = t3 := rfl
      have e4 : PS.on ⟨t3 :: y ++ zr, d, o⟩ = ⟨y ++ zr, d, o⟩ := rfl
      have e5 : numW matsL t2.text = m.kind := by rw [b2]; exact mat_at hkd
      rw [hN]
      simp only [e1, e2, e3, e4, e5, b1, c1, c2]
      rw [if_neg (by rintro (h | h); exact h rfl; exact hk0 h), if_neg (by decide), addM, if_pos hm2]
      simp only
      rw [matchersF_read d o zr r f y (acc ++ [m]) false hy (by simpa using hm) (by simp at hf; omega)]
      simp
    have hne : ∀ (t : Tok) (y : List Tok), t.kind = 3 ∨ t.text = sComma → PS.is ⟨t :: y ++ zr, d, o⟩ 5 sUncurl = false := by
      intro t y h
      rw [Bool.eq_false_iff]
      intro h2
      have k1 : t.kind = 5 := is_kind h2
      have k2 : t.text = sUncurl := is_text h2
      rcases h with h | h
      · rw [h] at k1; cases k1
      · rw [h] at k2; exact absurd k2 (by decide)
    cases b with
    | true =>
      have hx2 := hx
      obtain ⟨t, y, rfl, ht, _⟩ := keys_cons hx
      obtain ⟨h1, _⟩ := key_at ht
      rw [matchersF, hne t y (.inl h1), if_neg (by decide)]
      simp only [PS.comma, if_true]
      exact key t y hx2 _ rfl
    | false =>
      obtain ⟨c, y, rfl, hc, hy⟩ := keys_cons hx
      have hy2 := hy
      obtain ⟨t, y, rfl, ht, _⟩ := keys_cons hy
      obtain ⟨h1, h2⟩ := key_at hc
      rw [matchersF, hne c _ (.inr h2), if_neg (by decide)]
      have e1 : PS.is ⟨c :: t :: y ++ zr, d, o⟩ 5 sComma = true := by simp [PS.is, PS.hd, h1, h2]
      simp only [PS.comma, Bool.false_eq_true, if_false, PS.sign, e1, if_true]
      exact key t y hy2 _ rfl
theorem braces_read {l : List Mat} (hm : matCode l = 0) {m1 m2 : List Mat} (e : l = m1 ++ m2) {x : List Tok} (hx : x.map Tok.key = bracesK m2) (d : Nat) (o : List Nod) (zr : List Tok) (word : Bool) : PS.sel2 ⟨x ++ zr, d, o⟩ word m1 = .ok (⟨zr, d, o⟩, l) := by
  rw [bracesK, match_tail] at hx
  obtain ⟨a, y, rfl, ha, hy⟩ := keys_cons hx
  obtain ⟨h1, h2⟩ := key_at ha
  have hlen : m2.length + 1 ≤ y.length := by
    have := congrArg List.length hy
    rw [List.length_map] at this
    rw [this]
    exact match_len true
  rw [PS.sel2, if_pos (by simp [PS.is, PS.hd, h1, h2])]
  show matchersF (y ++ zr).length true ⟨y ++ zr, d, o⟩ m1 = _
  rw [e] at hm ⊢
  exact matchersF_read d o zr m2 _ y m1 true hy hm (by rw [List.length_append]; omega)
/-! ### a select -/
theorem sel12_read {ms : List Mat} (hm : matCode ms = 0) {x : List Tok} (hx : x.map Tok.key = sel0K ms) {W : List Tok} {d : Nat} {o : List Nod} (hW : PS.is ⟨W, d, o⟩ 5 sCurl = false) :
    ∃ s1 m1, PS.sel1 ⟨x ++ W, d, o⟩ = .ok (s1, m1) ∧ s1.sel2 (PS.wordB ⟨x ++ W, d, o⟩) m1 = .ok (⟨W, d, o⟩, ms) := by
  unfold sel0K at hx
  by_cases hn : namedT ms = true
  · obtain ⟨m, r, rfl, k1, k2, k3, k4, k5, k6⟩ := named_word hn
    have hm0 : m = ⟨1, sNameN, m.val⟩ := by cases m; simp at k1 k2; subst k1 k2; rfl
    have hx' : ∃ (a : Tok) (y : List Tok), x = a :: y ∧ a.key = wordK m.val ∧ ((r = [] ∧ y = []) ∨ y.map Tok.key = bracesK r) := by
      by_cases hr : namedT (m :: r) = true ∧ restT (m :: r) = []
      · rw [if_pos hr, headK, if_pos hn, k5] at hx
        obtain ⟨a, y, rfl, ha, hy⟩ := keys_cons hx
        exact ⟨a, y, rfl, ha, .inl ⟨by rw [← k6]; exact hr.2, keys_nil hy⟩⟩
      · rw [if_neg hr, headK, if_pos hn, k5, k6] at hx
        obtain ⟨a, y, rfl, ha, hy⟩ := keys_cons hx
        exact ⟨a, y, rfl, ha, .inr hy⟩
    obtain ⟨a, y, rfl, ha, hy⟩ := hx'
    obtain ⟨h1, h2⟩ := key_at ha
    have hwb : PS.wordB ⟨a :: y ++ W, d, o⟩ = true := by simp [PS.wordB, PS.hd, h1, h2, k4]
    have hm1 : matCode [m] = 0 := matCode_pre (b := r) hm
    refine ⟨⟨y ++ W, d, o⟩, [m], ?_, ?_⟩
    · have e1 : PS.hd ⟨a :: y ++ W, d, o⟩ = a := rfl
      rw [PS.sel1, if_pos hwb, e1, h2, addM, List.nil_append, ← hm0, if_pos hm1]
      rfl
    · rw [hwb]
      rcases hy with ⟨rfl, rfl⟩ | hy
      · rw [List.nil_append, PS.sel2, hW]
        rfl
      · exact braces_read hm rfl hy d o W true
  · rw [if_neg (fun h => hn h.1), headK, if_neg hn, List.nil_append, restT, if_neg hn] at hx
    have hwb : PS.wordB ⟨x ++ W, d, o⟩ = false := by
      rw [bracesK] at hx
      obtain ⟨a, y, rfl, ha, _⟩ := keys_cons hx
      obtain ⟨h1, _⟩ := key_at ha
      simp [PS.wordB, PS.hd, h1]
    refine ⟨⟨x ++ W, d, o⟩, [], by rw [PS.sel1, hwb]; rfl, ?_⟩
    exact braces_read hm rfl hx d o W _
theorem stop_not {z : Tok} (hz : StopZ z) {k : Int} {t : ByteArray} (h1 : numW opsL t = 0) (h2 : t ≠ sC) (h3 : k ≠ 0) (zr : List Tok) (d : Nat) (o : List Nod) : PS.is ⟨z :: zr, d, o⟩ k t = false := by
  rw [Bool.eq_false_iff]
  intro h
  have e1 : z.kind = k := is_kind h
  have e2 : z.text = t := is_text h
  rcases hz with h | ⟨_, h⟩ | ⟨_, h⟩
  · exact h3 (by rw [← e1, h])
  · exact h2 (by rw [← e2, h])
  · rw [e2, h1] at h; exact absurd h (by decide)
theorem rdd_sel {k w b : Int} {ms : List Mat} (hm : matCode ms = 0) (hk : (k = 2 ∧ w = 0) ∨ (k = 3 ∧ 1 ≤ w)) (hb : 0 ≤ b) : Rdd (selK (selN k ms w b)) 7 0 [selN k ms w b] where
  row := by decide
  len := by
    unfold selK sel0K
    split
    · rename_i h
      rw [headK, if_pos h.1]
      simp
    · simp [bracesK]
      omega
  head := by
    unfold selK sel0K
    by_cases hn : namedT (selN k ms w b).mat = true
    · obtain ⟨m, r, e, k1, k2, k3, k4, k5, k6⟩ := named_word hn
      have hk3 : (3 : Int) = 3 → m.val ≠ sBool ∧ m.val ≠ sOn ∧ m.val ≠ sIgn := by
        intro _
        simp only [keptB, keptL, List.any_cons, Bool.or_eq_false_iff, decide_eq_false_iff_not] at k4
        obtain ⟨⟨⟨_, _, _, h4, h5, h6, _⟩, _⟩, _⟩ := k4
        exact ⟨h4, h5, h6⟩
      split
      · rw [headK, if_pos hn, k5]
        exact ⟨_, _, rfl, hk3⟩
      · rw [headK, if_pos hn, k5]
        exact ⟨_, _, rfl, hk3⟩
    · rw [if_neg (fun h => hn h.1), headK, if_neg hn]
      exact ⟨_, _, rfl, fun h => by cases h⟩
  read := by
    intro n d o toks z zr hkk hn hd hs hz
    obtain ⟨n, rfl⟩ : ∃ m, n = m + 1 := ⟨n - 1, by omega⟩
    refine AtL.six (by decide) ?_
    obtain ⟨x, xb, rfl, hx, hxb⟩ := keys_app hkk
    obtain ⟨x0, xr, rfl, hx0, hxr⟩ := keys_app hx
    rw [List.append_assoc, List.append_assoc]
    -- behind the matchers
    have s4 : PS.sel4 ⟨xb ++ z :: zr, d, o⟩ = .ok (⟨z :: zr, d, o⟩, b) := by
      unfold backK at hxb
      by_cases h0 : 0 < (selN k ms w b).back
      · rw [if_pos h0] at hxb
        obtain ⟨t1, y, rfl, ht1, hy⟩ := keys_cons hxb
        obtain ⟨t2, y, rfl, ht2, hy⟩ := keys_cons hy
        obtain rfl := keys_nil hy
        obtain ⟨a1, a2⟩ := key_at ht1
        obtain ⟨b1, _⟩ := key_at ht2
        have b3 : t2.span = b.toNat := congrArg (fun q => q.2.2) ht2
        rw [PS.sel4, if_pos (by simp [PS.is, PS.hd, a1, a2])]
        simp [PS.span, PS.on, PS.hd, b1, b3, Int.toNat_of_nonneg hb]
      · rw [if_neg h0] at hxb
        obtain rfl := keys_nil hxb
        have hb0 : b = 0 := by
          have : ¬ 0 < b := h0
          omega
        rw [PS.sel4, List.nil_append, stop_not hs (by kernel_rfl) (by decide) (by decide), hb0]
        rfl
    have hxb0 : ∀ (kd : Int) (t : ByteArray), kd = 5 → numW opsL t = 0 → t ≠ sC → PS.is ⟨xb ++ z :: zr, d, o⟩ kd t = false := by
      intro kd t hkd ht1 ht2
      unfold backK at hxb
      split at hxb
      · obtain ⟨t1, y, rfl, ht1, hy⟩ := keys_cons hxb
        obtain ⟨a1, a2⟩ := key_at ht1
        simp [PS.is, PS.hd, a1, hkd]
      · obtain rfl := keys_nil hxb
        exact stop_not hs ht1 ht2 (by omega) zr d o
    have s3 : PS.sel3 ⟨xr ++ (xb ++ z :: zr), d, o⟩ = .ok (⟨xb ++ z :: zr, d, o⟩, k, w) := by
      unfold rangeK at hxr
      by_cases h3 : (selN k ms w b).kind = 3
      · rw [if_pos h3] at hxr
        have hk3 : k = 3 := h3
        have hw : 0 ≤ w := by omega
        obtain ⟨t1, y, rfl, ht1, hy⟩ := keys_cons hxr
        obtain ⟨t2, y, rfl, ht2, hy⟩ := keys_cons hy
        obtain ⟨t3, y, rfl, ht3, hy⟩ := keys_cons hy
        obtain rfl := keys_nil hy
        obtain ⟨a1, a2⟩ := key_at ht1
        obtain ⟨b1, _⟩ := key_at ht2
        obtain ⟨c1, c2⟩ := key_at ht3
        have b3 : t2.span = w.toNat := congrArg (fun q => q.2.2) ht2
        rw [PS.sel3, if_pos (by simp [PS.is, PS.hd, a1, a2])]
        simp [PS.span, PS.on, PS.hd, b1, b3, PS.sign, PS.is, c1, c2, Int.toNat_of_nonneg hw, hk3]
      · rw [if_neg h3] at hxr
        obtain rfl := keys_nil hxr
        have hk3 : ¬ k = 3 := h3
        obtain ⟨e1, e2⟩ : k = 2 ∧ w = 0 := by omega
        rw [PS.sel3, List.nil_append, hxb0 5 sSq rfl (by kernel_rfl) (by decide), e1, e2]
        rfl
    have hcurl : PS.is ⟨xr ++ (xb ++ z :: zr), d, o⟩ 5 sCurl = false := by
      unfold rangeK at hxr
      split at hxr
      · obtain ⟨t1, y, rfl, ht1, hy⟩ := keys_cons hxr
        obtain ⟨a1, a2⟩ := key_at ht1
        simp [PS.is, PS.hd, a1, a2, sCurl, sSq]
      · obtain rfl := keys_nil hxr
        exact hxb0 5 sCurl rfl (by kernel_rfl) (by decide)
    obtain ⟨s1, m1, e1, e2⟩ := sel12_read hm hx0 hcurl
    have hch : chooseP ⟨x0 ++ (xr ++ (xb ++ z :: zr)), d, o⟩ = .ok ⟨z :: zr, d, o ++ [selN k ms w b]⟩ := by
      rw [chooseP, e1]
      simp only [e2, s3, s4]
      rfl
    rw [← hch]
    -- ahead
    have hfirst : ∃ (a : Tok) (y : List Tok), x0 = a :: y ∧ (a.kind = 3 ∧ keptB a.text = false ∨ a.kind = 5 ∧ a.text = sCurl) := by
      unfold sel0K at hx0
      by_cases hn : namedT (selN k ms w b).mat = true
      · obtain ⟨m, r, _, _, _, _, k4, k5, _⟩ := named_word hn
        have : ∃ q, x0.map Tok.key = wordK m.val :: q := by
          split at hx0
          · rw [headK, if_pos hn, k5] at hx0; exact ⟨_, hx0⟩
          · rw [headK, if_pos hn, k5] at hx0; exact ⟨_, hx0⟩
        obtain ⟨q, hq⟩ := this
        obtain ⟨a, y, rfl, ha, _⟩ := keys_cons hq
        obtain ⟨h1, h2⟩ := key_at ha
        exact ⟨a, y, rfl, .inl ⟨h1, by rw [h2]; exact k4⟩⟩
      · rw [if_neg (fun h => hn h.1), headK, if_neg hn, bracesK] at hx0
        obtain ⟨a, y, rfl, ha, _⟩ := keys_cons hx0
        obtain ⟨h1, h2⟩ := key_at ha
        exact ⟨a, y, rfl, .inr ⟨h1, h2⟩⟩
    obtain ⟨a, y, rfl, hfa⟩ := hfirst
    have e3 : PS.hd ⟨a :: y ++ (xr ++ (xb ++ z :: zr)), d, o⟩ = a := rfl
    have n1 : PS.is ⟨a :: y ++ (xr ++ (xb ++ z :: zr)), d, o⟩ 5 sMinus = false := by
      rcases hfa with ⟨h, _⟩ | ⟨_, h⟩ <;> simp [PS.is, PS.hd, h, sCurl, sMinus]
    have n2 : PS.is ⟨a :: y ++ (xr ++ (xb ++ z :: zr)), d, o⟩ 5 sO = false := by
      rcases hfa with ⟨h, _⟩ | ⟨_, h⟩ <;> simp [PS.is, PS.hd, h, sCurl, sO]
    have n3 : ¬ (a.kind = 3 ∧ 0 < numW funcsL a.text) := by
      rintro ⟨q1, q2⟩
      rcases hfa with ⟨_, h⟩ | ⟨h, _⟩
      · have := (numW_not h).1; omega
      · omega
    have n4 : ¬ (a.kind = 3 ∧ 0 < numW aggsL a.text) := by
      rintro ⟨q1, q2⟩
      rcases hfa with ⟨_, h⟩ | ⟨h, _⟩
      · have := (numW_not h).2; omega
      · omega
    rw [unaryP, n1, if_neg (by decide), oneP, e3, if_neg (by omega), n2, if_neg (by decide), if_neg n3, if_neg n4]
end
section
/-! ## ShowT -/
open Go.RowKit

/-- A part's text is cut, and read as these nodes. -/
def SdOk (s : Sd) (seg : List Nod) : Prop := ∃ (ks : List Key) (r dp : Nat), s.row = (r : Int) ∧ s.deep = (dp : Int) ∧ Lx Cuts s.text.data.toList ks ∧ Rdd ks r dp seg
theorem lx_inside {w : List UInt8} {kw : List Key} (hw : Lx Cuts w kw) {t : List UInt8} {ks : List Key} (h : Lx Cuts t ks) : Lx Cuts (w ++ ([40] ++ (t ++ [41]))) (kw ++ (openK :: (ks ++ [closeK]))) :=
  (hw.app (lx_open.app_any (h.app lx_close (fun z s e => by injection e with e _; subst e; exact cuts_41) (by simp))) (fun z s e => by injection e with e _; subst e; exact cuts_40) (List.cons_ne_nil _ _)).any
theorem inside_data (s : Sd) (w : ByteArray) : (s.inside w).text.data.toList = w.data.toList ++ ([40] ++ (s.text.data.toList ++ [41])) := by
  show (w ++ sO ++ s.text ++ sC).data.toList = _
  rw [app_data, app_data, app_data, List.append_assoc, List.append_assoc]
  rfl
theorem SdOk.within {s : Sd} {seg : List Nod} (h : SdOk s seg) (k : Int) (hk : k ≤ 7) : ∃ (ks : List Key) (r dp : Nat), (s.within k).row = (r : Int) ∧ (s.within k).deep = (dp : Int) ∧ Lx Cuts (s.within k).text.data.toList ks ∧ Rdd ks r dp seg ∧ k ≤ (r : Int) := by
  obtain ⟨ks, r, dp, h1, h2, h3, h4⟩ := h
  unfold Sd.within
  by_cases hr : k ≤ s.row
  · rw [if_pos hr]
    exact ⟨ks, r, dp, h1, h2, h3, h4, by omega⟩
  · rw [if_neg hr]
    refine ⟨_, 7, dp + 1, rfl, by show s.deep + 1 = _; rw [h2]; rfl, ?_, rdd_bracket h4, by omega⟩
    rw [inside_data]
    exact lx_inside (kw := []) Lx.nil h3
theorem lx_word8 {l : List UInt8} {w : ByteArray} (h : lexesB l [wordK w] = true) : Lx AnyP (l ++ [32]) [wordK w] :=
  (lx_of h).app lx_blank (fun z s e => by injection e with e _; subst e; exact cuts_32) (by simp)
theorem lx_on : Lx AnyP sOnB.data.toList [wordK sOn] := lx_word8 (l := [32, 111, 110]) (by kernel_rfl)
theorem lx_ign : Lx AnyP sIgnB.data.toList [wordK sIgn] := lx_word8 (l := [32, 105, 103, 110, 111, 114, 105, 110, 103]) (by kernel_rfl)
theorem lx_by : Lx AnyP sByB.data.toList [wordK sBy] := lx_word8 (l := [32, 98, 121]) (by kernel_rfl)
theorem lx_without : Lx AnyP sWithoutB.data.toList [wordK sWithout] := lx_word8 (l := [32, 119, 105, 116, 104, 111, 117, 116]) (by kernel_rfl)
theorem lx_bool : Lx Cuts sBoolB.data.toList [wordK sBool] := lx_of (by kernel_rfl)
theorem opsx_all : ((List.range 14).all fun k => k == 0 || lexesB (opT k).data.toList [opK k]) = true := by kernel_rfl
theorem lx_op {k : Int} (h : inB 1 13 k = true) : Lx Cuts (opT k).data.toList [opK k] := by
  simp only [inB, Bool.and_eq_true, decide_eq_true_eq] at h
  have h2 := List.all_eq_true.1 opsx_all k.toNat (List.mem_range.2 (by omega))
  have e1 : (k.toNat == 0) = false := by simp; omega
  rw [e1, Bool.false_or, show ((k.toNat : Nat) : Int) = k by omega] at h2
  exact lx_of h2
/-- A blank, and what stands behind. -/
def Bl (l : List UInt8) : Prop := ∃ r, l = 32 :: r
theorem Bl.cuts {l : List UInt8} (h : Bl l) : ∀ x r, l = x :: r → Cuts x := by
  obtain ⟨r, rfl⟩ := h
  intro x s e
  injection e with e _
  subst e
  exact cuts_32
theorem Bl.ne {l : List UInt8} (h : Bl l) : l ≠ [] := by obtain ⟨r, rfl⟩ := h; simp
def grpB (g : Int) (l : List ByteArray) : ByteArray := if g = 3 then sOnB ++ namesT l else if g = 4 then sIgnB ++ namesT l else ByteArray.empty
theorem lx_binMid {op g : Int} {l : List ByteArray} {b : Bool} (hop : inB 1 13 op = true) (hl : l.all nameB = true) {t : List UInt8} {kt : List Key} (ht : Lx Cuts t kt) :
    Lx Cuts ((binMid (binN op g l b)).data.toList ++ ([32] ++ t)) (binKs op g l b ++ kt) ∧ Bl ((binMid (binN op g l b)).data.toList ++ ([32] ++ t)) := by
  have h0 : Lx Cuts ([32] ++ t) kt := lx_blank.app_any ht
  have hg : Lx Cuts ((grpB g l).data.toList ++ ([32] ++ t)) (groupKs sOn sIgn 3 4 g l ++ kt) ∧ Bl ((grpB g l).data.toList ++ ([32] ++ t)) := by
    unfold grpB groupKs
    by_cases h3 : g = 3
    · rw [if_pos h3, if_pos h3, app_data, List.append_assoc]
      exact ⟨lx_on.app_any ((lx_names hl).app_any h0), _, rfl⟩
    rw [if_neg h3, if_neg h3]
    by_cases h4 : g = 4
    · rw [if_pos h4, if_pos h4, app_data, List.append_assoc]
      exact ⟨lx_ign.app_any ((lx_names hl).app_any h0), _, rfl⟩
    rw [if_neg h4, if_neg h4]
    exact ⟨h0, _, rfl⟩
  have hc : ∃ cb : List UInt8, (binMid (binN op g l b)).data.toList = [32] ++ ((opT op).data.toList ++ (cb ++ (grpB g l).data.toList)) ∧ Lx Cuts (cb ++ ((grpB g l).data.toList ++ ([32] ++ t))) (cmpKs b ++ (groupKs sOn sIgn 3 4 g l ++ kt)) ∧ Bl (cb ++ ((grpB g l).data.toList ++ ([32] ++ t))) := by
    cases b with
    | true =>
      refine ⟨sBoolB.data.toList, ?_, lx_bool.app hg.1 hg.2.cuts hg.2.ne, _, rfl⟩
      show ((sBlank ++ opT op ++ sBoolB) ++ grpB g l).data.toList = _
      simp only [app_data, List.append_assoc]
      rfl
    | false =>
      refine ⟨[], ?_, hg.1, hg.2⟩
      show ((sBlank ++ opT op) ++ grpB g l).data.toList = _
      simp only [app_data, List.append_assoc]
      rfl
  obtain ⟨cb, e, h1, h2⟩ := hc
  rw [e]
  have e2 : [32] ++ ((opT op).data.toList ++ (cb ++ (grpB g l).data.toList)) ++ ([32] ++ t) = [32] ++ ((opT op).data.toList ++ (cb ++ ((grpB g l).data.toList ++ ([32] ++ t)))) := by simp
  rw [e2]
  have e3 : binKs op g l b ++ kt = [] ++ ([opK op] ++ (cmpKs b ++ (groupKs sOn sIgn 3 4 g l ++ kt))) := by simp [binKs]
  rw [e3]
  exact ⟨lx_blank.app_any ((lx_op hop).app h1 h2.cuts h2.ne), _, rfl⟩
theorem sdok_bin {a b : Sd} {sa sb : List Nod} (ha : SdOk a sa) (hb : SdOk b sb) {op g : Int} {l : List ByteArray} {c : Bool} (hop : inB 1 13 op = true) (hl : l.all nameB = true) (hg : g = 3 ∨ g = 4 ∨ (g = 0 ∧ l = [])) (hc : c = true → cmpB op = true) :
    SdOk (binT (binN op g l c) a b) (sa ++ sb ++ [binN op g l c]) := by
  have hop' : 1 ≤ op ∧ op ≤ 13 := by simpa [inB] using hop
  have hrow := row_at hop'.1 hop'.2 (l := 1) (by decide) (by decide)
  obtain ⟨ka, ra, da, a1, a2, a3, a4, a5⟩ := ha.within (rowN op) (by omega)
  obtain ⟨kb, rb, db, b1, b2, b3, b4, b5⟩ := hb.within (rowN op + 1) (by omega)
  refine ⟨ka ++ (binKs op g l c ++ kb), (rowN op).toNat, max da db, ?_, ?_, ?_, rdd_bin a4 b4 hop hl hg hc a5 b5⟩
  · show rowN op = _
    omega
  · show max (a.within (rowN op)).deep (b.within (rowN op + 1)).deep = _
    rw [a2, b2]
    omega
  · obtain ⟨h1, h2⟩ := lx_binMid (g := g) (b := c) hop hl b3
    show Lx Cuts ((a.within (rowN op)).text ++ binMid (binN op g l c) ++ sBlank ++ (b.within (rowN op + 1)).text).data.toList _
    rw [app_data, app_data, app_data, List.append_assoc, List.append_assoc]
    exact a3.app h1 h2.cuts h2.ne
theorem sdok_neg {a : Sd} {sa : List Nod} (ha : SdOk a sa) : SdOk (negT a) (sa ++ [negN]) := by
  obtain ⟨ka, ra, da, a1, a2, a3, a4, a5⟩ := ha.within 6 (by decide)
  refine ⟨(5, sMinus, 0) :: ka, 6, da + 1, rfl, by show (a.within 6).deep + 1 = _; rw [a2]; rfl, ?_, rdd_neg a4 (by omega)⟩
  show Lx Cuts (sMinus ++ (a.within 6).text).data.toList _
  rw [app_data]
  exact lx_minus.app_any a3
theorem sdok_call {a : Sd} {sa : List Nod} (ha : SdOk a sa) {f : Int} (hf : inB 1 12 f = true) : SdOk (a.inside (funcW f)) (sa ++ [callN f]) := by
  obtain ⟨ka, ra, da, a1, a2, a3, a4⟩ := ha
  refine ⟨wordK (funcW f) :: openK :: (ka ++ [closeK]), 7, da + 1, rfl, by show a.deep + 1 = _; rw [a2]; rfl, ?_, rdd_call a4 hf⟩
  rw [inside_data]
  exact lx_inside (lx_word (func_at hf).2.1).word a3
theorem sdok_agg {a : Sd} {sa : List Nod} (ha : SdOk a sa) {f g : Int} {l : List ByteArray} (hf : inB 1 5 f = true) (hl : l.all nameB = true) (hg : g = 1 ∨ g = 2 ∨ (g = 0 ∧ l = [])) : SdOk (a.inside (aggW (aggN f g l))) (sa ++ [aggN f g l]) := by
  obtain ⟨ka, ra, da, a1, a2, a3, a4⟩ := ha
  refine ⟨wordK (aggsW f) :: (groupKs sBy sWithout 1 2 g l ++ openK :: (ka ++ [closeK])), 7, da + 1, rfl, by show a.deep + 1 = _; rw [a2]; rfl, ?_, rdd_agg a4 hf hl hg⟩
  rw [inside_data]
  have hw := (lx_word (agg_at hf).2.2.1).word
  have key : Lx Cuts (aggW (aggN f g l)).data.toList (wordK (aggsW f) :: groupKs sBy sWithout 1 2 g l) := by
    unfold groupKs
    show Lx Cuts (aggsW f ++ (if g = 1 then sByB ++ namesT l ++ sBlank else if g = 2 then sWithoutB ++ namesT l ++ sBlank else ByteArray.empty)).data.toList _
    by_cases h1 : g = 1
    · rw [if_pos h1, if_pos h1, app_data, app_data, app_data, List.append_assoc]
      have := (lx_by.app_any ((lx_names hl).app_any lx_blank)).any (Q := Cuts)
      rw [List.append_nil] at this
      exact hw.app this (fun z s e => by injection e with e _; subst e; exact cuts_32) (List.cons_ne_nil _ _)
    rw [if_neg h1, if_neg h1]
    by_cases h2 : g = 2
    · rw [if_pos h2, if_pos h2, app_data, app_data, app_data, List.append_assoc]
      have := (lx_without.app_any ((lx_names hl).app_any lx_blank)).any (Q := Cuts)
      rw [List.append_nil] at this
      exact hw.app this (fun z s e => by injection e with e _; subst e; exact cuts_32) (List.cons_ne_nil _ _)
    rw [if_neg h2, if_neg h2, ByteArray.append_empty]
    exact hw
  exact lx_inside key a3
theorem sdok_num {t : ByteArray} (h : numB t.data.toList = true) : SdOk ⟨t, 7, 0⟩ [numN t] := ⟨[(1, t, 0)], 7, 0, rfl, rfl, (lx_num h).num, rdd_num⟩
theorem sdok_sel {k w b : Int} {ms : List Mat} (hm : matCode ms = 0) (hc : ∀ m ∈ ms, cleanB m.val = true) (hk : (k = 2 ∧ w = 0) ∨ (k = 3 ∧ 1 ≤ w ∧ w < 2147483648)) (hb : 0 ≤ b) (hb2 : b < 2147483648) : SdOk ⟨selT (selN k ms w b), 7, 0⟩ [selN k ms w b] :=
  ⟨selK (selN k ms w b), 7, 0, rfl, rfl, lx_sel (fun m hm2 => ⟨List.all_eq_true.1 (matCode_iff.1 hm).2 m hm2, hc m hm2⟩) (fun h => by have h3 : k = 3 := h; show 1 ≤ w ∧ w < 2147483648; omega) hb2, rdd_sel hm (by omega) hb⟩
/-! ### nodes -/
theorem form_node {n : Nod} (h : formB n = true) :
    (n = numN n.text ∧ numB n.text.data.toList = true) ∨
    ((n.kind = 2 ∨ n.kind = 3) ∧ n = selN n.kind n.mat n.width n.back ∧ ((n.kind = 2 ∧ n.width = 0) ∨ (n.kind = 3 ∧ 1 ≤ n.width ∧ n.width < 2147483648)) ∧ 0 ≤ n.back ∧ n.back < 2147483648) ∨
    (n = callN n.op ∧ inB 1 12 n.op = true) ∨
    (n = aggN n.op n.grp n.names ∧ inB 1 5 n.op = true ∧ n.names.all nameB = true ∧ (n.grp = 1 ∨ n.grp = 2 ∨ (n.grp = 0 ∧ n.names = []))) ∨
    (n = binN n.op n.grp n.names n.cmp ∧ inB 1 13 n.op = true ∧ n.names.all nameB = true ∧ (n.grp = 3 ∨ n.grp = 4 ∨ (n.grp = 0 ∧ n.names = [])) ∧ (n.cmp = true → cmpB n.op = true)) ∨
    n = negN := by
  obtain ⟨kind, op, text, mat, width, back, grp, names, cmp, parts⟩ := n
  simp only [formB, Bool.and_eq_true] at h
  obtain ⟨⟨⟨h1, h2⟩, h3⟩, h4⟩ := h
  unfold kindOk at h4
  unfold plainB bareN at h1
  unfold nodeNames at h2
  simp only [Bool.and_eq_true, Bool.or_eq_true, decide_eq_true_eq, Bool.not_eq_true', decide_eq_false_iff_not] at h1 h2 h3 h4
  by_cases k1 : kind = 1
  · subst k1
    simp at h1 h2 h3 h4
    obtain ⟨rfl, rfl, rfl, rfl, rfl, rfl⟩ : op = 0 ∧ width = 0 ∧ back = 0 ∧ grp = 0 ∧ cmp = false ∧ parts = 0 := by simp_all
    refine .inl ⟨?_, h4⟩
    simp [numN, h3]
    simpa using h2.2
  by_cases k23 : kind = 2 ∨ kind = 3
  · refine .inr (.inl ⟨k23, ?_⟩)
    rcases k23 with rfl | rfl
    · simp [spanB] at h1 h2 h3 h4
      simp_all [selN]
    · simp [spanB] at h1 h2 h3 h4
      simp_all [selN]
  have k2 : ¬ kind = 2 := fun h => k23 (.inl h)
  have k3 : ¬ kind = 3 := fun h => k23 (.inr h)
  have hm : mat = [] := by rcases h3 with (h | h) | h; exact h; exact absurd h k2; exact absurd h k3
  subst hm
  by_cases k4 : kind = 4
  · subst k4
    simp at h1 h2 h4
    refine .inr (.inr (.inl ?_))
    simp_all [callN]
  by_cases k5 : kind = 5
  · subst k5
    simp at h1 h2 h4
    refine .inr (.inr (.inr (.inl ?_)))
    simp_all [aggN]
    have h5 := h4.2
    simp only [inB, Bool.and_eq_true, decide_eq_true_eq] at h5
    have h6 : grp = 0 ∨ grp = 1 ∨ grp = 2 := by omega
    rcases h6 with h | h | h
    · exact .inr (.inr ⟨h, h2.2.resolve_right fun g => g h⟩)
    · exact .inl h
    · exact .inr (.inl h)
  by_cases k6 : kind = 6
  · subst k6
    simp at h1 h2 h4
    refine .inr (.inr (.inr (.inr (.inl ?_))))
    simp_all [binN]
    refine ⟨?_, fun hc => h4.2.resolve_left (by rw [hc]; decide)⟩
    rcases h4.1.2 with (h | h) | h
    · exact .inr (.inr ⟨h, h2.2.resolve_right fun g => g h⟩)
    · exact .inl h
    · exact .inr (.inl h)
  by_cases k7 : kind = 7
  · subst k7
    simp at h1 h2 h4
    refine .inr (.inr (.inr (.inr (.inr ?_))))
    simp_all [negN]
  simp [k1, k2, k3, k4, k5, k6, k7] at h4
/-! ### any tree -/
theorem dropLen {α : Type} {l : List α} {c : Nat} : l.length - c ≤ l.length := Nat.sub_le _ _
/-- A node over parts that are read. -/
theorem sdok_say {n : Nod} (hf : formB n = true) (hm : matCode n.mat = 0) (hc : (n.mat.all fun m => cleanB m.val) = true) {p : List (Sd × List Nod)} (hp : ∀ x ∈ p, SdOk x.1 x.2) (hl : (p.length : Int) = n.parts) :
    SdOk (sayT n (p.map Prod.fst)) ((p.map Prod.snd).flatten ++ [n]) := by
  rcases form_node hf with ⟨e, h⟩ | ⟨hk, e, h1, h2, h3⟩ | ⟨e, h⟩ | ⟨e, h1, h2, h3⟩ | ⟨e, h1, h2, h3, h4⟩ | e
  · have hp0 : p = [] := List.length_eq_zero_iff.1 (by rw [e] at hl; simp [numN] at hl; simpa using hl)
    subst hp0
    rw [e]
    exact sdok_num h
  · have hp0 : p = [] := List.length_eq_zero_iff.1 (by rw [e] at hl; simp [selN] at hl; simpa using hl)
    subst hp0
    have := sdok_sel hm (fun m hm2 => List.all_eq_true.1 hc m hm2) h1 h2 h3
    rw [← e] at this
    have e2 : sayT n (([] : List (Sd × List Nod)).map Prod.fst) = ⟨selT n, 7, 0⟩ := by
      rw [sayT, if_neg (by omega), if_pos hk]
    rw [e2]
    exact this
  · have hp1 : ∃ a, p = [a] := List.length_eq_one_iff.1 (by rw [e] at hl; simp [callN] at hl; omega)
    obtain ⟨a, rfl⟩ := hp1
    have := sdok_call (hp a List.mem_cons_self) h
    have e2 : sayT (callN n.op) [a.1] = a.1.inside (funcW n.op) := rfl
    rw [e]
    simpa [e2] using this
  · have hp1 : ∃ a, p = [a] := List.length_eq_one_iff.1 (by rw [e] at hl; simp [aggN] at hl; omega)
    obtain ⟨a, rfl⟩ := hp1
    have := sdok_agg (hp a List.mem_cons_self) h1 h2 h3
    have e2 : sayT (aggN n.op n.grp n.names) [a.1] = a.1.inside (aggW (aggN n.op n.grp n.names)) := rfl
    rw [e]
    simpa [e2] using this
  · have hp2 : p.length = 2 := by rw [e] at hl; simp [binN] at hl; omega
    obtain ⟨a, b, rfl⟩ : ∃ a b, p = [a, b] := by
      match p, hp2 with
      | [a, b], _ => exact ⟨a, b, rfl⟩
    have := sdok_bin (hp a List.mem_cons_self) (hp b (List.mem_cons_of_mem _ List.mem_cons_self)) h1 h2 h3 h4
    have e2 : sayT (binN n.op n.grp n.names n.cmp) [a.1, b.1] = binT (binN n.op n.grp n.names n.cmp) a.1 b.1 := rfl
    rw [e]
    simpa [e2] using this
  · have hp1 : ∃ a, p = [a] := List.length_eq_one_iff.1 (by rw [e] at hl; simp [negN] at hl; omega)
    obtain ⟨a, rfl⟩ := hp1
    have := sdok_neg (hp a List.mem_cons_self)
    have e2 : sayT negN [a.1] = negT a.1 := rfl
    rw [e]
    simpa [e2] using this
theorem stepN_parts {st : List Int} {n : Nod} (h : (stepN st n).1 = 0) : formB n = true ∧ matCode n.mat = 0 ∧ n.parts ≤ (st.length : Int) ∧ (stepN st n).2.length = st.length - n.parts.toNat + 1 := by
  unfold stepN at h ⊢
  by_cases h1 : formB n = false ∨ (st.length : Int) < n.parts
  · rw [if_pos h1] at h; simp at h
  rw [if_neg h1] at h ⊢
  by_cases h2 : matCode n.mat ≠ 0
  · rw [if_pos h2] at h; simp at h
  rw [if_neg h2] at h ⊢
  refine ⟨by cases hh : formB n with
    | false => exact absurd (.inl hh) h1
    | true => rfl, by simpa using h2, by omega, ?_⟩
  simp only [List.length_append, List.length_take, List.length_singleton]
  omega
theorem show_inv : ∀ (ns : List Nod) (k : Nat) (tst tst' : List Int) (ps : List (Sd × List Nod)) (st' : List Sd), tst.length = ps.length → (∀ x ∈ ps, SdOk x.1 x.2 ∧ x.1.over = false) → runN' ns k tst = .ok tst' → mayB ns = true → showF ns (ps.map Prod.fst) = some st' →
    ∃ ps' : List (Sd × List Nod), st' = ps'.map Prod.fst ∧ (∀ x ∈ ps', SdOk x.1 x.2 ∧ x.1.over = false) ∧ (ps'.map Prod.snd).flatten = (ps.map Prod.snd).flatten ++ ns ∧ tst'.length = ps'.length
  | [], k, tst, tst', ps, st', hl, hp, hr, _, hs => by
    injection hr with hr
    injection hs with hs
    subst hr hs
    exact ⟨ps, rfl, hp, by simp, hl⟩
  | n :: r, k, tst, tst', ps, st', hl, hp, hr, hm, hs => by
    rw [runN'] at hr
    by_cases h0 : (stepN tst n).1 = 0
    · rw [if_pos h0] at hr
      obtain ⟨h1, h2, h3, h4⟩ := stepN_parts h0
      obtain ⟨p1, p2, _, _⟩ := formB_parts h1
      rw [mayB, List.all_cons, Bool.and_eq_true] at hm
      rw [showF] at hs
      have hcut : cutT (ps.map Prod.fst) n = ps.length - n.parts.toNat := by rw [cutT, List.length_map]
      rw [hcut] at hs
      split at hs
      · cases hs
      rename_i ho
      have hd : ((ps.drop (ps.length - n.parts.toNat)).length : Int) = n.parts := by rw [List.length_drop]; omega
      have hsay := sdok_say h1 h2 hm.1 (p := ps.drop (ps.length - n.parts.toNat)) (fun x hx => (hp x (List.mem_of_mem_drop hx)).1) hd
      rw [List.map_drop] at hsay
      obtain ⟨ps', e1, e2, e3, e4⟩ := show_inv r (k + 1) _ tst' (ps.take (ps.length - n.parts.toNat) ++ [(sayT n ((ps.map Prod.fst).drop (ps.length - n.parts.toNat)), ((ps.drop (ps.length - n.parts.toNat)).map Prod.snd).flatten ++ [n])]) st'
        (by rw [h4, List.length_append, List.length_take, List.length_singleton]; omega)
        (fun x hx => by
          rcases List.mem_append.1 hx with hx | hx
          · exact hp x (List.mem_of_mem_take hx)
          · rw [List.mem_singleton] at hx
            subst hx
            exact ⟨hsay, by simpa using ho⟩) hr hm.2 (by rw [← hs, List.map_append, List.map_take]; rfl)
      refine ⟨ps', e1, e2, ?_, e4⟩
      rw [e3, List.map_append, List.flatten_append]
      have hf : (ps.map Prod.snd).flatten = ((ps.take (ps.length - n.parts.toNat)).map Prod.snd).flatten ++ ((ps.drop (ps.length - n.parts.toNat)).map Prod.snd).flatten := by
        rw [← List.flatten_append, ← List.map_append, List.take_append_drop]
      rw [hf]
      simp
    · rw [if_neg h0] at hr; cases hr
theorem showT_ok {ns : List Nod} {t : ByteArray} (h : showT ns = (t, 0)) : ∃ s : Sd, s.text = t ∧ SdOk s ns ∧ s.over = false ∧ ∃ k, checkN ns = (k, 0, 0) := by
  unfold showT at h
  by_cases h1 : (checkN ns).2.2 ≠ 0 ∨ mayB ns = false
  · rw [if_pos h1] at h; injection h with _ h; cases h
  rw [if_neg h1] at h
  have hc : (checkN ns).2.2 = 0 := by
    by_cases q : (checkN ns).2.2 = 0
    · exact q
    · exact absurd (.inl q) h1
  have hmay : mayB ns = true := by
    cases q : mayB ns with
    | true => rfl
    | false => exact absurd (.inr q) h1
  have hck : checkN ns = ((checkN ns).1, (checkN ns).2.1, 0) := by rw [← hc]
  obtain ⟨r1, _, r3, _⟩ := checkN_ok hck
  cases hs : showF ns [] with
  | none => rw [hs] at h; injection h with _ h; cases h
  | some st =>
    rw [hs] at h
    injection h with h _
    obtain ⟨ps, e1, e2, e3, e4⟩ := show_inv ns 0 [] _ [] st rfl (fun x hx => by cases hx) r1 hmay hs
    obtain ⟨a, rfl⟩ : ∃ a, ps = [a] := List.length_eq_one_iff.1 e4.symm
    subst e1
    refine ⟨a.1, h, ?_, (e2 a List.mem_cons_self).2, (checkN ns).1, by rw [hck, r3]⟩
    have := (e2 a List.mem_cons_self).1
    simp at e3
    rw [e3] at this
    exact this
/-- A tree's text is read back as the tree. -/
theorem show_parse {ns : List Nod} {t : ByteArray} (h : showT ns = (t, 0)) : parseR t = (ns, 0, 0) := by
  obtain ⟨s, rfl, ⟨ks, r, dp, h1, h2, h3, h4⟩, h5, _⟩ := showT_ok h
  simp only [Sd.over, Bool.or_eq_false_iff, decide_eq_false_iff_not] at h5
  obtain ⟨ts, e1, e2⟩ := h3 0 [] (fun x r e => by cases e)
  rw [List.append_nil, lexL_nil] at e2
  have hlx : lexR s.text = .ok (ts ++ [⟨0, 0 + s.text.data.toList.length, mkB [], 0⟩]) := by
    rw [lexR, if_neg h5.1, e2]
    rfl
  obtain ⟨e, he⟩ : ∃ e : Tok, e = ⟨0, 0 + s.text.data.toList.length, mkB [], 0⟩ := ⟨_, rfl⟩
  rw [← he] at hlx
  have hk : e.kind = 0 := by rw [he]
  have hrow : tokRow e = 0 := by rw [tokRow, if_neg (by rw [hk]; omega)]
  have hlen : ts.length = ks.length := by rw [← e1, List.length_map]
  have hd := h4.len
  have hw := h4.row
  have hr := (h4.lev e1 (n := (ts ++ [e]).length) (by rw [List.length_append, List.length_singleton]; omega) (d := 0) (by omega) (o := []) (.inl hk) (zr := []) (l := 1) (by decide) hw.1 (by decide) (by rw [hrow]; decide)).ok (by decide) (by decide) (by rw [hrow]; decide)
  rw [LP_one] at hr
  rw [parseR, hlx]
  simp only [hr]
  rw [if_pos (by simp [PS.hd, hk])]
  rfl
end
section
/-! ## ShowD -/
open Go.RowKit

/-- Two trees with one text are one tree. -/
theorem show_inj {a b : List Nod} {s : ByteArray} (ha : showT a = (s, 0)) (hb : showT b = (s, 0)) : a = b := by
  have h1 := show_parse ha
  rw [show_parse hb] at h1
  exact (congrArg Prod.fst h1).symm
/-- A tree that is not shown has no text. -/
theorem show_no {a : List Nod} (h : (showT a).2 ≠ 0) : showT a = (ByteArray.empty, 200) := by
  unfold showT at h ⊢
  by_cases h1 : (checkN a).2.2 ≠ 0 ∨ mayB a = false
  · rw [if_pos h1]
  · rw [if_neg h1] at h ⊢
    cases hs : showF a [] with
    | none => rfl
    | some st => rw [hs] at h; exact absurd rfl h
theorem show_code (a : List Nod) : (showT a).2 = 0 ∨ showT a = (ByteArray.empty, 200) := by
  by_cases h : (showT a).2 = 0
  · exact .inl h
  · exact .inr (show_no h)
def mX : Mat := ⟨1, sNameN, ⟨#[120]⟩⟩
def unitT (v : Int) : UInt8 := if v % 86400 = 0 then 100 else if v % 3600 = 0 then 104 else if v % 60 = 0 then 109 else 115
theorem spanT_unit (v : Int) : ∃ q : Nat, (spanT v).data.toList = Lib.decDigits q ++ [unitT v] := by
  unfold spanT unitT
  split
  · exact ⟨_, dec_unit _ sDay⟩
  split
  · exact ⟨_, dec_unit _ sHour⟩
  split
  · exact ⟨_, dec_unit _ sMin⟩
  · exact ⟨_, dec_unit _ sSec⟩
theorem spanT_size {v : Int} (h0 : 0 ≤ v) (h : v < 2147483648) : (spanT v).size ≤ 11 := by
  have key : ∀ (k : Int) (u : ByteArray), 1 ≤ k → u.size = 1 → (decT (v / k) ++ u).size ≤ 11 := by
    intro k u hk hu
    have h1 : (v / k).toNat < 10 ^ (9 + 1) := by
      have h2 : v / k ≤ v := Int.ediv_le_self _ h0
      omega
    have h3 := dd_len 9 _ h1
    have h4 : (decT (v / k)).size = (Lib.decDigits (v / k).toNat).length := by rw [Lib.size_eq, decT, mkB_toList]
    rw [ByteArray.size_append, hu]
    omega
  unfold spanT
  split
  · exact key _ _ (by decide) rfl
  split
  · exact key _ _ (by decide) rfl
  split
  · exact key _ _ (by decide) rfl
  · have := key 1 sSec (by decide) rfl
    rw [Int.ediv_one] at this
    exact this
def spanN1 (w b : Int) : Nod := selN 3 [mX] w b
theorem spans_text (w b : Int) : selT (spanN1 w b) = if 0 < b then (⟨#[120]⟩ : ByteArray) ++ sSq ++ spanT w ++ sUnsq ++ sOffsetB ++ spanT b else (⟨#[120]⟩ : ByteArray) ++ sSq ++ spanT w ++ sUnsq := by
  have h0 : sel0 [mX] = ⟨#[120]⟩ := by kernel_rfl
  have h1 : sel1T (spanN1 w b) = (⟨#[120]⟩ : ByteArray) ++ sSq ++ spanT w ++ sUnsq := by
    show sel0 [mX] ++ sSq ++ spanT w ++ sUnsq = _
    rw [h0]
  unfold selT
  rw [h1]
  rfl
theorem spans_show {w b : Int} (h1 : 1 ≤ w) (h2 : w < 2147483648) (h3 : 0 ≤ b) (h4 : b < 2147483648) : showT [spanN1 w b] = (selT (spanN1 w b), 0) := by
  have hf : formB (spanN1 w b) = true := by
    have e1 : plainB (spanN1 w b) (bareN (spanN1 w b)) = true := by simp [plainB, bareN, spanN1, selN]
    have e2 : kindOk (spanN1 w b) = true := by
      show (spanB w 1 && spanB b 0) = true
      simp [spanB]
      omega
    rw [formB, e1, e2]
    rfl
  have hm : matCode (spanN1 w b).mat = 0 := by show matCode [mX] = 0; kernel_rfl
  have hs : stepN [] (spanN1 w b) = (0, [3]) := by
    unfold stepN
    rw [if_neg (by rw [hf]; rintro (h | h); cases h; exact absurd h (by show ¬ ((0 : Int) < 0); decide)), if_neg (by rw [hm]; decide)]
    rfl
  have hc : checkN [spanN1 w b] = (3, 0, 0) := checkN_of (by
    show (if (stepN [] (spanN1 w b)).1 = 0 then runN' [] 1 (stepN [] (spanN1 w b)).2 else _) = _
    rw [hs]
    rfl) (by simp)
  have hsz : (selT (spanN1 w b)).size ≤ 100 := by
    have q1 := spanT_size (by omega) h2
    have q2 := spanT_size h3 h4
    rw [spans_text]
    split
    · simp only [ByteArray.size_append]
      show 1 + 1 + _ + 1 + 8 + _ ≤ 100
      omega
    · simp only [ByteArray.size_append]
      show 1 + 1 + _ + 1 ≤ 100
      omega
  have ho : (sayT (spanN1 w b) []).over = false := by
    show (decide (4096 < (selT (spanN1 w b)).size) || decide (64 < (0 : Int))) = false
    rw [decide_eq_false (by omega)]
    rfl
  unfold showT
  have hmay : mayB [spanN1 w b] = true := by
    show (([mX].all fun m => cleanB m.val) && true) = true
    kernel_rfl
  rw [hc, if_neg (by rintro (h | h); exact h rfl; rw [hmay] at h; cases h)]
  show (match (if (sayT (spanN1 w b) []).over = true then none else some [sayT (spanN1 w b) []]) with | none => (ByteArray.empty, 200) | some st => ((st.getD 0 sd0).text, (0 : Int))) = _
  rw [ho]
  rfl
end
end Go.Proofs.YtakfnojiaakfpaaGreatDoor
