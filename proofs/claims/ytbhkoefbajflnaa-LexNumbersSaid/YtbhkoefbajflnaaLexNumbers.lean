/- LexNumbers: digits are a number just if there is no needless nought ahead and there are at most fifteen; with a unit behind, a span. -/
import Derived.Test.YtbhkoefbajflnaaDecimal
import Derived.Test.YtbhkoefbajflnaaLow
namespace Go.Proofs.Ytbhkoefbajflnaa
open Go.RowKit

theorem digN_all : ∀ {l : List UInt8}, (∀ c ∈ l, dchar c = true) → digN l = l.length
  | [], _ => rfl
  | c :: r, h => by rw [digN, List.takeWhile_cons, if_pos (h c (by simp)), List.length_cons, List.length_cons]; exact congrArg (· + 1) (digN_all fun x hx => h x (by simp [hx]))
theorem digN_upto : ∀ {l r : List UInt8} {x : UInt8}, (∀ c ∈ l, dchar c = true) → dchar x = false → digN (l ++ x :: r) = l.length
  | [], r, x, _, hx => by simp [digN, hx]
  | c :: l, r, x, h, hx => by
    rw [List.cons_append, digN, List.takeWhile_cons, if_pos (h c (by simp)), List.length_cons, List.length_cons]
    exact congrArg (· + 1) (digN_upto (l := l) (fun y hy => h y (by simp [hy])) hx)
theorem tw_all {q : UInt8 → Bool} : ∀ {l : List UInt8}, (∀ c ∈ l, q c = true) → l.takeWhile q = l
  | [], _ => rfl
  | c :: r, h => by rw [List.takeWhile_cons, if_pos (h c (by simp)), tw_all fun x hx => h x (by simp [hx])]
theorem lex_run {l : List UInt8} (hd : l.head?.any dchar = true) (hn : ∀ c ∈ l, numC c = true) : lexL 0 l = match numTok 0 l with
    | .ok ts n => (lexL n (l.drop n)).pre ts
    | .err p e => .err p e := by
  cases l with
  | nil => simp at hd
  | cons c r =>
    have hc : dchar c = true := by simpa using hd
    have hb : blankB c = false := by
      simp [dchar] at hc
      simp [blankB]; omega
    rw [lexL_cons]
    have : oneL 0 (c :: r) = numTok 0 (c :: r) := by
      simp only [oneL]
      rw [if_neg (by simp [hb]), if_pos hc, tw_all hn]
    rw [this]
    cases numTok 0 (c :: r) <;> simp
theorem dig_num {l : List UInt8} (h : ∀ c ∈ l, dchar c = true) : ∀ c ∈ l, numC c = true := fun c hc => dchar_numC (h c hc)
theorem head_dec (n : Nat) : (decL n).head?.any dchar = true := by
  obtain ⟨c, h, _⟩ := decL_head n
  have := decL_digs n c (List.mem_of_mem_head? (by rw [h]; rfl))
  rw [h]; simpa using this
theorem whole_num {l : List UInt8} (h : ∀ c ∈ l, dchar c = true) (h1 : 1 ≤ l.length) : numTok 0 l = if needB l = false ∧ l.length ≤ 15 then .ok [⟨1, 0, mkB l, 0⟩] l.length else .err 0 172 := by
  have e : digN l = l.length := digN_all h
  have es : spanN l = 0 := by rw [spanN, if_pos]; right; right; right; omega
  have en : numB l = (!needB l && decide (l.length ≤ 15)) := by
    rw [numB, e, List.take_length]
    by_cases hb : needB l = true
    · rw [if_pos (.inr hb), hb]; rfl
    · rw [if_neg (by rintro (h | h); omega; exact hb h), if_pos rfl]; simp [hb]
  rw [numTok, es, if_neg (by omega), en]
  cases needB l <;> by_cases h2 : l.length ≤ 15 <;> simp [h2]
theorem dot_num {a b : List UInt8} (ha : ∀ c ∈ a, dchar c = true) (hb : ∀ c ∈ b, dchar c = true) (h1 : 1 ≤ a.length) (h2 : 1 ≤ b.length) (hn : needB a = false) (h3 : a.length + b.length ≤ 15) : numTok 0 (a ++ 46 :: b) = .ok [⟨1, 0, mkB (a ++ 46 :: b), 0⟩] (a.length + 1 + b.length) := by
  have e : digN (a ++ 46 :: b) = a.length := digN_upto ha (by decide)
  have es : spanN (a ++ 46 :: b) = 0 := by rw [spanN, if_pos]; right; right; right; rw [e, List.length_append, List.length_cons]; omega
  have en : numB (a ++ 46 :: b) = true := by
    rw [numB, e, List.take_left' rfl, hn, if_neg (by rintro (h | h); omega; cases h), if_neg (by rw [List.length_append, List.length_cons]; omega)]
    have e2 : (a ++ 46 :: b)[a.length]? = some 46 := by simp
    have e3 : (a ++ 46 :: b).drop (a.length + 1) = b := by rw [← List.drop_drop, List.drop_left' rfl]; rfl
    rw [e2, e3, digN_all hb]
    simp [dotB]
    omega
  rw [numTok, es, if_neg (by omega), en, if_pos rfl]
  simp; omega
theorem unit_num {a : List UInt8} {u : UInt8} (ha : ∀ c ∈ a, dchar c = true) (h1 : 1 ≤ a.length) (h2 : a.length ≤ 10) (hu : dchar u = false) (hu2 : u.toNat ≠ 46) : numTok 0 (a ++ [u]) = if nought a.head? = false ∧ 0 < spanU (decN a) (unitN u.toNat) then .ok [⟨2, 0, mkB (a ++ [u]), spanU (decN a) (unitN u.toNat)⟩] (a.length + 1) else .err 0 172 := by
  have e : digN (a ++ [u]) = a.length := digN_upto ha hu
  have eh : (a ++ [u]).head? = a.head? := by cases a with
    | nil => simp at h1
    | cons => rfl
  have e2 : (a ++ [u])[a.length]? = some u := by simp
  have es : spanN (a ++ [u]) = if nought a.head? = true then 0 else spanU (decN a) (unitN u.toNat) := by
    rw [spanN, e, eh, List.take_left' rfl, e2]
    cases nought a.head?
    · rw [if_neg (by rw [List.length_append]; show ¬ (_ ∨ _ ∨ _ ∨ a.length + 1 ≠ a.length + 1); rintro (h | h | h | h); omega; omega; cases h; exact h rfl)]; rfl
    · rw [if_pos (.inr (.inr (.inl rfl)))]; rfl
  have en : numB (a ++ [u]) = false := by
    rw [numB, e]
    split
    · rfl
    · rw [if_neg (by simp), e2]
      have : dotB (some u) = false := by simp only [dotB]; rw [beq_eq_false_iff_ne]; omega
      rw [this]; rfl
  rw [numTok, es, en]
  cases nought a.head? <;> by_cases h0 : 0 < spanU (decN a) (unitN u.toNat) <;> simp [h0]
theorem nought_dec (n : Nat) : nought (decL n).head? = decide (n = 0) := by
  obtain ⟨c, h, h2⟩ := decL_head n
  rw [h]
  simp only [nought]
  rw [Bool.eq_iff_iff]
  simp only [beq_iff_eq, decide_eq_true_eq]
  omega
theorem lexR_small {s : ByteArray} {l : List UInt8} (h : s.data.toList = l) (hl : l.length ≤ 4096) : lexR s = lexL 0 l := by
  rw [lexR, if_neg (by rw [Lib.size_eq, h]; omega), h]
theorem num_dot (n d : Nat) (hn : n < 1000000) (hd : d < 1000000) : lexR (mkB (decL n) ++ ⟨#[46]⟩ ++ mkB (decL d)) = .ok [⟨1, 0, mkB (decL n) ++ ⟨#[46]⟩ ++ mkB (decL d), 0⟩, ⟨0, (decL n).length + 1 + (decL d).length, mkB [], 0⟩] := by
  have hz : (mkB (decL n) ++ ⟨#[46]⟩ ++ mkB (decL d)).data.toList = decL n ++ 46 :: decL d := by simp [mkB]
  have l1 := decL_pow n 5 (by omega)
  have l2 := decL_pow d 5 (by omega)
  rw [lexR_small hz (by simp; omega), lex_run]
  · rw [dot_num (decL_digs n) (decL_digs d) (decL_ne n) (decL_ne d) (decL_need n) (by omega)]
    show (lexL _ ((decL n ++ 46 :: decL d).drop _)).pre _ = _
    rw [List.drop_eq_nil_of_le (by simp; omega), lexL_nil]
    have : mkB (decL n ++ 46 :: decL d) = mkB (decL n) ++ ⟨#[46]⟩ ++ mkB (decL d) := by
      apply ByteArray.ext; apply Array.toList_inj.1; rw [hz]; rfl
    rw [this]; rfl
  · have := head_dec n
    have h1 := decL_ne n
    cases hl : decL n with
    | nil => rw [hl] at h1; simp at h1
    | cons c r => rw [hl] at this; simpa using this
  · intro c hc
    simp at hc
    rcases hc with hc | rfl | hc
    · exact dchar_numC (decL_digs n c hc)
    · decide
    · exact dchar_numC (decL_digs d c hc)
theorem num_nought (n : Nat) (hn : n < 1000000) : lexR (⟨#[48]⟩ ++ mkB (decL n)) = .err 0 172 := by
  have hz : (⟨#[48]⟩ ++ mkB (decL n) : ByteArray).data.toList = 48 :: decL n := by simp [mkB]
  have l1 := decL_pow n 5 (by omega)
  have l2 := decL_ne n
  have hd : ∀ c ∈ (48 :: decL n : List UInt8), dchar c = true := by
    intro c hc
    rcases List.mem_cons.1 hc with rfl | hc
    · decide
    · exact decL_digs n c hc
  rw [lexR_small hz (by simp; omega), lex_run rfl (dig_num hd), whole_num hd (by simp)]
  have : needB (48 :: decL n) = true := by simp [needB]; omega
  rw [this]; simp
def codeLong : LexR → Bool
  | .ok _ => true
  | .err _ _ => false
theorem num_long (n : Nat) (hn : n < 1000000) : codeLong (lexR (⟨#[49, 50, 51, 52, 53, 54, 55, 56, 57, 48]⟩ ++ mkB (decL n))) = decide ((decL n).length ≤ 5) := by
  have hz : (⟨#[49, 50, 51, 52, 53, 54, 55, 56, 57, 48]⟩ ++ mkB (decL n) : ByteArray).data.toList = [49, 50, 51, 52, 53, 54, 55, 56, 57, 48] ++ decL n := by simp [mkB]
  have l1 := decL_pow n 5 (by omega)
  have hd : ∀ c ∈ ([49, 50, 51, 52, 53, 54, 55, 56, 57, 48] ++ decL n : List UInt8), dchar c = true := by
    intro c hc
    rcases List.mem_append.1 hc with hc | hc
    · have : ∀ c ∈ ([49, 50, 51, 52, 53, 54, 55, 56, 57, 48] : List UInt8), dchar c = true := by decide
      exact this c hc
    · exact decL_digs n c hc
  rw [lexR_small hz (by simp; omega), lex_run rfl (dig_num hd), whole_num hd (by simp)]
  have hb : needB ([49, 50, 51, 52, 53, 54, 55, 56, 57, 48] ++ decL n) = false := by simp [needB]
  rw [hb]
  by_cases h : (decL n).length ≤ 5
  · rw [if_pos (by simp; omega), decide_eq_true h]
    show codeLong ((lexL _ (List.drop _ _)).pre _) = _
    rw [List.drop_eq_nil_of_le (Nat.le_refl _), lexL_nil]; rfl
  · rw [if_neg (by simp; omega), decide_eq_false h]; rfl
theorem num_unit (n : Nat) (hn : n < 1000000) (U : ByteArray) (u : UInt8) (hU : U.data.toList = [u]) (hu : dchar u = false) (hu2 : u.toNat ≠ 46) (hu3 : numC u = true) : lexR (mkB (decL n) ++ U) = if n ≠ 0 ∧ 0 < spanU n (unitN u.toNat) then .ok [⟨2, 0, mkB (decL n) ++ U, spanU n (unitN u.toNat)⟩, ⟨0, (decL n).length + 1, mkB [], 0⟩] else .err 0 172 := by
  have hz : (mkB (decL n) ++ U).data.toList = decL n ++ [u] := by rw [ByteArray.data_append, Array.toList_append, hU]; rfl
  have l1 := decL_pow n 5 (by omega)
  have l2 := decL_ne n
  rw [lexR_small hz (by simp; omega), lex_run]
  · rw [unit_num (decL_digs n) l2 (by omega) hu hu2, nought_dec, decL_val]
    by_cases h0 : n = 0
    · rw [if_neg (by simp [h0]), if_neg (by simp [h0])]
    · by_cases h1 : 0 < spanU n (unitN u.toNat)
      · rw [if_pos ⟨by simp [h0], h1⟩, if_pos ⟨h0, h1⟩]
        show (lexL _ ((decL n ++ [u]).drop _)).pre _ = _
        rw [List.drop_eq_nil_of_le (by simp), lexL_nil]
        have : mkB (decL n ++ [u]) = mkB (decL n) ++ U := by
          apply ByteArray.ext; apply Array.toList_inj.1; rw [hz]; rfl
        rw [this]; rfl
      · rw [if_neg (by simp [h1]), if_neg (by simp [h1])]
  · have := head_dec n
    cases hl : decL n with
    | nil => rw [hl] at l2; simp at l2
    | cons c r => rw [hl] at this; simpa using this
  · intro c hc
    rcases List.mem_append.1 hc with hc | hc
    · exact dchar_numC (decL_digs n c hc)
    · simp at hc; subst hc; exact hu3
def LexSome' (w : World) (x : Int) (e : Ending) (w' : World) : Prop := ∃ A n c p, e = .returned (.tuple #[.slice A n c, .int .i64 p, .int .i64 x]) ∧ Below w.heap.size w w'
def codeR' : LexR → Int
  | .ok _ => 0
  | .err _ x => x
def SayS (S : ByteArray) (w : World) (e : Ending) (w' : World) : Prop := e = .returned (.string S) ∧ Below w.heap.size w w'
theorem codeLong_code {r : LexR} {b : Bool} (h : codeLong r = b) (hx : ∀ p x, r = .err p x → 0 < x) : (codeR' r == 0) = b := by
  cases r with
  | ok ts => exact h
  | err p x =>
    have := hx p x rfl
    simp only [codeLong] at h
    subst h
    simp only [codeR']
    rw [beq_eq_false_iff_ne]; omega
theorem lex_some' (s : ByteArray) (w : World) (hs : s.size ≤ maxLen) : Calls Try.prog 15 #[.string s] w (LexSome' w (codeR' (lexR s))) := by
  cases h : lexR s with
  | ok ts => exact (lex_ok h w hs).mono fun e w' ⟨A, c, h1, _, h3⟩ => ⟨A, _, c, 0, h1, h3⟩
  | err p x => exact (lex_no h w hs).mono fun e w' ⟨h1, h3⟩ => ⟨none, 0, 0, p, h1, h3⟩
set_option maxRecDepth 100000 in
set_option maxHeartbeats 8000000 in
theorem lexNumbers_any (n d : Nat) (unit : Int) (w : World) (hn : (n : Int) < 18446744073709551616) (hd : (d : Int) < 18446744073709551616) (hu : -9223372036854775808 ≤ unit ∧ unit < 9223372036854775808) : Calls Try.prog 5 #[.int .u64 (n : Int), .int .u64 (d : Int), .int .i64 unit] w (AwakeOk w) := by
  have HA := fun W => Lib.hid (awake17_any W)
  obtain ⟨N, hN⟩ : ∃ N : Nat, (n : Int) % 1000000 = N := ⟨n % 1000000, by omega⟩
  obtain ⟨D, hD⟩ : ∃ N : Nat, (d : Int) % 1000000 = N := ⟨d % 1000000, by omega⟩
  have hNl : N < 1000000 := by omega
  have hDl : D < 1000000 := by omega
  have hlo := lowI_nn unit
  obtain ⟨k, hK⟩ : ∃ k : Nat, lowI unit % 4 = k := ⟨(lowI unit % 4).toNat, by omega⟩
  have hk4 : k < 4 := by omega
  have hLo := fun W => Lib.hid (low_any unit W)
  have hD1 : ∀ W, Hid (Calls Try.prog 20 #[.int .u64 (N : Int)] W (SayS (mkB (decL N)) W)) := fun W => decimal_any N W hNl
  have hD2 : ∀ W, Hid (Calls Try.prog 20 #[.int .u64 (D : Int)] W (SayS (mkB (decL D)) W)) := fun W => decimal_any D W hDl
  have h1 := num_dot N D hNl hDl
  have h2 := num_nought N hNl
  have h3 := fun U u a b c d => num_unit N hNl U u a b c d
  have h4 := num_long N hNl
  have hs1 : (mkB (decL N)).size ≤ 6 := decL_pow N 5 (by omega)
  have hs2 : (mkB (decL D)).size ≤ 6 := decL_pow D 5 (by omega)
  have hsL : (decL N).length = (mkB (decL N)).size := rfl
  rw [hsL] at h4 h3 h1
  generalize mkB (decL N) = S at *
  generalize mkB (decL D) = S2 at *
  have H1 := fun W => Lib.hid (lex_ok h1 W (by simp only [ByteArray.size_append, maxLen]; show S.size + 1 + S2.size ≤ _; omega))
  have H2 := fun W => Lib.hid (lex_no h2 W (by simp only [ByteArray.size_append, maxLen]; show 1 + S.size ≤ _; omega))
  have H4 := fun W => Lib.hid (lex_some' (⟨#[49, 50, 51, 52, 53, 54, 55, 56, 57, 48]⟩ ++ S) W (by simp only [ByteArray.size_append, maxLen]; show 10 + S.size ≤ _; omega))
  have hcc := codeLong_code h4 (fun p x h => lexR_code h)
  generalize codeR' (lexR (⟨#[49, 50, 51, 52, 53, 54, 55, 56, 57, 48]⟩ ++ S)) = cc at *
  clear h1 h2 h4 hsL
  have heq : ∀ (W : World) (X : ByteArray), (binOp .neq 32 (.agg #[.int .i64 1, .int .i64 0, .string X, .int .i64 0]) (.agg #[.int .i64 1, .int .i64 0, .string X, .int .i64 0])).run Try.prog W = .ok (.bool false) W := fun W X => by
    rw [run_neq_struct, eqvTok]; simp [Result.andThen]
  have hgl := guardTok
  have hN0 : (0 : Int) ≤ N := by omega
  have hNI : (N : Int) < 1000000 := by omega
  have hk : k = 0 ∨ k = 1 ∨ k = 2 ∨ k = 3 := by omega
  clear hNl hDl hk4
  rcases hk with rfl | rfl | rfl | rfl
  · have h5 := h3 ⟨#[115]⟩ 115 rfl (by decide) (by decide) (by decide)
    have hun : unitN (115 : UInt8).toNat = 1 := rfl
    rw [hun, spanU] at h5
    clear h3 hun
    have hcase : (N : Int) * 1 < 1 ∨ (1 ≤ (N : Int) * 1 ∧ 2147483647 < (N : Int) * 1) ∨ (1 ≤ (N : Int) * 1 ∧ (N : Int) * 1 ≤ 2147483647) := by omega
    rcases hcase with hv | ⟨hv1, hv2⟩ | ⟨hv1, hv2⟩
    · obtain rfl : N = 0 := by omega
      clear hv
      have h5' := h5.trans (if_neg (by rintro ⟨h, _⟩; omega))
      have H5 := fun W => Lib.hid (lex_no h5' W (by simp only [ByteArray.size_append, maxLen]; show S.size + 1 ≤ _; omega))
      clear h5 h5'
      go_enter Try.func5, Try.ntmps5
      go_wp2_with fail
      refine ((hD1 _).out).mono ?_
      rintro e w1 ⟨rfl, hb1⟩
      go_wp2_with fail
      refine ((hD2 _).out).mono ?_
      rintro e w2 ⟨rfl, hb2⟩
      go_wp2_with fail
      refine ((H1 _).out).mono ?_
      rintro e w3 ⟨A, c, rfl, ho, hb3⟩
      obtain ⟨b, o, rfl, hlt, q0, q1, q2, q3⟩ := ho.rd.at_tok (k := 0) (l := ⟨1, 0, S ++ ⟨#[46]⟩ ++ S2, 0⟩) rfl
      obtain ⟨rfl, _, hW⟩ := ho.wr _ _ rfl
      have z1 := hb1.size; have z2 := hb2.size; have z3 := hb3.size
      have hB3 := (hb1.trans (hb2.mono z1)).trans (hb3.mono (by omega))
      clear hb1 hb2 hb3 ho hW
      go_wp2_with fail
      refine ((H2 _).out).mono ?_
      rintro e w4 ⟨rfl, hb4⟩
      have z4 := hb4.size
      go_wp2_with fail
      refine ((hLo _).out).mono ?_
      rintro e w' ⟨rfl, rfl⟩
      go_wp2_with fail
      refine ((H5 _).out).mono ?_
      rintro e w5 ⟨rfl, hb5⟩
      have z5 := hb5.size
      simp only [World.size_alloc] at z5
      have hbc : Below w3.heap.size w3 w5 := (hb4.alloc z4 _).trans (hb5.mono (by simp; omega))
      have p0 : w5.cell? ⟨b, 0, none⟩ = some (.int .i64 1) := (hbc.cell (p := ⟨b, 0, none⟩) hlt).trans q0
      have p1 : w5.cell? ⟨b, 1, none⟩ = some (.int .i64 0) := (hbc.cell (p := ⟨b, 1, none⟩) hlt).trans q1
      have p2 : w5.cell? ⟨b, 2, none⟩ = some (.string (S ++ ⟨#[46]⟩ ++ S2)) := (hbc.cell (p := ⟨b, 2, none⟩) hlt).trans q2
      have p3 : w5.cell? ⟨b, 3, none⟩ = some (.int .i64 0) := (hbc.cell (p := ⟨b, 3, none⟩) hlt).trans q3
      have hlt5 : b < w5.heap.size := by omega
      clear q0 q1 q2 q3
      go_wp2_with fail
      refine ((HA _).out).mono ?_
      rintro e w6 ⟨rfl, hb6⟩
      go_wp2_with fail
      go_ret
      exact ⟨rfl, (hB3.trans (hbc.mono (by omega))).trans (((Below.refl _ _).alloc (by omega) _).trans (hb6.mono (by simp; omega)))⟩
    · omega
    · have h5' := h5.trans (if_pos (by exact ⟨by omega, by rw [if_neg (by omega)]; omega⟩))
      have hsv : (if 2147483648 ≤ N * 1 then 0 else N * 1) = N * 1 := if_neg (by omega)
      rw [hsv] at h5'
      have H5 := fun W => Lib.hid (lex_ok h5' W (by simp only [ByteArray.size_append, maxLen]; show S.size + 1 ≤ _; omega))
      have hvc : ((N * 1 : Nat) : Int) = (N : Int)  := by omega
      have hd1 : decide ((N : Int)  < 1) = false := by rw [decide_eq_false_iff_not]; omega
      have hd2 : decide (2147483647 < (N : Int) ) = false := by rw [decide_eq_false_iff_not]; omega
      have Hv1 := Lib.hid hv1
      have Hv2 := Lib.hid hv2
      clear h5 h5' hsv hv1 hv2
      go_enter Try.func5, Try.ntmps5
      go_wp2_with fail
      refine ((hD1 _).out).mono ?_
      rintro e w1 ⟨rfl, hb1⟩
      go_wp2_with fail
      refine ((hD2 _).out).mono ?_
      rintro e w2 ⟨rfl, hb2⟩
      go_wp2_with fail
      refine ((H1 _).out).mono ?_
      rintro e w3 ⟨A, c, rfl, ho, hb3⟩
      obtain ⟨b, o, rfl, hlt, q0, q1, q2, q3⟩ := ho.rd.at_tok (k := 0) (l := ⟨1, 0, S ++ ⟨#[46]⟩ ++ S2, 0⟩) rfl
      obtain ⟨rfl, _, hW⟩ := ho.wr _ _ rfl
      have z1 := hb1.size; have z2 := hb2.size; have z3 := hb3.size
      have hB3 := (hb1.trans (hb2.mono z1)).trans (hb3.mono (by omega))
      clear hb1 hb2 hb3 ho hW
      go_wp2_with fail
      refine ((H2 _).out).mono ?_
      rintro e w4 ⟨rfl, hb4⟩
      have z4 := hb4.size
      go_wp2_with fail
      refine ((hLo _).out).mono ?_
      rintro e w' ⟨rfl, rfl⟩
      go_wp2_with fail
      refine ((H5 _).out).mono ?_
      rintro e w5 ⟨A5, c5, rfl, ho5, hb5⟩
      obtain ⟨b5, o5, rfl, hlt5', r0, r1, r2, r3⟩ := ho5.rd.at_tok (k := 0) (l := ⟨2, 0, S ++ ⟨#[115]⟩, N * 1⟩) rfl
      obtain ⟨rfl, _, hW5⟩ := ho5.wr _ _ rfl
      clear ho5 hW5
      simp only [hvc] at r3
      clear hvc
      have z5 := hb5.size
      simp only [World.size_alloc] at z5
      have hbc : Below w3.heap.size w3 w5 := (hb4.alloc z4 _).trans (hb5.mono (by simp; omega))
      have p0 : w5.cell? ⟨b, 0, none⟩ = some (.int .i64 1) := (hbc.cell (p := ⟨b, 0, none⟩) hlt).trans q0
      have p1 : w5.cell? ⟨b, 1, none⟩ = some (.int .i64 0) := (hbc.cell (p := ⟨b, 1, none⟩) hlt).trans q1
      have p2 : w5.cell? ⟨b, 2, none⟩ = some (.string (S ++ ⟨#[46]⟩ ++ S2)) := (hbc.cell (p := ⟨b, 2, none⟩) hlt).trans q2
      have p3 : w5.cell? ⟨b, 3, none⟩ = some (.int .i64 0) := (hbc.cell (p := ⟨b, 3, none⟩) hlt).trans q3
      have hlt5 : b < w5.heap.size := by omega
      clear q0 q1 q2 q3
      go_wp2_with fail
      refine ((H4 _).out).mono ?_
      rintro e w6 ⟨A6, n6, c6, q6, rfl, hb6⟩
      have z6 := hb6.size
      simp only [World.size_alloc] at z6
      have s0 : w6.cell? ⟨b5, 0, none⟩ = some (.int .i64 2) := (hb6.cell (p := ⟨b5, 0, none⟩) (by simp; omega)).trans ((((Below.refl w5.heap.size w5).alloc (Nat.le_refl _) _).cell (p := ⟨b5, 0, none⟩) hlt5').trans r0)
      have s3 : w6.cell? ⟨b5, 3, none⟩ = some (.int .i64 ((N : Int) )) := (hb6.cell (p := ⟨b5, 3, none⟩) (by simp; omega)).trans ((((Below.refl w5.heap.size w5).alloc (Nat.le_refl _) _).cell (p := ⟨b5, 3, none⟩) hlt5').trans (by simpa using r3))
      clear r0 r1 r2 r3 p0 p1 p2 p3
      cases hle : decide (S.size ≤ 5) with
      | _ =>
        have hcc2 : (cc == 0) = _ := hcc.trans hle
        have hleI : decide ((S.size : Int) ≤ 5) = _ := (decide_eq_decide.2 (by omega)).trans hle
        clear hcc
        go_wp2_with fail
        refine ((HA _).out).mono ?_
        rintro e w7 ⟨rfl, hb7⟩
        go_wp2_with fail
        go_ret
        exact ⟨rfl, ((hB3.trans (hbc.mono (by omega))).trans (((Below.refl _ _).alloc (by omega) _).trans (hb6.mono (by simp; omega)))).trans (hb7.mono (by omega))⟩
  · have h5 := h3 ⟨#[109]⟩ 109 rfl (by decide) (by decide) (by decide)
    have hun : unitN (109 : UInt8).toNat = 60 := rfl
    rw [hun, spanU] at h5
    clear h3 hun
    have hcase : (N : Int) * 60 < 1 ∨ (1 ≤ (N : Int) * 60 ∧ 2147483647 < (N : Int) * 60) ∨ (1 ≤ (N : Int) * 60 ∧ (N : Int) * 60 ≤ 2147483647) := by omega
    rcases hcase with hv | ⟨hv1, hv2⟩ | ⟨hv1, hv2⟩
    · obtain rfl : N = 0 := by omega
      clear hv
      have h5' := h5.trans (if_neg (by rintro ⟨h, _⟩; omega))
      have H5 := fun W => Lib.hid (lex_no h5' W (by simp only [ByteArray.size_append, maxLen]; show S.size + 1 ≤ _; omega))
      clear h5 h5'
      go_enter Try.func5, Try.ntmps5
      go_wp2_with fail
      refine ((hD1 _).out).mono ?_
      rintro e w1 ⟨rfl, hb1⟩
      go_wp2_with fail
      refine ((hD2 _).out).mono ?_
      rintro e w2 ⟨rfl, hb2⟩
      go_wp2_with fail
      refine ((H1 _).out).mono ?_
      rintro e w3 ⟨A, c, rfl, ho, hb3⟩
      obtain ⟨b, o, rfl, hlt, q0, q1, q2, q3⟩ := ho.rd.at_tok (k := 0) (l := ⟨1, 0, S ++ ⟨#[46]⟩ ++ S2, 0⟩) rfl
      obtain ⟨rfl, _, hW⟩ := ho.wr _ _ rfl
      have z1 := hb1.size; have z2 := hb2.size; have z3 := hb3.size
      have hB3 := (hb1.trans (hb2.mono z1)).trans (hb3.mono (by omega))
      clear hb1 hb2 hb3 ho hW
      go_wp2_with fail
      refine ((H2 _).out).mono ?_
      rintro e w4 ⟨rfl, hb4⟩
      have z4 := hb4.size
      go_wp2_with fail
      refine ((hLo _).out).mono ?_
      rintro e w' ⟨rfl, rfl⟩
      go_wp2_with fail
      refine ((H5 _).out).mono ?_
      rintro e w5 ⟨rfl, hb5⟩
      have z5 := hb5.size
      simp only [World.size_alloc] at z5
      have hbc : Below w3.heap.size w3 w5 := (hb4.alloc z4 _).trans (hb5.mono (by simp; omega))
      have p0 : w5.cell? ⟨b, 0, none⟩ = some (.int .i64 1) := (hbc.cell (p := ⟨b, 0, none⟩) hlt).trans q0
      have p1 : w5.cell? ⟨b, 1, none⟩ = some (.int .i64 0) := (hbc.cell (p := ⟨b, 1, none⟩) hlt).trans q1
      have p2 : w5.cell? ⟨b, 2, none⟩ = some (.string (S ++ ⟨#[46]⟩ ++ S2)) := (hbc.cell (p := ⟨b, 2, none⟩) hlt).trans q2
      have p3 : w5.cell? ⟨b, 3, none⟩ = some (.int .i64 0) := (hbc.cell (p := ⟨b, 3, none⟩) hlt).trans q3
      have hlt5 : b < w5.heap.size := by omega
      clear q0 q1 q2 q3
      go_wp2_with fail
      refine ((HA _).out).mono ?_
      rintro e w6 ⟨rfl, hb6⟩
      go_wp2_with fail
      go_ret
      exact ⟨rfl, (hB3.trans (hbc.mono (by omega))).trans (((Below.refl _ _).alloc (by omega) _).trans (hb6.mono (by simp; omega)))⟩
    · omega
    · have h5' := h5.trans (if_pos (by exact ⟨by omega, by rw [if_neg (by omega)]; omega⟩))
      have hsv : (if 2147483648 ≤ N * 60 then 0 else N * 60) = N * 60 := if_neg (by omega)
      rw [hsv] at h5'
      have H5 := fun W => Lib.hid (lex_ok h5' W (by simp only [ByteArray.size_append, maxLen]; show S.size + 1 ≤ _; omega))
      have hvc : ((N * 60 : Nat) : Int) = (N : Int) *60 := by omega
      have hd1 : decide ((N : Int) *60 < 1) = false := by rw [decide_eq_false_iff_not]; omega
      have hd2 : decide (2147483647 < (N : Int) *60) = false := by rw [decide_eq_false_iff_not]; omega
      have Hv1 := Lib.hid hv1
      have Hv2 := Lib.hid hv2
      clear h5 h5' hsv hv1 hv2
      go_enter Try.func5, Try.ntmps5
      go_wp2_with fail
      refine ((hD1 _).out).mono ?_
      rintro e w1 ⟨rfl, hb1⟩
      go_wp2_with fail
      refine ((hD2 _).out).mono ?_
      rintro e w2 ⟨rfl, hb2⟩
      go_wp2_with fail
      refine ((H1 _).out).mono ?_
      rintro e w3 ⟨A, c, rfl, ho, hb3⟩
      obtain ⟨b, o, rfl, hlt, q0, q1, q2, q3⟩ := ho.rd.at_tok (k := 0) (l := ⟨1, 0, S ++ ⟨#[46]⟩ ++ S2, 0⟩) rfl
      obtain ⟨rfl, _, hW⟩ := ho.wr _ _ rfl
      have z1 := hb1.size; have z2 := hb2.size; have z3 := hb3.size
      have hB3 := (hb1.trans (hb2.mono z1)).trans (hb3.mono (by omega))
      clear hb1 hb2 hb3 ho hW
      go_wp2_with fail
      refine ((H2 _).out).mono ?_
      rintro e w4 ⟨rfl, hb4⟩
      have z4 := hb4.size
      go_wp2_with fail
      refine ((hLo _).out).mono ?_
      rintro e w' ⟨rfl, rfl⟩
      go_wp2_with fail
      refine ((H5 _).out).mono ?_
      rintro e w5 ⟨A5, c5, rfl, ho5, hb5⟩
      obtain ⟨b5, o5, rfl, hlt5', r0, r1, r2, r3⟩ := ho5.rd.at_tok (k := 0) (l := ⟨2, 0, S ++ ⟨#[109]⟩, N * 60⟩) rfl
      obtain ⟨rfl, _, hW5⟩ := ho5.wr _ _ rfl
      clear ho5 hW5
      simp only [hvc] at r3
      clear hvc
      have z5 := hb5.size
      simp only [World.size_alloc] at z5
      have hbc : Below w3.heap.size w3 w5 := (hb4.alloc z4 _).trans (hb5.mono (by simp; omega))
      have p0 : w5.cell? ⟨b, 0, none⟩ = some (.int .i64 1) := (hbc.cell (p := ⟨b, 0, none⟩) hlt).trans q0
      have p1 : w5.cell? ⟨b, 1, none⟩ = some (.int .i64 0) := (hbc.cell (p := ⟨b, 1, none⟩) hlt).trans q1
      have p2 : w5.cell? ⟨b, 2, none⟩ = some (.string (S ++ ⟨#[46]⟩ ++ S2)) := (hbc.cell (p := ⟨b, 2, none⟩) hlt).trans q2
      have p3 : w5.cell? ⟨b, 3, none⟩ = some (.int .i64 0) := (hbc.cell (p := ⟨b, 3, none⟩) hlt).trans q3
      have hlt5 : b < w5.heap.size := by omega
      clear q0 q1 q2 q3
      go_wp2_with fail
      refine ((H4 _).out).mono ?_
      rintro e w6 ⟨A6, n6, c6, q6, rfl, hb6⟩
      have z6 := hb6.size
      simp only [World.size_alloc] at z6
      have s0 : w6.cell? ⟨b5, 0, none⟩ = some (.int .i64 2) := (hb6.cell (p := ⟨b5, 0, none⟩) (by simp; omega)).trans ((((Below.refl w5.heap.size w5).alloc (Nat.le_refl _) _).cell (p := ⟨b5, 0, none⟩) hlt5').trans r0)
      have s3 : w6.cell? ⟨b5, 3, none⟩ = some (.int .i64 ((N : Int) *60)) := (hb6.cell (p := ⟨b5, 3, none⟩) (by simp; omega)).trans ((((Below.refl w5.heap.size w5).alloc (Nat.le_refl _) _).cell (p := ⟨b5, 3, none⟩) hlt5').trans (by simpa using r3))
      clear r0 r1 r2 r3 p0 p1 p2 p3
      cases hle : decide (S.size ≤ 5) with
      | _ =>
        have hcc2 : (cc == 0) = _ := hcc.trans hle
        have hleI : decide ((S.size : Int) ≤ 5) = _ := (decide_eq_decide.2 (by omega)).trans hle
        clear hcc
        go_wp2_with fail
        refine ((HA _).out).mono ?_
        rintro e w7 ⟨rfl, hb7⟩
        go_wp2_with fail
        go_ret
        exact ⟨rfl, ((hB3.trans (hbc.mono (by omega))).trans (((Below.refl _ _).alloc (by omega) _).trans (hb6.mono (by simp; omega)))).trans (hb7.mono (by omega))⟩
  · have h5 := h3 ⟨#[104]⟩ 104 rfl (by decide) (by decide) (by decide)
    have hun : unitN (104 : UInt8).toNat = 3600 := rfl
    rw [hun, spanU] at h5
    clear h3 hun
    have hcase : (N : Int) * 3600 < 1 ∨ (1 ≤ (N : Int) * 3600 ∧ 2147483647 < (N : Int) * 3600) ∨ (1 ≤ (N : Int) * 3600 ∧ (N : Int) * 3600 ≤ 2147483647) := by omega
    rcases hcase with hv | ⟨hv1, hv2⟩ | ⟨hv1, hv2⟩
    · obtain rfl : N = 0 := by omega
      clear hv
      have h5' := h5.trans (if_neg (by rintro ⟨h, _⟩; omega))
      have H5 := fun W => Lib.hid (lex_no h5' W (by simp only [ByteArray.size_append, maxLen]; show S.size + 1 ≤ _; omega))
      clear h5 h5'
      go_enter Try.func5, Try.ntmps5
      go_wp2_with fail
      refine ((hD1 _).out).mono ?_
      rintro e w1 ⟨rfl, hb1⟩
      go_wp2_with fail
      refine ((hD2 _).out).mono ?_
      rintro e w2 ⟨rfl, hb2⟩
      go_wp2_with fail
      refine ((H1 _).out).mono ?_
      rintro e w3 ⟨A, c, rfl, ho, hb3⟩
      obtain ⟨b, o, rfl, hlt, q0, q1, q2, q3⟩ := ho.rd.at_tok (k := 0) (l := ⟨1, 0, S ++ ⟨#[46]⟩ ++ S2, 0⟩) rfl
      obtain ⟨rfl, _, hW⟩ := ho.wr _ _ rfl
      have z1 := hb1.size; have z2 := hb2.size; have z3 := hb3.size
      have hB3 := (hb1.trans (hb2.mono z1)).trans (hb3.mono (by omega))
      clear hb1 hb2 hb3 ho hW
      go_wp2_with fail
      refine ((H2 _).out).mono ?_
      rintro e w4 ⟨rfl, hb4⟩
      have z4 := hb4.size
      go_wp2_with fail
      refine ((hLo _).out).mono ?_
      rintro e w' ⟨rfl, rfl⟩
      go_wp2_with fail
      refine ((H5 _).out).mono ?_
      rintro e w5 ⟨rfl, hb5⟩
      have z5 := hb5.size
      simp only [World.size_alloc] at z5
      have hbc : Below w3.heap.size w3 w5 := (hb4.alloc z4 _).trans (hb5.mono (by simp; omega))
      have p0 : w5.cell? ⟨b, 0, none⟩ = some (.int .i64 1) := (hbc.cell (p := ⟨b, 0, none⟩) hlt).trans q0
      have p1 : w5.cell? ⟨b, 1, none⟩ = some (.int .i64 0) := (hbc.cell (p := ⟨b, 1, none⟩) hlt).trans q1
      have p2 : w5.cell? ⟨b, 2, none⟩ = some (.string (S ++ ⟨#[46]⟩ ++ S2)) := (hbc.cell (p := ⟨b, 2, none⟩) hlt).trans q2
      have p3 : w5.cell? ⟨b, 3, none⟩ = some (.int .i64 0) := (hbc.cell (p := ⟨b, 3, none⟩) hlt).trans q3
      have hlt5 : b < w5.heap.size := by omega
      clear q0 q1 q2 q3
      go_wp2_with fail
      refine ((HA _).out).mono ?_
      rintro e w6 ⟨rfl, hb6⟩
      go_wp2_with fail
      go_ret
      exact ⟨rfl, (hB3.trans (hbc.mono (by omega))).trans (((Below.refl _ _).alloc (by omega) _).trans (hb6.mono (by simp; omega)))⟩
    · have h5' := h5.trans (if_neg (by rintro ⟨_, h⟩; rw [if_pos (by omega)] at h; omega))
      have H5 := fun W => Lib.hid (lex_no h5' W (by simp only [ByteArray.size_append, maxLen]; show S.size + 1 ≤ _; omega))
      clear h5 h5'
      go_enter Try.func5, Try.ntmps5
      go_wp2_with fail
      refine ((hD1 _).out).mono ?_
      rintro e w1 ⟨rfl, hb1⟩
      go_wp2_with fail
      refine ((hD2 _).out).mono ?_
      rintro e w2 ⟨rfl, hb2⟩
      go_wp2_with fail
      refine ((H1 _).out).mono ?_
      rintro e w3 ⟨A, c, rfl, ho, hb3⟩
      obtain ⟨b, o, rfl, hlt, q0, q1, q2, q3⟩ := ho.rd.at_tok (k := 0) (l := ⟨1, 0, S ++ ⟨#[46]⟩ ++ S2, 0⟩) rfl
      obtain ⟨rfl, _, hW⟩ := ho.wr _ _ rfl
      have z1 := hb1.size; have z2 := hb2.size; have z3 := hb3.size
      have hB3 := (hb1.trans (hb2.mono z1)).trans (hb3.mono (by omega))
      clear hb1 hb2 hb3 ho hW
      go_wp2_with fail
      refine ((H2 _).out).mono ?_
      rintro e w4 ⟨rfl, hb4⟩
      have z4 := hb4.size
      go_wp2_with fail
      refine ((hLo _).out).mono ?_
      rintro e w' ⟨rfl, rfl⟩
      go_wp2_with fail
      refine ((H5 _).out).mono ?_
      rintro e w5 ⟨rfl, hb5⟩
      have z5 := hb5.size
      simp only [World.size_alloc] at z5
      have hbc : Below w3.heap.size w3 w5 := (hb4.alloc z4 _).trans (hb5.mono (by simp; omega))
      have p0 : w5.cell? ⟨b, 0, none⟩ = some (.int .i64 1) := (hbc.cell (p := ⟨b, 0, none⟩) hlt).trans q0
      have p1 : w5.cell? ⟨b, 1, none⟩ = some (.int .i64 0) := (hbc.cell (p := ⟨b, 1, none⟩) hlt).trans q1
      have p2 : w5.cell? ⟨b, 2, none⟩ = some (.string (S ++ ⟨#[46]⟩ ++ S2)) := (hbc.cell (p := ⟨b, 2, none⟩) hlt).trans q2
      have p3 : w5.cell? ⟨b, 3, none⟩ = some (.int .i64 0) := (hbc.cell (p := ⟨b, 3, none⟩) hlt).trans q3
      have hlt5 : b < w5.heap.size := by omega
      clear q0 q1 q2 q3
      go_wp2_with fail
      refine ((HA _).out).mono ?_
      rintro e w6 ⟨rfl, hb6⟩
      go_wp2_with fail
      go_ret
      exact ⟨rfl, (hB3.trans (hbc.mono (by omega))).trans (((Below.refl _ _).alloc (by omega) _).trans (hb6.mono (by simp; omega)))⟩
    · have h5' := h5.trans (if_pos (by exact ⟨by omega, by rw [if_neg (by omega)]; omega⟩))
      have hsv : (if 2147483648 ≤ N * 3600 then 0 else N * 3600) = N * 3600 := if_neg (by omega)
      rw [hsv] at h5'
      have H5 := fun W => Lib.hid (lex_ok h5' W (by simp only [ByteArray.size_append, maxLen]; show S.size + 1 ≤ _; omega))
      have hvc : ((N * 3600 : Nat) : Int) = (N : Int) *3600 := by omega
      have hd1 : decide ((N : Int) *3600 < 1) = false := by rw [decide_eq_false_iff_not]; omega
      have hd2 : decide (2147483647 < (N : Int) *3600) = false := by rw [decide_eq_false_iff_not]; omega
      have Hv1 := Lib.hid hv1
      have Hv2 := Lib.hid hv2
      clear h5 h5' hsv hv1 hv2
      go_enter Try.func5, Try.ntmps5
      go_wp2_with fail
      refine ((hD1 _).out).mono ?_
      rintro e w1 ⟨rfl, hb1⟩
      go_wp2_with fail
      refine ((hD2 _).out).mono ?_
      rintro e w2 ⟨rfl, hb2⟩
      go_wp2_with fail
      refine ((H1 _).out).mono ?_
      rintro e w3 ⟨A, c, rfl, ho, hb3⟩
      obtain ⟨b, o, rfl, hlt, q0, q1, q2, q3⟩ := ho.rd.at_tok (k := 0) (l := ⟨1, 0, S ++ ⟨#[46]⟩ ++ S2, 0⟩) rfl
      obtain ⟨rfl, _, hW⟩ := ho.wr _ _ rfl
      have z1 := hb1.size; have z2 := hb2.size; have z3 := hb3.size
      have hB3 := (hb1.trans (hb2.mono z1)).trans (hb3.mono (by omega))
      clear hb1 hb2 hb3 ho hW
      go_wp2_with fail
      refine ((H2 _).out).mono ?_
      rintro e w4 ⟨rfl, hb4⟩
      have z4 := hb4.size
      go_wp2_with fail
      refine ((hLo _).out).mono ?_
      rintro e w' ⟨rfl, rfl⟩
      go_wp2_with fail
      refine ((H5 _).out).mono ?_
      rintro e w5 ⟨A5, c5, rfl, ho5, hb5⟩
      obtain ⟨b5, o5, rfl, hlt5', r0, r1, r2, r3⟩ := ho5.rd.at_tok (k := 0) (l := ⟨2, 0, S ++ ⟨#[104]⟩, N * 3600⟩) rfl
      obtain ⟨rfl, _, hW5⟩ := ho5.wr _ _ rfl
      clear ho5 hW5
      simp only [hvc] at r3
      clear hvc
      have z5 := hb5.size
      simp only [World.size_alloc] at z5
      have hbc : Below w3.heap.size w3 w5 := (hb4.alloc z4 _).trans (hb5.mono (by simp; omega))
      have p0 : w5.cell? ⟨b, 0, none⟩ = some (.int .i64 1) := (hbc.cell (p := ⟨b, 0, none⟩) hlt).trans q0
      have p1 : w5.cell? ⟨b, 1, none⟩ = some (.int .i64 0) := (hbc.cell (p := ⟨b, 1, none⟩) hlt).trans q1
      have p2 : w5.cell? ⟨b, 2, none⟩ = some (.string (S ++ ⟨#[46]⟩ ++ S2)) := (hbc.cell (p := ⟨b, 2, none⟩) hlt).trans q2
      have p3 : w5.cell? ⟨b, 3, none⟩ = some (.int .i64 0) := (hbc.cell (p := ⟨b, 3, none⟩) hlt).trans q3
      have hlt5 : b < w5.heap.size := by omega
      clear q0 q1 q2 q3
      go_wp2_with fail
      refine ((H4 _).out).mono ?_
      rintro e w6 ⟨A6, n6, c6, q6, rfl, hb6⟩
      have z6 := hb6.size
      simp only [World.size_alloc] at z6
      have s0 : w6.cell? ⟨b5, 0, none⟩ = some (.int .i64 2) := (hb6.cell (p := ⟨b5, 0, none⟩) (by simp; omega)).trans ((((Below.refl w5.heap.size w5).alloc (Nat.le_refl _) _).cell (p := ⟨b5, 0, none⟩) hlt5').trans r0)
      have s3 : w6.cell? ⟨b5, 3, none⟩ = some (.int .i64 ((N : Int) *3600)) := (hb6.cell (p := ⟨b5, 3, none⟩) (by simp; omega)).trans ((((Below.refl w5.heap.size w5).alloc (Nat.le_refl _) _).cell (p := ⟨b5, 3, none⟩) hlt5').trans (by simpa using r3))
      clear r0 r1 r2 r3 p0 p1 p2 p3
      cases hle : decide (S.size ≤ 5) with
      | _ =>
        have hcc2 : (cc == 0) = _ := hcc.trans hle
        have hleI : decide ((S.size : Int) ≤ 5) = _ := (decide_eq_decide.2 (by omega)).trans hle
        clear hcc
        go_wp2_with fail
        refine ((HA _).out).mono ?_
        rintro e w7 ⟨rfl, hb7⟩
        go_wp2_with fail
        go_ret
        exact ⟨rfl, ((hB3.trans (hbc.mono (by omega))).trans (((Below.refl _ _).alloc (by omega) _).trans (hb6.mono (by simp; omega)))).trans (hb7.mono (by omega))⟩
  · have h5 := h3 ⟨#[100]⟩ 100 rfl (by decide) (by decide) (by decide)
    have hun : unitN (100 : UInt8).toNat = 86400 := rfl
    rw [hun, spanU] at h5
    clear h3 hun
    have hcase : (N : Int) * 86400 < 1 ∨ (1 ≤ (N : Int) * 86400 ∧ 2147483647 < (N : Int) * 86400) ∨ (1 ≤ (N : Int) * 86400 ∧ (N : Int) * 86400 ≤ 2147483647) := by omega
    rcases hcase with hv | ⟨hv1, hv2⟩ | ⟨hv1, hv2⟩
    · obtain rfl : N = 0 := by omega
      clear hv
      have h5' := h5.trans (if_neg (by rintro ⟨h, _⟩; omega))
      have H5 := fun W => Lib.hid (lex_no h5' W (by simp only [ByteArray.size_append, maxLen]; show S.size + 1 ≤ _; omega))
      clear h5 h5'
      go_enter Try.func5, Try.ntmps5
      go_wp2_with fail
      refine ((hD1 _).out).mono ?_
      rintro e w1 ⟨rfl, hb1⟩
      go_wp2_with fail
      refine ((hD2 _).out).mono ?_
      rintro e w2 ⟨rfl, hb2⟩
      go_wp2_with fail
      refine ((H1 _).out).mono ?_
      rintro e w3 ⟨A, c, rfl, ho, hb3⟩
      obtain ⟨b, o, rfl, hlt, q0, q1, q2, q3⟩ := ho.rd.at_tok (k := 0) (l := ⟨1, 0, S ++ ⟨#[46]⟩ ++ S2, 0⟩) rfl
      obtain ⟨rfl, _, hW⟩ := ho.wr _ _ rfl
      have z1 := hb1.size; have z2 := hb2.size; have z3 := hb3.size
      have hB3 := (hb1.trans (hb2.mono z1)).trans (hb3.mono (by omega))
      clear hb1 hb2 hb3 ho hW
      go_wp2_with fail
      refine ((H2 _).out).mono ?_
      rintro e w4 ⟨rfl, hb4⟩
      have z4 := hb4.size
      go_wp2_with fail
      refine ((hLo _).out).mono ?_
      rintro e w' ⟨rfl, rfl⟩
      go_wp2_with fail
      refine ((H5 _).out).mono ?_
      rintro e w5 ⟨rfl, hb5⟩
      have z5 := hb5.size
      simp only [World.size_alloc] at z5
      have hbc : Below w3.heap.size w3 w5 := (hb4.alloc z4 _).trans (hb5.mono (by simp; omega))
      have p0 : w5.cell? ⟨b, 0, none⟩ = some (.int .i64 1) := (hbc.cell (p := ⟨b, 0, none⟩) hlt).trans q0
      have p1 : w5.cell? ⟨b, 1, none⟩ = some (.int .i64 0) := (hbc.cell (p := ⟨b, 1, none⟩) hlt).trans q1
      have p2 : w5.cell? ⟨b, 2, none⟩ = some (.string (S ++ ⟨#[46]⟩ ++ S2)) := (hbc.cell (p := ⟨b, 2, none⟩) hlt).trans q2
      have p3 : w5.cell? ⟨b, 3, none⟩ = some (.int .i64 0) := (hbc.cell (p := ⟨b, 3, none⟩) hlt).trans q3
      have hlt5 : b < w5.heap.size := by omega
      clear q0 q1 q2 q3
      go_wp2_with fail
      refine ((HA _).out).mono ?_
      rintro e w6 ⟨rfl, hb6⟩
      go_wp2_with fail
      go_ret
      exact ⟨rfl, (hB3.trans (hbc.mono (by omega))).trans (((Below.refl _ _).alloc (by omega) _).trans (hb6.mono (by simp; omega)))⟩
    · have h5' := h5.trans (if_neg (by rintro ⟨_, h⟩; rw [if_pos (by omega)] at h; omega))
      have H5 := fun W => Lib.hid (lex_no h5' W (by simp only [ByteArray.size_append, maxLen]; show S.size + 1 ≤ _; omega))
      clear h5 h5'
      go_enter Try.func5, Try.ntmps5
      go_wp2_with fail
      refine ((hD1 _).out).mono ?_
      rintro e w1 ⟨rfl, hb1⟩
      go_wp2_with fail
      refine ((hD2 _).out).mono ?_
      rintro e w2 ⟨rfl, hb2⟩
      go_wp2_with fail
      refine ((H1 _).out).mono ?_
      rintro e w3 ⟨A, c, rfl, ho, hb3⟩
      obtain ⟨b, o, rfl, hlt, q0, q1, q2, q3⟩ := ho.rd.at_tok (k := 0) (l := ⟨1, 0, S ++ ⟨#[46]⟩ ++ S2, 0⟩) rfl
      obtain ⟨rfl, _, hW⟩ := ho.wr _ _ rfl
      have z1 := hb1.size; have z2 := hb2.size; have z3 := hb3.size
      have hB3 := (hb1.trans (hb2.mono z1)).trans (hb3.mono (by omega))
      clear hb1 hb2 hb3 ho hW
      go_wp2_with fail
      refine ((H2 _).out).mono ?_
      rintro e w4 ⟨rfl, hb4⟩
      have z4 := hb4.size
      go_wp2_with fail
      refine ((hLo _).out).mono ?_
      rintro e w' ⟨rfl, rfl⟩
      go_wp2_with fail
      refine ((H5 _).out).mono ?_
      rintro e w5 ⟨rfl, hb5⟩
      have z5 := hb5.size
      simp only [World.size_alloc] at z5
      have hbc : Below w3.heap.size w3 w5 := (hb4.alloc z4 _).trans (hb5.mono (by simp; omega))
      have p0 : w5.cell? ⟨b, 0, none⟩ = some (.int .i64 1) := (hbc.cell (p := ⟨b, 0, none⟩) hlt).trans q0
      have p1 : w5.cell? ⟨b, 1, none⟩ = some (.int .i64 0) := (hbc.cell (p := ⟨b, 1, none⟩) hlt).trans q1
      have p2 : w5.cell? ⟨b, 2, none⟩ = some (.string (S ++ ⟨#[46]⟩ ++ S2)) := (hbc.cell (p := ⟨b, 2, none⟩) hlt).trans q2
      have p3 : w5.cell? ⟨b, 3, none⟩ = some (.int .i64 0) := (hbc.cell (p := ⟨b, 3, none⟩) hlt).trans q3
      have hlt5 : b < w5.heap.size := by omega
      clear q0 q1 q2 q3
      go_wp2_with fail
      refine ((HA _).out).mono ?_
      rintro e w6 ⟨rfl, hb6⟩
      go_wp2_with fail
      go_ret
      exact ⟨rfl, (hB3.trans (hbc.mono (by omega))).trans (((Below.refl _ _).alloc (by omega) _).trans (hb6.mono (by simp; omega)))⟩
    · have h5' := h5.trans (if_pos (by exact ⟨by omega, by rw [if_neg (by omega)]; omega⟩))
      have hsv : (if 2147483648 ≤ N * 86400 then 0 else N * 86400) = N * 86400 := if_neg (by omega)
      rw [hsv] at h5'
      have H5 := fun W => Lib.hid (lex_ok h5' W (by simp only [ByteArray.size_append, maxLen]; show S.size + 1 ≤ _; omega))
      have hvc : ((N * 86400 : Nat) : Int) = (N : Int) *86400 := by omega
      have hd1 : decide ((N : Int) *86400 < 1) = false := by rw [decide_eq_false_iff_not]; omega
      have hd2 : decide (2147483647 < (N : Int) *86400) = false := by rw [decide_eq_false_iff_not]; omega
      have Hv1 := Lib.hid hv1
      have Hv2 := Lib.hid hv2
      clear h5 h5' hsv hv1 hv2
      go_enter Try.func5, Try.ntmps5
      go_wp2_with fail
      refine ((hD1 _).out).mono ?_
      rintro e w1 ⟨rfl, hb1⟩
      go_wp2_with fail
      refine ((hD2 _).out).mono ?_
      rintro e w2 ⟨rfl, hb2⟩
      go_wp2_with fail
      refine ((H1 _).out).mono ?_
      rintro e w3 ⟨A, c, rfl, ho, hb3⟩
      obtain ⟨b, o, rfl, hlt, q0, q1, q2, q3⟩ := ho.rd.at_tok (k := 0) (l := ⟨1, 0, S ++ ⟨#[46]⟩ ++ S2, 0⟩) rfl
      obtain ⟨rfl, _, hW⟩ := ho.wr _ _ rfl
      have z1 := hb1.size; have z2 := hb2.size; have z3 := hb3.size
      have hB3 := (hb1.trans (hb2.mono z1)).trans (hb3.mono (by omega))
      clear hb1 hb2 hb3 ho hW
      go_wp2_with fail
      refine ((H2 _).out).mono ?_
      rintro e w4 ⟨rfl, hb4⟩
      have z4 := hb4.size
      go_wp2_with fail
      refine ((hLo _).out).mono ?_
      rintro e w' ⟨rfl, rfl⟩
      go_wp2_with fail
      refine ((H5 _).out).mono ?_
      rintro e w5 ⟨A5, c5, rfl, ho5, hb5⟩
      obtain ⟨b5, o5, rfl, hlt5', r0, r1, r2, r3⟩ := ho5.rd.at_tok (k := 0) (l := ⟨2, 0, S ++ ⟨#[100]⟩, N * 86400⟩) rfl
      obtain ⟨rfl, _, hW5⟩ := ho5.wr _ _ rfl
      clear ho5 hW5
      simp only [hvc] at r3
      clear hvc
      have z5 := hb5.size
      simp only [World.size_alloc] at z5
      have hbc : Below w3.heap.size w3 w5 := (hb4.alloc z4 _).trans (hb5.mono (by simp; omega))
      have p0 : w5.cell? ⟨b, 0, none⟩ = some (.int .i64 1) := (hbc.cell (p := ⟨b, 0, none⟩) hlt).trans q0
      have p1 : w5.cell? ⟨b, 1, none⟩ = some (.int .i64 0) := (hbc.cell (p := ⟨b, 1, none⟩) hlt).trans q1
      have p2 : w5.cell? ⟨b, 2, none⟩ = some (.string (S ++ ⟨#[46]⟩ ++ S2)) := (hbc.cell (p := ⟨b, 2, none⟩) hlt).trans q2
      have p3 : w5.cell? ⟨b, 3, none⟩ = some (.int .i64 0) := (hbc.cell (p := ⟨b, 3, none⟩) hlt).trans q3
      have hlt5 : b < w5.heap.size := by omega
      clear q0 q1 q2 q3
      go_wp2_with fail
      refine ((H4 _).out).mono ?_
      rintro e w6 ⟨A6, n6, c6, q6, rfl, hb6⟩
      have z6 := hb6.size
      simp only [World.size_alloc] at z6
      have s0 : w6.cell? ⟨b5, 0, none⟩ = some (.int .i64 2) := (hb6.cell (p := ⟨b5, 0, none⟩) (by simp; omega)).trans ((((Below.refl w5.heap.size w5).alloc (Nat.le_refl _) _).cell (p := ⟨b5, 0, none⟩) hlt5').trans r0)
      have s3 : w6.cell? ⟨b5, 3, none⟩ = some (.int .i64 ((N : Int) *86400)) := (hb6.cell (p := ⟨b5, 3, none⟩) (by simp; omega)).trans ((((Below.refl w5.heap.size w5).alloc (Nat.le_refl _) _).cell (p := ⟨b5, 3, none⟩) hlt5').trans (by simpa using r3))
      clear r0 r1 r2 r3 p0 p1 p2 p3
      cases hle : decide (S.size ≤ 5) with
      | _ =>
        have hcc2 : (cc == 0) = _ := hcc.trans hle
        have hleI : decide ((S.size : Int) ≤ 5) = _ := (decide_eq_decide.2 (by omega)).trans hle
        clear hcc
        go_wp2_with fail
        refine ((HA _).out).mono ?_
        rintro e w7 ⟨rfl, hb7⟩
        go_wp2_with fail
        go_ret
        exact ⟨rfl, ((hB3.trans (hbc.mono (by omega))).trans (((Below.refl _ _).alloc (by omega) _).trans (hb6.mono (by simp; omega)))).trans (hb7.mono (by omega))⟩
theorem lexNumbers_int (n d unit : Int) (w : World) (hn : 0 ≤ n ∧ n < 18446744073709551616) (hd : 0 ≤ d ∧ d < 18446744073709551616) (hu : -9223372036854775808 ≤ unit ∧ unit < 9223372036854775808) : Calls Try.prog 5 #[.int .u64 n, .int .u64 d, .int .i64 unit] w (AwakeOk w) := by
  obtain ⟨a, rfl⟩ := Int.eq_ofNat_of_zero_le hn.1
  obtain ⟨b, rfl⟩ := Int.eq_ofNat_of_zero_le hd.1
  exact lexNumbers_any a b unit w hn.2 hd.2 hu
end Go.Proofs.Ytbhkoefbajflnaa
