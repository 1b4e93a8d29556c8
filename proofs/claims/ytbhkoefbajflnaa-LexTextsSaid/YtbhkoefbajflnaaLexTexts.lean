/- LexTexts: any text of bytes from 32 on, quoted, is one token that says it. -/
import Derived.Test.YtbhkoefbajflnaaLexA
namespace Go.Proofs.Ytbhkoefbajflnaa
open Go.RowKit

def quote1 (c : UInt8) : List UInt8 := if c.toNat = 10 then [92, 110] else if c.toNat = 34 ∨ c.toNat = 92 then [92, c] else [c]
def quoteL (l : List UInt8) : List UInt8 := l.flatMap quote1
def sayB (c : UInt8) : Prop := c.toNat = 10 ∨ 32 ≤ c.toNat
theorem quote1_text {c : UInt8} (hc : sayB c) (r : List UInt8) : textS false (quote1 c ++ r) = (textS false r).map fun x => (c :: x.1, x.2 + (quote1 c).length) := by
  unfold quote1
  split
  · rename_i h
    have : c = 10 := UInt8.toNat_inj.1 h
    subst this
    simp only [List.cons_append, List.nil_append, textS, List.length_cons, List.length_nil]
    rw [if_neg (by decide), if_neg (by decide), if_pos (by decide), if_neg (by decide), if_pos (by decide)]
    cases textS false r <;> simp
  · split
    · rename_i h0 h
      simp only [List.cons_append, List.nil_append, textS, List.length_cons, List.length_nil]
      rw [if_neg (by decide), if_neg (by decide), if_pos (by decide), if_pos h]
      cases textS false r <;> simp
    · rename_i h0 h
      have h32 : ¬ c.toNat < 32 := by rcases hc with h | h <;> omega
      simp only [List.cons_append, List.nil_append, textS, List.length_cons, List.length_nil]
      rw [if_neg h32, if_neg (by omega), if_neg (by omega)]
theorem quote_text : ∀ (l r : List UInt8), (∀ c ∈ l, sayB c) → textS false (quoteL l ++ r) = (textS false r).map fun x => (l ++ x.1, x.2 + (quoteL l).length)
  | [], r, _ => by simp [quoteL]
  | c :: l, r, h => by
    have ih := quote_text l r (fun x hx => h x (by simp [hx]))
    have e : quoteL (c :: l) = quote1 c ++ quoteL l := by simp [quoteL]
    rw [e, List.append_assoc, quote1_text (h c (by simp)), ih]
    cases textS false r with
    | none => rfl
    | some x => simp; omega
theorem quote_yes {l : List UInt8} (h : ∀ c ∈ l, sayB c) : lexL 0 (34 :: quoteL l ++ [34]) = .ok [⟨4, 0, mkB l, 0⟩, ⟨0, (quoteL l).length + 2, mkB [], 0⟩] := by
  rw [List.cons_append, lexL_cons]
  have : oneL 0 (34 :: (quoteL l ++ [34])) = .ok [⟨4, 0, mkB l, 0⟩] ((quoteL l).length + 2) := by
    simp only [oneL]
    rw [if_neg (by decide), if_neg (by decide), if_neg (by decide), if_pos (by decide), quote_text l _ h]
    show textTok 0 1 [] (some (l ++ [], 1 + (quoteL l).length)) = _
    simp only [textTok, List.nil_append, List.append_nil]
    congr 1; omega
  rw [this]
  show (lexL (0 + ((quoteL l).length + 2)) ((34 :: (quoteL l ++ [34])).drop ((quoteL l).length + 2))).pre _ = _
  rw [List.drop_eq_nil_of_le (by simp), lexL_nil, Nat.zero_add]
  rfl
theorem quote_no {l : List UInt8} (h : ∀ c ∈ l, sayB c) : lexL 0 (34 :: quoteL l) = .err 0 173 := by
  rw [lexL_cons]
  have : oneL 0 (34 :: quoteL l) = .err 0 173 := by
    simp only [oneL]
    have := quote_text l [] h
    rw [List.append_nil] at this
    rw [if_neg (by decide), if_neg (by decide), if_neg (by decide), if_pos (by decide), this]
    rfl
  rw [this]
theorem quote_bad {c : UInt8} (h : c.toNat < 32) : lexL 0 [34, c, 34] = .err 0 173 := by
  rw [lexL_cons]
  have : oneL 0 [34, c, 34] = .err 0 173 := by
    simp only [oneL]
    rw [if_neg (by decide), if_neg (by decide), if_neg (by decide), if_pos (by decide)]
    simp only [textS, if_pos h]
    rfl
  rw [this]
theorem app_toL' (a b : ByteArray) : (a ++ b).data.toList = a.data.toList ++ b.data.toList := by simp
theorem ext_one {s : ByteArray} {k : Nat} (hk : k < s.size) : (s.extract k (k + 1)).data.toList = [s[k]] := by
  rw [extract_toL, drop_at hk, show k + 1 - k = 1 from by omega]; rfl
theorem quote_step {s Q X : ByteArray} {k : Nat} (hk : k < s.size) (h : Q.data.toList = 34 :: quoteL (s.data.toList.take k)) (hX : X.data.toList = quote1 s[k]) : (Q ++ X).data.toList = 34 :: quoteL (s.data.toList.take (k + 1)) := by
  rw [app_toL', h, hX, take_at hk]
  simp [quoteL]
theorem say_step {s : ByteArray} {k : Nat} (hk : k < s.size) (hs : sayB s[k]) (h : ∀ c ∈ s.data.toList.take k, sayB c) : ∀ c ∈ s.data.toList.take (k + 1), sayB c := by
  rw [take_at hk]
  intro c hc
  rcases List.mem_append.1 hc with hc | hc
  · exact h c hc
  · simp at hc; subst hc; exact hs

set_option maxRecDepth 100000 in
set_option maxHeartbeats 4000000 in
theorem lexTexts_any (s : ByteArray) (w : World) (hs : s.size ≤ 140737488351232) : Calls Try.prog 6 #[.string s] w (AwakeOk w) := by
  have HA := fun W => Lib.hid (awake17_any W)
  go_enter Try.func6, Try.ntmps6
  go_wp2_with fail
  go_loop [3, 4] (fun q i => ∃ (k : Nat) (Q : ByteArray), k ≤ s.size ∧ Q.size ≤ 2 * k + 1 ∧ i = .int .i64 k ∧ q = .string Q ∧ Hid (Q.data.toList = 34 :: quoteL (s.data.toList.take k)) ∧ Hid (∀ c ∈ s.data.toList.take k, sayB c)) (fun _ i => s.size - (intOf i).toNat)
  case atStart => exact ⟨0, _, by omega, by show 1 ≤ _; omega, rfl, rfl, by show _ = _; simp [quoteL], by intro c hc; simp at hc⟩
  case round =>
    obtain ⟨k, Q, hk, hQs, rfl, rfl, HQ, HC⟩ := hrel
    have hk0 : (0 : Int) ≤ k := by omega
    by_cases hlt : k < s.size
    · have hltI : (k : Int) < s.size := by omega
      have hltJ : (k : Int) + 1 ≤ s.size := by omega
      by_cases h10 : s[k].toNat = 10
      · have h10I : ((s[k].toNat : Int) == 10) = true := by rw [beq_iff_eq]; omega
        have HQ2 := Lib.hid (quote_step (X := ⟨#[92, 110]⟩) hlt HQ.out (by rw [quote1, if_pos h10]))
        have HC2 := Lib.hid (say_step hlt (.inl h10) HC.out)
        clear HQ HC h10
        go_wp2_with fail
        go_round
        case rel => exact ⟨k + 1, _, by omega, by simp only [ByteArray.size_append]; show Q.size + 2 ≤ _; omega, by go_num, rfl, HQ2, HC2⟩
        case measure => simp [intOf]; omega
      · have h10I : ((s[k].toNat : Int) == 10) = false := by rw [beq_eq_false_iff_ne]; omega
        by_cases h32 : s[k].toNat < 32
        · have h32I : (s[k].toNat : Int) < 32 := by omega
          have hl : lexR (⟨#[34]⟩ ++ s.extract k (k + 1) ++ ⟨#[34]⟩) = .err 0 173 := by
            have hz : (⟨#[34]⟩ ++ s.extract k (k + 1) ++ ⟨#[34]⟩ : ByteArray).data.toList = [34, s[k], 34] := by rw [app_toL', app_toL', ext_one hlt]; rfl
            rw [lexR, if_neg (by rw [Lib.size_eq, hz]; simp), hz]
            exact quote_bad h32
          have HL := fun W => Lib.hid (lex_no hl W (by simp only [ByteArray.size_append, ByteArray.size_extract, maxLen]; show 1 + (min (k + 1) s.size - k) + 1 ≤ _; omega))
          clear hl h32 HQ HC h10
          go_wp2_with fail
          refine ((HL _).out).mono ?_
          rintro e w1 ⟨rfl, hb1⟩
          go_wp2_with fail
          refine ((HA _).out).mono ?_
          rintro e w2 ⟨rfl, hb2⟩
          go_wp2_with fail
          go_ret
          exact ⟨rfl, hb1.trans (hb2.mono hb1.size)⟩
        · have h32I : ¬ (s[k].toNat : Int) < 32 := by omega
          by_cases h34 : s[k].toNat = 34 ∨ s[k].toNat = 92
          · have HQ2 := Lib.hid (quote_step (Q := Q) (X := ⟨#[92]⟩ ++ s.extract k (k + 1)) hlt HQ.out (by rw [app_toL', ext_one hlt, quote1, if_neg h10, if_pos h34]; rfl))
            have HA2 : Hid (Q ++ ⟨#[92]⟩ ++ s.extract k (k + 1) = Q ++ (⟨#[92]⟩ ++ s.extract k (k + 1))) := by
              apply ByteArray.ext; apply Array.toList_inj.1; rw [app_toL', app_toL', app_toL', app_toL', List.append_assoc]
            have HC2 := Lib.hid (say_step hlt (.inr (by omega)) HC.out)
            clear HQ HC h10 h32
            rcases h34 with h34 | h34
            · have h34I : ((s[k].toNat : Int) == 34) = true := by rw [beq_iff_eq]; omega
              clear h34
              go_wp2_with fail
              go_round
              case rel => exact ⟨k + 1, _, by omega, by simp only [ByteArray.size_append, ByteArray.size_extract]; show Q.size + 1 + (min (k + 1) s.size - k) ≤ _; omega, by go_num, rfl, by rw [HA2.out]; exact HQ2, HC2⟩
              case measure => simp [intOf]; omega
            · have h34I : ((s[k].toNat : Int) == 34) = false := by rw [beq_eq_false_iff_ne]; omega
              have h92I : ((s[k].toNat : Int) == 92) = true := by rw [beq_iff_eq]; omega
              clear h34
              go_wp2_with fail
              go_round
              case rel => exact ⟨k + 1, _, by omega, by simp only [ByteArray.size_append, ByteArray.size_extract]; show Q.size + 1 + (min (k + 1) s.size - k) ≤ _; omega, by go_num, rfl, by rw [HA2.out]; exact HQ2, HC2⟩
              case measure => simp [intOf]; omega
          · have HQ2 := Lib.hid (quote_step (Q := Q) (X := s.extract k (k + 1)) hlt HQ.out (by rw [ext_one hlt, quote1, if_neg h10, if_neg h34]))
            have HC2 := Lib.hid (say_step hlt (.inr (by omega)) HC.out)
            have h34I : ((s[k].toNat : Int) == 34) = false := by rw [beq_eq_false_iff_ne]; omega
            have h92I : ((s[k].toNat : Int) == 92) = false := by rw [beq_eq_false_iff_ne]; omega
            clear HQ HC h10 h32 h34
            go_wp2_with fail
            go_round
            case rel => exact ⟨k + 1, _, by omega, by simp only [ByteArray.size_append, ByteArray.size_extract]; omega, by go_num, rfl, HQ2, HC2⟩
            case measure => simp [intOf]; omega
    · have hltI : ¬ (k : Int) < s.size := by omega
      have htk : s.data.toList.take k = s.data.toList := List.take_of_length_le (by rw [← Lib.size_eq]; omega)
      have hq := HQ.out
      have hc := HC.out
      rw [htk] at hq hc
      clear htk HQ HC
      by_cases hbig : 4096 ≤ Q.size
      · have hbigI : (4096 : Int) ≤ Q.size := by omega
        clear hq hc
        go_wp2_with fail
        refine ((HA _).out).mono ?_
        rintro e w2 ⟨rfl, hb2⟩
        go_wp2_with fail
        go_ret
        exact ⟨rfl, hb2⟩
      · have hbigI : ¬ (4096 : Int) ≤ Q.size := by omega
        have hl1 : lexR (Q ++ ⟨#[34]⟩) = .ok [⟨4, 0, s, 0⟩, ⟨0, (quoteL s.data.toList).length + 2, mkB [], 0⟩] := by
          rw [lexR, if_neg (by rw [ByteArray.size_append]; show ¬ 4096 < Q.size + 1; omega), app_toL', hq]
          exact quote_yes hc
        have hl2 : lexR Q = .err 0 173 := by
          rw [lexR, if_neg (by omega), hq]
          exact quote_no hc
        have H1 := fun W => Lib.hid (lex_ok hl1 W (by rw [ByteArray.size_append]; simp only [maxLen]; show Q.size + 1 ≤ _; omega))
        have H2 := fun W => Lib.hid (lex_no hl2 W (by simp only [maxLen]; omega))
        have heq : ∀ W : World, (binOp .eql 32 (.agg #[.int .i64 4, .int .i64 0, .string s, .int .i64 0]) (.agg #[.int .i64 4, .int .i64 0, .string s, .int .i64 0])).run Try.prog W = .ok (.bool true) W := fun W => by
          rw [run_eql_struct, eqvTok]; simp [Result.andThen]
        have hgl := guardTok
        clear hq hc hl1 hl2
        go_wp2_with fail
        refine ((H1 _).out).mono ?_
        rintro e w1 ⟨A, c, rfl, ho, hb⟩
        obtain ⟨b, o, rfl, hlt, q0, q1, q2, q3⟩ := ho.rd.at_tok (k := 0) (l := ⟨4, 0, s, 0⟩) rfl
        obtain ⟨rfl, _, hW⟩ := ho.wr _ _ rfl
        have hlt2 : w.heap.size ≤ w1.heap.size := hb.size
        go_wp2_with fail
        refine ((H2 _).out).mono ?_
        rintro e w2 ⟨rfl, hb2⟩
        have p0 : w2.cell? ⟨b, 0, none⟩ = some (.int .i64 4) := (hb2.cell (p := ⟨b, 0, none⟩) hlt).trans q0
        have p1 : w2.cell? ⟨b, 1, none⟩ = some (.int .i64 0) := (hb2.cell (p := ⟨b, 1, none⟩) hlt).trans q1
        have p2 : w2.cell? ⟨b, 2, none⟩ = some (.string s) := (hb2.cell (p := ⟨b, 2, none⟩) hlt).trans q2
        have p3 : w2.cell? ⟨b, 3, none⟩ = some (.int .i64 0) := (hb2.cell (p := ⟨b, 3, none⟩) hlt).trans q3
        clear q0 q1 q2 q3
        go_wp2_with fail
        refine ((HA _).out).mono ?_
        rintro e w3 ⟨rfl, hb3⟩
        go_wp2_with fail
        go_ret
        have := hb2.size
        exact ⟨rfl, (hb.trans (hb2.mono hlt2)).trans (hb3.mono (by omega))⟩
end Go.Proofs.Ytbhkoefbajflnaa
