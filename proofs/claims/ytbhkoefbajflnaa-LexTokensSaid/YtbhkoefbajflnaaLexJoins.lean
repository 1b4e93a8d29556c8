/- LexJoins: two texts with a blank between have the tokens of both. -/
import Derived.Test.YtbhkoefbajflnaaLexA
import Derived.Test.YtbhkoefbajflnaaLexPlain
namespace Go.Proofs.Ytbhkoefbajflnaa
open Go.RowKit

def LexGivesN (w : World) (ts : List Tok) (n : Nat) (e : Ending) (w' : World) : Prop := ∃ A c, e = .returned (.tuple #[.slice A n c, .int .i64 0, .int .i64 0]) ∧ Own w' w.heap.size 32 4 A n c (toksC ts) ∧ Below w.heap.size w w'
theorem lex_okn {s : ByteArray} {ts : List Tok} {n : Nat} (h : lexR s = .ok ts) (hn : ts.length = n) (w : World) (hs : s.size ≤ maxLen) : Calls Try.prog 15 #[.string s] w (LexGivesN w ts n) := by
  subst hn; exact lex_ok h w hs
def LexSome (w : World) (x : Int) (e : Ending) (w' : World) : Prop := ∃ A n c p, e = .returned (.tuple #[.slice A n c, .int .i64 p, .int .i64 x]) ∧ Below w.heap.size w w'
def codeR : LexR → Int
  | .ok _ => 0
  | .err _ x => x
theorem lex_some (s : ByteArray) (w : World) (hs : s.size ≤ maxLen) : Calls Try.prog 15 #[.string s] w (LexSome w (codeR (lexR s))) := by
  cases h : lexR s with
  | ok ts => exact (lex_ok h w hs).mono fun e w' ⟨A, c, h1, _, h3⟩ => ⟨A, _, c, 0, h1, h3⟩
  | err p x => exact (lex_no h w hs).mono fun e w' ⟨h1, h3⟩ => ⟨none, 0, 0, p, h1, h3⟩
theorem app_toL (a b : ByteArray) : (a ++ b).data.toList = a.data.toList ++ b.data.toList := by simp
theorem lexR_join {a b : ByteArray} {ts : List Tok} (h : lexR a = .ok (ts ++ [⟨0, a.size, mkB [], 0⟩])) (hs : a.size + b.size + 1 ≤ 4096) : lexR (a ++ ⟨#[32]⟩ ++ b) = ((lexR b).sh (a.size + 1)).pre ts := by
  rw [lexR] at h
  split at h
  · cases h
  · have := lex_joins (b := b.data.toList) (by rw [← Lib.size_eq]; exact h)
    rw [lexR, if_neg (by simp only [ByteArray.size_append]; show ¬ 4096 < a.size + 1 + b.size; omega), lexR, if_neg (by omega), app_toL, app_toL, List.append_assoc]
    show lexL 0 (a.data.toList ++ 32 :: b.data.toList) = _
    rw [this, ← Lib.size_eq]
theorem lexR_end {a : ByteArray} {x : List Tok} (h : lexR a = .ok x) : ∃ ts, x = ts ++ [⟨0, a.size, mkB [], 0⟩] := by
  rw [lexR] at h
  split at h
  · cases h
  · obtain ⟨ts, h1⟩ := lex_end h
    exact ⟨ts, by rw [h1, Nat.zero_add, ← Lib.size_eq]⟩
theorem lexR_size {a : ByteArray} {x : List Tok} (h : lexR a = .ok x) : a.size ≤ 4096 := by
  rw [lexR] at h
  split at h
  · cases h
  · omega
theorem oneL_few {p n : Nat} {l : List UInt8} {ts : List Tok} (h : oneL p l = .ok ts n) : ts.length ≤ 1 := by
  cases l with
  | nil => simp [oneL] at h
  | cons c r =>
    simp only [oneL] at h
    split at h
    · cases h; simp
    split at h
    · simp only [numTok] at h
      split at h
      · cases h; simp
      split at h <;> cases h
      simp
    split at h
    · cases h; simp
    split at h
    · cases ht : textS false r <;> rw [ht] at h <;> cases h
      simp
    split at h <;> cases h
    simp
theorem lexL_few : ∀ (n p : Nat) (l : List UInt8) (ts : List Tok), l.length ≤ n → lexL p l = .ok ts → ts.length ≤ l.length + 1 := by
  intro n
  induction n with
  | zero => intro p l ts hl h; cases l with
    | nil => cases h; simp
    | cons c r => simp at hl
  | succ n ih =>
    intro p l ts hl h
    cases l with
    | nil => cases h; simp
    | cons c r =>
      rw [lexL_cons] at h
      cases ho : oneL p (c :: r) with
      | err q' x' => rw [ho] at h; cases h
      | ok t1 k =>
        rw [ho] at h
        have hk := oneL_n ho
        have hf := oneL_few ho
        cases hr : lexL (p + k) ((c :: r).drop k) with
        | err q' x' => simp only [hr] at h; cases h
        | ok y =>
          simp only [hr, LexR.pre] at h
          injection h with h
          subst h
          have := ih _ _ _ (by rw [List.length_drop]; omega) hr
          rw [List.length_drop] at this
          rw [List.length_append]
          omega
theorem lexR_few {a : ByteArray} {x : List Tok} (h : lexR a = .ok x) : x.length ≤ a.size + 1 := by
  rw [lexR] at h
  split at h
  · cases h
  · rw [Lib.size_eq]; exact lexL_few _ _ _ _ (Nat.le_refl _) h
theorem oneL_at {p n : Nat} {l : List UInt8} {ts : List Tok} (h : oneL p l = .ok ts n) : ∀ t ∈ ts, t.at_ = p := by
  cases l with
  | nil => simp [oneL] at h
  | cons c r =>
    simp only [oneL] at h
    split at h
    · cases h; simp
    split at h
    · simp only [numTok] at h
      split at h
      · cases h; simp
      split at h <;> cases h
      simp
    split at h
    · cases h; simp
    split at h
    · cases ht : textS false r <;> rw [ht] at h <;> cases h
      simp
    split at h <;> cases h
    simp
theorem lexL_at : ∀ (n p : Nat) (l : List UInt8) (ts : List Tok), l.length ≤ n → lexL p l = .ok ts → ∀ t ∈ ts, t.at_ ≤ p + l.length := by
  intro n
  induction n with
  | zero => intro p l ts hl h; cases l with
    | nil => cases h; simp
    | cons c r => simp at hl
  | succ n ih =>
    intro p l ts hl h
    cases l with
    | nil => cases h; simp
    | cons c r =>
      rw [lexL_cons] at h
      cases ho : oneL p (c :: r) with
      | err q' x' => rw [ho] at h; cases h
      | ok t1 k =>
        rw [ho] at h
        have hk := oneL_n ho
        have hf := oneL_at ho
        cases hr : lexL (p + k) ((c :: r).drop k) with
        | err q' x' => simp only [hr] at h; cases h
        | ok y =>
          simp only [hr, LexR.pre] at h
          injection h with h
          subst h
          have := ih _ _ _ (by rw [List.length_drop]; omega) hr
          rw [List.length_drop] at this
          intro t ht
          rcases List.mem_append.1 ht with ht | ht
          · have := hf t ht; omega
          · have := this t ht; omega
theorem lexR_at {a : ByteArray} {x : List Tok} (h : lexR a = .ok x) : ∀ t ∈ x, t.at_ ≤ a.size := by
  rw [lexR] at h
  split at h
  · cases h
  · have := lexL_at _ _ _ _ (Nat.le_refl _) h
    rw [Nat.zero_add, ← Lib.size_eq] at this
    exact this
theorem quiet_add1 {P : Program} {f : FuncId} {args : Array Value} {w : World} {n : Nat} {v : Value}
    (h : Calls P f args (w.drewN n) fun e w' => e = .returned v ∧ ∃ m, w' = (w.drewN n).drewN m) :
    Calls P f args (w.drewN n) fun e w'' => e = .returned v ∧ ∃ m, w'' = w.drewN m :=
  h.mono fun _ _ ⟨he, m, hm⟩ => ⟨he, n + m, by rw [hm, World.drewN_drewN]⟩
theorem Rd.take {w : World} {B sz : Nat} {A : Option Addr} {xs : List (List Value)} (h : Rd w B sz A xs) (n : Nat) : Rd w B sz A (xs.take n) := by
  refine ⟨fun x hx => h.1 x (List.mem_of_mem_take hx), fun hn => ?_⟩
  obtain ⟨b, o, e, hb, hc⟩ := h.2 (by rintro rfl; simp at hn)
  refine ⟨b, o, e, hb, fun k x j v hx hv => ?_⟩
  by_cases hk : k < n
  · rw [List.getElem?_take, if_pos hk] at hx
    exact hc k x j v hx hv
  · rw [List.getElem?_take, if_neg hk] at hx; cases hx

set_option maxRecDepth 100000 in
set_option maxHeartbeats 4000000 in
theorem lexJoins_any (a b : ByteArray) (w : World) (ha : a.size ≤ 140737488351232) (hbs : b.size ≤ 140737488351232) : Calls Try.prog 7 #[.string a, .string b] w (AwakeOk w) := by
  have HA := fun W => Lib.hid (awake17_any W)
  have ha0 : (0 : Int) ≤ a.size := by omega
  have hb0 : (0 : Int) ≤ b.size := by omega
  have hY := fun W => Lib.hid (lex_some b W (by simp only [maxLen]; omega))
  cases hla : lexR a with
  | err p x =>
    have hx := lexR_code hla
    have hX := fun W => Lib.hid (lex_no hla W (by simp only [maxLen]; omega))
    have hx0 : ((x : Int) != 0) = true := by rw [bne_iff_ne]; omega
    clear hla
    go_enter Try.func7, Try.ntmps7
    go_wp2_with fail
    refine ((hX _).out).mono ?_
    rintro e w1 ⟨rfl, hb1⟩
    go_wp2_with fail
    refine ((hY _).out).mono ?_
    rintro e w2 ⟨A, n, c, q, rfl, hb2⟩
    go_wp2_with fail
    refine ((HA _).out).mono ?_
    rintro e w3 ⟨rfl, hb3⟩
    go_wp2_with fail
    go_ret
    have := hb1.size; have := hb2.size
    exact ⟨rfl, (hb1.trans (hb2.mono (by omega))).trans (hb3.mono (by omega))⟩
  | ok x =>
    obtain ⟨ts, rfl⟩ := lexR_end hla
    have has := lexR_size hla
    obtain ⟨n1, hn1⟩ : ∃ n, ts.length = n := ⟨_, rfl⟩
    have hX := fun W => Lib.hid (lex_okn (n := n1 + 1) hla (by simp [hn1]) W (by simp only [maxLen]; omega))
    by_cases hlong : 4096 < a.size + b.size + 1
    · have hI : (4096 : Int) < (a.size : Int) + b.size + 1 := by omega
      clear hla
      go_enter Try.func7, Try.ntmps7
      go_wp2_with fail
      refine ((hX _).out).mono ?_
      rintro e w1 ⟨A1, c1, rfl, ho1, hb1⟩
      go_wp2_with fail
      refine ((hY _).out).mono ?_
      rintro e w2 ⟨A, n, c, q, rfl, hb2⟩
      go_wp2_with fail
      refine ((HA _).out).mono ?_
      rintro e w3 ⟨rfl, hb3⟩
      go_wp2_with fail
      go_ret
      have := hb1.size; have := hb2.size
      exact ⟨rfl, (hb1.trans (hb2.mono (by omega))).trans (hb3.mono (by omega))⟩
    · have hI : ¬ (4096 : Int) < (a.size : Int) + b.size + 1 := by omega
      have hJ := lexR_join (b := b) hla (by omega)
      cases hlb : lexR b with
      | err p x =>
        have hx := lexR_code hlb
        have hx0 : ((x : Int) != 0) = true := by rw [bne_iff_ne]; omega
        have hx1 : ((x : Int) == x) = true := by simp
        rw [hlb] at hJ
        have hY := fun W => Lib.hid (lex_no hlb W (by simp only [maxLen]; omega))
        have hZ := fun W => Lib.hid (lex_no (p := a.size + 1 + p) (x := x) hJ W (by simp only [maxLen, ByteArray.size_append]; show a.size + 1 + b.size ≤ _; omega))
        have hat : (a.size : Int) < ((a.size + 1 + p : Nat) : Int) := by omega
        clear hla hlb hJ
        go_enter Try.func7, Try.ntmps7
        go_wp2_with fail
        refine ((hX _).out).mono ?_
        rintro e w1 ⟨A1, c1, rfl, ho1, hb1⟩
        go_wp2_with fail
        refine ((hY _).out).mono ?_
        rintro e w2 ⟨rfl, hb2⟩
        go_wp2_with fail
        refine ((hZ _).out).mono ?_
        rintro e w3 ⟨rfl, hb3⟩
        go_wp2_with fail
        refine ((HA _).out).mono ?_
        rintro e w4 ⟨rfl, hb4⟩
        go_wp2_with fail
        go_ret
        have := hb1.size; have := hb2.size; have := hb3.size
        exact ⟨rfl, ((hb1.trans (hb2.mono (by omega))).trans (hb3.mono (by omega))).trans (hb4.mono (by omega))⟩
      | ok ys =>
        obtain ⟨n2, hn2⟩ : ∃ n, ys.length = n := ⟨_, rfl⟩
        have hf1 : n1 ≤ 4096 := by have := lexR_few hla; simp [hn1] at this; omega
        have hyat := Lib.hid (lexR_at hlb)
        have hf2 : n2 ≤ 4097 := by have := lexR_few hlb; omega
        rw [hlb] at hJ
        have hY := fun W => Lib.hid (lex_okn hlb hn2 W (by simp only [maxLen]; omega))
        have hZ := fun W => Lib.hid (lex_okn (n := n1 + n2) (ts := ts ++ ys.map (Tok.sh (a.size + 1))) hJ (by simp [hn1, hn2]) W (by simp only [maxLen, ByteArray.size_append]; show a.size + 1 + b.size ≤ _; omega))
        have Hn1 := Lib.hid hn1
        have Hn2 := Lib.hid hn2
        clear hla hlb hJ hn1 hn2
        go_enter Try.func7, Try.ntmps7
        go_wp2_with fail
        refine ((hX _).out).mono ?_
        rintro e w1 ⟨A1, c1, rfl, ho1, hb1⟩
        have hc1 := ho1.cap
        go_wp2_with fail
        refine ((hY _).out).mono ?_
        rintro e w2 ⟨A2, c2, rfl, ho2, hb2⟩
        have hc2 := ho2.cap
        go_wp2_with fail
        refine ((hZ _).out).mono ?_
        rintro e w3 ⟨A3, c3, rfl, ho3, hb3⟩
        have hc3 := ho3.cap
        have hz1 := hb1.size; have hz2 := hb2.size; have hz3 := hb3.size
        have hx1 := ((ho1.rd.below hb2).more hz2).below hb3
        have hx2 := ho2.rd.below hb3
        have hx3 := ho3.rd
        have hB3 := (hb1.trans (hb2.mono (by omega))).trans (hb3.mono (by omega))
        obtain ⟨g1, rfl⟩ : ∃ g, A1 = some ⟨g, 0, none⟩ := by
          rcases ho1.form with ⟨_, h0, _⟩ | ⟨g, h, _⟩
          · omega
          · exact ⟨g, h⟩
        clear ho1 ho2 ho3 hb1 hb2 hb3 hX hY hZ
        have hlx : (toksC (ts ++ [⟨0, a.size, mkB [], 0⟩])).take n1 = toksC ts := by rw [toksC, ← List.map_take, List.take_left' Hn1.out]; rfl
        have hlz : (toksC (ts ++ ys.map (Tok.sh (a.size + 1)))).take n1 = toksC ts := by rw [toksC, ← List.map_take, List.take_left' Hn1.out]; rfl
        have HS := fun q => Lib.hid (sameTokens_any ts ts A3 (some ⟨g1, 0, none⟩) n1 n1 c3 c1 _ _ (w3.drewN q) (hlz ▸ (hx3.take n1).drewN q) (hlx ▸ (hx1.take n1).drewN q) Hn1.out Hn1.out (by simp only [maxLen]; omega) (by simp only [maxLen]; omega))
        simp only [decide_true] at HS
        clear hlx hlz
        have d1 : (((n1 : Int) + 1) == 0) = false := by rw [beq_eq_false_iff_ne]; omega
        have d2 : (((n1 + 1 : Nat) : Int) == 0) = false := by rw [beq_eq_false_iff_ne]; omega
        have d3 : (0 : Int) ≤ n1 := by omega
        have d4 : (n1 : Int) ≤ c3 := by omega
        have d5 : (n1 : Int) ≤ c1 := by omega
        have e1 : IntKind.i64.wrap ((n1 : Int) + 1 + n2) = (n1 : Int) + 1 + n2 := by rw [IntKind.wrap_i64]; omega
        have e2 : IntKind.i64.wrap ((n1 : Int) + 1 + n2 - 1) = (n1 : Int) + n2 := by rw [IntKind.wrap_i64]; omega
        have e3 : IntKind.i64.wrap ((n1 : Int) + 1 - 1) = (n1 : Int) := by rw [IntKind.wrap_i64]; omega
        have e1' : IntKind.i64.wrap (((n1 + 1 : Nat) : Int) + n2) = (n1 : Int) + 1 + n2 := by rw [IntKind.wrap_i64]; omega
        have e3' : IntKind.i64.wrap (((n1 + 1 : Nat) : Int) - 1) = (n1 : Int) := by rw [IntKind.wrap_i64]; omega
        have e4 : (((n1 + n2 : Nat) : Int) != (n1 : Int) + n2) = false := by rw [bne_eq_false_iff_eq]; omega
        go_wp2_with fail
        go_quiet ((go_at_call 16; exact quiet_add1 (HS _).out))
        clear e1 e2 e3 e1' e3' e4
        go_wp2_with fail
        have hbr := below_drewN (Below.refl w3.heap.size w3) nq
        go_loopw [14] (fun i wr => ∃ k : Nat, k ≤ n2 ∧ i = .int .i64 k ∧ Below w3.heap.size w3 wr) (fun i _ => n2 - (intOf i).toNat)
        case atStart => exact ⟨0, by omega, rfl, hbr⟩
        case round =>
          clear hbr
          obtain ⟨k, hk, rfl, hbr⟩ := hrel
          have hk0 : (0 : Int) ≤ k := by omega
          have hsr := hbr.size
          by_cases hlt : k < n2
          · have hltI : (k : Int) < n2 := by omega
            have hltJ : (n1 : Int) + k < (n1 : Int) + n2 := by omega
            obtain ⟨y, hy⟩ := get_lt Hn2 hlt
            have hz : (ts ++ ys.map (Tok.sh (a.size + 1)))[n1 + k]? = some (Tok.sh (a.size + 1) y) := by
              rw [List.getElem?_append_right (by rw [Hn1.out]; omega), Hn1.out, Nat.add_sub_cancel_left, List.getElem?_map, hy]; rfl
            have hya : (y.at_ : Int) ≤ 4096 := by have := hyat.out y (List.mem_of_getElem? hy); omega
            have hya0 : (0 : Int) ≤ y.at_ := by omega
            obtain ⟨b2, o2, hA2, hl2, p0, p1, p2, p3⟩ := ((hx2.more hz3).below hbr).at_tok hy
            obtain ⟨b3, o3, hA3, hl3, q0, q1, q2, q3⟩ := (hx3.below hbr).at_tok hz
            subst hA2 hA3
            have hl2' : b2 < wr.heap.size := by omega
            have hl3' : b3 < wr.heap.size := by omega
            have q1' : wr.cell? ⟨b3, o3 + (n1 + k) * 4 + 1, none⟩ = some (.int .i64 ((y.at_ : Int) + a.size + 1)) := by
              rw [q1]; show some (Value.int .i64 ((a.size + 1 + y.at_ : Nat) : Int)) = _; congr 2; omega
            have hne : ∀ W : World, (binOp .neq 32 (.agg #[.int .i64 y.kind, .int .i64 ((y.at_ : Int) + a.size + 1), .string y.text, .int .i64 (y.span : Nat)]) (.agg #[.int .i64 y.kind, .int .i64 ((y.at_ : Int) + a.size + 1), .string y.text, .int .i64 (y.span : Nat)])).run Try.prog W = .ok (.bool false) W := fun W => by
              rw [run_neq_struct, eqvTok]; simp [Result.andThen]
            have hgl := guardTok
            clear q1
            simp only [Tok.sh] at q0 q2 q3
            go_wp2_with fail
            have e3 : IntKind.i64.wrap ((n1 : Int) + 1 - 1) = (n1 : Int) := by rw [IntKind.wrap_i64]; omega
            have e5 : IntKind.i64.wrap ((n1 : Int) + k) = (n1 : Int) + k := by rw [IntKind.wrap_i64]; omega
            have e6 : ((n1 : Int) + k).toNat = n1 + k := by omega
            have e7 : (0 : Int) ≤ (n1 : Int) + k := by omega
            go_quiet (fail)
            go_wp2_with fail
            go_roundw
            case rel => exact ⟨k + 1, by omega, by go_num, below_drewN (hbr.alloc (by omega) _) _⟩
            case measure => simp [intOf]; omega
          · have hltI : ¬ (k : Int) < n2 := by omega
            go_wp2_with fail
            refine ((HA _).out).mono ?_
            rintro e w4 ⟨rfl, hb4⟩
            go_wp2_with fail
            go_ret
            exact ⟨rfl, (hB3.trans (hbr.mono (by omega))).trans (hb4.mono (by omega))⟩
end Go.Proofs.Ytbhkoefbajflnaa
