/- Spans. -/
import Derived.Test.YtdikmklijpcjdaaLexN
namespace Go.Proofs.Ytdikmklijpcjdaa
open Go.RowKit

def decN (l : List UInt8) : Nat := l.foldl (fun v c => 10 * v + (c.toNat - 48)) 0
def unitN (c : Nat) : Nat := if c = 115 then 1 else if c = 109 then 60 else if c = 104 then 3600 else if c = 100 then 86400 else 0
def spanU (v u : Nat) : Nat := if 2147483648 ≤ v * u then 0 else v * u
def unitAt : Option UInt8 → Nat
  | some c => unitN c.toNat
  | none => 0
def nought : Option UInt8 → Bool
  | some c => (c.toNat : Int) == 48
  | none => false
def spanN (l : List UInt8) : Nat :=
  if digN l = 0 ∨ 10 < digN l ∨ nought l.head? = true ∨ digN l + 1 ≠ l.length then 0 else spanU (decN (l.take (digN l))) (unitAt l[digN l]?)

theorem take_at {s : ByteArray} {k : Nat} (h : k < s.size) : s.data.toList.take (k + 1) = s.data.toList.take k ++ [s[k]] := by
  have h' : k < s.data.toList.length := by rw [← Lib.size_eq]; exact h
  rw [List.take_add_one, List.getElem?_eq_getElem h']
  rfl
theorem dec_step {s : ByteArray} {k : Nat} (h : k < s.size) : decN (s.data.toList.take (k + 1)) = 10 * decN (s.data.toList.take k) + (s[k].toNat - 48) := by
  rw [take_at h, decN, List.foldl_append]; rfl
theorem take_digs : ∀ (l : List UInt8), ∀ c ∈ l.take (digN l), dchar c = true
  | [], _, h => by simp at h
  | x :: r, c, h => by
    cases hx : dchar x with
    | true =>
      have : digN (x :: r) = digN r + 1 := by rw [digN, List.takeWhile_cons, if_pos hx, List.length_cons]; rfl
      rw [this, List.take_succ_cons] at h
      rcases List.mem_cons.1 h with rfl | h
      · exact hx
      · exact take_digs r c h
    | false =>
      have : digN (x :: r) = 0 := by rw [digN, List.takeWhile_cons, if_neg (by simp [hx])]; rfl
      rw [this] at h
      simp at h
theorem dig_at {s : ByteArray} {k n : Nat} (hn : digN s.data.toList = n) (h : k < n) (hs : k < s.size) : 48 ≤ (s[k].toNat : Int) ∧ (s[k].toNat : Int) ≤ 57 := by
  refine dchar_yes (take_digs s.data.toList _ ?_)
  rw [hn, List.mem_iff_getElem?]
  exact ⟨k, by rw [List.getElem?_take, if_pos h, List.getElem?_eq_getElem (by rw [← Lib.size_eq]; exact hs)]; rfl⟩

set_option maxHeartbeats 2000000 in
theorem span_any (s : ByteArray) (w : World) (hs : s.size ≤ 4096) : Calls Try.prog 36 #[.string s] w fun e w' => e = .returned (.int .i64 (spanN s.data.toList)) ∧ w = w' := by
  obtain ⟨n, hn⟩ : ∃ n, digN s.data.toList = n := ⟨_, rfl⟩
  have hns : n ≤ s.size := hn ▸ digN_le' s
  have HD := fun W => Lib.hid (digits_any s W (by unfold maxLen; omega))
  rw [hn] at HD
  have hl : s.data.toList.length = s.size := (Lib.size_eq s).symm
  have hn00 : (0 : Int) ≤ n := by omega
  by_cases h0 : n = 0
  · have HT : Hid (spanN s.data.toList = 0) := by show spanN _ = _; rw [spanN, hn, if_pos (.inl h0)]
    clear hn hns hl hn00
    subst h0
    go_enter Try.func36, Try.ntmps36
    go_wp2_with (go_at_call 60; refine ((HD _).out).mono ?_; rintro e w' ⟨rfl, rfl⟩)
    go_ret
    exact ⟨ret_int (by rw [HT.out]; rfl), rfl⟩
  have hnz : ((n : Int) == 0) = false := by rw [beq_eq_false_iff_ne]; omega
  by_cases h1 : 10 < n
  · have HT : Hid (spanN s.data.toList = 0) := by show spanN _ = _; rw [spanN, hn, if_pos (.inr (.inl h1))]
    have hI : (10 : Int) < n := by omega
    clear hn hns hl
    go_enter Try.func36, Try.ntmps36
    go_wp2_with (go_at_call 60; refine ((HD _).out).mono ?_; rintro e w' ⟨rfl, rfl⟩)
    go_ret
    exact ⟨ret_int (by rw [HT.out]; rfl), rfl⟩
  have hI : (n : Int) ≤ 10 := by omega
  have hz : 0 < s.size := by omega
  have hzI : (0 : Int) < s.size := by omega
  cases c0 : ((s[0].toNat : Int) == 48) with
  | true =>
    have HT : Hid (spanN s.data.toList = 0) := by show spanN _ = _; rw [spanN, hn, if_pos (.inr (.inr (.inl (by rw [head_at hz]; exact c0))))]
    clear hn hns hl
    go_enter Try.func36, Try.ntmps36
    go_wp2_with (go_at_call 60; refine ((HD _).out).mono ?_; rintro e w' ⟨rfl, rfl⟩)
    go_ret
    exact ⟨ret_int (by rw [HT.out]; rfl), rfl⟩
  | false =>
  by_cases h2 : n + 1 = s.size
  · have hlt : n < s.size := by omega
    have HT : Hid (spanN s.data.toList = spanU (decN (s.data.toList.take n)) (unitN s[n].toNat)) := by
      show spanN _ = _
      have h3 : n < s.data.toList.length := by omega
      rw [spanN, hn, if_neg (by rw [head_at hz]; simp [nought, c0]; omega), List.getElem?_eq_getElem h3]
      rfl
    have hw1 : IntKind.i64.wrap ((n : Int) + 1) = ((n + 1 : Nat) : Int) := by rw [IntKind.wrap_i64]; omega
    have hf : ((n : Int) + 1 != s.size) = false := by rw [bne_eq_false_iff_eq]; omega
    have HN := Lib.hid hn
    have hltI : (n : Int) < s.size := by omega
    clear hn hl
    go_enter Try.func36, Try.ntmps36
    go_wp2_with (go_at_call 60; refine ((HD _).out).mono ?_; rintro e w' ⟨rfl, rfl⟩)
    go_loop [4, 5] (fun v i => ∃ (k V : Nat), k ≤ n ∧ i = .int .i64 k ∧ v = .int .i64 V ∧ Hid (decN (s.data.toList.take k) = V) ∧ V < 10 ^ k) (fun _ i => n - (intOf i).toNat)
    case atStart => exact ⟨0, 0, by omega, rfl, rfl, by show _ = _; rfl, by simp⟩
    case round =>
      obtain ⟨k, V, hk, rfl, rfl, HV, hV⟩ := hrel
      by_cases hkn : k < n
      · have hks : k < s.size := by omega
        have hkI : (k : Int) < n := by omega
        have hksI : (k : Int) < s.size := by omega
        have hk0 : (0 : Int) ≤ k := by omega
        obtain ⟨d1, d2⟩ := dig_at HN.out hkn hks
        have hp : 10 ^ k ≤ 10 ^ 9 := Nat.pow_le_pow_right (by omega) (by omega)
        have hp2 : 10 ^ (k + 1) = 10 * 10 ^ k := by rw [Nat.pow_succ, Nat.mul_comm]
        have hV1 : (V : Int) ≤ 999999999 := by omega
        have hV0 : (0 : Int) ≤ V := by omega
        have HV2 := Lib.hid ((dec_step hks).trans (by rw [HV.out]))
        have HB : Hid (10 * V + (s[k].toNat - 48) < 10 ^ (k + 1)) := by show _ < _; omega
        clear HV hV hp hp2
        go_wp2
        go_round
        case rel => exact ⟨k + 1, 10 * V + (s[k].toNat - 48), by omega, by go_num, by congr 1; omega, HV2, HB.out⟩
        case measure => simp [intOf]; omega
      · have hke : k = n := by omega
        subst hke
        have hp : 10 ^ k ≤ 10 ^ 10 := Nat.pow_le_pow_right (by omega) (by omega)
        have hV1 : (V : Int) ≤ 9999999999 := by omega
        have hV0 : (0 : Int) ≤ V := by omega
        have hnk : ¬ (k : Int) < k := by omega
        rw [HV.out] at HT
        have hu := u8_le s[k]
        have hu0 : (0 : Int) ≤ s[k].toNat := by omega
        have huI : (s[k].toNat : Int) ≤ 255 := by omega
        clear HV hV hp hn00 h1 h2 h0
        by_cases u115 : s[k].toNat = 115
        · have e115 : ((s[k].toNat : Int) == 115) = true := by rw [u115]; rfl
          have HT2 := Lib.hid (HT.out.trans (by rw [u115]; rfl : _ = spanU V 1))
          clear HT u115
          by_cases hb : (2147483648 : Int) ≤ (V : Int)
          · have HT3 : Hid (spanN s.data.toList = 0) := HT2.out.trans (by rw [spanU, if_pos (by omega)])
            go_wp2
            go_ret
            exact ⟨ret_int (by rw [HT3.out]; rfl), rfl⟩
          · have HT3 : Hid (spanN s.data.toList = V * 1) := HT2.out.trans (by rw [spanU, if_neg (by omega)])
            go_wp2
            go_ret
            exact ⟨ret_int (by rw [HT3.out]; simp), rfl⟩
        have f115 : ((s[k].toNat : Int) == 115) = false := by rw [beq_eq_false_iff_ne]; omega
        by_cases u109 : s[k].toNat = 109
        · have e109 : ((s[k].toNat : Int) == 109) = true := by rw [u109]; rfl
          have HT2 := Lib.hid (HT.out.trans (by rw [u109]; rfl : _ = spanU V 60))
          clear HT u109
          by_cases hb : (2147483648 : Int) ≤ (V : Int) * 60
          · have HT3 : Hid (spanN s.data.toList = 0) := HT2.out.trans (by rw [spanU, if_pos (by omega)])
            go_wp2
            go_ret
            exact ⟨ret_int (by rw [HT3.out]; rfl), rfl⟩
          · have HT3 : Hid (spanN s.data.toList = V * 60) := HT2.out.trans (by rw [spanU, if_neg (by omega)])
            go_wp2
            go_ret
            exact ⟨ret_int (by rw [HT3.out]; simp), rfl⟩
        have f109 : ((s[k].toNat : Int) == 109) = false := by rw [beq_eq_false_iff_ne]; omega
        by_cases u104 : s[k].toNat = 104
        · have e104 : ((s[k].toNat : Int) == 104) = true := by rw [u104]; rfl
          have HT2 := Lib.hid (HT.out.trans (by rw [u104]; rfl : _ = spanU V 3600))
          clear HT u104
          by_cases hb : (2147483648 : Int) ≤ (V : Int) * 3600
          · have HT3 : Hid (spanN s.data.toList = 0) := HT2.out.trans (by rw [spanU, if_pos (by omega)])
            go_wp2
            go_ret
            exact ⟨ret_int (by rw [HT3.out]; rfl), rfl⟩
          · have HT3 : Hid (spanN s.data.toList = V * 3600) := HT2.out.trans (by rw [spanU, if_neg (by omega)])
            go_wp2
            go_ret
            exact ⟨ret_int (by rw [HT3.out]; simp), rfl⟩
        have f104 : ((s[k].toNat : Int) == 104) = false := by rw [beq_eq_false_iff_ne]; omega
        by_cases u100 : s[k].toNat = 100
        · have e100 : ((s[k].toNat : Int) == 100) = true := by rw [u100]; rfl
          have HT2 := Lib.hid (HT.out.trans (by rw [u100]; rfl : _ = spanU V 86400))
          clear HT u100
          by_cases hb : (2147483648 : Int) ≤ (V : Int) * 86400
          · have HT3 : Hid (spanN s.data.toList = 0) := HT2.out.trans (by rw [spanU, if_pos (by omega)])
            go_wp2
            go_ret
            exact ⟨ret_int (by rw [HT3.out]; rfl), rfl⟩
          · have HT3 : Hid (spanN s.data.toList = V * 86400) := HT2.out.trans (by rw [spanU, if_neg (by omega)])
            go_wp2
            go_ret
            exact ⟨ret_int (by rw [HT3.out]; simp), rfl⟩
        have f100 : ((s[k].toNat : Int) == 100) = false := by rw [beq_eq_false_iff_ne]; omega
        have HT3 : Hid (spanN s.data.toList = 0) := HT.out.trans (by rw [unitN, if_neg u115, if_neg u109, if_neg u104, if_neg u100]; rfl)
        clear HT u115 u109 u104 u100
        go_wp2
        go_ret
        exact ⟨ret_int (by rw [HT3.out]; rfl), rfl⟩
  · have HT : Hid (spanN s.data.toList = 0) := by show spanN _ = _; rw [spanN, hn, if_pos (.inr (.inr (.inr (by rw [hl]; exact h2))))]
    have hw1 : IntKind.i64.wrap ((n : Int) + 1) = ((n + 1 : Nat) : Int) := by rw [IntKind.wrap_i64]; omega
    have hf : ((n : Int) + 1 != s.size) = true := by rw [bne_iff_ne]; omega
    clear hn hl
    go_enter Try.func36, Try.ntmps36
    go_wp2_with (go_at_call 60; refine ((HD _).out).mono ?_; rintro e w' ⟨rfl, rfl⟩)
    go_ret
    exact ⟨ret_int (by rw [HT.out]; rfl), rfl⟩
end Go.Proofs.Ytdikmklijpcjdaa
