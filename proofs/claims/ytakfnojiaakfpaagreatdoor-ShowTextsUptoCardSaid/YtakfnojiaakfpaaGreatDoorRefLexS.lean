/- The document's own lexing: spans, signs. -/
import Derived.Test.YtakfnojiaakfpaaGreatDoorRefLexN
import Derived.Test.YtakfnojiaakfpaaGreatDoorRefLexC
namespace Go.Proofs.YtakfnojiaakfpaaGreatDoor
open Go.RowKit
theorem digN_pre : ∀ {a b : List UInt8}, a.all dchar = true → digN (a ++ b) = a.length + digN b
  | [], b, _ => by simp
  | c :: r, b, h => by
    rw [List.all_cons, Bool.and_eq_true] at h
    have := digN_pre (b := b) h.2
    rw [List.cons_append, digN, List.takeWhile_cons, if_pos h.1, List.length_cons, List.length_cons]
    show digN (r ++ b) + 1 = _
    omega
theorem span_short {l : List UInt8} (h : l.length ≤ 1) : spanN l = 0 := by
  match l, h with
  | [], _ => rfl
  | [c], _ =>
    cases hd : dchar c with
    | false => rw [spanN, if_pos (.inl (by simp [digN, hd]))]
    | true => rw [spanN, if_pos (.inr (.inr (.inr (by simp [digN, hd]))))]
theorem span_long {l : List UInt8} (h : 12 ≤ l.length) : spanN l = 0 := by
  by_cases h1 : 10 < digN l
  · rw [spanN, if_pos (.inr (.inl h1))]
  · rw [spanN, if_pos (.inr (.inr (.inr (by omega))))]
theorem unit_dig {c : UInt8} (h : dchar c = true) : unitN c.toNat = 0 := by
  simp [dchar] at h
  rw [unitN, if_neg (by omega), if_neg (by omega), if_neg (by omega), if_neg (by omega)]
theorem spanU_z1 (v : Nat) : spanU v 0 = 0 := by simp [spanU]
theorem spanU_z2 (u : Nat) : spanU 0 u = 0 := by simp [spanU]
theorem span_whole {a : List UInt8} {c : UInt8} (hw : wholeB a = true) (h10 : a.length ≤ 10) : spanN (a ++ [c]) = spanU (decN a) (unitN c.toNat) := by
  simp only [wholeB, Bool.and_eq_true, decide_eq_true_eq, Bool.not_eq_true'] at hw
  obtain ⟨⟨ha, h1⟩, hn⟩ := hw
  have hdp := digN_pre (b := [c]) ha
  cases hd : dchar c with
  | true =>
    have : digN [c] = 1 := by simp [digN, hd]
    rw [spanN, if_pos (.inr (.inr (.inr (by rw [hdp, this, List.length_append]; simp)))), unit_dig hd, spanU_z1]
  | false =>
    have : digN [c] = 0 := by simp [digN, hd]
    rw [this, Nat.add_zero] at hdp
    have e2 : (a ++ [c])[a.length]? = some c := by simp
    have eh : (a ++ [c]).head? = a.head? := by cases a with
      | nil => simp at h1
      | cons => rfl
    rw [spanN, hdp, eh, List.take_left' rfl, e2]
    cases hh : nought a.head? with
    | false => rw [if_neg (by rintro (h | h | h | h); omega; omega; cases h; simp at h)]; rfl
    | true =>
      rw [if_pos (.inr (.inr (.inl rfl)))]
      cases a with
      | nil => simp at h1
      | cons x r =>
        simp only [List.head?_cons, nought, beq_iff_eq] at hh
        have hx : x = 48 := UInt8.toNat_inj.1 (by show x.toNat = 48; omega)
        have hr : r = [] := by
          cases r with
          | nil => rfl
          | cons y z => rw [needB, hx] at hn; simp at hn
        subst hx hr
        show 0 = spanU 0 _
        rw [spanU_z2]
theorem span_nowhole {a : List UInt8} {c : UInt8} (hw : wholeB a = false) : spanN (a ++ [c]) = 0 := by
  by_cases ha : a.all dchar = true
  · have hdp := digN_pre (b := [c]) ha
    cases hd : dchar c with
    | true =>
      have : digN [c] = 1 := by simp [digN, hd]
      rw [spanN, if_pos (.inr (.inr (.inr (by rw [hdp, this, List.length_append]; simp))))]
    | false =>
      have : digN [c] = 0 := by simp [digN, hd]
      rw [this, Nat.add_zero] at hdp
      rw [spanN, hdp]
      by_cases h1 : 1 ≤ a.length
      · have hn : needB a = true := by rw [wholeB, ha, decide_eq_true h1] at hw; simpa using hw
        have hno : nought (a ++ [c]).head? = true := by
          rw [needB, Bool.and_eq_true] at hn
          cases a with
          | nil => simp at h1
          | cons x r =>
            have : x = 48 := by simpa using hn.2
            subst this; rfl
        rw [if_pos (.inr (.inr (.inl hno)))]
      · rw [if_pos (.inl (by omega))]
  · have hlt : digN (a ++ [c]) + 1 ≠ (a ++ [c]).length := by
      intro h
      rw [List.length_append] at h
      have h2 : digN (a ++ [c]) = a.length := by simpa using h
      apply ha
      have := take_all_dig (a ++ [c])
      rwa [h2, List.take_left' rfl] at this
    rw [spanN, if_pos (.inr (.inr (.inr hlt)))]
def SpanOk (s : ByteArray) (w : World) (e : Ending) (w' : World) : Prop :=
  ∃ v : Int, e = .returned (.tuple #[.int .i64 v, .bool (decide (0 < spanN s.data.toList))]) ∧ (0 < spanN s.data.toList → v = spanN s.data.toList) ∧ w = w'
theorem spanOk_no {s : ByteArray} {w : World} (h : spanN s.data.toList = 0) : SpanOk s w (.returned (.tuple #[.int .i64 0, .bool false])) w := ⟨0, by rw [h]; rfl, by omega, rfl⟩
theorem ret_tup {a b : Int} {x y : Bool} (h1 : a = b) (h2 : x = y) : Ending.returned (.tuple #[.int .i64 a, .bool x]) = .returned (.tuple #[.int .i64 b, .bool y]) := by rw [h1, h2]
theorem split_last {s : ByteArray} {n : Nat} (h : s.size = n + 1) (hn : n < s.size) : s.data.toList = s.data.toList.take n ++ [s[n]] := by
  rw [← take_at hn, List.take_of_length_le (by rw [← Lib.size_eq]; omega)]
set_option maxRecDepth 100000 in
set_option maxHeartbeats 4000000 in
theorem xspan_any (s : ByteArray) (w : World) (hs : s.size ≤ 4096) : Calls Tryz.prog 123 #[.string s] w (SpanOk s w) := by
  have hl : s.data.toList.length = s.size := (Lib.size_eq s).symm
  by_cases h1 : s.size ≤ 1
  · have HT := Lib.hid (span_short (l := s.data.toList) (by omega))
    have hI : (s.size : Int) - 1 < 1 := by omega
    clear hl h1
    go_enter Tryz.func123, Tryz.ntmps123
    go_wp2_with fail
    go_ret2
    exact spanOk_no HT.out
  by_cases h2 : 12 ≤ s.size
  · have HT := Lib.hid (span_long (l := s.data.toList) (by omega))
    have hI : ¬ (s.size : Int) - 1 < 1 := by omega
    have hJ : (10 : Int) < (s.size : Int) - 1 := by omega
    clear hl h1 h2
    go_enter Tryz.func123, Tryz.ntmps123
    go_wp2_with fail
    go_ret2
    exact spanOk_no HT.out
  obtain ⟨n, hn⟩ : ∃ n, s.size = n + 1 := ⟨s.size - 1, by omega⟩
  have hns : n < s.size := by omega
  have hsp := split_last hn hns
  have htl : (s.data.toList.take n).length = n := by rw [List.length_take, hl]; omega
  have hn1 : (1 : Int) ≤ n := by omega
  have hn10 : (n : Int) ≤ 10 := by omega
  have hnI : (n : Int) ≤ s.size := by omega
  have hnJ : (n : Int) < s.size := by omega
  have hw := fun W => Lib.hid (whole_any (s.extract 0 n) W (by have := extract_size_le s 0 n; omega))
  have e0 : (s.size : Int) - 1 = (n : Int) := by omega
  obtain ⟨b, hb⟩ : ∃ b, wholeB (s.data.toList.take n) = b := ⟨_, rfl⟩
  have hb2 : wholeB (s.extract 0 n).data.toList = b := by rw [extract_toL, List.drop_zero, Nat.sub_zero]; exact hb
  rw [hb2] at hw
  cases b with
  | false =>
    have HT : Hid (spanN s.data.toList = 0) := by show _ = _; rw [hsp]; exact span_nowhole hb
    clear hl h1 h2 hn hsp htl hb hb2
    go_enter Tryz.func123, Tryz.ntmps123
    go_wp2_with (go_at_call 107; refine ((hw _).out).mono ?_; rintro e w' ⟨rfl, rfl⟩)
    go_ret2
    exact spanOk_no HT.out
  | true =>
    have HT : Hid (spanN s.data.toList = spanU (decN (s.data.toList.take n)) (unitN s[n].toNat)) := by
      show _ = _
      conv => lhs; rw [hsp]
      exact span_whole hb (by omega)
    have HW : Hid (∀ c ∈ s.data.toList.take n, dchar c = true) := by
      simp only [wholeB, Bool.and_eq_true] at hb
      exact List.all_eq_true.1 hb.1.1
    clear hl h1 h2 hn hsp htl hb hb2
    go_enter Tryz.func123, Tryz.ntmps123
    go_wp2_with (go_at_call 107; refine ((hw _).out).mono ?_; rintro e w' ⟨rfl, rfl⟩)
    clear e0
    go_loop [5, 6] (fun v i => ∃ (k V : Nat), k ≤ n ∧ i = .int .i64 k ∧ v = .int .i64 V ∧ Hid (decN (s.data.toList.take k) = V) ∧ V < 10 ^ k) (fun _ i => n - (intOf i).toNat)
    case atStart => exact ⟨0, 0, by omega, rfl, rfl, by show _ = _; rfl, by simp⟩
    case round =>
      obtain ⟨k, V, hk, rfl, rfl, HV, hV⟩ := hrel
      by_cases hkn : k < n
      · have hks : k < s.size := by omega
        have hkI : (k : Int) < n := by omega
        have hksI : (k : Int) < s.size := by omega
        have hk0 : (0 : Int) ≤ k := by omega
        obtain ⟨d1, d2⟩ := dchar_yes (HW.out s[k] (by rw [List.mem_iff_getElem?]; exact ⟨k, by rw [List.getElem?_take, if_pos hkn, List.getElem?_eq_getElem (by rw [← Lib.size_eq]; exact hks)]; rfl⟩))
        have hp : 10 ^ k ≤ 10 ^ 9 := Nat.pow_le_pow_right (by omega) (by omega)
        have hp2 : 10 ^ (k + 1) = 10 * 10 ^ k := by rw [Nat.pow_succ, Nat.mul_comm]
        have hV1 : (V : Int) ≤ 999999999 := by omega
        have hV0 : (0 : Int) ≤ V := by omega
        have HV2 := Lib.hid ((dec_step hks).trans (by rw [HV.out]))
        have HB : Hid (10 * V + (s[k].toNat - 48) < 10 ^ (k + 1)) := by show _ < _; omega
        clear HV hV hp hp2
        go_wp2
        go_round
        case rel => exact ⟨k + 1, 10 * V + (s[k].toNat - 48), by omega, by go_num, by congr 1; omega, HV2, HB.out⟩
        case measure => simp [intOf]; omega
      · have hke : k = n := by omega
        subst hke
        have hp : 10 ^ k ≤ 10 ^ 10 := Nat.pow_le_pow_right (by omega) (by omega)
        have hV1 : (V : Int) ≤ 9999999999 := by omega
        have hV0 : (0 : Int) ≤ V := by omega
        have hnk : ¬ (k : Int) < k := by omega
        have hk0 : (0 : Int) ≤ k := by omega
        rw [HV.out] at HT
        have hu := u8_le s[k]
        have hu0 : (0 : Int) ≤ s[k].toNat := by omega
        have huI : (s[k].toNat : Int) ≤ 255 := by omega
        clear HV hV hp HW
        have hun : unitN s[k].toNat = if s[k].toNat = 115 then 1 else if s[k].toNat = 109 then 60 else if s[k].toNat = 104 then 3600 else if s[k].toNat = 100 then 86400 else 0 := rfl
        by_cases u115 : s[k].toNat = 115
        · have f115 : ((s[k].toNat : Int) == 115) = true := by rw [u115]; rfl
          have HT2 := Lib.hid (HT.out.trans (by rw [u115]; rfl : _ = spanU V 1))
          clear HT u115 hun
          by_cases hv : (V : Int)  < 1
          · have HT3 : Hid (spanN s.data.toList = 0) := HT2.out.trans (by rw [spanU, if_neg (by omega)]; omega)
            go_wp2
            go_ret2
            exact ⟨_, ret_tup rfl (by rw [HT3.out]; rfl), by rw [HT3.out]; omega, rfl⟩
          · by_cases hb : (V : Int)  ≤ 2147483647
            · have HT3 : Hid (spanN s.data.toList = V * 1) := HT2.out.trans (by rw [spanU, if_neg (by omega)])
              have hv1 : 1 ≤ (V : Int)  := by omega
              go_wp2
              go_ret2
              exact ⟨_, ret_tup rfl (by rw [HT3.out]; simp; omega), by rw [HT3.out]; omega, rfl⟩
            · have HT3 : Hid (spanN s.data.toList = 0) := HT2.out.trans (by rw [spanU, if_pos (by omega)])
              have hv1 : 1 ≤ (V : Int)  := by omega
              go_wp2
              go_ret2
              exact ⟨_, ret_tup rfl (by rw [HT3.out]; simp; try omega), by rw [HT3.out]; omega, rfl⟩
        have f115 : ((s[k].toNat : Int) == 115) = false := by rw [beq_eq_false_iff_ne]; omega
        by_cases u109 : s[k].toNat = 109
        · have f109 : ((s[k].toNat : Int) == 109) = true := by rw [u109]; rfl
          have HT2 := Lib.hid (HT.out.trans (by rw [u109]; rfl : _ = spanU V 60))
          clear HT u109 hun
          by_cases hv : (V : Int) *60 < 1
          · have HT3 : Hid (spanN s.data.toList = 0) := HT2.out.trans (by rw [spanU, if_neg (by omega)]; omega)
            go_wp2
            go_ret2
            exact ⟨_, ret_tup rfl (by rw [HT3.out]; rfl), by rw [HT3.out]; omega, rfl⟩
          · by_cases hb : (V : Int) *60 ≤ 2147483647
            · have HT3 : Hid (spanN s.data.toList = V * 60) := HT2.out.trans (by rw [spanU, if_neg (by omega)])
              have hv1 : 1 ≤ (V : Int) *60 := by omega
              go_wp2
              go_ret2
              exact ⟨_, ret_tup rfl (by rw [HT3.out]; simp; omega), by rw [HT3.out]; omega, rfl⟩
            · have HT3 : Hid (spanN s.data.toList = 0) := HT2.out.trans (by rw [spanU, if_pos (by omega)])
              have hv1 : 1 ≤ (V : Int) *60 := by omega
              go_wp2
              go_ret2
              exact ⟨_, ret_tup rfl (by rw [HT3.out]; simp; try omega), by rw [HT3.out]; omega, rfl⟩
        have f109 : ((s[k].toNat : Int) == 109) = false := by rw [beq_eq_false_iff_ne]; omega
        by_cases u104 : s[k].toNat = 104
        · have f104 : ((s[k].toNat : Int) == 104) = true := by rw [u104]; rfl
          have HT2 := Lib.hid (HT.out.trans (by rw [u104]; rfl : _ = spanU V 3600))
          clear HT u104 hun
          by_cases hv : (V : Int) *3600 < 1
          · have HT3 : Hid (spanN s.data.toList = 0) := HT2.out.trans (by rw [spanU, if_neg (by omega)]; omega)
            go_wp2
            go_ret2
            exact ⟨_, ret_tup rfl (by rw [HT3.out]; rfl), by rw [HT3.out]; omega, rfl⟩
          · by_cases hb : (V : Int) *3600 ≤ 2147483647
            · have HT3 : Hid (spanN s.data.toList = V * 3600) := HT2.out.trans (by rw [spanU, if_neg (by omega)])
              have hv1 : 1 ≤ (V : Int) *3600 := by omega
              go_wp2
              go_ret2
              exact ⟨_, ret_tup rfl (by rw [HT3.out]; simp; omega), by rw [HT3.out]; omega, rfl⟩
            · have HT3 : Hid (spanN s.data.toList = 0) := HT2.out.trans (by rw [spanU, if_pos (by omega)])
              have hv1 : 1 ≤ (V : Int) *3600 := by omega
              go_wp2
              go_ret2
              exact ⟨_, ret_tup rfl (by rw [HT3.out]; simp; try omega), by rw [HT3.out]; omega, rfl⟩
        have f104 : ((s[k].toNat : Int) == 104) = false := by rw [beq_eq_false_iff_ne]; omega
        by_cases u100 : s[k].toNat = 100
        · have f100 : ((s[k].toNat : Int) == 100) = true := by rw [u100]; rfl
          have HT2 := Lib.hid (HT.out.trans (by rw [u100]; rfl : _ = spanU V 86400))
          clear HT u100 hun
          by_cases hv : (V : Int) *86400 < 1
          · have HT3 : Hid (spanN s.data.toList = 0) := HT2.out.trans (by rw [spanU, if_neg (by omega)]; omega)
            go_wp2
            go_ret2
            exact ⟨_, ret_tup rfl (by rw [HT3.out]; rfl), by rw [HT3.out]; omega, rfl⟩
          · by_cases hb : (V : Int) *86400 ≤ 2147483647
            · have HT3 : Hid (spanN s.data.toList = V * 86400) := HT2.out.trans (by rw [spanU, if_neg (by omega)])
              have hv1 : 1 ≤ (V : Int) *86400 := by omega
              go_wp2
              go_ret2
              exact ⟨_, ret_tup rfl (by rw [HT3.out]; simp; omega), by rw [HT3.out]; omega, rfl⟩
            · have HT3 : Hid (spanN s.data.toList = 0) := HT2.out.trans (by rw [spanU, if_pos (by omega)])
              have hv1 : 1 ≤ (V : Int) *86400 := by omega
              go_wp2
              go_ret2
              exact ⟨_, ret_tup rfl (by rw [HT3.out]; simp; try omega), by rw [HT3.out]; omega, rfl⟩
        have f100 : ((s[k].toNat : Int) == 100) = false := by rw [beq_eq_false_iff_ne]; omega
        have HT3 : Hid (spanN s.data.toList = 0) := HT.out.trans (by rw [hun, if_neg u115, if_neg u109, if_neg u104, if_neg u100]; rfl)
        clear HT u115 u109 u104 u100 hun
        go_wp2
        go_ret2
        exact spanOk_no HT3.out
end Go.Proofs.YtakfnojiaakfpaaGreatDoor
