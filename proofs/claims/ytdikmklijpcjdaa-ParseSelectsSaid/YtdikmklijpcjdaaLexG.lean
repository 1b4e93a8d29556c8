/- Signs. -/
import Derived.Test.YtdikmklijpcjdaaLexN
import Derived.Laws.Externs
namespace Go.Proofs.Ytdikmklijpcjdaa
open Go.RowKit

def sign1 (c : UInt8) : Bool := decide (0 ≤ Lib.indexByte [60, 62, 61, 43, 45, 42, 47, 40, 41, 123, 125, 91, 93, 44] c)
def sign2 (x : List UInt8) : Bool := (x == [61, 61]) || (x == [33, 61]) || (x == [60, 61]) || (x == [62, 61]) || (x == [61, 126]) || (x == [33, 126])
def signN (l : List UInt8) : Nat := if decide (1 < l.length) && sign2 (l.take 2) then 2 else if l.head?.any sign1 then 1 else 0
def signS (s : ByteArray) : ByteArray := ⟨(s.data.toList.take (signN s.data.toList)).toArray⟩
theorem extract_upto' (s : ByteArray) (k : Nat) : s.extract 0 k = ⟨(s.data.toList.take k).toArray⟩ := by
  apply ByteArray.ext; apply Array.toList_inj.1; rw [extract_toL]; rfl
theorem toList_data' (s : ByteArray) : s.toList = s.data.toList := ByteArray.toList_eq s
theorem ret_string {a b : ByteArray} (h : a = b) : Ending.returned (.string a) = .returned (.string b) := by rw [h]
theorem signS_2 {s : ByteArray} (h1 : 1 < s.size) (h : sign2 (s.extract 0 2).toList = true) : signS s = s.extract 0 2 := by
  rw [signS, signN, if_pos, extract_upto']
  rw [toList_data', extract_toL] at h
  rw [← Lib.size_eq, decide_eq_true h1, Bool.true_and]
  exact h
theorem signN_1 {s : ByteArray} (h0 : 0 < s.size) (h : ¬ 1 < s.size ∨ sign2 (s.extract 0 2).toList = false) : signN s.data.toList = if sign1 s[0] = true then 1 else 0 := by
  rw [signN, if_neg, head_at h0, Option.any_some]
  rw [← Lib.size_eq]
  rcases h with h | h
  · simp [h]
  · rw [toList_data', extract_toL] at h
    have : sign2 (s.data.toList.take 2) = false := h
    simp [this]
theorem u8_back (c : UInt8) : ((c.toNat : Int)).toNat.toUInt8 = c := by simp
set_option maxRecDepth 100000 in
set_option maxHeartbeats 1000000 in
theorem index1_any (s : ByteArray) (c : UInt8) (w : World) : Calls Try.prog 75 #[.string s, .int .u8 (c.toNat : Int)] w fun e w' => e = .returned (.int .i64 (Lib.indexByte s.data.toList c)) ∧ w = w' := by
  go_enter Try.func75, Try.ntmps75
  go_wp2
  rw [run_callFunc_extern Try.func82 (by kernel_rfl) (by kernel_rfl) (by kernel_rfl) (e := Extern.BytealgIndexByte.indexByte) (by kernel_rfl), Lib.run_indexByteString]
  simp only [Result.andThen]
  rw [Oper.upon_value, u8_back]
  go_wp2
  go_ret
  exact ⟨rfl, rfl⟩
set_option maxRecDepth 100000 in
set_option maxHeartbeats 1000000 in
theorem index2_any (s : ByteArray) (c : UInt8) (w : World) : Calls Try.prog 59 #[.string s, .int .u8 (c.toNat : Int)] w fun e w' => e = .returned (.int .i64 (Lib.indexByte s.data.toList c)) ∧ w = w' := by
  have H := fun W => Lib.hid (index1_any s c W)
  go_enter Try.func59, Try.ntmps59
  go_wp2_with (go_at_call 75; refine ((H _).out).mono ?_; rintro e w' ⟨rfl, rfl⟩)
  go_ret
  exact ⟨rfl, rfl⟩
set_option maxRecDepth 100000 in
set_option maxHeartbeats 2000000 in
theorem sign_any (s : ByteArray) (w : World) (h0 : 0 < s.size) : Calls Try.prog 35 #[.string s] w fun e w' => e = .returned (.string (signS s)) ∧ w = w' := by
  have h0I : (0 : Int) < s.size := by omega
  have h1J : (1 : Int) ≤ s.size := by omega
  have HX := fun W => Lib.hid (index2_any ⟨#[60, 62, 61, 43, 45, 42, 47, 40, 41, 123, 125, 91, 93, 44]⟩ s[0] W)
  have HS : Hid (sign1 s[0] = decide ((0 : Int) ≤ Lib.indexByte [60, 62, 61, 43, 45, 42, 47, 40, 41, 123, 125, 91, 93, 44] s[0])) := rfl
  by_cases h1 : 1 < s.size
  · have h1I : (1 : Int) < s.size := by omega
    have h2I : (2 : Int) ≤ s.size := by omega
    cases e0 : ((s.extract 0 2).toList == [61, 61]) with
    | true =>
      have HT : Hid (signS s = s.extract 0 2) := signS_2 h1 (by simp [sign2, e0])
      clear HX HS
      go_enter Try.func35, Try.ntmps35
      go_wp2_with fail
      go_ret
      exact ⟨ret_string HT.out.symm, rfl⟩
    | false =>
    cases e1 : ((s.extract 0 2).toList == [33, 61]) with
    | true =>
      have HT : Hid (signS s = s.extract 0 2) := signS_2 h1 (by simp [sign2, e1])
      clear HX HS
      go_enter Try.func35, Try.ntmps35
      go_wp2_with fail
      go_ret
      exact ⟨ret_string HT.out.symm, rfl⟩
    | false =>
    cases e2 : ((s.extract 0 2).toList == [60, 61]) with
    | true =>
      have HT : Hid (signS s = s.extract 0 2) := signS_2 h1 (by simp [sign2, e2])
      clear HX HS
      go_enter Try.func35, Try.ntmps35
      go_wp2_with fail
      go_ret
      exact ⟨ret_string HT.out.symm, rfl⟩
    | false =>
    cases e3 : ((s.extract 0 2).toList == [62, 61]) with
    | true =>
      have HT : Hid (signS s = s.extract 0 2) := signS_2 h1 (by simp [sign2, e3])
      clear HX HS
      go_enter Try.func35, Try.ntmps35
      go_wp2_with fail
      go_ret
      exact ⟨ret_string HT.out.symm, rfl⟩
    | false =>
    cases e4 : ((s.extract 0 2).toList == [61, 126]) with
    | true =>
      have HT : Hid (signS s = s.extract 0 2) := signS_2 h1 (by simp [sign2, e4])
      clear HX HS
      go_enter Try.func35, Try.ntmps35
      go_wp2_with fail
      go_ret
      exact ⟨ret_string HT.out.symm, rfl⟩
    | false =>
    cases e5 : ((s.extract 0 2).toList == [33, 126]) with
    | true =>
      have HT : Hid (signS s = s.extract 0 2) := signS_2 h1 (by simp [sign2, e5])
      clear HX HS
      go_enter Try.func35, Try.ntmps35
      go_wp2_with fail
      go_ret
      exact ⟨ret_string HT.out.symm, rfl⟩
    | false =>
    have HN : Hid (signN s.data.toList = if sign1 s[0] = true then 1 else 0) := signN_1 h0 (.inr (by simp only [sign2, e0, e1, e2, e3, e4, e5]; rfl))
    rw [HS.out] at HN
    by_cases hx : (0 : Int) ≤ Lib.indexByte [60, 62, 61, 43, 45, 42, 47, 40, 41, 123, 125, 91, 93, 44] s[0]
    · have HT : Hid (signS s = s.extract 0 1) := by show signS s = _; rw [signS, HN.out, if_pos (decide_eq_true hx), extract_upto']
      clear HS HN
      go_enter Try.func35, Try.ntmps35
      go_wp2_with (go_at_call 59; refine ((HX _).out).mono ?_; rintro e w' ⟨rfl, rfl⟩)
      go_ret
      exact ⟨ret_string HT.out.symm, rfl⟩
    · have HT : Hid (signS s = ⟨#[]⟩) := by show signS s = _; rw [signS, HN.out, if_neg (by simpa using hx)]; rfl
      clear HS HN
      go_enter Try.func35, Try.ntmps35
      go_wp2_with (go_at_call 59; refine ((HX _).out).mono ?_; rintro e w' ⟨rfl, rfl⟩)
      go_ret
      exact ⟨ret_string HT.out.symm, rfl⟩
  · have h1I : ¬ (1 : Int) < s.size := by omega
    have HN : Hid (signN s.data.toList = if sign1 s[0] = true then 1 else 0) := signN_1 h0 (.inl h1)
    rw [HS.out] at HN
    by_cases hx : (0 : Int) ≤ Lib.indexByte [60, 62, 61, 43, 45, 42, 47, 40, 41, 123, 125, 91, 93, 44] s[0]
    · have HT : Hid (signS s = s.extract 0 1) := by show signS s = _; rw [signS, HN.out, if_pos (decide_eq_true hx), extract_upto']
      clear HS HN
      go_enter Try.func35, Try.ntmps35
      go_wp2_with (go_at_call 59; refine ((HX _).out).mono ?_; rintro e w' ⟨rfl, rfl⟩)
      go_ret
      exact ⟨ret_string HT.out.symm, rfl⟩
    · have HT : Hid (signS s = ⟨#[]⟩) := by show signS s = _; rw [signS, HN.out, if_neg (by simpa using hx)]; rfl
      clear HS HN
      go_enter Try.func35, Try.ntmps35
      go_wp2_with (go_at_call 59; refine ((HX _).out).mono ?_; rintro e w' ⟨rfl, rfl⟩)
      go_ret
      exact ⟨ret_string HT.out.symm, rfl⟩
end Go.Proofs.Ytdikmklijpcjdaa
