/- codec: a number's and a text's bytes, written: package codec's own and the document's. -/
import Derived.Test.YtnlheomfobpcmaaGreatProg
import Derived.Test.YtnlheomfobpcmaaGreatCodL
import Derived.Test.YtnlheomfobpcmaaGreatCodB
import Derived.Test.YtnlheomfobpcmaaGreatBytesL
import Derived.RegionTactic
namespace Go.Proofs.YtnlheomfobpcmaaGreat
open Go.RowKit

theorem Rd.byteI {w : World} {e : TypeId} {b m : Nat} {z : Int} (hm : m < 256) (hz : z = (m : Int)) (hb : b = w.heap.size) : Rd (w.alloc (.cells #[.int .u8 z] e)) (b + 1) 1 (some ⟨b, 0, none⟩) (bytesC [UInt8.ofNat m]) := by
  subst hb hz
  refine Rd.new w (by simp [bytesC]) _ ?_
  simp [bytesC]
  omega
/-- A slice of bytes of the call's own, handed back. -/
def BytesOut (w : World) (l : List UInt8) (e : Ending) (w' : World) : Prop := ∃ A m c, l.length = m ∧ e = .returned (.slice A m c) ∧ Own w' w.heap.size 5 1 A m c (bytesC l) ∧ Below w.heap.size w w'
/-- The loop of a number's bytes: what has been written so far. -/
def PutAt (l : List UInt8) (v : Nat) (w : World) (x : Nat) (vo : Value) (w' : World) : Prop := ∃ done A c, vo = .slice A done.length c ∧ Own w' w.heap.size 5 1 A done.length c (bytesC done) ∧ Below w.heap.size w w' ∧ done ++ putU x = l ++ putU v
theorem PutAt.len {l done : List UInt8} {v x : Nat} (hv : v < 18446744073709551616) (h : done ++ putU x = l ++ putU v) : done.length + 1 ≤ l.length + 10 := by
  have h1 := congrArg List.length h
  rw [List.length_append, List.length_append] at h1
  have h2 := putU_le10 hv
  have h3 := putU_len x
  omega
set_option maxHeartbeats 1000000 in
theorem putUint_any (l : List UInt8) (A : Option Addr) (n c B v : Nat) (w : World) (hr : Rd w B 1 A (bytesC l)) (hn : l.length = n) (hB : B ≤ w.heap.size) (hm : n ≤ 140737488355300) (hv : v < 18446744073709551616) :
    Calls Tryz.prog 41 #[.slice A n c, .int .u64 (v : Int)] w fun e w' => BytesOut w (l ++ putU v) e w' := by
  have Hn := Lib.hid hn
  clear hn
  go_enter Tryz.func41, Tryz.ntmps41
  go_wp2_with (at_builtin; refine wpList_append_rd (ys := bytesC l) _ rfl (.tmp 6) (.tmp 7) _ rfl eiBytes rfl (Own.lit (n := 0) (xs := []) w (by omega) (by simp) rfl (by simp [maxLen]) (Nat.le_refl _) #[] rfl) rfl (hr.below ((Below.refl _ _).alloc (by omega) _)) (by rw [bytesC_len]; exact Hn.out) (bytesC_one l) (by simp only [maxLen]; omega) (by omega) (by simp) ?_; intro A' c' w2 ho hg hat hb)
  have hI : Hid (PutAt l v w v (.slice A' n c') w2) := ⟨l, A', c', by rw [Hn.out], by rw [Hn.out]; simpa using ho, ((Below.refl _ _).alloc (Nat.le_refl _) _).trans hb, rfl⟩
  clear ho hg hat hb
  try simp only [Nat.zero_add]
  go_loopw [1, 5] (fun i vo wr => ∃ x : Nat, i = .int .u64 x ∧ x ≤ v ∧ Hid (PutAt l v w x vo wr)) (fun i _ _ => (intOf i).toNat)
  case atStart => exact ⟨v, rfl, Nat.le_refl _, hI⟩
  case round =>
    clear hI
    obtain ⟨x, rfl, hx, HP⟩ := hrel
    obtain ⟨done, A1, c1, rfl, ho, hb, he⟩ := HP.out
    have hl := PutAt.len hv he
    rw [Hn.out] at hl
    have hs := hb.size
    by_cases hx7 : 127 < x
    · have hxI : (127 : Int) < (x : Int) := by omega
      have hbo := byte_or x
      have hbo2 := u64_lo7_or x (by omega)
      have hxJ : (128 : Int) ≤ (x : Int) := by omega
      have HE := Lib.hid (show (done ++ [UInt8.ofNat (x % 128 + 128)]) ++ putU (x / 128) = l ++ putU v by rw [List.append_assoc, List.singleton_append, ← putU_big hx7]; exact he)
      have HB := Lib.hid hb
      clear he hb HP
      go_wp2_with (at_builtin; refine wpList_append_rd (ys := bytesC [UInt8.ofNat (x % 128 + 128)]) _ rfl (.tmp 13) (.tmp 17) _ rfl eiBytes rfl (ho.alloc _) rfl (Rd.byteI (m := x % 128 + 128) (by omega) (by first | exact hbo | omega) (by simp)) rfl (bytesC_one _) (by simp only [maxLen]; omega) (by omega) (by simp; omega) ?_; intro A' c' w2 ho2 hg hat hb2)
      go_roundw
      case rel => exact ⟨x / 128, by go_num, by omega, done ++ [UInt8.ofNat (x % 128 + 128)], A', c', by simp, by simpa [bytesC] using ho2, (HB.out.alloc hs _).trans hb2, HE.out⟩
      case measure => simp [intOf]; omega
    · have hxI : ¬ (127 : Int) < (x : Int) := by omega
      have hxJ : ¬ (128 : Int) ≤ (x : Int) := by omega
      have HE := Lib.hid (show done ++ [UInt8.ofNat x] = l ++ putU v by rw [← putU_small hx7]; exact he)
      have HB := Lib.hid hb
      clear he hb HP
      have hw8 : (x : Int) % 256 = (x : Int) := by omega
      go_wp2_with (at_builtin; refine wpList_append_rd (ys := bytesC [UInt8.ofNat x]) _ rfl (.tmp 19) (.tmp 22) _ rfl eiBytes rfl (ho.alloc _) rfl (Rd.byteI (m := x) (by omega) (by first | rfl | exact hw8) (by simp)) rfl (bytesC_one _) (by simp only [maxLen]; omega) (by omega) (by simp; omega) ?_; intro A' c' w2 ho2 hg hat hb2)
      go_ret
      refine ⟨A', _, c', ?_, rfl, ?_, (HB.out.alloc hs _).trans hb2⟩
      · rw [← HE.out]; simp
      · rw [← HE.out]; simpa [bytesC] using ho2
set_option maxHeartbeats 1000000 in
theorem rputUint_any (l : List UInt8) (A : Option Addr) (n c B v : Nat) (w : World) (hr : Rd w B 1 A (bytesC l)) (hn : l.length = n) (hB : B ≤ w.heap.size) (hm : n ≤ 140737488355300) (hv : v < 18446744073709551616) :
    Calls Tryz.prog 51 #[.slice A n c, .int .u64 (v : Int)] w fun e w' => BytesOut w (l ++ putU v) e w' := by
  have Hn := Lib.hid hn
  clear hn
  go_enter Tryz.func51, Tryz.ntmps51
  go_wp2_with (at_builtin; refine wpList_append_rd (ys := bytesC l) _ rfl (.tmp 6) (.tmp 7) _ rfl eiBytes rfl (Own.lit (n := 0) (xs := []) w (by omega) (by simp) rfl (by simp [maxLen]) (Nat.le_refl _) #[] rfl) rfl (hr.below ((Below.refl _ _).alloc (by omega) _)) (by rw [bytesC_len]; exact Hn.out) (bytesC_one l) (by simp only [maxLen]; omega) (by omega) (by simp) ?_; intro A' c' w2 ho hg hat hb)
  have hI : Hid (PutAt l v w v (.slice A' n c') w2) := ⟨l, A', c', by rw [Hn.out], by rw [Hn.out]; simpa using ho, ((Below.refl _ _).alloc (Nat.le_refl _) _).trans hb, rfl⟩
  clear ho hg hat hb
  try simp only [Nat.zero_add]
  go_loopw [1, 5] (fun i vo wr => ∃ x : Nat, i = .int .u64 x ∧ x ≤ v ∧ Hid (PutAt l v w x vo wr)) (fun i _ _ => (intOf i).toNat)
  case atStart => exact ⟨v, rfl, Nat.le_refl _, hI⟩
  case round =>
    clear hI
    obtain ⟨x, rfl, hx, HP⟩ := hrel
    obtain ⟨done, A1, c1, rfl, ho, hb, he⟩ := HP.out
    have hl := PutAt.len hv he
    rw [Hn.out] at hl
    have hs := hb.size
    by_cases hx7 : 127 < x
    · have hxI : (127 : Int) < (x : Int) := by omega
      have hbo := byte_or x
      have hbo2 := u64_lo7_or x (by omega)
      have hxJ : (128 : Int) ≤ (x : Int) := by omega
      have HE := Lib.hid (show (done ++ [UInt8.ofNat (x % 128 + 128)]) ++ putU (x / 128) = l ++ putU v by rw [List.append_assoc, List.singleton_append, ← putU_big hx7]; exact he)
      have HB := Lib.hid hb
      clear he hb HP
      go_wp2_with (at_builtin; refine wpList_append_rd (ys := bytesC [UInt8.ofNat (x % 128 + 128)]) _ rfl (.tmp 11) (.tmp 16) _ rfl eiBytes rfl (ho.alloc _) rfl (Rd.byteI (m := x % 128 + 128) (by omega) (by first | exact hbo | omega) (by simp)) rfl (bytesC_one _) (by simp only [maxLen]; omega) (by omega) (by simp; omega) ?_; intro A' c' w2 ho2 hg hat hb2)
      go_roundw
      case rel => exact ⟨x / 128, by go_num, by omega, done ++ [UInt8.ofNat (x % 128 + 128)], A', c', by simp, by simpa [bytesC] using ho2, (HB.out.alloc hs _).trans hb2, HE.out⟩
      case measure => simp [intOf]; omega
    · have hxI : ¬ (127 : Int) < (x : Int) := by omega
      have hxJ : ¬ (128 : Int) ≤ (x : Int) := by omega
      have HE := Lib.hid (show done ++ [UInt8.ofNat x] = l ++ putU v by rw [← putU_small hx7]; exact he)
      have HB := Lib.hid hb
      clear he hb HP
      have hw8 : (x : Int) % 256 = (x : Int) := by omega
      go_wp2_with (at_builtin; refine wpList_append_rd (ys := bytesC [UInt8.ofNat x]) _ rfl (.tmp 20) (.tmp 23) _ rfl eiBytes rfl (ho.alloc _) rfl (Rd.byteI (m := x) (by omega) (by first | rfl | exact hw8) (by simp)) rfl (bytesC_one _) (by simp only [maxLen]; omega) (by omega) (by simp; omega) ?_; intro A' c' w2 ho2 hg hat hb2)
      go_ret
      refine ⟨A', _, c', ?_, rfl, ?_, (HB.out.alloc hs _).trans hb2⟩
      · rw [← HE.out]; simp
      · rw [← HE.out]; simpa [bytesC] using ho2
set_option maxHeartbeats 400000 in
theorem putText_any (l : List UInt8) (A : Option Addr) (n c B : Nat) (s : ByteArray) (w : World) (hr : Rd w B 1 A (bytesC l)) (hn : l.length = n) (hB : B ≤ w.heap.size) (hm : n + s.size ≤ 140737488355300) :
    Calls Tryz.prog 42 #[.slice A n c, .string s] w fun e w' => BytesOut w (putText l s) e w' := by
  have HP := fun (W : World) (h : Rd W B 1 A (bytesC l)) (hB : B ≤ W.heap.size) => Lib.hid (putUint_any l A n c B s.size W h hn hB (by omega) (by omega))
  have Hn := Lib.hid hn
  clear hn
  have hL := putU_le10 (x := s.size) (by omega)
  go_enter Tryz.func42, Tryz.ntmps42
  go_wp2_with (first
    | (go_at_call 41; refine ((HP _ hr hB).out).mono ?_; rintro e w' ⟨A1, m1, c1, hm1, rfl, ho, hb⟩; have hs := hb.size; have hm2 : m1 ≤ n + 10 := by rw [← hm1, List.length_append, Hn.out]; omega)
    | (at_builtin; refine wpList_append_text (l := l ++ putU s.size) rfl (.tmp 9) (.tmp 10) _ _ rfl Tryz.underlying26 Tryz.underlying9 (by kernel_rfl) rfl ho rfl (by omega) hs ?_; intro A' c' w2 ho2 hg hb2))
  go_ret
  exact ⟨A', _, c', by unfold putText; rw [List.length_append, hm1, ← Lib.size_eq], rfl, ho2, hb.trans hb2⟩
set_option maxHeartbeats 400000 in
theorem rputText_any (l : List UInt8) (A : Option Addr) (n c B : Nat) (s : ByteArray) (w : World) (hr : Rd w B 1 A (bytesC l)) (hn : l.length = n) (hB : B ≤ w.heap.size) (hm : n + s.size ≤ 140737488355300) :
    Calls Tryz.prog 52 #[.slice A n c, .string s] w fun e w' => BytesOut w (putText l s) e w' := by
  have HP := fun (W : World) (h : Rd W B 1 A (bytesC l)) (hB : B ≤ W.heap.size) => Lib.hid (rputUint_any l A n c B s.size W h hn hB (by omega) (by omega))
  have Hn := Lib.hid hn
  clear hn
  have hL := putU_le10 (x := s.size) (by omega)
  go_enter Tryz.func52, Tryz.ntmps52
  go_wp2_with (first
    | (go_at_call 51; refine ((HP _ hr hB).out).mono ?_; rintro e w' ⟨A1, m1, c1, hm1, rfl, ho, hb⟩; have hs := hb.size; have hm2 : m1 ≤ n + 10 := by rw [← hm1, List.length_append, Hn.out]; omega)
    | (at_builtin; refine wpList_append_text (l := l ++ putU s.size) rfl (.tmp 9) (.tmp 10) _ _ rfl Tryz.underlying26 Tryz.underlying9 (by kernel_rfl) rfl ho rfl (by omega) hs ?_; intro A' c' w2 ho2 hg hb2))
  go_ret
  exact ⟨A', _, c', by unfold putText; rw [List.length_append, hm1, ← Lib.size_eq], rfl, ho2, hb.trans hb2⟩
end Go.Proofs.YtnlheomfobpcmaaGreat
