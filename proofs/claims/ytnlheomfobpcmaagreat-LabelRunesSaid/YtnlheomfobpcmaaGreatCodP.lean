/- codec: a signed number and a text read: package codec's own and the document's. -/
import Derived.Test.YtnlheomfobpcmaaGreatCodQ
import Derived.Test.YtnlheomfobpcmaaGreatConv
namespace Go.Proofs.YtnlheomfobpcmaaGreat
open Go.RowKit

theorem ret_iii {a a' b b' c c' : Int} (h1 : a = a') (h2 : b = b') (h3 : c = c') : Ending.returned (.tuple #[.int .i64 a, .int .i64 b, .int .i64 c]) = Ending.returned (.tuple #[.int .i64 a', .int .i64 b', .int .i64 c']) := by rw [h1, h2, h3]
theorem uintR_lt (l : List UInt8) (at_ : Int) : (uintR l at_).1 < 18446744073709551616 := by
  by_cases h : (uintR l at_).2.2 = 0
  · exact (uintR_ok h).2.2.2
  · unfold uintR at h ⊢
    split
    · simp
    · cases hg : getU (l.drop at_.toNat) 0 0 with
      | error e => simp
      | ok p =>
        rename_i h'
        rw [if_neg h', hg] at h
        simp at h
theorem uintR_bad {l : List UInt8} {at_ : Int} (h : (uintR l at_).2.2 ≠ 0) : uintR l at_ = (0, 0, (uintR l at_).2.2) := by
  unfold uintR at h ⊢
  split
  · rfl
  · cases hg : getU (l.drop at_.toNat) 0 0 with
    | error e => rfl
    | ok p =>
      rename_i h'
      rw [if_neg h', hg] at h
      simp at h
/-- 'int64(v>>1) ^ -int64(v&1)', as the walk has it -/
theorem ret_sii {a a' : ByteArray} {b b' c c' : Int} (h1 : a = a') (h2 : b = b') (h3 : c = c') : Ending.returned (.tuple #[.string a, .int .i64 b, .int .i64 c]) = Ending.returned (.tuple #[.string a', .int .i64 b', .int .i64 c']) := by rw [h1, h2, h3]
theorem bytesC_dt (l : List UInt8) (t x : Nat) : ((bytesC l).drop t).take x = bytesC ((l.drop t).take x) := by simp [bytesC, List.map_drop, List.map_take]
theorem text_slice {l : List UInt8} {b o n c t x B : Nat} {w : World} (hr : Rd w B 1 (some ⟨b, o, none⟩) (bytesC l)) (hn : l.length = n) (hnc : n ≤ c) (hxn : t + x ≤ n) :
    ∃ A2, (∀ W, (Instr.sliceAt 26 (.slice (some ⟨b, o, none⟩) n c) (some (.int .i64 t)) (some (.int .i64 ((t : Int) + (x : Int)))) none).run Tryz.prog W = .ok (.slice A2 x (c - t)) W) ∧
      (convert 26 9 (.slice A2 x (c - t))).run Tryz.prog w = .ok (.string (mkS ((l.drop t).take x))) w := by
  have hu : Tryz.prog.underlying 26 = some (.slice (Tryz.prog.elem 26)) := by kernel_rfl
  have hsz : ∀ W, (sizeOf (Tryz.prog.elem 26)).run Tryz.prog W = .ok 1 W := fun W => by kernel_rfl
  have key : ∀ W, (Instr.sliceAt 26 (.slice (some ⟨b, o, none⟩) n c) (some (.int .i64 t)) (some (.int .i64 ((t : Int) + (x : Int)))) none).run Tryz.prog W = .ok (.slice (if c = t then some ⟨b, o, none⟩ else some ⟨b, o + t, none⟩) x (c - t)) W := fun W => by
    rw [run_sliceAt_slice _ _ _ _ _ _ hu, run_slice_lh _ _ _ _ _ hu _ _ _ _ (by omega) (by omega) (by omega), hsz]
    simp only [Result.andThen, sliced, Option.map_some, add_none, Nat.mul_one, Int.toNat_natCast]
    rw [show ((t : Int) + (x : Int)).toNat = t + x from by omega, show t + x - t = x from by omega]
  refine ⟨_, key, ?_⟩
  split
  · obtain rfl : x = 0 := by omega
    exact run_conv_rd (P := Tryz.prog) (acc := (l.drop t).take 0) (w := w) (B := B) (by simpa [bytesC] using Rd.nil_) 26 5 9 Tryz.underlying26 Tryz.underlying5 Tryz.underlying9 0 (c - t) (by simp) (fun _ => .inr ⟨_, _, rfl⟩)
  · have hR := (hr.dropk t).take x
    rw [bytesC_dt] at hR
    exact run_conv_rd (P := Tryz.prog) hR 26 5 9 Tryz.underlying26 Tryz.underlying5 Tryz.underlying9 x (c - t) (by rw [List.length_take, List.length_drop]; omega) (fun _ => .inr ⟨_, _, rfl⟩)
set_option maxHeartbeats 1000000 in
theorem text_any (l : List UInt8) (A : Option Addr) (n c B : Nat) (at_ : Int) (w : World) (hr : Rd w B 1 A (bytesC l)) (hn : l.length = n) (hm : n ≤ 140737488355328) (hnc : n ≤ c) (hcm : c ≤ maxLen) (h1 : -9223372036854775808 ≤ at_) (h2 : at_ ≤ 9223372036854775807) :
    Calls Tryz.prog 71 #[.slice A n c, .int .i64 at_] w fun e w' => e = .returned (.tuple #[.string (textR l at_).1, .int .i64 (textR l at_).2.1, .int .i64 (textR l at_).2.2]) ∧ w = w' := by
  have HU := fun (W : World) (h : Rd W B 1 A (bytesC l)) => uint_any l A n c B at_ W h hn hm h1 h2
  have hx := uintR_lt l at_
  have hok := uintR_ok (l := l) (at_ := at_)
  have HI : Hid (textR l at_ = if (uintR l at_).2.2 ≠ 0 then (ByteArray.empty, 0, (uintR l at_).2.2)
    else if (l.length : Int) - (uintR l at_).2.1 < ((uintR l at_).1 : Int) then (ByteArray.empty, 0, 20)
    else (mkS ((l.drop (uintR l at_).2.1.toNat).take (uintR l at_).1), (uintR l at_).2.1 + (uintR l at_).1, 0)) := rfl
  generalize uintR l at_ = p at HU hx HI hok
  obtain ⟨x, to, e⟩ := p
  simp only at HU hx HI hok
  have HU := fun (W : World) (h : Rd W B 1 A (bytesC l)) => Lib.hid (HU W h)
  unfold maxLen at hcm
  have hxI : (x : Int) < 18446744073709551616 := by omega
  by_cases he : e = 0
  · subst he
    obtain ⟨ha, hat, hto, _⟩ := hok rfl
    obtain ⟨t, rfl⟩ : ∃ t : Nat, to = t := ⟨to.toNat, by omega⟩
    have ht0 : 1 ≤ t := by omega
    have htn : t ≤ n := by omega
    have hHI := HI.out
    rw [if_neg (by simp), hn] at hHI
    clear HI hok ha hat hto h1 h2
    have htI : (t : Int) ≤ (n : Int) := by omega
    by_cases hbig : (n : Int) - (t : Int) < (x : Int)
    · have HT := Lib.hid (hHI.trans (if_pos hbig))
      clear hHI hn
      go_enter Tryz.func71, Tryz.ntmps71
      go_wp2_with (go_at_call 70; refine ((HU _ hr).out).mono ?_; rintro e w' ⟨rfl, rfl⟩)
      go_ret3
      refine ⟨?_, rfl⟩
      rw [HT.out]
      exact ret_sii rfl rfl rfl
    · have HT := Lib.hid (hHI.trans (if_neg hbig))
      obtain ⟨b, o, rfl, hb, _⟩ := hr.2 (by intro h; have := congrArg List.length h; rw [bytesC_len] at this; simp at this; subst this; simp at hn; omega)
      have hxn : (t : Int) + (x : Int) ≤ (n : Int) := by omega
      obtain ⟨A2, hsl, hcv⟩ := text_slice hr hn hnc (t := t) (x := x) (by omega)
      have hdec : decide ((n : Int) - (t : Int) < (x : Int)) = false := decide_eq_false hbig
      clear hHI hn hbig
      go_enter Tryz.func71, Tryz.ntmps71
      go_wp2_with (go_at_call 70; refine ((HU _ hr).out).mono ?_; rintro e w' ⟨rfl, rfl⟩)
      go_ret3
      refine ⟨?_, rfl⟩
      rw [HT.out]
      exact ret_sii rfl rfl rfl
  · have HT := Lib.hid (HI.out.trans (if_pos he))
    have hb : (e != 0) = true := by rw [bne_iff_ne]; exact he
    clear he hok HI hn
    go_enter Tryz.func71, Tryz.ntmps71
    go_wp2_with (go_at_call 70; refine ((HU _ hr).out).mono ?_; rintro e w' ⟨rfl, rfl⟩)
    go_ret3
    refine ⟨?_, rfl⟩
    rw [HT.out]
    exact ret_sii rfl rfl rfl
end Go.Proofs.YtnlheomfobpcmaaGreat
