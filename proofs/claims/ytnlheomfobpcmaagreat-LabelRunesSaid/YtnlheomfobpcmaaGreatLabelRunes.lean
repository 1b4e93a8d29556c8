/- LabelRunes: a character of Unicode is a value by itself, alone and amid others. -/
import Derived.Test.YtnlheomfobpcmaaGreatRuneP
import Derived.Test.YtnlheomfobpcmaaGreatLow
import Derived.Test.YtnlheomfobpcmaaGreatLabA
import Derived.Laws.Runes
namespace Go.Proofs.YtnlheomfobpcmaaGreat
open Go.RowKit

theorem rem_n {x : Int} (n : Nat) (hn : 0 < n) (h : 0 ≤ x) : ∃ i : Nat, i < n ∧ x.tmod n = i := by
  refine ⟨(x.tmod n).toNat, ?_, ?_⟩
  · rw [Int.tmod_eq_emod_of_nonneg h]
    have := Int.emod_lt_of_pos x (show (0 : Int) < n by omega)
    have := Int.emod_nonneg x (show (n : Int) ≠ 0 by omega)
    omega
  · rw [Int.tmod_eq_emod_of_nonneg h]
    have := Int.emod_nonneg x (show (n : Int) ≠ 0 by omega)
    omega
set_option maxHeartbeats 1000000 in
theorem one1_any (t : ByteArray) (w : World) (ht : t.size ≤ maxLen) :
    Calls Tryz.prog 38 #[.string t] w fun e w' => e = .returned (.int .i64 (oneE t)) ∧ Below w.heap.size w w' := by
  have hb : Below w.heap.size w (w.alloc (.cells #[.string ⟨#[97]⟩, .string t] 51)) := (Below.refl _ _).alloc (Nat.le_refl _) _
  have hr : Rd (w.alloc (.cells #[.string ⟨#[97]⟩, .string t] 51)) (w.heap.size + 1) 2 (some ⟨w.heap.size, 0, none⟩) (labsC [(⟨#[97]⟩, t)]) := Rd.new w (labsC_all _) _ rfl
  have hc := check_any [(⟨#[97]⟩, t)] (some ⟨w.heap.size, 0, none⟩) 1 1 (w.heap.size + 1) _ hr rfl (by simp) (by decide) (by
    intro l hl
    simp at hl
    subst hl
    exact ⟨by show 1 ≤ maxLen; decide, ht⟩)
  rw [oneE_check] at hc
  have HC := Lib.hid hc
  have HB := Lib.hid hb
  clear hr hc hb
  go_enter Tryz.func38, Tryz.ntmps38
  go_wp2_with (go_at_call 10; refine (HC.out).mono ?_; rintro e w' ⟨rfl, hb⟩)
  go_ret
  exact ⟨rfl, HB.out.trans (hb.mono HB.out.size)⟩
set_option maxRecDepth 100000 in
set_option maxHeartbeats 16000000 in
theorem labelRunes_any (x : Int) (head : ByteArray) (w : World) (hh : head.size ≤ 140737488351232) :
    Calls Tryz.prog 8 #[.int .i64 x, .string head] w fun e w' => e = .returned (.bool true) ∧ Below w.heap.size w w' := by
  obtain ⟨v, hv, hv2⟩ := rem_n 1114112 (by decide) (lowI_nn x).1
  have HL := Lib.hid (low_any x)
  have hlw := lowI_nn x
  have hv2' : (lowI x).tmod 1114112 = (v : Int) := hv2
  have hw1 : IntKind.i64.wrap (v : Int) = (v : Int) := by rw [IntKind.wrap_i64]; omega
  have hw2 : wrap32 (v : Int) = (v : Int) := by unfold wrap32; omega
  clear hv2
  generalize lowI x = q at *
  by_cases h1 : 55296 ≤ v ∧ v ≤ 57343
  · have a1 : (55296 : Int) ≤ (v : Int) := by omega
    have a2 : (v : Int) ≤ 57343 := by omega
    clear h1
    go_enter Tryz.func8, Tryz.ntmps8
    go_wp2_with (first
      | (go_at_call 37; refine (HL.out _).mono ?_; rintro e w' ⟨rfl, rfl⟩)
      | (go_at_call 20; refine (awake_any _).mono ?_; rintro e w2 ⟨rfl, hb⟩))
    go_ret
    exact ⟨rfl, hb⟩
  · have a1 : ((55296 : Int) ≤ (v : Int) ∧ ¬ (v : Int) ≤ 57343) ∨ (v : Int) < 55296 := by omega
    by_cases h2 : 100 < head.size
    · have b1 : (100 : Int) < (head.size : Int) := by omega
      clear h1 hv
      generalize (v : Int) = V at *
      rcases a1 with ⟨a1, a2⟩ | a1 <;>
      · go_enter Tryz.func8, Tryz.ntmps8
        go_wp2_with (first
          | (go_at_call 37; refine (HL.out _).mono ?_; rintro e w' ⟨rfl, rfl⟩)
          | (go_at_call 20; refine (awake_any _).mono ?_; rintro e w2 ⟨rfl, hb⟩))
        go_ret
        exact ⟨rfl, hb⟩
    · have b1 : ¬ (100 : Int) < (head.size : Int) := by omega
      have hR := encode_rune v hv h1
      have hcv : ∀ W : World, (convert 21 9 (.int .i32 (v : Int))).run Tryz.prog W = .ok (.string (Utf8.encode (v : Int))) W := fun W => run_convert_int_string (P := Tryz.prog) W 21 9 .i32 _ (by kernel_rfl) Tryz.underlying9
      clear h1
      generalize Utf8.encode (v : Int) = s at *
      have hs4 : 1 ≤ s.size ∧ s.size ≤ 4 := by have h1 := hR.1; have h2 := hR.2.1; rw [← Lib.size_eq] at h1 h2; omega
      have H1 : ∀ (t : ByteArray) (r : Int), oneE t = r → t.size ≤ 1000 → ∀ W, Hid (Calls Tryz.prog 38 #[.string t] W fun e w' => e = .returned (.int .i64 r) ∧ Below W.heap.size W w') := fun t r h ht W => by rw [← h]; exact one1_any t W (by simp only [maxLen]; omega)
      have e1 : (⟨#[120]⟩ : ByteArray).size = 1 := rfl
      have e2 : (⟨#[121]⟩ : ByteArray).size = 1 := rfl
      have e3 : (⟨#[128]⟩ : ByteArray).size = 1 := rfl
      have e4 : (⟨#[255]⟩ : ByteArray).size = 1 := rfl
      have C1 := H1 s 0 (rune_one hR) (by omega)
      have C2 := H1 _ 0 (rune_two hR) (by rw [ByteArray.size_append, ByteArray.size_append, ByteArray.size_append, e1, e2]; omega)
      have C3 := H1 _ 32 (rune_behind hR) (by rw [ByteArray.size_append, e3]; omega)
      have C4 := H1 _ 32 (rune_ahead (s := s)) (by rw [ByteArray.size_append, e4]; omega)
      have hsz : s.size = 1 ∨ s.size ≠ 1 := by omega
      have HH : (head.size = 0) ∨ (1 ≤ head.size ∧ oneE head = 0 ∧ oneE (head ++ s) = 0) ∨ (1 ≤ head.size ∧ oneE head = 32) := by
        by_cases h0 : head.size = 0
        · exact .inl h0
        · by_cases hv : oneE head = 0
          · exact .inr (.inl ⟨by omega, hv, rune_head hR (by omega) hv⟩)
          · refine .inr (.inr ⟨by omega, ?_⟩)
            unfold oneE at hv ⊢
            split at hv
            · omega
            · rename_i h; rw [if_neg h]
      have C7 : s.size ≠ 1 → ∀ W, Hid (Calls Tryz.prog 38 #[.string ((⟨#[120]⟩ : ByteArray) ++ s.extract 0 (s.size - 1))] W fun e w' => e = .returned (.int .i64 32) ∧ Below W.heap.size W w') := fun h => H1 _ 32 (rune_cut hR h) (by rw [ByteArray.size_append, ByteArray.size_extract, e1]; omega)
      have C5 : ∀ r, oneE head = r → ∀ W, Hid (Calls Tryz.prog 38 #[.string head] W fun e w' => e = .returned (.int .i64 r) ∧ Below W.heap.size W w') := fun r h => H1 _ r h (by omega)
      have C6 : oneE (head ++ s) = 0 → ∀ W, Hid (Calls Tryz.prog 38 #[.string (head ++ s)] W fun e w' => e = .returned (.int .i64 0) ∧ Below W.heap.size W w') := fun h => H1 _ 0 h (by rw [ByteArray.size_append]; omega)
      clear hR H1
      have hz1 : head.size ≤ 100 := by omega
      have hz2 : s.size ≤ 4 := hs4.2
      have hz3 : 1 ≤ s.size := hs4.1
      clear hs4 h2 e1 e2 e3 e4
      have a3 := a1
      clear a1 hv
      generalize (v : Int) = V at *
      rcases a3 with ⟨a1, a2⟩ | a1
      · rcases HH with h0 | ⟨h0, hh1, hh2⟩ | ⟨h0, hh1⟩
        · have hem : head.toList.isEmpty = true := isEmpty_yes (by omega)
          rcases hsz with hsz | hsz
          · have hszb : (s.size : Int) = 1 := by omega
            go_enter Tryz.func8, Tryz.ntmps8
            go_wp2_with fail
            refine (HL.out _).mono ?_
            rintro e w0 ⟨rfl, rfl⟩
            go_wp2_with fail
            refine ((C1 _).out).mono ?_
            rintro e w1 ⟨rfl, hb⟩
            have HB1 := Lib.hid hb
            clear hb
            go_wp2_with fail
            refine ((C2 _).out).mono ?_
            rintro e w2 ⟨rfl, hb⟩
            have HB2 : Hid (Below w.heap.size w w2) := HB1.out.trans (hb.mono HB1.out.size)
            clear hb HB1
            go_wp2_with fail
            refine ((C3 _).out).mono ?_
            rintro e w3 ⟨rfl, hb⟩
            have HB3 : Hid (Below w.heap.size w w3) := HB2.out.trans (hb.mono HB2.out.size)
            clear hb HB2
            go_wp2_with fail
            refine ((C4 _).out).mono ?_
            rintro e w4 ⟨rfl, hb⟩
            have HB4 : Hid (Below w.heap.size w w4) := HB3.out.trans (hb.mono HB3.out.size)
            clear hb HB3 C1 C2 C3 C4
            go_wp2_with (go_at_call 20; refine (awake_any _).mono ?_; rintro e w8 ⟨rfl, hb⟩)
            go_ret
            exact ⟨rfl, HB4.out.trans (hb.mono HB4.out.size)⟩
          · have hszb : ¬ (s.size : Int) = 1 := by omega
            have hszc : (1 : Int) ≤ (s.size : Int) := by omega
            go_enter Tryz.func8, Tryz.ntmps8
            go_wp2_with fail
            refine (HL.out _).mono ?_
            rintro e w0 ⟨rfl, rfl⟩
            go_wp2_with fail
            refine ((C1 _).out).mono ?_
            rintro e w1 ⟨rfl, hb⟩
            have HB1 := Lib.hid hb
            clear hb
            go_wp2_with fail
            refine ((C2 _).out).mono ?_
            rintro e w2 ⟨rfl, hb⟩
            have HB2 : Hid (Below w.heap.size w w2) := HB1.out.trans (hb.mono HB1.out.size)
            clear hb HB1
            go_wp2_with fail
            refine ((C3 _).out).mono ?_
            rintro e w3 ⟨rfl, hb⟩
            have HB3 : Hid (Below w.heap.size w w3) := HB2.out.trans (hb.mono HB2.out.size)
            clear hb HB2
            go_wp2_with fail
            refine ((C4 _).out).mono ?_
            rintro e w4 ⟨rfl, hb⟩
            have HB4 : Hid (Below w.heap.size w w4) := HB3.out.trans (hb.mono HB3.out.size)
            clear hb HB3 C1 C2 C3 C4
            go_wp2_with fail
            refine ((C7 hsz _).out).mono ?_
            rintro e w7 ⟨rfl, hb⟩
            have HB7 : Hid (Below w.heap.size w w7) := HB4.out.trans (hb.mono HB4.out.size)
            clear hb
            go_wp2_with (go_at_call 20; refine (awake_any _).mono ?_; rintro e w8 ⟨rfl, hb⟩)
            go_ret
            exact ⟨rfl, HB7.out.trans (hb.mono HB7.out.size)⟩
        · have hem : head.toList.isEmpty = false := isEmpty_no (by omega)
          have D5 := C5 0 hh1
          have D6 := C6 hh2
          clear C5 C6 hh1 hh2
          rcases hsz with hsz | hsz
          · have hszb : (s.size : Int) = 1 := by omega
            go_enter Tryz.func8, Tryz.ntmps8
            go_wp2_with fail
            refine (HL.out _).mono ?_
            rintro e w0 ⟨rfl, rfl⟩
            go_wp2_with fail
            refine ((C1 _).out).mono ?_
            rintro e w1 ⟨rfl, hb⟩
            have HB1 := Lib.hid hb
            clear hb
            go_wp2_with fail
            refine ((C2 _).out).mono ?_
            rintro e w2 ⟨rfl, hb⟩
            have HB2 : Hid (Below w.heap.size w w2) := HB1.out.trans (hb.mono HB1.out.size)
            clear hb HB1
            go_wp2_with fail
            refine ((C3 _).out).mono ?_
            rintro e w3 ⟨rfl, hb⟩
            have HB3 : Hid (Below w.heap.size w w3) := HB2.out.trans (hb.mono HB2.out.size)
            clear hb HB2
            go_wp2_with fail
            refine ((C4 _).out).mono ?_
            rintro e w4 ⟨rfl, hb⟩
            have HB4 : Hid (Below w.heap.size w w4) := HB3.out.trans (hb.mono HB3.out.size)
            clear hb HB3 C1 C2 C3 C4
            go_wp2_with fail
            refine ((D5 _).out).mono ?_
            rintro e w5 ⟨rfl, hb⟩
            have HB5 : Hid (Below w.heap.size w w5) := HB4.out.trans (hb.mono HB4.out.size)
            clear hb
            go_wp2_with fail
            refine ((D6 _).out).mono ?_
            rintro e w6 ⟨rfl, hb⟩
            have HB6 : Hid (Below w.heap.size w w6) := HB5.out.trans (hb.mono HB5.out.size)
            clear hb
            go_wp2_with (go_at_call 20; refine (awake_any _).mono ?_; rintro e w8 ⟨rfl, hb⟩)
            go_ret
            exact ⟨rfl, HB6.out.trans (hb.mono HB6.out.size)⟩
          · have hszb : ¬ (s.size : Int) = 1 := by omega
            have hszc : (1 : Int) ≤ (s.size : Int) := by omega
            go_enter Tryz.func8, Tryz.ntmps8
            go_wp2_with fail
            refine (HL.out _).mono ?_
            rintro e w0 ⟨rfl, rfl⟩
            go_wp2_with fail
            refine ((C1 _).out).mono ?_
            rintro e w1 ⟨rfl, hb⟩
            have HB1 := Lib.hid hb
            clear hb
            go_wp2_with fail
            refine ((C2 _).out).mono ?_
            rintro e w2 ⟨rfl, hb⟩
            have HB2 : Hid (Below w.heap.size w w2) := HB1.out.trans (hb.mono HB1.out.size)
            clear hb HB1
            go_wp2_with fail
            refine ((C3 _).out).mono ?_
            rintro e w3 ⟨rfl, hb⟩
            have HB3 : Hid (Below w.heap.size w w3) := HB2.out.trans (hb.mono HB2.out.size)
            clear hb HB2
            go_wp2_with fail
            refine ((C4 _).out).mono ?_
            rintro e w4 ⟨rfl, hb⟩
            have HB4 : Hid (Below w.heap.size w w4) := HB3.out.trans (hb.mono HB3.out.size)
            clear hb HB3 C1 C2 C3 C4
            go_wp2_with fail
            refine ((D5 _).out).mono ?_
            rintro e w5 ⟨rfl, hb⟩
            have HB5 : Hid (Below w.heap.size w w5) := HB4.out.trans (hb.mono HB4.out.size)
            clear hb
            go_wp2_with fail
            refine ((D6 _).out).mono ?_
            rintro e w6 ⟨rfl, hb⟩
            have HB6 : Hid (Below w.heap.size w w6) := HB5.out.trans (hb.mono HB5.out.size)
            clear hb
            go_wp2_with fail
            refine ((C7 hsz _).out).mono ?_
            rintro e w7 ⟨rfl, hb⟩
            have HB7 : Hid (Below w.heap.size w w7) := HB6.out.trans (hb.mono HB6.out.size)
            clear hb
            go_wp2_with (go_at_call 20; refine (awake_any _).mono ?_; rintro e w8 ⟨rfl, hb⟩)
            go_ret
            exact ⟨rfl, HB7.out.trans (hb.mono HB7.out.size)⟩
        · have hem : head.toList.isEmpty = false := isEmpty_no (by omega)
          have D5 := C5 32 hh1
          clear C5 C6 hh1
          rcases hsz with hsz | hsz
          · have hszb : (s.size : Int) = 1 := by omega
            go_enter Tryz.func8, Tryz.ntmps8
            go_wp2_with fail
            refine (HL.out _).mono ?_
            rintro e w0 ⟨rfl, rfl⟩
            go_wp2_with fail
            refine ((C1 _).out).mono ?_
            rintro e w1 ⟨rfl, hb⟩
            have HB1 := Lib.hid hb
            clear hb
            go_wp2_with fail
            refine ((C2 _).out).mono ?_
            rintro e w2 ⟨rfl, hb⟩
            have HB2 : Hid (Below w.heap.size w w2) := HB1.out.trans (hb.mono HB1.out.size)
            clear hb HB1
            go_wp2_with fail
            refine ((C3 _).out).mono ?_
            rintro e w3 ⟨rfl, hb⟩
            have HB3 : Hid (Below w.heap.size w w3) := HB2.out.trans (hb.mono HB2.out.size)
            clear hb HB2
            go_wp2_with fail
            refine ((C4 _).out).mono ?_
            rintro e w4 ⟨rfl, hb⟩
            have HB4 : Hid (Below w.heap.size w w4) := HB3.out.trans (hb.mono HB3.out.size)
            clear hb HB3 C1 C2 C3 C4
            go_wp2_with fail
            refine ((D5 _).out).mono ?_
            rintro e w5 ⟨rfl, hb⟩
            have HB5 : Hid (Below w.heap.size w w5) := HB4.out.trans (hb.mono HB4.out.size)
            clear hb
            go_wp2_with (go_at_call 20; refine (awake_any _).mono ?_; rintro e w8 ⟨rfl, hb⟩)
            go_ret
            exact ⟨rfl, HB5.out.trans (hb.mono HB5.out.size)⟩
          · have hszb : ¬ (s.size : Int) = 1 := by omega
            have hszc : (1 : Int) ≤ (s.size : Int) := by omega
            go_enter Tryz.func8, Tryz.ntmps8
            go_wp2_with fail
            refine (HL.out _).mono ?_
            rintro e w0 ⟨rfl, rfl⟩
            go_wp2_with fail
            refine ((C1 _).out).mono ?_
            rintro e w1 ⟨rfl, hb⟩
            have HB1 := Lib.hid hb
            clear hb
            go_wp2_with fail
            refine ((C2 _).out).mono ?_
            rintro e w2 ⟨rfl, hb⟩
            have HB2 : Hid (Below w.heap.size w w2) := HB1.out.trans (hb.mono HB1.out.size)
            clear hb HB1
            go_wp2_with fail
            refine ((C3 _).out).mono ?_
            rintro e w3 ⟨rfl, hb⟩
            have HB3 : Hid (Below w.heap.size w w3) := HB2.out.trans (hb.mono HB2.out.size)
            clear hb HB2
            go_wp2_with fail
            refine ((C4 _).out).mono ?_
            rintro e w4 ⟨rfl, hb⟩
            have HB4 : Hid (Below w.heap.size w w4) := HB3.out.trans (hb.mono HB3.out.size)
            clear hb HB3 C1 C2 C3 C4
            go_wp2_with fail
            refine ((D5 _).out).mono ?_
            rintro e w5 ⟨rfl, hb⟩
            have HB5 : Hid (Below w.heap.size w w5) := HB4.out.trans (hb.mono HB4.out.size)
            clear hb
            go_wp2_with fail
            refine ((C7 hsz _).out).mono ?_
            rintro e w7 ⟨rfl, hb⟩
            have HB7 : Hid (Below w.heap.size w w7) := HB5.out.trans (hb.mono HB5.out.size)
            clear hb
            go_wp2_with (go_at_call 20; refine (awake_any _).mono ?_; rintro e w8 ⟨rfl, hb⟩)
            go_ret
            exact ⟨rfl, HB7.out.trans (hb.mono HB7.out.size)⟩
      · rcases HH with h0 | ⟨h0, hh1, hh2⟩ | ⟨h0, hh1⟩
        · have hem : head.toList.isEmpty = true := isEmpty_yes (by omega)
          rcases hsz with hsz | hsz
          · have hszb : (s.size : Int) = 1 := by omega
            go_enter Tryz.func8, Tryz.ntmps8
            go_wp2_with fail
            refine (HL.out _).mono ?_
            rintro e w0 ⟨rfl, rfl⟩
            go_wp2_with fail
            refine ((C1 _).out).mono ?_
            rintro e w1 ⟨rfl, hb⟩
            have HB1 := Lib.hid hb
            clear hb
            go_wp2_with fail
            refine ((C2 _).out).mono ?_
            rintro e w2 ⟨rfl, hb⟩
            have HB2 : Hid (Below w.heap.size w w2) := HB1.out.trans (hb.mono HB1.out.size)
            clear hb HB1
            go_wp2_with fail
            refine ((C3 _).out).mono ?_
            rintro e w3 ⟨rfl, hb⟩
            have HB3 : Hid (Below w.heap.size w w3) := HB2.out.trans (hb.mono HB2.out.size)
            clear hb HB2
            go_wp2_with fail
            refine ((C4 _).out).mono ?_
            rintro e w4 ⟨rfl, hb⟩
            have HB4 : Hid (Below w.heap.size w w4) := HB3.out.trans (hb.mono HB3.out.size)
            clear hb HB3 C1 C2 C3 C4
            go_wp2_with (go_at_call 20; refine (awake_any _).mono ?_; rintro e w8 ⟨rfl, hb⟩)
            go_ret
            exact ⟨rfl, HB4.out.trans (hb.mono HB4.out.size)⟩
          · have hszb : ¬ (s.size : Int) = 1 := by omega
            have hszc : (1 : Int) ≤ (s.size : Int) := by omega
            go_enter Tryz.func8, Tryz.ntmps8
            go_wp2_with fail
            refine (HL.out _).mono ?_
            rintro e w0 ⟨rfl, rfl⟩
            go_wp2_with fail
            refine ((C1 _).out).mono ?_
            rintro e w1 ⟨rfl, hb⟩
            have HB1 := Lib.hid hb
            clear hb
            go_wp2_with fail
            refine ((C2 _).out).mono ?_
            rintro e w2 ⟨rfl, hb⟩
            have HB2 : Hid (Below w.heap.size w w2) := HB1.out.trans (hb.mono HB1.out.size)
            clear hb HB1
            go_wp2_with fail
            refine ((C3 _).out).mono ?_
            rintro e w3 ⟨rfl, hb⟩
            have HB3 : Hid (Below w.heap.size w w3) := HB2.out.trans (hb.mono HB2.out.size)
            clear hb HB2
            go_wp2_with fail
            refine ((C4 _).out).mono ?_
            rintro e w4 ⟨rfl, hb⟩
            have HB4 : Hid (Below w.heap.size w w4) := HB3.out.trans (hb.mono HB3.out.size)
            clear hb HB3 C1 C2 C3 C4
            go_wp2_with fail
            refine ((C7 hsz _).out).mono ?_
            rintro e w7 ⟨rfl, hb⟩
            have HB7 : Hid (Below w.heap.size w w7) := HB4.out.trans (hb.mono HB4.out.size)
            clear hb
            go_wp2_with (go_at_call 20; refine (awake_any _).mono ?_; rintro e w8 ⟨rfl, hb⟩)
            go_ret
            exact ⟨rfl, HB7.out.trans (hb.mono HB7.out.size)⟩
        · have hem : head.toList.isEmpty = false := isEmpty_no (by omega)
          have D5 := C5 0 hh1
          have D6 := C6 hh2
          clear C5 C6 hh1 hh2
          rcases hsz with hsz | hsz
          · have hszb : (s.size : Int) = 1 := by omega
            go_enter Tryz.func8, Tryz.ntmps8
            go_wp2_with fail
            refine (HL.out _).mono ?_
            rintro e w0 ⟨rfl, rfl⟩
            go_wp2_with fail
            refine ((C1 _).out).mono ?_
            rintro e w1 ⟨rfl, hb⟩
            have HB1 := Lib.hid hb
            clear hb
            go_wp2_with fail
            refine ((C2 _).out).mono ?_
            rintro e w2 ⟨rfl, hb⟩
            have HB2 : Hid (Below w.heap.size w w2) := HB1.out.trans (hb.mono HB1.out.size)
            clear hb HB1
            go_wp2_with fail
            refine ((C3 _).out).mono ?_
            rintro e w3 ⟨rfl, hb⟩
            have HB3 : Hid (Below w.heap.size w w3) := HB2.out.trans (hb.mono HB2.out.size)
            clear hb HB2
            go_wp2_with fail
            refine ((C4 _).out).mono ?_
            rintro e w4 ⟨rfl, hb⟩
            have HB4 : Hid (Below w.heap.size w w4) := HB3.out.trans (hb.mono HB3.out.size)
            clear hb HB3 C1 C2 C3 C4
            go_wp2_with fail
            refine ((D5 _).out).mono ?_
            rintro e w5 ⟨rfl, hb⟩
            have HB5 : Hid (Below w.heap.size w w5) := HB4.out.trans (hb.mono HB4.out.size)
            clear hb
            go_wp2_with fail
            refine ((D6 _).out).mono ?_
            rintro e w6 ⟨rfl, hb⟩
            have HB6 : Hid (Below w.heap.size w w6) := HB5.out.trans (hb.mono HB5.out.size)
            clear hb
            go_wp2_with (go_at_call 20; refine (awake_any _).mono ?_; rintro e w8 ⟨rfl, hb⟩)
            go_ret
            exact ⟨rfl, HB6.out.trans (hb.mono HB6.out.size)⟩
          · have hszb : ¬ (s.size : Int) = 1 := by omega
            have hszc : (1 : Int) ≤ (s.size : Int) := by omega
            go_enter Tryz.func8, Tryz.ntmps8
            go_wp2_with fail
            refine (HL.out _).mono ?_
            rintro e w0 ⟨rfl, rfl⟩
            go_wp2_with fail
            refine ((C1 _).out).mono ?_
            rintro e w1 ⟨rfl, hb⟩
            have HB1 := Lib.hid hb
            clear hb
            go_wp2_with fail
            refine ((C2 _).out).mono ?_
            rintro e w2 ⟨rfl, hb⟩
            have HB2 : Hid (Below w.heap.size w w2) := HB1.out.trans (hb.mono HB1.out.size)
            clear hb HB1
            go_wp2_with fail
            refine ((C3 _).out).mono ?_
            rintro e w3 ⟨rfl, hb⟩
            have HB3 : Hid (Below w.heap.size w w3) := HB2.out.trans (hb.mono HB2.out.size)
            clear hb HB2
            go_wp2_with fail
            refine ((C4 _).out).mono ?_
            rintro e w4 ⟨rfl, hb⟩
            have HB4 : Hid (Below w.heap.size w w4) := HB3.out.trans (hb.mono HB3.out.size)
            clear hb HB3 C1 C2 C3 C4
            go_wp2_with fail
            refine ((D5 _).out).mono ?_
            rintro e w5 ⟨rfl, hb⟩
            have HB5 : Hid (Below w.heap.size w w5) := HB4.out.trans (hb.mono HB4.out.size)
            clear hb
            go_wp2_with fail
            refine ((D6 _).out).mono ?_
            rintro e w6 ⟨rfl, hb⟩
            have HB6 : Hid (Below w.heap.size w w6) := HB5.out.trans (hb.mono HB5.out.size)
            clear hb
            go_wp2_with fail
            refine ((C7 hsz _).out).mono ?_
            rintro e w7 ⟨rfl, hb⟩
            have HB7 : Hid (Below w.heap.size w w7) := HB6.out.trans (hb.mono HB6.out.size)
            clear hb
            go_wp2_with (go_at_call 20; refine (awake_any _).mono ?_; rintro e w8 ⟨rfl, hb⟩)
            go_ret
            exact ⟨rfl, HB7.out.trans (hb.mono HB7.out.size)⟩
        · have hem : head.toList.isEmpty = false := isEmpty_no (by omega)
          have D5 := C5 32 hh1
          clear C5 C6 hh1
          rcases hsz with hsz | hsz
          · have hszb : (s.size : Int) = 1 := by omega
            go_enter Tryz.func8, Tryz.ntmps8
            go_wp2_with fail
            refine (HL.out _).mono ?_
            rintro e w0 ⟨rfl, rfl⟩
            go_wp2_with fail
            refine ((C1 _).out).mono ?_
            rintro e w1 ⟨rfl, hb⟩
            have HB1 := Lib.hid hb
            clear hb
            go_wp2_with fail
            refine ((C2 _).out).mono ?_
            rintro e w2 ⟨rfl, hb⟩
            have HB2 : Hid (Below w.heap.size w w2) := HB1.out.trans (hb.mono HB1.out.size)
            clear hb HB1
            go_wp2_with fail
            refine ((C3 _).out).mono ?_
            rintro e w3 ⟨rfl, hb⟩
            have HB3 : Hid (Below w.heap.size w w3) := HB2.out.trans (hb.mono HB2.out.size)
            clear hb HB2
            go_wp2_with fail
            refine ((C4 _).out).mono ?_
            rintro e w4 ⟨rfl, hb⟩
            have HB4 : Hid (Below w.heap.size w w4) := HB3.out.trans (hb.mono HB3.out.size)
            clear hb HB3 C1 C2 C3 C4
            go_wp2_with fail
            refine ((D5 _).out).mono ?_
            rintro e w5 ⟨rfl, hb⟩
            have HB5 : Hid (Below w.heap.size w w5) := HB4.out.trans (hb.mono HB4.out.size)
            clear hb
            go_wp2_with (go_at_call 20; refine (awake_any _).mono ?_; rintro e w8 ⟨rfl, hb⟩)
            go_ret
            exact ⟨rfl, HB5.out.trans (hb.mono HB5.out.size)⟩
          · have hszb : ¬ (s.size : Int) = 1 := by omega
            have hszc : (1 : Int) ≤ (s.size : Int) := by omega
            go_enter Tryz.func8, Tryz.ntmps8
            go_wp2_with fail
            refine (HL.out _).mono ?_
            rintro e w0 ⟨rfl, rfl⟩
            go_wp2_with fail
            refine ((C1 _).out).mono ?_
            rintro e w1 ⟨rfl, hb⟩
            have HB1 := Lib.hid hb
            clear hb
            go_wp2_with fail
            refine ((C2 _).out).mono ?_
            rintro e w2 ⟨rfl, hb⟩
            have HB2 : Hid (Below w.heap.size w w2) := HB1.out.trans (hb.mono HB1.out.size)
            clear hb HB1
            go_wp2_with fail
            refine ((C3 _).out).mono ?_
            rintro e w3 ⟨rfl, hb⟩
            have HB3 : Hid (Below w.heap.size w w3) := HB2.out.trans (hb.mono HB2.out.size)
            clear hb HB2
            go_wp2_with fail
            refine ((C4 _).out).mono ?_
            rintro e w4 ⟨rfl, hb⟩
            have HB4 : Hid (Below w.heap.size w w4) := HB3.out.trans (hb.mono HB3.out.size)
            clear hb HB3 C1 C2 C3 C4
            go_wp2_with fail
            refine ((D5 _).out).mono ?_
            rintro e w5 ⟨rfl, hb⟩
            have HB5 : Hid (Below w.heap.size w w5) := HB4.out.trans (hb.mono HB4.out.size)
            clear hb
            go_wp2_with fail
            refine ((C7 hsz _).out).mono ?_
            rintro e w7 ⟨rfl, hb⟩
            have HB7 : Hid (Below w.heap.size w w7) := HB5.out.trans (hb.mono HB5.out.size)
            clear hb
            go_wp2_with (go_at_call 20; refine (awake_any _).mono ?_; rintro e w8 ⟨rfl, hb⟩)
            go_ret
            exact ⟨rfl, HB7.out.trans (hb.mono HB7.out.size)⟩
end Go.Proofs.YtnlheomfobpcmaaGreat
