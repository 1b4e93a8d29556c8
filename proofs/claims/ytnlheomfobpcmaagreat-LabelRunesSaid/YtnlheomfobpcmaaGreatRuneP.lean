/- A character's bytes: a value by itself and amid others; cut short it is none. Plain laws. -/
import Derived.Test.YtnlheomfobpcmaaGreatCheckE
namespace Go.Proofs.YtnlheomfobpcmaaGreat
open Go.RowKit

theorem vst_app : ∀ (a b : List UInt8) (m lo hi : Nat), vst m lo hi a = true → vst m lo hi (a ++ b) = vst 0 128 191 b
  | [], b, 0, lo, hi, _ => vst0_any
  | [], b, m + 1, lo, hi, h => by simp [vst] at h
  | c :: r, b, 0, lo, hi, h => by
    rw [List.cons_append]
    simp only [vst] at h ⊢
    cases hv : vfirst c.toNat with
    | none => rw [hv] at h; cases h
    | some p =>
      obtain ⟨m, lo', hi'⟩ := p
      rw [hv] at h
      simp only at h ⊢
      exact vst_app r b m lo' hi' h
  | c :: r, b, m + 1, lo, hi, h => by
    rw [List.cons_append]
    simp only [vst, Bool.and_eq_true] at h ⊢
    rw [h.1, Bool.true_and]
    exact vst_app r b m 128 191 h.2
theorem valid_app {a b : List UInt8} (h : validL a = true) : validL (a ++ b) = validL b := vst_app a b 0 128 191 h
theorem valid_none {c : UInt8} {r : List UInt8} (h : vfirst c.toNat = none) : validL (c :: r) = false := by simp only [validL, vst, h]
theorem valid_some {c : UInt8} {r : List UInt8} {m lo hi : Nat} (h : vfirst c.toNat = some (m, lo, hi)) : validL (c :: r) = vst m lo hi r := by simp only [validL, vst, h]
theorem vst_cut : ∀ (m : Nat) (l : List UInt8) (lo hi : Nat), l.length < m → vst m lo hi l = false
  | 0, _, _, _, h => by omega
  | m + 1, [], lo, hi, _ => rfl
  | m + 1, c :: r, lo, hi, h => by
    simp only [vst]
    rw [vst_cut m r 128 191 (by simp at h; omega), Bool.and_false]
theorem of_nat (n : Nat) (h : n < 256) : (UInt8.ofNat n).toNat = n := by rw [UInt8.toNat_ofNat']; omega
/-- What a character's bytes are. -/
def RuneL (l : List UInt8) : Prop := 1 ≤ l.length ∧ l.length ≤ 4 ∧ validL l = true ∧ (l.length = 1 ∨ validL l.dropLast = false)
theorem rune_mk {c : UInt8} {r : List UInt8} {m lo hi : Nat} (hf : vfirst c.toNat = some (m, lo, hi)) (hl : r.length = m) (hm : m ≤ 3) (hv : vst m lo hi r = true) : RuneL (c :: r) := by
  refine ⟨by simp, by simp; omega, by rw [valid_some hf]; exact hv, ?_⟩
  by_cases h : r = []
  · exact .inl (by rw [h]; rfl)
  · right
    obtain ⟨x, y, e⟩ : ∃ x y, r = x :: y := List.exists_cons_of_ne_nil h
    have e2 : (c :: r).dropLast = c :: r.dropLast := by rw [e]; rfl
    rw [e2, valid_some hf]
    exact vst_cut _ _ _ _ (by rw [List.length_dropLast, hl]; subst e; simp at hl; omega)
theorem vst1 {lo hi b : Nat} (hb : b < 256) (h : lo ≤ b ∧ b ≤ hi) : vst 1 lo hi [UInt8.ofNat b] = true := by
  simp [vst, of_nat b hb, h]
theorem vst2 {lo hi b d : Nat} (hb : b < 256) (hd : d < 256) (h : lo ≤ b ∧ b ≤ hi) (h2 : 128 ≤ d ∧ d ≤ 191) : vst 2 lo hi [UInt8.ofNat b, UInt8.ofNat d] = true := by
  simp [vst, of_nat b hb, of_nat d hd, h, h2]
theorem vst3 {lo hi b d e : Nat} (hb : b < 256) (hd : d < 256) (he : e < 256) (h : lo ≤ b ∧ b ≤ hi) (h2 : 128 ≤ d ∧ d ≤ 191) (h3 : 128 ≤ e ∧ e ≤ 191) : vst 3 lo hi [UInt8.ofNat b, UInt8.ofNat d, UInt8.ofNat e] = true := by
  simp [vst, of_nat b hb, of_nat d hd, of_nat e he, h, h2, h3]
theorem vfirst_ascii {c : Nat} (h : c < 128) : vfirst c = some (0, 128, 191) := by unfold vfirst; rw [if_pos h]
theorem vfirst_two {c : Nat} (h : 194 ≤ c ∧ c ≤ 223) : vfirst c = some (1, 128, 191) := by unfold vfirst; rw [if_neg (by omega), if_pos h]
theorem vfirst_e0 : vfirst 224 = some (2, 160, 191) := rfl
theorem vfirst_ed : vfirst 237 = some (2, 128, 159) := rfl
theorem vfirst_three {c : Nat} (h : 225 ≤ c ∧ c ≤ 239) (h2 : c ≠ 237) : vfirst c = some (2, 128, 191) := by
  unfold vfirst; rw [if_neg (by omega), if_neg (by omega), if_neg (by omega), if_neg (by omega), if_pos (by omega)]
theorem vfirst_f0 : vfirst 240 = some (3, 144, 191) := rfl
theorem vfirst_f4 : vfirst 244 = some (3, 128, 143) := rfl
theorem vfirst_four {c : Nat} (h : 241 ≤ c ∧ c ≤ 243) : vfirst c = some (3, 128, 191) := by
  unfold vfirst; rw [if_neg (by omega), if_neg (by omega), if_neg (by omega), if_neg (by omega), if_neg (by omega), if_neg (by omega), if_neg (by omega), if_pos (by omega)]
theorem rune_l1 (c : Nat) (a : c < 128) : RuneL [UInt8.ofNat c] := rune_mk (m := 0) (lo := 128) (hi := 191) (by rw [of_nat c (by omega)]; exact vfirst_ascii a) rfl (by omega) rfl
theorem rune_l2 (x y : Nat) (h : 194 ≤ x ∧ x ≤ 223) (h2 : 128 ≤ y ∧ y ≤ 191) : RuneL [UInt8.ofNat x, UInt8.ofNat y] :=
  rune_mk (m := 1) (lo := 128) (hi := 191) (by rw [of_nat x (by omega)]; exact vfirst_two h) rfl (by omega) (vst1 (by omega) h2)
theorem rune_l3 (x y z lo hi : Nat) (hx : x < 256) (hf : vfirst x = some (2, lo, hi)) (h : lo ≤ y ∧ y ≤ hi) (hy : y < 256) (h2 : 128 ≤ z ∧ z ≤ 191) : RuneL [UInt8.ofNat x, UInt8.ofNat y, UInt8.ofNat z] :=
  rune_mk (m := 2) (lo := lo) (hi := hi) (by rw [of_nat x hx]; exact hf) rfl (by omega) (vst2 hy (by omega) h h2)
theorem rune_l4 (x y z u lo hi : Nat) (hx : x < 256) (hf : vfirst x = some (3, lo, hi)) (h : lo ≤ y ∧ y ≤ hi) (hy : y < 256) (h2 : 128 ≤ z ∧ z ≤ 191) (h3 : 128 ≤ u ∧ u ≤ 191) : RuneL [UInt8.ofNat x, UInt8.ofNat y, UInt8.ofNat z, UInt8.ofNat u] :=
  rune_mk (m := 3) (lo := lo) (hi := hi) (by rw [of_nat x hx]; exact hf) rfl (by omega) (vst3 hy (by omega) (by omega) h h2 h3)
theorem rune_three (c : Nat) (b : ¬ c < 2048) (d : c < 65536) (h2 : ¬ (55296 ≤ c ∧ c ≤ 57343)) : RuneL [UInt8.ofNat (224 + c / 4096), UInt8.ofNat (128 + c / 64 % 64), UInt8.ofNat (128 + c % 64)] := by
  obtain ⟨q, hq⟩ : ∃ q, q = c / 4096 := ⟨_, rfl⟩
  obtain ⟨y, hy⟩ : ∃ y, y = c / 64 % 64 := ⟨_, rfl⟩
  obtain ⟨z, hz⟩ : ∃ z, z = c % 64 := ⟨_, rfl⟩
  have e : c = q * 4096 + y * 64 + z := by omega
  rw [← hq, ← hy, ← hz]
  rcases (show q = 0 ∨ q = 13 ∨ (1 ≤ q ∧ q ≤ 15 ∧ q ≠ 13) by omega) with e0 | e0 | e0
  · exact rune_l3 _ _ _ 160 191 (by omega) (by rw [e0]; exact vfirst_e0) (by omega) (by omega) (by omega)
  · exact rune_l3 _ _ _ 128 159 (by omega) (by rw [e0]; exact vfirst_ed) (by omega) (by omega) (by omega)
  · exact rune_l3 _ _ _ 128 191 (by omega) (vfirst_three (by omega) (by omega)) (by omega) (by omega) (by omega)
theorem rune_four (c : Nat) (d : ¬ c < 65536) (h1 : c < 1114112) : RuneL [UInt8.ofNat (240 + c / 262144), UInt8.ofNat (128 + c / 4096 % 64), UInt8.ofNat (128 + c / 64 % 64), UInt8.ofNat (128 + c % 64)] := by
  obtain ⟨q, hq⟩ : ∃ q, q = c / 262144 := ⟨_, rfl⟩
  obtain ⟨x, hx⟩ : ∃ x, x = c / 4096 % 64 := ⟨_, rfl⟩
  obtain ⟨y, hy⟩ : ∃ y, y = c / 64 % 64 := ⟨_, rfl⟩
  obtain ⟨z, hz⟩ : ∃ z, z = c % 64 := ⟨_, rfl⟩
  have e : c = q * 262144 + x * 4096 + y * 64 + z := by omega
  rw [← hq, ← hx, ← hy, ← hz]
  rcases (show q = 0 ∨ q = 4 ∨ (1 ≤ q ∧ q ≤ 3) by omega) with e0 | e0 | e0
  · exact rune_l4 _ _ _ _ 144 191 (by omega) (by rw [e0]; exact vfirst_f0) (by omega) (by omega) (by omega) (by omega)
  · exact rune_l4 _ _ _ _ 128 143 (by omega) (by rw [e0]; exact vfirst_f4) (by omega) (by omega) (by omega) (by omega)
  · exact rune_l4 _ _ _ _ 128 191 (by omega) (vfirst_four (by omega)) (by omega) (by omega) (by omega) (by omega)
theorem encode_list (c : Nat) (hv : Utf8.valid (c : Int) = true) : (Utf8.encode (c : Int)).data.toList = if c < 128 then [UInt8.ofNat c] else if c < 2048 then [UInt8.ofNat (192 + c / 64), UInt8.ofNat (128 + c % 64)] else if c < 65536 then [UInt8.ofNat (224 + c / 4096), UInt8.ofNat (128 + c / 64 % 64), UInt8.ofNat (128 + c % 64)] else [UInt8.ofNat (240 + c / 262144), UInt8.ofNat (128 + c / 4096 % 64), UInt8.ofNat (128 + c / 64 % 64), UInt8.ofNat (128 + c % 64)] := by
  unfold Utf8.encode
  simp only [hv, if_true, Int.toNat_natCast]
  repeat' split
  all_goals rfl
theorem encode_rune (c : Nat) (h1 : c < 1114112) (h2 : ¬ (55296 ≤ c ∧ c ≤ 57343)) : RuneL (Utf8.encode (c : Int)).data.toList := by
  have hv : Utf8.valid (c : Int) = true := by simp [Utf8.valid]; omega
  rw [encode_list c hv]
  by_cases a : c < 128
  · rw [if_pos a]; exact rune_l1 c a
  rw [if_neg a]
  by_cases b : c < 2048
  · rw [if_pos b]; exact rune_l2 _ _ (by omega) (by omega)
  rw [if_neg b]
  by_cases d : c < 65536
  · rw [if_pos d]; exact rune_three c b d h2
  rw [if_neg d]
  exact rune_four c d h1
/-- What the law asks of a text. -/
def oneE (t : ByteArray) : Int := if valB t = true then 0 else 32
theorem oneE_check (t : ByteArray) : checkL [(⟨#[97]⟩, t)] = oneE t := by
  have h : nameB ⟨#[97]⟩ = true := by decide +kernel
  unfold checkL
  rw [if_pos (by simp), checkFrom]
  unfold labErr oneE
  simp only [h]
  cases hv : valB t with
  | false => simp
  | true => simp [checkFrom]
theorem oneE_ok {t : ByteArray} (h1 : 1 ≤ t.size ∧ t.size ≤ 256) (h2 : validL t.data.toList = true) : oneE t = 0 := by
  unfold oneE; rw [valB_eq h1, h2]; rfl
theorem oneE_no {t : ByteArray} (h2 : validL t.data.toList = false) : oneE t = 32 := by
  unfold oneE valB; rw [h2, Bool.and_false]; rfl
section
variable {s : ByteArray}
theorem rune_one (h : RuneL s.data.toList) : oneE s = 0 := by
  obtain ⟨h1, h2, h3, _⟩ := h
  rw [← Lib.size_eq] at h1 h2
  exact oneE_ok (by omega) h3
theorem rune_two (h : RuneL s.data.toList) : oneE ((⟨#[120]⟩ : ByteArray) ++ s ++ s ++ (⟨#[121]⟩ : ByteArray)) = 0 := by
  obtain ⟨h1, h2, h3, _⟩ := h
  rw [← Lib.size_eq] at h1 h2
  have e1 : (⟨#[120]⟩ : ByteArray).size = 1 := rfl
  have e2 : (⟨#[121]⟩ : ByteArray).size = 1 := rfl
  refine oneE_ok (by rw [ByteArray.size_append, ByteArray.size_append, ByteArray.size_append, e1, e2]; omega) ?_
  have e : ((⟨#[120]⟩ : ByteArray) ++ s ++ s ++ (⟨#[121]⟩ : ByteArray)).data.toList = [120] ++ (s.data.toList ++ (s.data.toList ++ [121])) := by simp
  rw [e, valid_app (by decide), valid_app h3, valid_app h3]
  decide
theorem rune_behind (h : RuneL s.data.toList) : oneE (s ++ (⟨#[128]⟩ : ByteArray)) = 32 := by
  refine oneE_no ?_
  have e : (s ++ (⟨#[128]⟩ : ByteArray)).data.toList = s.data.toList ++ [128] := by simp
  rw [e, valid_app h.2.2.1]
  decide
theorem rune_ahead : oneE ((⟨#[255]⟩ : ByteArray) ++ s) = 32 := by
  refine oneE_no ?_
  have e : ((⟨#[255]⟩ : ByteArray) ++ s).data.toList = 255 :: s.data.toList := by simp
  rw [e, valid_none (by decide)]
theorem rune_head {t : ByteArray} (h : RuneL s.data.toList) (ht : t.size ≤ 100) (hv : oneE t = 0) : oneE (t ++ s) = 0 := by
  obtain ⟨h1, h2, h3, _⟩ := h
  rw [← Lib.size_eq] at h1 h2
  have hv' : validL t.data.toList = true := by
    unfold oneE at hv
    by_cases hb : valB t = true
    · unfold valB at hb
      rw [Bool.and_eq_true] at hb
      exact hb.2
    · rw [if_neg hb] at hv; omega
  refine oneE_ok (by rw [ByteArray.size_append]; omega) ?_
  have e : (t ++ s).data.toList = t.data.toList ++ s.data.toList := by simp
  rw [e, valid_app hv']
  exact h3
theorem rune_cut (h : RuneL s.data.toList) (hs : s.size ≠ 1) : oneE ((⟨#[120]⟩ : ByteArray) ++ s.extract 0 (s.size - 1)) = 32 := by
  refine oneE_no ?_
  have e : ((⟨#[120]⟩ : ByteArray) ++ s.extract 0 (s.size - 1)).data.toList = [120] ++ s.data.toList.dropLast := by
    simp
  rw [e, valid_app (by decide)]
  rcases h.2.2.2 with h' | h'
  · rw [← Lib.size_eq] at h'; exact absurd h' hs
  · exact h'
end
end Go.Proofs.YtnlheomfobpcmaaGreat
