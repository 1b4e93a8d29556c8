/- A number's text in tens. -/
import Derived.Test.YtbhkoefbajflnaaLexA
namespace Go.Proofs.Ytbhkoefbajflnaa
open Go.RowKit

def digU (n : Nat) : UInt8 := UInt8.ofNat (48 + n % 10)
def decF : Nat → Nat → List UInt8
  | 0, _ => []
  | f + 1, n => (if n / 10 = 0 then [] else decF f (n / 10)) ++ [digU n]
def decL (n : Nat) : List UInt8 := decF (n + 1) n
theorem decF_more : ∀ (f g n : Nat), n < f → n < g → decF f n = decF g n
  | 0, _, _, h, _ => by omega
  | _, 0, _, _, h => by omega
  | f + 1, g + 1, n, hf, hg => by
    simp only [decF]
    split
    · rfl
    · rw [decF_more f g (n / 10) (by omega) (by omega)]
theorem decL_eq (n : Nat) : decL n = (if n / 10 = 0 then [] else decL (n / 10)) ++ [digU n] := by
  show (if n / 10 = 0 then [] else decF n (n / 10)) ++ [digU n] = _
  split
  · rfl
  · rw [decF_more n (n / 10 + 1) (n / 10) (by omega) (by omega)]; rfl
theorem digU_nat (n : Nat) : (digU n).toNat = 48 + n % 10 := by
  rw [digU, UInt8.toNat_ofNat']; omega
theorem digU_dig (n : Nat) : dchar (digU n) = true := by
  have := digU_nat n
  simp [dchar, this]; omega
theorem decL_pow (n : Nat) : ∀ k, n < 10 ^ (k + 1) → (decL n).length ≤ k + 1 := by
  intro k
  induction k generalizing n with
  | zero => intro h; rw [decL_eq, if_pos (by omega)]; simp
  | succ k ih =>
    intro h
    rw [decL_eq]
    split
    · simp
    · have := ih (n / 10) (by rw [Nat.pow_succ] at h; omega)
      simp; omega
theorem decL_ne (n : Nat) : 1 ≤ (decL n).length := by rw [decL_eq]; simp
theorem decL_digs (n : Nat) : ∀ c ∈ decL n, dchar c = true := by
  induction n using Nat.strongRecOn with
  | _ n ih =>
    rw [decL_eq]
    intro c hc
    rcases List.mem_append.1 hc with hc | hc
    · split at hc
      · simp at hc
      · exact ih (n / 10) (by omega) c hc
    · simp at hc; subst hc; exact digU_dig n
theorem decL_head (n : Nat) : ∃ c, (decL n).head? = some c ∧ (c.toNat = 48 ↔ n = 0) := by
  induction n using Nat.strongRecOn with
  | _ n ih =>
    rw [decL_eq]
    split
    · refine ⟨digU n, rfl, ?_⟩
      rw [digU_nat]; omega
    · obtain ⟨c, h1, h2⟩ := ih (n / 10) (by omega)
      refine ⟨c, by rw [List.head?_append, h1]; rfl, ?_⟩
      omega
theorem decN_app (l : List UInt8) (c : UInt8) : decN (l ++ [c]) = 10 * decN l + (c.toNat - 48) := by
  rw [decN, List.foldl_append]; rfl
theorem decL_val (n : Nat) : decN (decL n) = n := by
  induction n using Nat.strongRecOn with
  | _ n ih =>
    rw [decL_eq, decN_app, digU_nat]
    split
    · show 10 * 0 + _ = _; omega
    · rw [ih (n / 10) (by omega)]; omega
theorem decL_need (n : Nat) : needB (decL n) = false := by
  rw [needB]
  by_cases h : n / 10 = 0
  · rw [decL_eq, if_pos h]; rfl
  · obtain ⟨c, h1, h2⟩ := decL_head n
    rw [h1]
    have : c ≠ 48 := by rintro rfl; exact absurd (h2.1 rfl) (by omega)
    simp [this]

/-- What has been written so far. -/
def decSt (n m : Nat) (b : Bool) (S : ByteArray) : Prop := decL n = (if b = true ∨ 0 < m then decL m else []) ++ S.data.toList
theorem decSt_step {n m : Nat} {b : Bool} {S X : ByteArray} (h : decSt n m b S) (hb : b = true ∨ 0 < m) (hX : X.data.toList = [digU m]) : decSt n (m / 10) false (X ++ S) := by
  rw [decSt, if_pos hb, decL_eq m] at h
  rw [decSt, h, ByteArray.data_append, Array.toList_append, hX, List.append_assoc]
  congr 1
  by_cases h0 : m / 10 = 0
  · rw [if_pos h0, if_neg (by simp [h0])]
  · rw [if_neg h0, if_pos (.inr (by omega))]
theorem decSt_end {n m : Nat} {b : Bool} {S : ByteArray} (h : decSt n m b S) (hb : ¬ (b = true ∨ 0 < m)) : S = mkB (decL n) := by
  rw [decSt, if_neg hb, List.nil_append] at h
  apply ByteArray.ext; apply Array.toList_inj.1; rw [h]; rfl
def boolN : Value → Nat
  | .bool true => 1
  | _ => 0
def DecOk (n : Nat) (w : World) (e : Ending) (w' : World) : Prop := e = .returned (.string (mkB (decL n))) ∧ Below w.heap.size w w'
set_option maxRecDepth 100000 in
set_option maxHeartbeats 1000000 in
theorem decimal_any (n : Nat) (w : World) (hn : n < 1000000) : Calls Try.prog 20 #[.int .u64 (n : Int)] w (DecOk n w) := by
  go_enter Try.func20, Try.ntmps20
  go_wp2_with fail
  go_loopw [0, 3, 4] (fun v s f wr => ∃ (m : Nat) (S : ByteArray) (b : Bool), v = .int .u64 (m : Int) ∧ s = .string S ∧ f = .bool b ∧ m ≤ n ∧ S.size + m ≤ n + (if b then 0 else 1) ∧ Hid (decSt n m b S) ∧ Below w.heap.size w wr) (fun v s f _ => 2 * (intOf v).toNat + boolN f)
  case atStart => exact ⟨n, _, true, rfl, rfl, rfl, Nat.le_refl _, by show 0 + n ≤ n + 0; omega, by show decSt _ _ _ _; simp [decSt], Below.refl _ _⟩
  case round =>
    obtain ⟨m, S, b, rfl, rfl, rfl, hm, hsz, HS, hb⟩ := hrel
    have hm0 : (0 : Int) ≤ m := by omega
    have hmI : (m : Int) < 1000000 := by omega
    by_cases hgo : b = true ∨ 0 < m
    · have HX : Hid ((mkB [digU m]).data.toList = [digU m]) := rfl
      have HS2 := Lib.hid (decSt_step HS.out hgo HX.out)
      have hcv : ∀ W : World, (convert 30 9 (.slice (some ⟨W.heap.size, 0, none⟩) 1 1)).run Try.prog (W.alloc (.cells #[.int .u8 (48 + (m : Int) % 10)] 5)) = .ok (.string (mkB [digU m])) (W.alloc (.cells #[.int .u8 (48 + (m : Int) % 10)] 5)) := by
        intro W
        have e : (48 + (m : Int) % 10) = ((digU m).toNat : Int) := by rw [digU_nat]; omega
        rw [e]
        exact run_conv_rd (P := Try.prog) (Rd.byte (digU m) rfl) 30 5 9 Try.underlying30 Try.underlying5 Try.underlying9 1 1 rfl (fun _ => .inr ⟨_, _, rfl⟩)
      have hxs : (mkB [digU m]).size = 1 := rfl
      have hss : S.size ≤ 1000001 := by have : (if b then 0 else 1) ≤ 1 := by split <;> omega
                                        omega
      have hz : (mkB [digU m] ++ S).size + m / 10 ≤ n + 1 := by
        rw [ByteArray.size_append, hxs]
        cases b with
        | true => simp at hsz; omega
        | false => simp at hsz hgo; omega
      have hmeas : 2 * (m / 10) + 0 < 2 * m + boolN (.bool b) := by
        rcases hgo with rfl | h
        · simp [boolN]; omega
        · omega
      have hsz2 := hb.size
      clear hsz HS
      cases b with
      | true =>
        go_wp2_with fail
        go_roundw
        case rel => exact ⟨m / 10, _, false, by go_num, rfl, rfl, by omega, by simpa using hz, HS2, hb.alloc hsz2 _⟩
        case measure => simp [intOf, boolN] at hmeas ⊢; omega
      | false =>
        have hgt : 0 < m := by simp at hgo; omega
        have Hm := Lib.hid hm
        have Hn := Lib.hid hn
        have Hmeas := Lib.hid hmeas
        have Hz := Lib.hid hz
        clear hgo hm hn hmeas hz
        go_wp2_with fail
        go_roundw
        case rel => exact ⟨m / 10, _, false, by go_num, rfl, rfl, by have := Hm.out; omega, by simpa using Hz.out, HS2, hb.alloc hsz2 _⟩
        case measure => have hmeas := Hmeas.out; simp [intOf, boolN] at hmeas ⊢; omega
    · have HE := Lib.hid (decSt_end HS.out hgo)
      have hb1 : b = false := by cases b <;> simp_all
      subst hb1
      have hgt : ¬ 0 < m := by simp at hgo; omega
      clear hgo HS hm hn hsz
      go_wp2_with fail
      go_ret
      exact ⟨by rw [HE.out]; rfl, hb⟩
end Go.Proofs.Ytbhkoefbajflnaa
