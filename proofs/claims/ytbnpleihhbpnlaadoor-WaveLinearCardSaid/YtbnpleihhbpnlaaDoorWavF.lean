/- wave.Spectrum: all lines of a spectrum, in new memory. -/
import Derived.Test.YtbnpleihhbpnlaaDoorWavE
namespace Go.Proofs.YtbnpleihhbpnlaaDoor
open Go.RowKit

set_option maxHeartbeats 400000 in
theorem size_yes {n : Nat} (hn : sizeN n) (w : World) : Calls Tryd.prog 20 #[.int .i64 n] w fun e w' => e = .returned (.bool true) ∧ w = w' := by
  rcases hn with rfl | rfl | rfl | rfl <;> (go_enter Tryd.func20, Tryd.ntmps20; go_wp2; go_ret; exact ⟨rfl, rfl⟩)
set_option maxHeartbeats 400000 in
theorem size_no {n : Nat} (hn : ¬ sizeN n) (w : World) : Calls Tryd.prog 20 #[.int .i64 n] w fun e w' => e = .returned (.bool false) ∧ w = w' := by
  unfold sizeN at hn
  have h1 : ((n : Int) == 1) = false := by rw [beq_eq_false_iff_ne]; omega
  have h2 : ((n : Int) == 2) = false := by rw [beq_eq_false_iff_ne]; omega
  have h4 : ((n : Int) == 4) = false := by rw [beq_eq_false_iff_ne]; omega
  have h8 : ((n : Int) == 8) = false := by rw [beq_eq_false_iff_ne]; omega
  clear hn
  go_enter Tryd.func20, Tryd.ntmps20
  go_wp2
  go_ret
  exact ⟨rfl, rfl⟩
theorem eiU64 : EI Tryd.prog 24 26 1 8 := EI.mk' Tryd.underlying24 (z := .int .u64 0) (by kernel_rfl) rfl (by omega)
theorem wrdC_all (l : List Nat) : ∀ x ∈ wrdC l, x.length = 1 := wrdC_sz l
theorem wrdC_one (l : List Nat) : ∀ y ∈ wrdC l, ∀ u ∈ y, u.oneCell' = true := by
  intro y hy u hu
  obtain ⟨a, _, rfl⟩ := List.mem_map.1 hy
  rw [List.mem_singleton] at hu
  subst hu
  rfl
/-- The lines, one for each j below k. -/
def specR (xs : List Nat) (n k : Nat) : List Nat := (List.range k).map fun j => toN (lineR (xg xs) n j)
def specI (xs : List Nat) (n k : Nat) : List Nat := (List.range k).map fun j => toN (lineI (xg xs) n j)
theorem specR_add (xs : List Nat) (n k : Nat) : specR xs n (k + 1) = specR xs n k ++ [toN (lineR (xg xs) n k)] := by unfold specR; rw [List.range_succ, List.map_append]; rfl
theorem specI_add (xs : List Nat) (n k : Nat) : specI xs n (k + 1) = specI xs n k ++ [toN (lineI (xg xs) n k)] := by unfold specI; rw [List.range_succ, List.map_append]; rfl
theorem specR_len (xs : List Nat) (n k : Nat) : (specR xs n k).length = k := by unfold specR; rw [List.length_map, List.length_range]
theorem specI_len (xs : List Nat) (n k : Nat) : (specI xs n k).length = k := by unfold specI; rw [List.length_map, List.length_range]
/-- Two rows in two blocks. -/
def Apart (A B : Option Addr) : Prop := A = none ∨ B = none ∨ A.map Addr.block ≠ B.map Addr.block
/-- Two rows of words, the call's own, in two blocks. -/
def Two (w0 : World) (A1 : Option Addr) (n1 c1 : Nat) (l1 : List Nat) (A2 : Option Addr) (n2 c2 : Nat) (l2 : List Nat) (w : World) : Prop :=
  Own w w0.heap.size 26 1 A1 n1 c1 (wrdC l1) ∧ Own w w0.heap.size 26 1 A2 n2 c2 (wrdC l2) ∧ Apart A1 A2 ∧ Below w0.heap.size w0 w
section
variable {w0 w w' : World} {A1 A2 A' : Option Addr} {n1 c1 n2 c2 c' : Nat} {l1 l2 : List Nat}
theorem Two.start (w0 : World) : Two w0 none 0 0 [] none 0 0 [] w0 := ⟨Own.nil_ (by omega), Own.nil_ (by omega), .inl rfl, Below.refl _ _⟩
theorem Two.alloc (h : Two w0 A1 n1 c1 l1 A2 n2 c2 l2 w) (o : Obj) : Two w0 A1 n1 c1 l1 A2 n2 c2 l2 (w.alloc o) := ⟨h.1.alloc o, h.2.1.alloc o, h.2.2.1, h.2.2.2.alloc h.2.2.2.size o⟩
theorem Two.after (h : Two w0 A1 n1 c1 l1 A2 n2 c2 l2 w) (hb : Below w.heap.size w w') : Two w0 A1 n1 c1 l1 A2 n2 c2 l2 w' := ⟨h.1.belowAll hb, h.2.1.belowAll hb, h.2.2.1, h.2.2.2.trans (hb.mono h.2.2.2.size)⟩
theorem Two.swap (h : Two w0 A1 n1 c1 l1 A2 n2 c2 l2 w) : Two w0 A2 n2 c2 l2 A1 n1 c1 l1 w := ⟨h.2.1, h.1, by rcases h.2.2.1 with h | h | h; exact .inr (.inl h); exact .inl h; exact .inr (.inr fun e => h e.symm), h.2.2.2⟩
/-- The first row has grown. -/
theorem Two.grow (h : Two w0 A1 n1 c1 l1 A2 n2 c2 l2 w) {x : Nat} (ho : Own w' w0.heap.size 26 1 A' (n1 + 1) c' (wrdC l1 ++ wrdC [x])) (hg : w.grownBy w' (A1.map Addr.block))
    (hat : (A' = A1 ∧ c' = c1) ∨ (A' = some ⟨w.heap.size, 0, none⟩ ∧ w.grownBy w' none)) (hb : Below w0.heap.size w w') : Two w0 A' (n1 + 1) c' (l1 ++ [x]) A2 n2 c2 l2 w' := by
  obtain ⟨h1, h2, h3, h4⟩ := h
  rw [← wrdC_append] at ho
  have hk : Own w' w0.heap.size 26 1 A2 n2 c2 (wrdC l2) ∧ Apart A' A2 := by
    rcases hat with ⟨rfl, rfl⟩ | ⟨rfl, hn⟩
    · refine ⟨?_, h3⟩
      rcases h3 with h | h | h
      · subst h
        exact h2.grown hg (by cases A2 with | none => exact .inl rfl | some a => right; simp)
      · exact h2.grown hg (.inl h)
      · exact h2.grown hg (.inr fun e => h e.symm)
    · refine ⟨h2.grown hn (by cases A2 with | none => exact .inl rfl | some a => right; simp), ?_⟩
      cases A2 with
      | none => exact .inr (.inl rfl)
      | some a =>
        refine .inr (.inr ?_)
        intro e
        have := h2.block (b := a.block) rfl
        simp only [Option.map_some, Option.some.injEq] at e
        omega
  exact ⟨ho, hk.1, hk.2, h4.trans hb⟩
end
/-- What Spectrum hands back. -/
def SpecOut (xs : List Nat) (n : Nat) (w : World) (e : Ending) (w' : World) : Prop := ∃ A1 c1 A2 c2, e = .returned (.tuple #[.slice A1 n c1, .slice A2 n c2, .int .i64 0]) ∧ Two w A1 n c1 (specR xs n n) A2 n c2 (specI xs n n) w'
def SpecAt (xs : List Nat) (n : Nat) (w : World) (k : Nat) (v1 v2 : Value) (w' : World) : Prop := ∃ A1 c1 A2 c2, v1 = .slice A1 k c1 ∧ v2 = .slice A2 k c2 ∧ Two w A1 k c1 (specR xs n k) A2 k c2 (specI xs n k) w'
set_option maxRecDepth 100000 in
set_option maxHeartbeats 1000000 in
theorem spectrum_any (xs : List Nat) (A : Option Addr) (n c B : Nat) (w : World) (hn : sizeN n) (hl : xs.length = n) (hr : Rd w B 1 A (wrdC xs)) (hB : B ≤ w.heap.size) :
    Calls Tryd.prog 9 #[.slice A n c] w (SpecOut xs n w) := by
  have HZ := fun W => Lib.hid (size_yes hn W)
  have HT := fun v W => Lib.hid (to_any v W)
  have h8 := size_le hn
  have Hl := Lib.hid hl
  have Hr := Lib.hid hr
  have Hn := Lib.hid hn
  clear hl hr hn
  go_enter Tryd.func9, Tryd.ntmps9
  go_wp2_with (go_at_call 20; refine ((HZ _).out).mono ?_; rintro e w' ⟨rfl, rfl⟩)
  go_loopw [15, 5, 6] (fun i v1 v2 wr => ∃ k : Nat, i = .int .i64 k ∧ k ≤ n ∧ Hid (SpecAt xs n w k v1 v2 wr)) (fun i _ _ _ => n - (intOf i).toNat)
  case atStart => exact ⟨0, rfl, by omega, none, 0, none, 0, rfl, rfl, Two.start w⟩
  case round =>
    obtain ⟨k, rfl, hk, HS⟩ := hrel
    obtain ⟨A1, c1, A2, c2, rfl, rfl, hT⟩ := HS.out
    have HTwo := Lib.hid hT
    by_cases hlt : k < n
    · have hltI : (k : Int) < (n : Int) := by omega
      have HL := Lib.hid (line_any xs A n c B k wr Hn.out Hl.out ((Hr.out).below (hT.2.2.2.mono hB)) (Nat.le_trans hB hT.2.2.2.size) hlt)
      clear hT HS
      go_wp2_with (first
        | (go_at_call 21; refine (HL.out).mono ?_; rintro e w1 ⟨re, im, rfl, hre, him, hb1⟩; replace hre := Lib.hid (eqN_toN.1 hre); replace him := Lib.hid (eqN_toN.1 him); have HT1 := Lib.hid (HTwo.out.after hb1))
        | (go_at_call 22; refine ((HT _ _).out).mono ?_; rintro e w' ⟨rfl, rfl⟩)
        | (at_builtin; (refine wpList_append_ex _ rfl (.tmp 21) (.tmp 25) _ rfl eiU64 rfl (HT1.out.alloc _).1 rfl (Rd.new (xs := wrdC [toN re]) w1 (wrdC_all _) _ rfl) rfl (wrdC_one _) (by simp only [maxLen]; omega) (by omega) (by have := HT1.out.2.2.2.size; simp; omega) ?_; intro A3 c3 w3 ho3 hg3 hat3 hb3; have HT3 := Lib.hid ((HT1.out.alloc _).grow ho3 hg3 hat3 hb3); clear ho3 hg3 hat3 hb3))
        | (at_builtin; (refine wpList_append_ex _ rfl (.tmp 27) (.tmp 31) _ rfl eiU64 rfl (HT3.out.alloc _).swap.1 rfl (Rd.new (xs := wrdC [toN im]) w3 (wrdC_all _) _ rfl) rfl (wrdC_one _) (by simp only [maxLen]; omega) (by omega) (by have := HT3.out.2.2.2.size; simp; omega) ?_; intro A4 c4 w4 ho4 hg4 hat4 hb4; have HT4 := Lib.hid ((HT3.out.alloc _).swap.grow ho4 hg4 hat4 hb4).swap; clear ho4 hg4 hat4 hb4)))
      go_roundw
      case rel => exact ⟨k + 1, by go_num, by omega, A3, c3, A4, c4, rfl, rfl, by rw [specR_add, specI_add]; rw [hre.out, him.out] at HT4; exact HT4.out⟩
      case measure => simp [intOf]; omega
    · have hkn : k = n := by omega
      subst hkn
      clear HS
      go_wp2_with fail
      go_ret3
      exact ⟨A1, c1, A2, c2, rfl, hT⟩
end Go.Proofs.YtbnpleihhbpnlaaDoor
