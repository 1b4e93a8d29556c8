/- awake of law3: what every program answers that is one, call by call. -/
import Derived.Test.YtnlheomfobpcmaaGreatLabC
import Derived.Test.YtnlheomfobpcmaaGreatLabD
import Derived.Test.YtnlheomfobpcmaaGreatLabH
import Derived.Test.YtnlheomfobpcmaaGreatLabI
import Derived.Test.YtnlheomfobpcmaaGreatLabK
import Derived.Test.YtnlheomfobpcmaaGreatLabT
namespace Go.Proofs.YtnlheomfobpcmaaGreat
open Go.RowKit

/-- What is known at a world behind w0: the slices that read as these sets. -/
def Aw (w0 : World) (rows : List (Option Addr × List Lab)) (w : World) : Prop := Below w0.heap.size w0 w ∧ ∀ p ∈ rows, Rd w w.heap.size 2 p.1 (labsC p.2)
section
variable {w0 w w' : World} {rows : List (Option Addr × List Lab)}
theorem Aw.step (h : Aw w0 rows w) (hb : Below w.heap.size w w') : Aw w0 rows w' := ⟨h.1.trans (hb.mono h.1.size), fun p hp => ((h.2 p hp).below hb).more hb.size⟩
theorem Aw.alloc (h : Aw w0 rows w) (o : Obj) : Aw w0 rows (w.alloc o) := h.step ((Below.refl _ _).alloc (Nat.le_refl _) o)
theorem Aw.drewN (h : Aw w0 rows w) (n : Nat) : Aw w0 rows (w.drewN n) := h.step (below_drewN (Below.refl _ _) n)
theorem Aw.add {A : Option Addr} {ls : List Lab} (h : Aw w0 rows w) (hr : Rd w w.heap.size 2 A (labsC ls)) : Aw w0 ((A, ls) :: rows) w := ⟨h.1, fun p hp => by
  rcases List.mem_cons.1 hp with rfl | hp
  · exact hr
  · exact h.2 p hp⟩
theorem Aw.get {A : Option Addr} {ls : List Lab} (h : Aw w0 rows w) (hm : (A, ls) ∈ rows) : Rd w w.heap.size 2 A (labsC ls) := h.2 _ hm
theorem Aw.nil (w : World) : Aw w [] w := ⟨Below.refl _ _, by simp⟩
end
def awA : Lab := (⟨#[97]⟩, ⟨#[120, 34]⟩)
def awB : Lab := (⟨#[98]⟩, ⟨#[121]⟩)
theorem aw_with : withL [awA] ⟨#[98]⟩ ⟨#[121]⟩ = [awA, awB] := by decide +kernel
theorem aw_check : checkL [awA] = 0 := by decide +kernel
theorem aw_text : textB [awA] = ⟨#[123, 97, 61, 34, 120, 92, 34, 34, 125]⟩ := by decide +kernel
theorem aw_textlen : (textL [awA]).length = 9 := by decide +kernel
theorem aw_cmp : setCmp [awA] [awA, awB] = -1 := by decide +kernel
theorem aw_get : getL [awA, awB] ⟨#[98]⟩ = ⟨#[121]⟩ := by decide +kernel
theorem aw_keep : keepL [awA, awB] [⟨#[98]⟩] = [awB] := by decide +kernel
theorem aw_without : withoutL [awA, awB] [⟨#[98]⟩] = [awA] := by decide +kernel
theorem aw_enc : (encL [awA]).length = 6 := by
  have e : encL [awA] = putText (putText (putU 1) awA.1) awA.2 := rfl
  have h1 : awA.1.size = 1 := rfl
  have h2 : awA.2.size = 2 := rfl
  rw [e, putText_len, putText_len, h1, h2, putU_small (by omega), putU_small (by omega)]
  rfl
theorem aw_nil : encL [] = [0] := by
  show putU 0 = [0]
  rw [putU_small (by omega)]
  rfl
theorem aw_hash : fnvL (encL []) = 84696351 := by rw [aw_nil]; decide +kernel
theorem aw_ok : okLabs [awA] := by
  intro l hl
  simp at hl
  subst hl
  constructor <;> decide
set_option maxRecDepth 100000 in
set_option maxHeartbeats 8000000 in
theorem awake_any (w : World) : Calls Tryz.prog 20 #[] w fun e w' => e = .returned (.bool true) ∧ Below w.heap.size w w' := by
  obtain ⟨W1, hW1⟩ : ∃ W1, W1 = w.alloc (.cells #[.string ⟨#[97]⟩, .string ⟨#[120, 34]⟩] 51) := ⟨_, rfl⟩
  obtain ⟨A1, hA1⟩ : ∃ A1, A1 = w.heap.size := ⟨_, rfl⟩
  have hk1 : Aw w [(some ⟨A1, 0, none⟩, [awA])] W1 := by
    rw [hW1, hA1]
    refine ((Aw.nil w).alloc _).add ?_
    have := Rd.new (xs := labsC [awA]) (sz := 2) (e := 51) w (labsC_all _) #[.string ⟨#[97]⟩, .string ⟨#[120, 34]⟩] rfl
    simpa using this
  have HEnc : ∀ (W : World), Rd W W.heap.size 2 (some ⟨A1, 0, none⟩) (labsC [awA]) → Hid (Calls Tryz.prog 11 #[.slice (some ⟨A1, 0, none⟩) 1 1] W fun e w' => ∃ A c, e = .returned (.slice A 6 c) ∧ Own w' W.heap.size 5 1 A 6 c (bytesC (encL [awA])) ∧ Below W.heap.size W w') := fun W h => by
    refine (labEncode_any [awA] _ 1 1 W.heap.size W h rfl (Nat.le_refl _) (by omega) (by rw [aw_enc]; omega)).mono ?_
    rintro e w' ⟨A, m, c, hm, rfl, ho, hb⟩
    rw [aw_enc] at hm
    subst hm
    exact ⟨A, c, rfl, ho, hb⟩
  have HDec : ∀ (W : World) (A : Option Addr) (c : Nat), Rd W W.heap.size 1 A (bytesC (encL [awA])) → 6 ≤ c → c ≤ maxLen → Hid (Calls Tryz.prog 36 #[.slice A 6 c, .int .i64 0] W fun e w' => ∃ A' c', e = .returned (.tuple #[.slice A' 1 c', .int .i64 6, .int .i64 0]) ∧ Rd w' w'.heap.size 2 A' (labsC [awA]) ∧ Below W.heap.size W w') := fun W A c h h1 h2 => by
    refine (decode_at (encL [awA]) [] [] [awA] A 6 c W.heap.size W (by simp) h aw_enc (Nat.le_refl _) (by omega) h1 h2 (by simp) aw_ok aw_check).mono ?_
    rintro e w' ⟨A', c', rfl, ho, hb⟩
    refine ⟨A', c', ?_, ho.rd, hb⟩
    rw [aw_enc]
    rfl
  have HWith : ∀ (W : World), Rd W W.heap.size 2 (some ⟨A1, 0, none⟩) (labsC [awA]) → Hid (Calls Tryz.prog 23 #[.slice (some ⟨A1, 0, none⟩) 1 1, .string ⟨#[98]⟩, .string ⟨#[121]⟩] W fun e w' => ∃ A' c', e = .returned (.slice A' 2 c') ∧ Rd w' w'.heap.size 2 A' (labsC [awA, awB]) ∧ Below W.heap.size W w') := fun W h => by
    refine (with_any [awA] ⟨#[98]⟩ ⟨#[121]⟩ _ 1 1 W.heap.size W h rfl (Nat.le_refl _) (by omega)).mono ?_
    rintro e w' ⟨A', m, c', rfl, hm, ho, hb⟩
    rw [aw_with] at hm ho
    have hm2 : m = 2 := hm.symm
    subst hm2
    exact ⟨A', c', rfl, ho.rd, hb⟩
  have HCk : ∀ (W : World), Rd W W.heap.size 2 (some ⟨A1, 0, none⟩) (labsC [awA]) → Hid (Calls Tryz.prog 10 #[.slice (some ⟨A1, 0, none⟩) 1 1] W fun e w' => e = .returned (.int .i64 0) ∧ Below W.heap.size W w') := fun W h => by
    have := check_any [awA] (some ⟨A1, 0, none⟩) 1 1 W.heap.size W h rfl (Nat.le_refl _) (by decide) aw_ok
    rw [aw_check] at this
    exact this
  have HTx : ∀ (W : World), Rd W W.heap.size 2 (some ⟨A1, 0, none⟩) (labsC [awA]) → Hid (Calls Tryz.prog 13 #[.slice (some ⟨A1, 0, none⟩) 1 1] W fun e w' => e = .returned (.string ⟨#[123, 97, 61, 34, 120, 92, 34, 34, 125]⟩) ∧ Below W.heap.size W w') := fun W h => by
    have := labText_any [awA] (some ⟨A1, 0, none⟩) 1 1 W.heap.size W h rfl (Nat.le_refl _) (by omega) (by rw [aw_textlen]; omega)
    rw [aw_text] at this
    exact this
  have HHs : ∀ (W : World), Hid (Calls Tryz.prog 12 #[.slice none 0 0] W fun e w' => e = .returned (.int .u32 84696351) ∧ Below W.heap.size W w') := fun W => by
    have := hash_any [] none 0 0 W.heap.size W Rd.nil_ rfl (Nat.le_refl _) (by omega) (by rw [aw_nil]; decide)
    rw [aw_hash] at this
    exact this
  have HSm : ∀ (W : World) (A2 : Option Addr) (c2 : Nat), Rd W W.heap.size 2 A2 (labsC [awA]) → Rd W W.heap.size 2 (some ⟨A1, 0, none⟩) (labsC [awA]) → Hid (Calls Tryz.prog 28 #[.slice A2 1 c2, .slice (some ⟨A1, 0, none⟩) 1 1] W fun e w' => e = .returned (.bool true) ∧ Below W.heap.size W w') := fun W A2 c2 h h' => by
    refine (sameLabels_any [awA] [awA] A2 _ 1 1 c2 1 _ _ W h h' rfl rfl (by decide) (by decide)).mono ?_
    rintro e w' ⟨rfl, n, rfl⟩
    exact ⟨ret_bool (by simp), below_drewN (Below.refl _ _) n⟩
  have HCm : ∀ (W : World) (A5 : Option Addr) (c5 : Nat), Rd W W.heap.size 2 (some ⟨A1, 0, none⟩) (labsC [awA]) → Rd W W.heap.size 2 A5 (labsC [awA, awB]) → Hid (Calls Tryz.prog 32 #[.slice (some ⟨A1, 0, none⟩) 1 1, .slice A5 2 c5] W fun e w' => e = .returned (.int .i64 (-1)) ∧ Below W.heap.size W w') := fun W A5 c5 h h' => by
    have := labCompare_any [awA] [awA, awB] (some ⟨A1, 0, none⟩) A5 1 2 1 c5 _ _ W h h' rfl rfl (Nat.le_refl _) (Nat.le_refl _) (by decide) (by decide)
    rw [aw_cmp] at this
    exact this
  have HGt : ∀ (W : World) (A5 : Option Addr) (c5 : Nat), Rd W W.heap.size 2 A5 (labsC [awA, awB]) → Hid (Calls Tryz.prog 22 #[.slice A5 2 c5, .string ⟨#[98]⟩] W fun e w' => e = .returned (.string ⟨#[121]⟩) ∧ Below W.heap.size W w') := fun W A5 c5 h => by
    have := labGet_any [awA, awB] ⟨#[98]⟩ A5 2 c5 _ W h rfl (Nat.le_refl _) (by decide)
    rw [aw_get] at this
    exact this
  have HKp : ∀ (W : World) (N : Nat) (A5 : Option Addr) (c5 : Nat), Rd W W.heap.size 2 A5 (labsC [awA, awB]) → Rd W W.heap.size 1 (some ⟨N, 0, none⟩) (namesC [⟨#[98]⟩]) → Hid (Calls Tryz.prog 24 #[.slice A5 2 c5, .slice (some ⟨N, 0, none⟩) 1 1] W fun e w' => ∃ A c, e = .returned (.slice A 1 c) ∧ Below W.heap.size W w') := fun W N A5 c5 h h' => by
    refine (keep_any [awA, awB] [⟨#[98]⟩] A5 _ 2 c5 _ 1 1 _ W h rfl (Nat.le_refl _) (by omega) h' rfl (Nat.le_refl _) (by decide)).mono ?_
    rintro e w' ⟨A', m, c', rfl, hm, ho, hb⟩
    rw [aw_keep] at hm
    have hm2 : m = 1 := hm.symm
    subst hm2
    exact ⟨A', c', rfl, hb⟩
  have HWo : ∀ (W : World) (N : Nat) (A5 : Option Addr) (c5 : Nat), Rd W W.heap.size 2 A5 (labsC [awA, awB]) → Rd W W.heap.size 1 (some ⟨N, 0, none⟩) (namesC [⟨#[98]⟩]) → Hid (Calls Tryz.prog 25 #[.slice A5 2 c5, .slice (some ⟨N, 0, none⟩) 1 1] W fun e w' => ∃ A c, e = .returned (.slice A 1 c) ∧ Below W.heap.size W w') := fun W N A5 c5 h h' => by
    refine (without_any [awA, awB] [⟨#[98]⟩] A5 _ 2 c5 _ 1 1 _ W h rfl (Nat.le_refl _) (by omega) h' rfl (Nat.le_refl _) (by decide)).mono ?_
    rintro e w' ⟨A', m, c', rfl, hm, ho, hb⟩
    rw [aw_without] at hm
    have hm2 : m = 1 := hm.symm
    subst hm2
    exact ⟨A', c', rfl, hb⟩
  have hname : ∀ (W : World), Rd (W.alloc (.cells #[.string ⟨#[98]⟩] 9)) (W.alloc (.cells #[.string ⟨#[98]⟩] 9)).heap.size 1 (some ⟨W.heap.size, 0, none⟩) (namesC [⟨#[98]⟩]) := fun W => by
    have := Rd.new (xs := namesC [⟨#[98]⟩]) (sz := 1) (e := 9) W (namesC_sz _) #[.string ⟨#[98]⟩] rfl
    simpa using this
  go_enter Tryz.func20, Tryz.ntmps20
  go_wp2_with fail
  rw [← hW1, ← hA1]
  clear hW1 hA1
  refine ((HEnc _ (hk1.get (by simp))).out).mono ?_
  rintro e w2 ⟨Ae, ce, rfl, hoe, hb⟩
  have hk2 := hk1.step hb
  clear hb
  go_wp2_with (first
    | (go_at_call 36; refine ((HDec _ _ _ hoe.rd hoe.cap.1 hoe.cap.2).out).mono ?_; rintro e w3 ⟨A2, c2, rfl, hr2, hb⟩; have hk3 := (hk2.step hb).add hr2; clear hb hr2)
    | (go_at_call 23; refine ((HWith _ (hk3.get (by simp))).out).mono ?_; rintro e w4 ⟨A5, c5, rfl, hr5, hb⟩; have hk4 := (hk3.step hb).add hr5; clear hb hr5)
    | (go_at_call 10; refine ((HCk _ (hk4.get (by simp))).out).mono ?_; rintro e w5 ⟨rfl, hb⟩; have hk5 := hk4.step hb; clear hb)
    | (go_at_call 13; refine ((HTx _ (hk5.get (by simp))).out).mono ?_; rintro e w6 ⟨rfl, hb⟩; have hk6 := hk5.step hb; clear hb)
    | (go_at_call 12; refine ((HHs _).out).mono ?_; rintro e w7 ⟨rfl, hb⟩; have hk7 := hk6.step hb; clear hb)
    | (go_at_call 11; refine ((HEnc _ (hk7.get (by simp))).out).mono ?_; rintro e w8 ⟨Af, cf, rfl, _, hb⟩; have hk8 := hk7.step hb; clear hb)
    | (go_at_call 28; refine ((HSm _ _ _ (hk8.get (by simp)) (hk8.get (by simp))).out).mono ?_; rintro e w9 ⟨rfl, hb⟩; have hk9 := hk8.step hb; clear hb)
    | (go_at_call 32; refine ((HCm _ _ _ (hk9.get (by simp)) (hk9.get (by simp))).out).mono ?_; rintro e w10 ⟨rfl, hb⟩; have hk10 := hk9.step hb; clear hb)
    | (go_at_call 22; refine ((HGt _ _ _ (hk10.get (by simp))).out).mono ?_; rintro e w11 ⟨rfl, hb⟩; have hk11 := hk10.step hb; clear hb)
    | (go_at_call 24; refine ((HKp _ _ _ _ ((hk11.alloc _).get (by simp)) (hname _)).out).mono ?_; rintro e w12 ⟨A12, c12, rfl, hb⟩; have hk12 := (hk11.alloc _).step hb; clear hb)
    | (go_at_call 25; refine ((HWo _ _ _ _ ((hk12.alloc _).get (by simp)) (hname _)).out).mono ?_; rintro e w13 ⟨A13, c13, rfl, hb⟩; have hk13 := (hk12.alloc _).step hb; clear hb))
  go_ret
  exact ⟨rfl, hk13.1⟩
end Go.Proofs.YtnlheomfobpcmaaGreat
