/- Whether a text is UTF-8. -/
import Derived.Test.YtnlheomfobpcmaaGreatProg
import Derived.Test.YtnlheomfobpcmaaGreatScope
import Derived.Test.YtnlheomfobpcmaaGreatDrop
namespace Go.Proofs.YtnlheomfobpcmaaGreat
open Go.RowKit

/-- What a character's first byte asks of the next ones: how many, and the bounds of the second. -/
def vfirst (c : Nat) : Option (Nat × Nat × Nat) :=
  if c < 128 then some (0, 128, 191) else if 194 ≤ c ∧ c ≤ 223 then some (1, 128, 191) else if c = 224 then some (2, 160, 191) else if c = 237 then some (2, 128, 159)
  else if 224 ≤ c ∧ c ≤ 239 then some (2, 128, 191) else if c = 240 then some (3, 144, 191) else if c = 244 then some (3, 128, 143) else if 240 ≤ c ∧ c ≤ 244 then some (3, 128, 191) else none
def vst : Nat → Nat → Nat → List UInt8 → Bool
  | 0, _, _, [] => true
  | 0, _, _, c :: r => match vfirst c.toNat with
    | some (m, lo, hi) => vst m lo hi r
    | none => false
  | _ + 1, _, _, [] => false
  | m + 1, lo, hi, c :: r => decide (lo ≤ c.toNat ∧ c.toNat ≤ hi) && vst m 128 191 r
def validL (l : List UInt8) : Bool := vst 0 128 191 l

theorem vst0_at {s : ByteArray} {i lo hi m l h' : Nat} (h : i < s.size) (hv : vfirst s[i].toNat = some (m, l, h')) : vst 0 lo hi (s.data.toList.drop i) = vst m l h' (s.data.toList.drop (i + 1)) := by
  rw [drop_at h]; simp only [vst, hv]
theorem vst0_no {s : ByteArray} {i lo hi : Nat} (h : i < s.size) (hv : vfirst s[i].toNat = none) : vst 0 lo hi (s.data.toList.drop i) = false := by
  rw [drop_at h]; simp only [vst, hv]
theorem vst0_end {s : ByteArray} {lo hi : Nat} : vst 0 lo hi (s.data.toList.drop s.size) = true := by rw [drop_end]; rfl
theorem vst0_any {lo hi : Nat} {l : List UInt8} : vst 0 lo hi l = vst 0 128 191 l := by cases l <;> rfl
theorem vstn_end {s : ByteArray} {m lo hi : Nat} : vst (m + 1) lo hi (s.data.toList.drop s.size) = false := by rw [drop_end]; rfl
theorem vstn_yes {s : ByteArray} {i m lo hi : Nat} (h : i < s.size) (h1 : lo ≤ s[i].toNat) (h2 : s[i].toNat ≤ hi) : vst (m + 1) lo hi (s.data.toList.drop i) = vst m 128 191 (s.data.toList.drop (i + 1)) := by
  rw [drop_at h]; simp [vst, h1, h2]
theorem vstn_no {s : ByteArray} {i m lo hi : Nat} (h : i < s.size) (h1 : ¬ (lo ≤ s[i].toNat ∧ s[i].toNat ≤ hi)) : vst (m + 1) lo hi (s.data.toList.drop i) = false := by
  rw [drop_at h]; simp only [vst, decide_eq_false h1, Bool.false_and]

def vJ (s : ByteArray) (w : World) (l : Nat) (a : Act) (w' : World) : Prop :=
  (l = 0 ∧ ∃ (i : Nat) (u1 u4 u5 u6 u7 u8 u9 u10 u11 u12 u13 u14 u15 u16 u17 u18 u19 u20 u21 u22 u23 u24 u25 u26 u27 u28 u29 u30 u31 u32 u33 u34 u35 u36 u37 u38 u39 u40 u41 u42 u43 u44 u45 u46 u47 u48 u49 u50 u51 u52 u53 u54 u55 u56 u57 u58 u59 u60 u61 u62 u63 u64 u65 u66 u67 u68 u69 u70 u71 u72 u73 u74 : Value), i ≤ s.size ∧ w' = w ∧ Hid (validL s.data.toList = vst 0 128 191 (s.data.toList.drop i)) ∧ a = { tmps := #[.string s, u1, .bool false, .int .i64 i, u4, u5, u6, u7, u8, u9, u10, u11, u12, u13, u14, u15, u16, u17, u18, u19, u20, u21, u22, u23, u24, u25, u26, u27, u28, u29, u30, u31, u32, u33, u34, u35, u36, u37, u38, u39, u40, u41, u42, u43, u44, u45, u46, u47, u48, u49, u50, u51, u52, u53, u54, u55, u56, u57, u58, u59, u60, u61, u62, u63, u64, u65, u66, u67, u68, u69, u70, u71, u72, u73, u74], defers := [] }) ∨
  (l = 1 ∧ ∃ (i m lo hi : Nat) (u1 u7 u8 u9 u10 u11 u12 u13 u14 u15 u16 u17 u18 u19 u20 u21 u22 u23 u24 u25 u26 u27 u28 u29 u30 u31 u32 u33 u34 u35 u36 u37 u38 u39 u40 u41 u42 u43 u44 u45 u46 u47 u48 u49 u50 u51 u52 u53 u54 u55 u56 u57 u58 u59 u60 u61 u62 u63 u64 u65 u66 u67 u68 u69 u70 u71 u72 u73 u74 : Value), i ≤ s.size ∧ m ≤ 3 ∧ lo ≤ 255 ∧ hi ≤ 255 ∧ w' = w ∧ Hid (validL s.data.toList = vst m lo hi (s.data.toList.drop i)) ∧ a = { tmps := #[.string s, u1, .bool false, .int .i64 i, .int .i64 m, .int .u8 lo, .int .u8 hi, u7, u8, u9, u10, u11, u12, u13, u14, u15, u16, u17, u18, u19, u20, u21, u22, u23, u24, u25, u26, u27, u28, u29, u30, u31, u32, u33, u34, u35, u36, u37, u38, u39, u40, u41, u42, u43, u44, u45, u46, u47, u48, u49, u50, u51, u52, u53, u54, u55, u56, u57, u58, u59, u60, u61, u62, u63, u64, u65, u66, u67, u68, u69, u70, u71, u72, u73, u74], defers := [] })

def vM (s : ByteArray) (l : Nat) (a : Act) (_ : World) : Nat := 2 * (s.size - (intOf (a.tmps.getD 3 undef)).toNat) + l
theorem vclass (c : Nat) (hc : c ≤ 255) : (0 ≤ c ∧ c ≤ 127) ∨ (194 ≤ c ∧ c ≤ 223) ∨ (224 ≤ c ∧ c ≤ 224) ∨ (225 ≤ c ∧ c ≤ 236) ∨ (237 ≤ c ∧ c ≤ 237) ∨ (238 ≤ c ∧ c ≤ 239) ∨ (240 ≤ c ∧ c ≤ 240) ∨ (241 ≤ c ∧ c ≤ 243) ∨ (244 ≤ c ∧ c ≤ 244) ∨ (128 ≤ c ∧ c ≤ 193) ∨ (245 ≤ c ∧ c ≤ 255) := by omega

set_option maxRecDepth 100000 in
set_option maxHeartbeats 2000000 in
theorem valid_any (s : ByteArray) (w : World) (hs : s.size ≤ maxLen) :
    Calls Tryz.prog 40 #[.string s] w fun e w' => e = .returned (.bool (validL s.data.toList)) ∧ w = w' := by
  unfold maxLen at hs
  go_enter Tryz.func40, Tryz.ntmps40
  go_wp2
  refine wp_scope2 (vJ s w) (vM s) ?_ rfl rfl ?_ ?_ ?_
  · intro l a w' h
    rcases h with ⟨rfl, _⟩ | ⟨rfl, _⟩ <;> omega
  · intro ih0 ih1
    have IH0 := Lib.hid ih0
    clear ih0 ih1
    go_wp2
    go_step3
    refine (‹∀ (a : Act) (w : World), _ → _› : ∀ (a : Act) (w : World), _ → _) _ _ ?_
    exact IH0.out _ _ (.inl ⟨rfl, 0, _, _, _, _, _, _, _, _, _, _, _, _, _, _, _, _, _, _, _, _, _, _, _, _, _, _, _, _, _, _, _, _, _, _, _, _, _, _, _, _, _, _, _, _, _, _, _, _, _, _, _, _, _, _, _, _, _, _, _, _, _, _, _, _, _, _, _, _, _, _, _, _, by omega, rfl, rfl, rfl⟩)
  · rintro a w' (⟨_, i, u1, u4, u5, u6, u7, u8, u9, u10, u11, u12, u13, u14, u15, u16, u17, u18, u19, u20, u21, u22, u23, u24, u25, u26, u27, u28, u29, u30, u31, u32, u33, u34, u35, u36, u37, u38, u39, u40, u41, u42, u43, u44, u45, u46, u47, u48, u49, u50, u51, u52, u53, u54, u55, u56, u57, u58, u59, u60, u61, u62, u63, u64, u65, u66, u67, u68, u69, u70, u71, u72, u73, u74, hi, rfl, HV, rfl⟩ | ⟨h, _⟩) ih0 ih1
    · have IH1 := Lib.hid ih1
      clear ih0 ih1
      by_cases hlt : i < s.size
      · rcases vclass s[i].toNat (u8_le _) with h | h | h | h | h | h | h | h | h | h | h
        · have h1 : (0 : Int) ≤ s[i].toNat := by omega
          have h2 : (s[i].toNat : Int) ≤ 127 := by omega
          have hv : vfirst s[i].toNat = some (0, 128, 191) := by unfold vfirst; repeat (first | rw [if_pos (by omega)] | rw [if_neg (by omega)])
          have HV2 := Lib.hid (HV.out.trans (vst0_at hlt hv))
          clear h hv
          go_wp2
          go_step3
          exact ⟨.inl ⟨rfl, i + 1, _, _, _, _, _, _, _, _, _, _, _, _, _, _, _, _, _, _, _, _, _, _, _, _, _, _, _, _, _, _, _, _, _, _, _, _, _, _, _, _, _, _, _, _, _, _, _, _, _, _, _, _, _, _, _, _, _, _, _, _, _, _, _, _, _, _, _, _, _, _, _, _, by omega, rfl, HV2, rfl⟩, by simp [vM, intOf]; omega⟩
        · have h1 : (194 : Int) ≤ s[i].toNat := by omega
          have h2 : (s[i].toNat : Int) ≤ 223 := by omega
          have hv : vfirst s[i].toNat = some (1, 128, 191) := by unfold vfirst; repeat (first | rw [if_pos (by omega)] | rw [if_neg (by omega)])
          have HV2 := Lib.hid (HV.out.trans (vst0_at hlt hv))
          clear h hv
          go_wp2
          go_step3
          refine (‹∀ (a : Act) (w : World), _ → _› : ∀ (a : Act) (w : World), _ → _) _ _ ?_
          exact IH1.out _ _ (.inr ⟨rfl, i + 1, 1, 128, 191, _, _, _, _, _, _, _, _, _, _, _, _, _, _, _, _, _, _, _, _, _, _, _, _, _, _, _, _, _, _, _, _, _, _, _, _, _, _, _, _, _, _, _, _, _, _, _, _, _, _, _, _, _, _, _, _, _, _, _, _, _, _, _, _, _, _, _, _, _, by omega, by omega, by omega, by omega, rfl, HV2, rfl⟩) (by simp [vM, intOf]; omega)
        · have h1 : (224 : Int) ≤ s[i].toNat := by omega
          have h2 : (s[i].toNat : Int) ≤ 224 := by omega
          have hv : vfirst s[i].toNat = some (2, 160, 191) := by unfold vfirst; repeat (first | rw [if_pos (by omega)] | rw [if_neg (by omega)])
          have HV2 := Lib.hid (HV.out.trans (vst0_at hlt hv))
          clear h hv
          go_wp2
          go_step3
          refine (‹∀ (a : Act) (w : World), _ → _› : ∀ (a : Act) (w : World), _ → _) _ _ ?_
          exact IH1.out _ _ (.inr ⟨rfl, i + 1, 2, 160, 191, _, _, _, _, _, _, _, _, _, _, _, _, _, _, _, _, _, _, _, _, _, _, _, _, _, _, _, _, _, _, _, _, _, _, _, _, _, _, _, _, _, _, _, _, _, _, _, _, _, _, _, _, _, _, _, _, _, _, _, _, _, _, _, _, _, _, _, _, _, by omega, by omega, by omega, by omega, rfl, HV2, rfl⟩) (by simp [vM, intOf]; omega)
        · have h1 : (225 : Int) ≤ s[i].toNat := by omega
          have h2 : (s[i].toNat : Int) ≤ 236 := by omega
          have hv : vfirst s[i].toNat = some (2, 128, 191) := by unfold vfirst; repeat (first | rw [if_pos (by omega)] | rw [if_neg (by omega)])
          have HV2 := Lib.hid (HV.out.trans (vst0_at hlt hv))
          clear h hv
          go_wp2
          go_step3
          refine (‹∀ (a : Act) (w : World), _ → _› : ∀ (a : Act) (w : World), _ → _) _ _ ?_
          exact IH1.out _ _ (.inr ⟨rfl, i + 1, 2, 128, 191, _, _, _, _, _, _, _, _, _, _, _, _, _, _, _, _, _, _, _, _, _, _, _, _, _, _, _, _, _, _, _, _, _, _, _, _, _, _, _, _, _, _, _, _, _, _, _, _, _, _, _, _, _, _, _, _, _, _, _, _, _, _, _, _, _, _, _, _, _, by omega, by omega, by omega, by omega, rfl, HV2, rfl⟩) (by simp [vM, intOf]; omega)
        · have h1 : (237 : Int) ≤ s[i].toNat := by omega
          have h2 : (s[i].toNat : Int) ≤ 237 := by omega
          have hv : vfirst s[i].toNat = some (2, 128, 159) := by unfold vfirst; repeat (first | rw [if_pos (by omega)] | rw [if_neg (by omega)])
          have HV2 := Lib.hid (HV.out.trans (vst0_at hlt hv))
          clear h hv
          go_wp2
          go_step3
          refine (‹∀ (a : Act) (w : World), _ → _› : ∀ (a : Act) (w : World), _ → _) _ _ ?_
          exact IH1.out _ _ (.inr ⟨rfl, i + 1, 2, 128, 159, _, _, _, _, _, _, _, _, _, _, _, _, _, _, _, _, _, _, _, _, _, _, _, _, _, _, _, _, _, _, _, _, _, _, _, _, _, _, _, _, _, _, _, _, _, _, _, _, _, _, _, _, _, _, _, _, _, _, _, _, _, _, _, _, _, _, _, _, _, by omega, by omega, by omega, by omega, rfl, HV2, rfl⟩) (by simp [vM, intOf]; omega)
        · have h1 : (238 : Int) ≤ s[i].toNat := by omega
          have h2 : (s[i].toNat : Int) ≤ 239 := by omega
          have hv : vfirst s[i].toNat = some (2, 128, 191) := by unfold vfirst; repeat (first | rw [if_pos (by omega)] | rw [if_neg (by omega)])
          have HV2 := Lib.hid (HV.out.trans (vst0_at hlt hv))
          clear h hv
          go_wp2
          go_step3
          refine (‹∀ (a : Act) (w : World), _ → _› : ∀ (a : Act) (w : World), _ → _) _ _ ?_
          exact IH1.out _ _ (.inr ⟨rfl, i + 1, 2, 128, 191, _, _, _, _, _, _, _, _, _, _, _, _, _, _, _, _, _, _, _, _, _, _, _, _, _, _, _, _, _, _, _, _, _, _, _, _, _, _, _, _, _, _, _, _, _, _, _, _, _, _, _, _, _, _, _, _, _, _, _, _, _, _, _, _, _, _, _, _, _, by omega, by omega, by omega, by omega, rfl, HV2, rfl⟩) (by simp [vM, intOf]; omega)
        · have h1 : (240 : Int) ≤ s[i].toNat := by omega
          have h2 : (s[i].toNat : Int) ≤ 240 := by omega
          have hv : vfirst s[i].toNat = some (3, 144, 191) := by unfold vfirst; repeat (first | rw [if_pos (by omega)] | rw [if_neg (by omega)])
          have HV2 := Lib.hid (HV.out.trans (vst0_at hlt hv))
          clear h hv
          go_wp2
          go_step3
          refine (‹∀ (a : Act) (w : World), _ → _› : ∀ (a : Act) (w : World), _ → _) _ _ ?_
          exact IH1.out _ _ (.inr ⟨rfl, i + 1, 3, 144, 191, _, _, _, _, _, _, _, _, _, _, _, _, _, _, _, _, _, _, _, _, _, _, _, _, _, _, _, _, _, _, _, _, _, _, _, _, _, _, _, _, _, _, _, _, _, _, _, _, _, _, _, _, _, _, _, _, _, _, _, _, _, _, _, _, _, _, _, _, _, by omega, by omega, by omega, by omega, rfl, HV2, rfl⟩) (by simp [vM, intOf]; omega)
        · have h1 : (241 : Int) ≤ s[i].toNat := by omega
          have h2 : (s[i].toNat : Int) ≤ 243 := by omega
          have hv : vfirst s[i].toNat = some (3, 128, 191) := by unfold vfirst; repeat (first | rw [if_pos (by omega)] | rw [if_neg (by omega)])
          have HV2 := Lib.hid (HV.out.trans (vst0_at hlt hv))
          clear h hv
          go_wp2
          go_step3
          refine (‹∀ (a : Act) (w : World), _ → _› : ∀ (a : Act) (w : World), _ → _) _ _ ?_
          exact IH1.out _ _ (.inr ⟨rfl, i + 1, 3, 128, 191, _, _, _, _, _, _, _, _, _, _, _, _, _, _, _, _, _, _, _, _, _, _, _, _, _, _, _, _, _, _, _, _, _, _, _, _, _, _, _, _, _, _, _, _, _, _, _, _, _, _, _, _, _, _, _, _, _, _, _, _, _, _, _, _, _, _, _, _, _, by omega, by omega, by omega, by omega, rfl, HV2, rfl⟩) (by simp [vM, intOf]; omega)
        · have h1 : (244 : Int) ≤ s[i].toNat := by omega
          have h2 : (s[i].toNat : Int) ≤ 244 := by omega
          have hv : vfirst s[i].toNat = some (3, 128, 143) := by unfold vfirst; repeat (first | rw [if_pos (by omega)] | rw [if_neg (by omega)])
          have HV2 := Lib.hid (HV.out.trans (vst0_at hlt hv))
          clear h hv
          go_wp2
          go_step3
          refine (‹∀ (a : Act) (w : World), _ → _› : ∀ (a : Act) (w : World), _ → _) _ _ ?_
          exact IH1.out _ _ (.inr ⟨rfl, i + 1, 3, 128, 143, _, _, _, _, _, _, _, _, _, _, _, _, _, _, _, _, _, _, _, _, _, _, _, _, _, _, _, _, _, _, _, _, _, _, _, _, _, _, _, _, _, _, _, _, _, _, _, _, _, _, _, _, _, _, _, _, _, _, _, _, _, _, _, _, _, _, _, _, _, by omega, by omega, by omega, by omega, rfl, HV2, rfl⟩) (by simp [vM, intOf]; omega)
        · have h1 : (128 : Int) ≤ s[i].toNat := by omega
          have h2 : (s[i].toNat : Int) ≤ 193 := by omega
          have hv : vfirst s[i].toNat = none := by unfold vfirst; repeat (first | rw [if_pos (by omega)] | rw [if_neg (by omega)])
          have HV2 := Lib.hid (HV.out.trans (vst0_no hlt hv))
          clear h hv
          go_wp2
          simp only [jumps]
          go_ret
          exact ⟨ret_bool HV2.out.symm, rfl⟩
        · have h1 : (245 : Int) ≤ s[i].toNat := by omega
          have h2 : (s[i].toNat : Int) ≤ 255 := by omega
          have hv : vfirst s[i].toNat = none := by unfold vfirst; repeat (first | rw [if_pos (by omega)] | rw [if_neg (by omega)])
          have HV2 := Lib.hid (HV.out.trans (vst0_no hlt hv))
          clear h hv
          go_wp2
          simp only [jumps]
          go_ret
          exact ⟨ret_bool HV2.out.symm, rfl⟩
      · have hie : i = s.size := by omega
        have HV2 : Hid (validL s.data.toList = true) := HV.out.trans (by rw [hie]; exact vst0_end)
        clear hie
        go_wp2
        simp only [jumps]
        go_ret
        exact ⟨ret_bool HV2.out.symm, rfl⟩
    · omega
  · rintro a w' (⟨h, _⟩ | ⟨_, i, m, lo, hi', u1, u7, u8, u9, u10, u11, u12, u13, u14, u15, u16, u17, u18, u19, u20, u21, u22, u23, u24, u25, u26, u27, u28, u29, u30, u31, u32, u33, u34, u35, u36, u37, u38, u39, u40, u41, u42, u43, u44, u45, u46, u47, u48, u49, u50, u51, u52, u53, u54, u55, u56, u57, u58, u59, u60, u61, u62, u63, u64, u65, u66, u67, u68, u69, u70, u71, u72, u73, u74, hi, hm, hlo, hhi, rfl, HV, rfl⟩) ih0 ih1
    · omega
    · clear ih0 ih1
      match m, hm, HV with
      | 0, hm, HV =>
        have HV2 := Lib.hid (HV.out.trans vst0_any)
        go_wp2
        go_step3
        exact ⟨.inl ⟨rfl, i, _, _, _, _, _, _, _, _, _, _, _, _, _, _, _, _, _, _, _, _, _, _, _, _, _, _, _, _, _, _, _, _, _, _, _, _, _, _, _, _, _, _, _, _, _, _, _, _, _, _, _, _, _, _, _, _, _, _, _, _, _, _, _, _, _, _, _, _, _, _, _, _, by omega, rfl, HV2, rfl⟩, by simp [vM, intOf]⟩
      | m + 1, hm, HV =>
        by_cases hlt : i < s.size
        · by_cases h1 : (lo : Int) ≤ s[i].toNat
          · by_cases h2 : (s[i].toNat : Int) ≤ hi'
            · have HV2 := Lib.hid (HV.out.trans (vstn_yes hlt (by omega) (by omega)))
              go_wp2
              all_goals first
                | (exfalso; omega)
                | (exfalso; simp at *; omega)
                | (go_step3; exact ⟨.inr ⟨rfl, i + 1, m, 128, 191, _, _, _, _, _, _, _, _, _, _, _, _, _, _, _, _, _, _, _, _, _, _, _, _, _, _, _, _, _, _, _, _, _, _, _, _, _, _, _, _, _, _, _, _, _, _, _, _, _, _, _, _, _, _, _, _, _, _, _, _, _, _, _, _, _, _, _, _, _, by omega, by omega, by omega, by omega, rfl, HV2, rfl⟩, by simp [vM, intOf]; omega⟩)
            · have HV2 := Lib.hid (HV.out.trans (vstn_no hlt (by omega)))
              go_wp2
              simp only [jumps]
              go_ret
              exact ⟨ret_bool HV2.out.symm, rfl⟩
          · have HV2 := Lib.hid (HV.out.trans (vstn_no hlt (by omega)))
            go_wp2
            simp only [jumps]
            go_ret
            exact ⟨ret_bool HV2.out.symm, rfl⟩
        · have hie : i = s.size := by omega
          have HV2 : Hid (validL s.data.toList = false) := HV.out.trans (by rw [hie]; exact vstn_end)
          clear hie
          go_wp2
          simp only [jumps]
          go_ret
          exact ⟨ret_bool HV2.out.symm, rfl⟩
end Go.Proofs.YtnlheomfobpcmaaGreat
