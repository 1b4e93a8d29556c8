/- Label sets copied; compared as the document does. -/
import Derived.Test.YtnlheomfobpcmaaGreatLabC
import Derived.Test.YtnlheomfobpcmaaGreatLabE
import Derived.BigQuiet
import Derived.Deep.QuietTactic
namespace Go.Proofs.YtnlheomfobpcmaaGreat
open Go.RowKit

theorem setCmp_fst {a b : List Lab} {k : Nat} {x y : Lab} (h : Hid (∀ j, j < k → a[j]? = b[j]?)) (ha : a[k]? = some x) (hb : b[k]? = some y) (hne : strCmp x.1 y.1 ≠ 0) : setCmp a b = strCmp x.1 y.1 := by
  have e : labCmp x y = strCmp x.1 y.1 := by unfold labCmp pairCmp; rw [if_neg hne]
  rw [setCmp_at h ha hb (by rw [e]; exact hne), e]
theorem setCmp_snd {a b : List Lab} {k : Nat} {x y : Lab} (h : Hid (∀ j, j < k → a[j]? = b[j]?)) (ha : a[k]? = some x) (hb : b[k]? = some y) (he : strCmp x.1 y.1 = 0) (hne : strCmp x.2 y.2 ≠ 0) : setCmp a b = strCmp x.2 y.2 := by
  have e : labCmp x y = strCmp x.2 y.2 := by unfold labCmp pairCmp; rw [if_pos he]
  rw [setCmp_at h ha hb (by rw [e]; exact hne), e]
set_option maxHeartbeats 2000000 in
theorem rcompare_any (ls ms : List Lab) (A1 A2 : Option Addr) (n1 n2 c1 c2 B1 B2 : Nat) (w : World) (h1 : Rd w B1 2 A1 (labsC ls)) (h2 : Rd w B2 2 A2 (labsC ms)) (hn1 : ls.length = n1) (hn2 : ms.length = n2) (hm1 : n1 ≤ maxLen) (hm2 : n2 ≤ maxLen) :
    Calls Tryz.prog 34 #[.slice A1 n1 c1, .slice A2 n2 c2] w fun e w' => e = .returned (.int .i64 (setCmp ls ms)) ∧ ∃ n, w' = w.drewN n := by
  unfold maxLen at hm1 hm2
  have Hn1 := Lib.hid hn1
  have Hn2 := Lib.hid hn2
  clear hn1 hn2
  go_enter Tryz.func34, Tryz.ntmps34
  go_wp2_with fail
  go_loopw [5] (fun i wr => ∃ k q : Nat, i = .int .i64 k ∧ k ≤ n1 ∧ k ≤ n2 ∧ wr = w.drewN q ∧ Hid (∀ j, j < k → ls[j]? = ms[j]?)) (fun i _ => n1 - (intOf i).toNat)
  case atStart => exact ⟨0, 0, rfl, by omega, by omega, rfl, fun j hj => by omega⟩
  case round =>
    obtain ⟨k, q, rfl, hk1, hk2, rfl, HA⟩ := hrel
    by_cases hlt : k < n1
    · have hltI : (k : Int) < (n1 : Int) := by omega
      by_cases hlt2 : k < n2
      · have hltJ : (k : Int) < (n2 : Int) := by omega
        obtain ⟨l, hl⟩ := get_lt Hn1 hlt
        obtain ⟨m, hm⟩ := get_lt Hn2 hlt2
        obtain ⟨b, o, rfl, hbB, g0, g1⟩ := h1.at2 (labsC_at hl)
        obtain ⟨b', o', rfl, hbB', g0', g1'⟩ := h2.at2 (labsC_at hm)
        have HO1 : ∀ W, Hid (Calls Tryz.prog 69 #[.string l.1, .string m.1] W fun e w' => e = .returned (.int .i64 (strCmp l.1 m.1)) ∧ W = w') := fun W => order_any l.1 m.1 W
        have HO2 : ∀ W, Hid (Calls Tryz.prog 69 #[.string l.2, .string m.2] W fun e w' => e = .returned (.int .i64 (strCmp l.2 m.2)) ∧ W = w') := fun W => order_any l.2 m.2 W
        by_cases he1 : strCmp l.1 m.1 = 0
        · rw [he1] at HO1
          by_cases he2 : strCmp l.2 m.2 = 0
          · rw [he2] at HO2
            have e : l = m := Prod.ext ((strCmp_is.eq _ _).1 he1) ((strCmp_is.eq _ _).1 he2)
            have HA2 := upto_step HA hl hm e
            clear he1 he2 e hl hm HA
            go_wp2_with fail
            go_quiet ((go_at_call 69; first | exact quiet_same (HO1 _).out | exact quiet_same1 (HO1 _).out))
            go_wp2_with fail
            go_quiet ((go_at_call 69; first | exact quiet_same (HO2 _).out | exact quiet_same1 (HO2 _).out))
            go_wp2_with fail
            go_roundw
            case rel => exact ⟨k + 1, _, by go_num, by omega, by omega, rfl, HA2⟩
            case measure => simp [intOf]; omega
          · have HT := Lib.hid (setCmp_snd HA hl hm he1 he2)
            have hb2 : (strCmp l.2 m.2 != 0) = true := by rw [bne_iff_ne]; exact he2
            generalize strCmp l.2 m.2 = r at *
            clear he1 he2 hl hm HA
            go_wp2_with fail
            go_quiet ((go_at_call 69; first | exact quiet_same (HO1 _).out | exact quiet_same1 (HO1 _).out))
            go_wp2_with fail
            go_quiet ((go_at_call 69; first | exact quiet_same (HO2 _).out | exact quiet_same1 (HO2 _).out))
            go_wp2_with fail
            go_ret
            exact ⟨ret_int HT.out.symm, _, rfl⟩
        · have HT := Lib.hid (setCmp_fst HA hl hm he1)
          have hb1 : (strCmp l.1 m.1 != 0) = true := by rw [bne_iff_ne]; exact he1
          generalize strCmp l.1 m.1 = r at *
          clear he1 hl hm HA HO2
          go_wp2_with fail
          go_quiet ((go_at_call 69; first | exact quiet_same (HO1 _).out | exact quiet_same1 (HO1 _).out))
          go_wp2_with fail
          go_ret
          exact ⟨ret_int HT.out.symm, _, rfl⟩
      · have hkn : k = n2 := by omega
        subst hkn
        have HT : Hid (setCmp ls ms = 1) := setCmp_long (by have := Hn2.out; rw [this]; exact HA) (by have := Hn1.out; have := Hn2.out; omega)
        have hltJ : ¬ (n1 : Int) < (k : Int) := by omega
        go_wp2_with fail
        go_ret
        exact ⟨ret_int HT.out.symm, _, rfl⟩
    · have hkn : k = n1 := by omega
      subst hkn
      by_cases hlt2 : k < n2
      · have hltJ : (k : Int) < (n2 : Int) := by omega
        have HT : Hid (setCmp ls ms = -1) := setCmp_short (by have := Hn1.out; rw [this]; exact HA) (by have := Hn1.out; have := Hn2.out; omega)
        go_wp2_with fail
        go_ret
        exact ⟨ret_int HT.out.symm, _, rfl⟩
      · have hkn : k = n2 := by omega
        subst hkn
        have HT : Hid (setCmp ls ms = 0) := setCmp_same (by have := Hn1.out; rw [this]; exact HA) (by have := Hn1.out; have := Hn2.out; omega)
        go_wp2_with fail
        go_ret
        exact ⟨ret_int HT.out.symm, _, rfl⟩
end Go.Proofs.YtnlheomfobpcmaaGreat
