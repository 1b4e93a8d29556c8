/- HaKeys: whatever the texts, the law hands back true, and nothing that was there has turned. -/
import Derived.Test.YtngboplmlkckhaaDoorHaB
import Derived.Test.YtngboplmlkckhaaDoorTenS
import Derived.Test.YtngboplmlkckhaaDoorHaT
namespace Go.Proofs.YtngboplmlkckhaaDoor
open Go.RowKit

theorem tenant_all {s : ByteArray} (h : ∀ j (hj : j < s.size), j < s.size → tchar s[j] = true) : s.data.toList.all tchar = true := all_true h
set_option maxHeartbeats 1000000 in
theorem ltenant_any (s : ByteArray) (w : World) (hs : s.size ≤ maxLen) :
    Calls Tryd.prog 18 #[.string s] w fun e w' => e = .returned (.bool (tenantB s)) ∧ w = w' := by
  unfold maxLen at hs
  go_enter Tryd.func18, Tryd.ntmps18
  go_wp2_with fail
  go_loop [3] (fun i => ∃ k : Nat, k ≤ s.size ∧ i = .int .i64 k ∧ Hid (∀ j (hj : j < s.size), j < k → tchar s[j] = true)) (fun i => s.size - (intOf i).toNat)
  case atStart => exact ⟨0, by omega, rfl, fun j _ hj => by omega⟩
  case round =>
    obtain ⟨k, hk, rfl, hall⟩ := hrel
    by_cases hlt : k < s.size
    · cases hc : tchar s[k] with
      | true =>
        have hc1 := Lib.hid (tchar_yes hc)
        have hall2 := all_step hlt hc hall
        clear hc hall
        go_wp2
        all_goals first
          | (exfalso; have := hc1.out; simp at *; omega)
          | (go_round
             case rel => exact ⟨k + 1, by omega, by go_num, hall2⟩
             case measure => simp [intOf]; omega)
      | false =>
        have hc1 := Lib.hid (tchar_no hc)
        have hc2 := Lib.hid (tenant_false hlt hc)
        clear hc hall
        go_wp2
        all_goals first
          | (exfalso; have := hc1.out; simp at *; omega)
          | (go_ret; exact ⟨ret_bool hc2.out.symm, rfl⟩)
    · have hks : k = s.size := by omega
      rw [hks] at hall
      have HA := Lib.hid (tenant_all hall.out)
      clear hks
      by_cases h1 : 1 ≤ s.size
      · have he : s.toList.isEmpty = false := isEmpty_no h1
        by_cases h2 : s.size ≤ 32
        · have h2I : (s.size : Int) ≤ 32 := by omega
          have HT : Hid (tenantB s = true) := by show _ = _; simp [tenantB, HA.out, h1, h2]
          clear hall
          go_wp2
          go_ret
          exact ⟨ret_bool HT.out.symm, rfl⟩
        · have h2I : ¬ (s.size : Int) ≤ 32 := by omega
          have h3 : (32 : Int) < s.size := by omega
          have HT : Hid (tenantB s = false) := by show _ = _; simp [tenantB, h2]
          clear hall
          go_wp2
          go_ret
          exact ⟨ret_bool HT.out.symm, rfl⟩
      · have he : s.toList.isEmpty = true := isEmpty_yes h1
        have HT : Hid (tenantB s = false) := by show _ = _; simp [tenantB]; omega
        clear hall
        go_wp2
        go_ret
        exact ⟨ret_bool HT.out.symm, rfl⟩
theorem tenantB_le {s : ByteArray} (h : tenantB s = true) : s.size ≤ 32 := by
  simp [tenantB] at h
  omega
set_option maxRecDepth 100000 in
set_option maxHeartbeats 4000000 in
theorem haKeys_any (a b cl : ByteArray) (w : World) (htab : Tab10 w) (ha : a.size ≤ 140737488351232) (hb : b.size ≤ 140737488351232) (hc : cl.size ≤ 140737488351232) :
    Calls Tryd.prog 5 #[.string a, .string b, .string cl] w fun e w' => e = .returned (.bool true) ∧ Below w.heap.size w w' := by
  have HT1 := fun (W : World) => Lib.hid (ltenant_any a W (by simp only [maxLen]; omega))
  have HT2 := fun (W : World) => Lib.hid (ltenant_any b W (by simp only [maxLen]; omega))
  have HA := fun (W : World) (h : Tab10 W) => Lib.hid (hawake_any W h)
  cases hta : tenantB a with
  | false =>
    rw [hta] at HT1
    go_enter Tryd.func5, Tryd.ntmps5
    go_wp2_with (first | (go_at_call 18; with_reducible refine ((HT1 _).out).mono ?_; rintro e w' ⟨rfl, rfl⟩) | (go_at_call 15; refine ((HA _ htab).out).mono ?_; rintro e w' ⟨rfl, hb⟩))
    go_ret
    exact ⟨rfl, hb⟩
  | true =>
    cases htb : tenantB b with
    | false =>
      rw [hta] at HT1
      rw [htb] at HT2
      go_enter Tryd.func5, Tryd.ntmps5
      go_wp2_with (first | (go_at_call 18; with_reducible refine ((HT1 _).out).mono ?_; rintro e w' ⟨rfl, rfl⟩) | (go_at_call 18; with_reducible refine ((HT2 _).out).mono ?_; rintro e w' ⟨rfl, rfl⟩) | (go_at_call 15; refine ((HA _ htab).out).mono ?_; rintro e w' ⟨rfl, hb⟩))
      go_ret
      exact ⟨rfl, hb⟩
    | true =>
      rw [hta] at HT1
      rw [htb] at HT2
      have h1 := keyB_size a (keyH cl) (tenantB_le hta) (keyH_lt cl)
      have hi : Hid (keyB a (keyH cl) = keyB b (keyH cl) ↔ a = b) := keyB_inj
      have HK1 := fun (W : World) (h : Tab10 W) => Lib.hid (key_any a cl W h (by omega) (by omega))
      have HK2 := fun (W : World) (h : Tab10 W) => Lib.hid (key_any b cl W h (by omega) (by omega))
      by_cases hab : a = b
      · subst hab
        clear HK2 hi
        generalize keyB a (keyH cl) = x at *
        have hx1 : (1 : Int) ≤ x.size := by omega
        have hx2 : (x.size : Int) ≤ 64 := by omega
        clear hta htb h1
        go_enter Tryd.func5, Tryd.ntmps5
        go_wp2_with (first | (go_at_call 18; with_reducible refine ((HT1 _).out).mono ?_; rintro e w' ⟨rfl, rfl⟩) | (go_at_call 18; with_reducible refine ((HT2 _).out).mono ?_; rintro e w' ⟨rfl, rfl⟩))
        refine ((HK1 _ htab).out).mono ?_
        rintro e w1 ⟨rfl, hb1⟩
        have ht1 := htab.below hb1
        have HB1 := Lib.hid hb1
        clear hb1
        go_wp2_with fail
        refine ((HK1 _ ht1).out).mono ?_
        rintro e w2 ⟨rfl, hb2⟩
        have ht2 := ht1.below hb2
        have HB2 := Lib.hid (HB1.out.trans (hb2.mono HB1.out.size))
        clear hb2 ht1
        go_wp2_with fail
        refine ((HK1 _ ht2).out).mono ?_
        rintro e w3 ⟨rfl, hb3⟩
        have ht3 := ht2.below hb3
        have HB3 := Lib.hid (HB2.out.trans (hb3.mono HB2.out.size))
        clear hb3 ht2
        go_wp2_with fail
        refine ((HA _ ht3).out).mono ?_
        rintro e w4 ⟨rfl, hb4⟩
        go_wp2_with fail
        go_ret
        exact ⟨rfl, HB3.out.trans (hb4.mono HB3.out.size)⟩
      · have hne : ¬ keyB a (keyH cl) = keyB b (keyH cl) := fun e => hab (hi.out.1 e)
        generalize keyB a (keyH cl) = x at *
        generalize keyB b (keyH cl) = y at *
        have hx1 : (1 : Int) ≤ x.size := by omega
        have hx2 : (x.size : Int) ≤ 64 := by omega
        have e1 : (x.toList == y.toList) = false := by rw [beq_toList]; exact decide_eq_false hne
        have e2 : (a.toList == b.toList) = false := by rw [beq_toList]; exact decide_eq_false hab
        clear hta htb h1 hi hab hne
        go_enter Tryd.func5, Tryd.ntmps5
        go_wp2_with (first | (go_at_call 18; with_reducible refine ((HT1 _).out).mono ?_; rintro e w' ⟨rfl, rfl⟩) | (go_at_call 18; with_reducible refine ((HT2 _).out).mono ?_; rintro e w' ⟨rfl, rfl⟩))
        refine ((HK1 _ htab).out).mono ?_
        rintro e w1 ⟨rfl, hb1⟩
        have ht1 := htab.below hb1
        have HB1 := Lib.hid hb1
        clear hb1
        go_wp2_with fail
        refine ((HK2 _ ht1).out).mono ?_
        rintro e w2 ⟨rfl, hb2⟩
        have ht2 := ht1.below hb2
        have HB2 := Lib.hid (HB1.out.trans (hb2.mono HB1.out.size))
        clear hb2 ht1
        go_wp2_with fail
        refine ((HK1 _ ht2).out).mono ?_
        rintro e w3 ⟨rfl, hb3⟩
        have ht3 := ht2.below hb3
        have HB3 := Lib.hid (HB2.out.trans (hb3.mono HB2.out.size))
        clear hb3 ht2
        go_wp2_with fail
        refine ((HA _ ht3).out).mono ?_
        rintro e w4 ⟨rfl, hb4⟩
        go_wp2_with fail
        go_ret
        exact ⟨rfl, HB3.out.trans (hb4.mono HB3.out.size)⟩
end Go.Proofs.YtngboplmlkckhaaDoor
