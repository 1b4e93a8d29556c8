/- LabelWiths: a set with a label more may be again; kept and left out together it is whole. -/
import Derived.Test.YtnlheomfobpcmaaGreatWithP
import Derived.Test.YtnlheomfobpcmaaGreatLabQ
namespace Go.Proofs.YtnlheomfobpcmaaGreat
open Go.RowKit

theorem check_one {nm v : ByteArray} (h : checkL [(nm, v)] = 0) : nameB nm = true ∧ valB v = true := by
  have := (check_good.1 h).2.1 (nm, v) (by simp)
  exact this
set_option maxRecDepth 100000 in
set_option maxHeartbeats 8000000 in
theorem labelWiths_any (ls : List Lab) (nm v : ByteArray) (ns : List ByteArray) (A1 An : Option Addr) (n c1 B nn cn Bn : Nat) (w : World) (h : Rd w B 2 A1 (labsC ls)) (hn : ls.length = n) (hB : B ≤ w.heap.size) (hm : n * 32 ≤ 140737488351232) (hok : okLabs ls)
    (hnm : nm.size ≤ maxLen) (hv : v.size ≤ maxLen) (hrn : Rd w Bn 1 An (namesC ns)) (hnn : ns.length = nn) (hBn : Bn ≤ w.heap.size) (hmn : nn ≤ maxLen) :
    Calls Tryz.prog 7 #[.slice A1 n c1, .string nm, .string v, .slice An nn cn] w fun e w' => e = .returned (.bool true) ∧ Below w.heap.size w w' := by
  have hk : Aw w [(A1, ls)] w := (Aw.nil w).add (h.more hB)
  by_cases hck : checkL ls = 0
  · obtain ⟨hn16, hg⟩ := check_good.1 hck
    rw [hn] at hn16
    have Hn := Lib.hid hn
    obtain ⟨x1, hx1⟩ : ∃ x1, withL ls nm v = x1 := ⟨_, rfl⟩
    obtain ⟨m1, hm1⟩ : ∃ m1, x1.length = m1 := ⟨_, rfl⟩
    obtain ⟨x2, hx2⟩ : ∃ x2, withoutL ls [nm] = x2 := ⟨_, rfl⟩
    obtain ⟨m2, hm2⟩ : ∃ m2, x2.length = m2 := ⟨_, rfl⟩
    obtain ⟨x3, hx3⟩ : ∃ x3, keepL ls ns = x3 := ⟨_, rfl⟩
    obtain ⟨m3, hm3⟩ : ∃ m3, x3.length = m3 := ⟨_, rfl⟩
    obtain ⟨x4, hx4⟩ : ∃ x4, withoutL ls ns = x4 := ⟨_, rfl⟩
    obtain ⟨m4, hm4⟩ : ∃ m4, x4.length = m4 := ⟨_, rfl⟩
    have l1 : m1 ≤ n + 1 := by rw [← hm1, ← hx1, ← hn]; exact withL_len ls nm v
    have l2 : m2 ≤ n := by rw [← hm2, ← hx2, ← hn]; exact withoutL_len ls [nm]
    have l34 : m3 + m4 = n := by rw [← hm3, ← hm4, ← hx3, ← hx4, ← hn]; exact keep_len ls ns
    have hx5 : withL ls nm ByteArray.empty = x2 := by rw [with_none, hx2]
    have hok1 : okLabs x1 := by rw [← hx1]; exact okLabs_with hok hnm hv
    have hlaw : nameB nm = true → valB v = true → Good x1 ∧ getL x1 nm = v ∧ withoutL x1 [nm] = x2 := fun a b => by rw [← hx1, ← hx2]; exact with_law hg a b
    have HKL : Hid (∀ (k : Nat) (l : Lab), ls[k]? = some l → (decide (getL x3 l.1 = l.2) == decide (getL x4 l.1 = l.2)) = false) := by
      intro k l hl
      rw [← hx3, ← hx4]
      exact keep_law hg (List.mem_of_getElem? hl)
    have hokO : okLabs [(nm, v)] := by
      intro l hl
      simp at hl
      subst hl
      exact ⟨hnm, hv⟩
    obtain ⟨r, hr⟩ : ∃ r, checkL [(nm, v)] = r := ⟨_, rfl⟩
    have HX1 := Lib.hid hx1
    have HX2 := Lib.hid hx2
    have HX3 := Lib.hid hx3
    have HX4 := Lib.hid hx4
    have HX5 := Lib.hid hx5
    have HM1 := Lib.hid hm1
    have HM2 := Lib.hid hm2
    have HM3 := Lib.hid hm3
    have HM4 := Lib.hid hm4
    clear hx1 hx2 hx3 hx4 hx5 hm1 hm2 hm3 hm4 hg
    have hcases : (r = 0 ∧ m1 ≤ 16) ∨ (r = 0 ∧ 16 < m1) ∨ r ≠ 0 := by omega
    go_enter Tryz.func7, Tryz.ntmps7
    go_wp2_with fail
    refine (awl_copy hk (by simp) hn (by omega)).mono ?_
    rintro e W ⟨A, c, rfl, hk⟩
    go_wp2_with fail
    have hC := awl_check (c := c) hk (List.mem_cons_self) hn (by omega) hok
    rw [hck] at hC
    refine hC.mono ?_
    rintro e W ⟨rfl, hk⟩
    clear hC
    go_wp2_with fail
    have hC := awl_check (c := 1) (n := 1) ((hk.alloc (.cells #[.string nm, .string v] 51)).add (lab_new _ (nm, v))) (List.mem_cons_self) rfl (by omega) hokO
    rw [hr] at hC
    refine hC.mono ?_
    rintro e W ⟨rfl, hk⟩
    clear hC
    go_wp2_with fail
    refine (awl_copy hk (by simp) hn (by omega)).mono ?_
    rintro e W ⟨A, c, rfl, hk⟩
    go_wp2_with fail
    refine (awl_with nm v hk List.mem_cons_self hn (by omega) HX1.out HM1.out).mono ?_
    rintro e W ⟨A5, c5, rfl, hk⟩
    have HK0 : Hid (Aw w [(A5, x1), (A1, ls)] W) := ⟨hk.1, fun p hp => hk.2 p (by simp at hp ⊢; rcases hp with rfl | rfl <;> simp)⟩
    clear hk
    go_upto_region 5 with fail
    rcases hcases with ⟨rfl, hm16⟩ | ⟨rfl, hm16⟩ | hr0
    · obtain ⟨hn1, hv1⟩ := check_one hr
      obtain ⟨g1, g2, g3⟩ := hlaw hn1 hv1
      have hc1 : checkL x1 = 0 := check_good.2 ⟨by have := HM1.out; omega, g1⟩
      have hm16I : (m1 : Int) ≤ 16 := by omega
      have hC := awl_check (c := c5) (A := A5) HK0.out (by simp) HM1.out (by omega) hok1
      rw [hc1] at hC
      have HG3 := Lib.hid g3
      have HG2 := Lib.hid g2
      clear g1 g2 g3 hc1 hn1 hv1 hlaw
      go_wp2_with fail
      refine hC.mono ?_
      rintro e W ⟨rfl, hk⟩
      clear hC
      have hC := awl_get (c := c5) (A := A5) (x := x1) nm hk (by simp) HM1.out (by omega)
      rw [HG2.out] at hC
      go_wp2_with fail
      refine hC.mono ?_
      rintro e W ⟨rfl, hk⟩
      clear hC
      go_wp2_with fail
      refine (awl_without (A := A5) (x := x1) (hk.alloc _) (by simp) HM1.out (by omega) (names_new _ nm) rfl (Nat.le_refl _) (by simp [maxLen]) HG3.out HM2.out).mono ?_
      rintro e W ⟨A6, c6, rfl, hk⟩
      go_wp2_with fail
      refine (awl_copy (A := A1) (x := ls) hk (by simp) hn (by omega)).mono ?_
      rintro e W ⟨A, c, rfl, hk⟩
      go_wp2_with fail
      refine (awl_without (hk.alloc _) List.mem_cons_self hn (by omega) (names_new _ nm) rfl (Nat.le_refl _) (by simp [maxLen]) HX2.out HM2.out).mono ?_
      rintro e W ⟨A8, c8, rfl, hk⟩
      go_wp2_with fail
      refine (awl_same (A := A6) (B := A8) (x := x2) (y := x2) hk (by simp) (by simp) HM2.out HM2.out (by omega) (by omega)).mono ?_
      rintro e W ⟨rfl, hk⟩
      have HK0 : Hid (Aw w [(A1, ls)] W) := ⟨hk.1, fun p hp => hk.2 p (by simp at hp ⊢; subst hp; simp)⟩
      clear hk
      have hk := HK0.out
      -- the rest, from the seventh region on
      go_wp2_with fail
      refine (awl_copy hk (by simp) hn (by omega)).mono ?_
      rintro e W ⟨A, c, rfl, hk⟩
      go_wp2_with fail
      refine (awl_keep hk (by simp) hn (by omega) (hrn.below (hk.1.mono hBn)) hnn (Nat.le_trans hBn hk.1.size) hmn HX3.out HM3.out).mono ?_
      rintro e W ⟨K, ck, rfl, hk⟩
      go_wp2_with fail
      refine (awl_copy hk (by simp) hn (by omega)).mono ?_
      rintro e W ⟨A, c, rfl, hk⟩
      go_wp2_with fail
      refine (awl_without hk (by simp) hn (by omega) (hrn.below (hk.1.mono hBn)) hnn (Nat.le_trans hBn hk.1.size) hmn HX4.out HM4.out).mono ?_
      rintro e W ⟨O, co, rfl, hk⟩
      have HK : Hid (Aw w [(K, x3), (O, x4), (A1, ls)] W) := ⟨hk.1, fun p hp => hk.2 p (by simp at hp ⊢; rcases hp with rfl | rfl | rfl <;> simp)⟩
      clear hk
      go_wp2_with fail
      go_loopw [13] (fun i wr => ∃ k : Nat, i = .int .i64 k ∧ k ≤ n ∧ Hid (Aw w [(K, x3), (O, x4), (A1, ls)] wr)) (fun i _ => n - (intOf i).toNat)
      case atStart => exact ⟨0, rfl, by omega, HK⟩
      case round =>
        clear HK
        obtain ⟨k, rfl, hk, HK⟩ := hrel
        by_cases hlt : k < n
        · have hltI : (k : Int) < (n : Int) := by omega
          obtain ⟨l, hl⟩ := get_lt Hn hlt
          obtain ⟨b, o, rfl, hbB, g0, g1⟩ := (HK.out.get (A := A1) (ls := ls) (by simp)).at2 (labsC_at hl)
          have hkl := HKL.out k l hl
          have hG : ∀ (A : Option Addr) (x : List Lab) (m c : Nat), (A, x) ∈ [(K, x3), (O, x4), (some ⟨b, o, none⟩, ls)] → x.length = m → m * 32 ≤ 140737488355328 → ∀ W', Below wr.heap.size wr W' → Hid (Calls Tryz.prog 22 #[.slice A m c, .string l.1] W' fun e w' => e = .returned (.string (getL x l.1)) ∧ Below wr.heap.size wr w') := fun A x m c hx hxm hm W' hb => by
            refine (labGet_any x l.1 A m c _ W' ((HK.out.step hb).get hx) hxm (Nat.le_refl _) (by simp only [maxLen]; omega)).mono ?_
            rintro e w' ⟨rfl, hb2⟩
            exact ⟨rfl, hb.trans (hb2.mono hb.size)⟩
          have HGK := hG K x3 m3 ck (by simp) HM3.out (by omega)
          have HGO := hG O x4 m4 co (by simp) HM4.out (by omega)
          have HS : Hid (b < wr.heap.size) := hbB
          have hcs : (getL x3 l.1 = l.2 ∧ getL x4 l.1 ≠ l.2) ∨ (getL x3 l.1 ≠ l.2 ∧ getL x4 l.1 = l.2) := by
            by_cases a3 : getL x3 l.1 = l.2 <;> by_cases a4 : getL x4 l.1 = l.2
            · rw [decide_eq_true a3, decide_eq_true a4] at hkl; cases hkl
            · exact .inl ⟨a3, a4⟩
            · exact .inr ⟨a3, a4⟩
            · rw [decide_eq_false a3, decide_eq_false a4] at hkl; cases hkl
          clear hkl hG hl
          generalize getL x3 l.1 = r3 at *
          generalize getL x4 l.1 = r4 at *
          rcases hcs with ⟨h3, h4⟩ | ⟨h3, h4⟩
          · have e3 : (r3.toList == l.2.toList) = true := by rw [beq_toList]; exact decide_eq_true h3
            have e4 : (r4.toList == l.2.toList) = false := by rw [beq_toList]; exact decide_eq_false h4
            clear h3 h4
            go_wp2_with fail
            go_region_held3 (fun w' => w'.cell? ⟨b, o + k * 2, none⟩ = some (.string l.1) ∧ w'.cell? ⟨b, o + k * 2 + 1, none⟩ = some (.string l.2))
              (first | exact ⟨g0, g1⟩ | exact ⟨(hb2.cell (p := ⟨b, o + k * 2, none⟩) HS.out).trans g0, (hb2.cell (p := ⟨b, o + k * 2 + 1, none⟩) HS.out).trans g1⟩ | exact ⟨(hb1.cell (p := ⟨b, o + k * 2, none⟩) HS.out).trans g0, (hb1.cell (p := ⟨b, o + k * 2 + 1, none⟩) HS.out).trans g1⟩ | go_keep)
              (first
                | (go_at_call 22; refine ((HGO _ hb1).out).mono ?_; rintro e w2 ⟨rfl, hb2⟩)
                | (go_at_call 22; refine ((HGK _ (Below.refl _ _).drew).out).mono ?_; rintro e w1 ⟨rfl, hb1⟩))
            have HK2 : Hid (Aw w [(K, x3), (O, x4), (some ⟨b, o, none⟩, ls)] w2) := HK.out.step hb2
            clear hb1 hb2
            go_wp2_with fail
            go_roundw
            case rel => exact ⟨k + 1, by go_num, by omega, HK2⟩
            case measure => simp [intOf]; omega
          · have e3 : (r3.toList == l.2.toList) = false := by rw [beq_toList]; exact decide_eq_false h3
            have e4 : (r4.toList == l.2.toList) = true := by rw [beq_toList]; exact decide_eq_true h4
            clear h3 h4
            go_wp2_with fail
            go_region_held3 (fun w' => w'.cell? ⟨b, o + k * 2, none⟩ = some (.string l.1) ∧ w'.cell? ⟨b, o + k * 2 + 1, none⟩ = some (.string l.2))
              (first | exact ⟨g0, g1⟩ | exact ⟨(hb2.cell (p := ⟨b, o + k * 2, none⟩) HS.out).trans g0, (hb2.cell (p := ⟨b, o + k * 2 + 1, none⟩) HS.out).trans g1⟩ | exact ⟨(hb1.cell (p := ⟨b, o + k * 2, none⟩) HS.out).trans g0, (hb1.cell (p := ⟨b, o + k * 2 + 1, none⟩) HS.out).trans g1⟩ | go_keep)
              (first
                | (go_at_call 22; refine ((HGO _ hb1).out).mono ?_; rintro e w2 ⟨rfl, hb2⟩)
                | (go_at_call 22; refine ((HGK _ (Below.refl _ _).drew).out).mono ?_; rintro e w1 ⟨rfl, hb1⟩))
            have HK2 : Hid (Aw w [(K, x3), (O, x4), (some ⟨b, o, none⟩, ls)] w2) := HK.out.step hb2
            clear hb1 hb2
            go_wp2_with fail
            go_roundw
            case rel => exact ⟨k + 1, by go_num, by omega, HK2⟩
            case measure => simp [intOf]; omega
        · have hkn : k = n := by omega
          subst hkn
          have hk := HK.out
          have hsum : IntKind.i64.wrap ((m3 : Int) + (m4 : Int)) = (k : Int) := by rw [IntKind.wrap_i64]; omega
          clear HK
          go_wp2_with fail
          refine (awl_copy hk (by simp) hn (by omega)).mono ?_
          rintro e W ⟨A, c, rfl, hk⟩
          go_wp2_with fail
          refine (awl_with nm ByteArray.empty hk List.mem_cons_self hn (by omega) HX5.out HM2.out).mono ?_
          rintro e W ⟨A7, c7, rfl, hk⟩
          go_wp2_with fail
          refine (awl_copy hk (by simp) hn (by omega)).mono ?_
          rintro e W ⟨A, c, rfl, hk⟩
          go_wp2_with fail
          refine (awl_without (hk.alloc _) List.mem_cons_self hn (by omega) (names_new _ nm) rfl (Nat.le_refl _) (by simp [maxLen]) HX2.out HM2.out).mono ?_
          rintro e W ⟨A8, c8, rfl, hk⟩
          go_wp2_with fail
          refine (awl_same (A := A7) (B := A8) (x := x2) (y := x2) hk (by simp) (by simp) HM2.out HM2.out (by omega) (by omega)).mono ?_
          rintro e W ⟨rfl, hk⟩
          go_wp2_with fail
          refine (awl_awake hk).mono ?_
          rintro e W ⟨rfl, hk⟩
          go_wp2_with fail
          go_ret
          exact ⟨rfl, hk.1⟩
    · have hm16I : ¬ (m1 : Int) ≤ 16 := by omega
      have hk : Aw w [(A1, ls)] W := ⟨HK0.out.1, fun p hp => HK0.out.2 p (by simp at hp ⊢; subst hp; simp)⟩
      clear HK0 hlaw
      -- the rest, from the seventh region on
      go_wp2_with fail
      refine (awl_copy hk (by simp) hn (by omega)).mono ?_
      rintro e W ⟨A, c, rfl, hk⟩
      go_wp2_with fail
      refine (awl_keep hk (by simp) hn (by omega) (hrn.below (hk.1.mono hBn)) hnn (Nat.le_trans hBn hk.1.size) hmn HX3.out HM3.out).mono ?_
      rintro e W ⟨K, ck, rfl, hk⟩
      go_wp2_with fail
      refine (awl_copy hk (by simp) hn (by omega)).mono ?_
      rintro e W ⟨A, c, rfl, hk⟩
      go_wp2_with fail
      refine (awl_without hk (by simp) hn (by omega) (hrn.below (hk.1.mono hBn)) hnn (Nat.le_trans hBn hk.1.size) hmn HX4.out HM4.out).mono ?_
      rintro e W ⟨O, co, rfl, hk⟩
      have HK : Hid (Aw w [(K, x3), (O, x4), (A1, ls)] W) := ⟨hk.1, fun p hp => hk.2 p (by simp at hp ⊢; rcases hp with rfl | rfl | rfl <;> simp)⟩
      clear hk
      go_wp2_with fail
      go_loopw [13] (fun i wr => ∃ k : Nat, i = .int .i64 k ∧ k ≤ n ∧ Hid (Aw w [(K, x3), (O, x4), (A1, ls)] wr)) (fun i _ => n - (intOf i).toNat)
      case atStart => exact ⟨0, rfl, by omega, HK⟩
      case round =>
        clear HK
        obtain ⟨k, rfl, hk, HK⟩ := hrel
        by_cases hlt : k < n
        · have hltI : (k : Int) < (n : Int) := by omega
          obtain ⟨l, hl⟩ := get_lt Hn hlt
          obtain ⟨b, o, rfl, hbB, g0, g1⟩ := (HK.out.get (A := A1) (ls := ls) (by simp)).at2 (labsC_at hl)
          have hkl := HKL.out k l hl
          have hG : ∀ (A : Option Addr) (x : List Lab) (m c : Nat), (A, x) ∈ [(K, x3), (O, x4), (some ⟨b, o, none⟩, ls)] → x.length = m → m * 32 ≤ 140737488355328 → ∀ W', Below wr.heap.size wr W' → Hid (Calls Tryz.prog 22 #[.slice A m c, .string l.1] W' fun e w' => e = .returned (.string (getL x l.1)) ∧ Below wr.heap.size wr w') := fun A x m c hx hxm hm W' hb => by
            refine (labGet_any x l.1 A m c _ W' ((HK.out.step hb).get hx) hxm (Nat.le_refl _) (by simp only [maxLen]; omega)).mono ?_
            rintro e w' ⟨rfl, hb2⟩
            exact ⟨rfl, hb.trans (hb2.mono hb.size)⟩
          have HGK := hG K x3 m3 ck (by simp) HM3.out (by omega)
          have HGO := hG O x4 m4 co (by simp) HM4.out (by omega)
          have HS : Hid (b < wr.heap.size) := hbB
          have hcs : (getL x3 l.1 = l.2 ∧ getL x4 l.1 ≠ l.2) ∨ (getL x3 l.1 ≠ l.2 ∧ getL x4 l.1 = l.2) := by
            by_cases a3 : getL x3 l.1 = l.2 <;> by_cases a4 : getL x4 l.1 = l.2
            · rw [decide_eq_true a3, decide_eq_true a4] at hkl; cases hkl
            · exact .inl ⟨a3, a4⟩
            · exact .inr ⟨a3, a4⟩
            · rw [decide_eq_false a3, decide_eq_false a4] at hkl; cases hkl
          clear hkl hG hl
          generalize getL x3 l.1 = r3 at *
          generalize getL x4 l.1 = r4 at *
          rcases hcs with ⟨h3, h4⟩ | ⟨h3, h4⟩
          · have e3 : (r3.toList == l.2.toList) = true := by rw [beq_toList]; exact decide_eq_true h3
            have e4 : (r4.toList == l.2.toList) = false := by rw [beq_toList]; exact decide_eq_false h4
            clear h3 h4
            go_wp2_with fail
            go_region_held3 (fun w' => w'.cell? ⟨b, o + k * 2, none⟩ = some (.string l.1) ∧ w'.cell? ⟨b, o + k * 2 + 1, none⟩ = some (.string l.2))
              (first | exact ⟨g0, g1⟩ | exact ⟨(hb2.cell (p := ⟨b, o + k * 2, none⟩) HS.out).trans g0, (hb2.cell (p := ⟨b, o + k * 2 + 1, none⟩) HS.out).trans g1⟩ | exact ⟨(hb1.cell (p := ⟨b, o + k * 2, none⟩) HS.out).trans g0, (hb1.cell (p := ⟨b, o + k * 2 + 1, none⟩) HS.out).trans g1⟩ | go_keep)
              (first
                | (go_at_call 22; refine ((HGO _ hb1).out).mono ?_; rintro e w2 ⟨rfl, hb2⟩)
                | (go_at_call 22; refine ((HGK _ (Below.refl _ _).drew).out).mono ?_; rintro e w1 ⟨rfl, hb1⟩))
            have HK2 : Hid (Aw w [(K, x3), (O, x4), (some ⟨b, o, none⟩, ls)] w2) := HK.out.step hb2
            clear hb1 hb2
            go_wp2_with fail
            go_roundw
            case rel => exact ⟨k + 1, by go_num, by omega, HK2⟩
            case measure => simp [intOf]; omega
          · have e3 : (r3.toList == l.2.toList) = false := by rw [beq_toList]; exact decide_eq_false h3
            have e4 : (r4.toList == l.2.toList) = true := by rw [beq_toList]; exact decide_eq_true h4
            clear h3 h4
            go_wp2_with fail
            go_region_held3 (fun w' => w'.cell? ⟨b, o + k * 2, none⟩ = some (.string l.1) ∧ w'.cell? ⟨b, o + k * 2 + 1, none⟩ = some (.string l.2))
              (first | exact ⟨g0, g1⟩ | exact ⟨(hb2.cell (p := ⟨b, o + k * 2, none⟩) HS.out).trans g0, (hb2.cell (p := ⟨b, o + k * 2 + 1, none⟩) HS.out).trans g1⟩ | exact ⟨(hb1.cell (p := ⟨b, o + k * 2, none⟩) HS.out).trans g0, (hb1.cell (p := ⟨b, o + k * 2 + 1, none⟩) HS.out).trans g1⟩ | go_keep)
              (first
                | (go_at_call 22; refine ((HGO _ hb1).out).mono ?_; rintro e w2 ⟨rfl, hb2⟩)
                | (go_at_call 22; refine ((HGK _ (Below.refl _ _).drew).out).mono ?_; rintro e w1 ⟨rfl, hb1⟩))
            have HK2 : Hid (Aw w [(K, x3), (O, x4), (some ⟨b, o, none⟩, ls)] w2) := HK.out.step hb2
            clear hb1 hb2
            go_wp2_with fail
            go_roundw
            case rel => exact ⟨k + 1, by go_num, by omega, HK2⟩
            case measure => simp [intOf]; omega
        · have hkn : k = n := by omega
          subst hkn
          have hk := HK.out
          have hsum : IntKind.i64.wrap ((m3 : Int) + (m4 : Int)) = (k : Int) := by rw [IntKind.wrap_i64]; omega
          clear HK
          go_wp2_with fail
          refine (awl_copy hk (by simp) hn (by omega)).mono ?_
          rintro e W ⟨A, c, rfl, hk⟩
          go_wp2_with fail
          refine (awl_with nm ByteArray.empty hk List.mem_cons_self hn (by omega) HX5.out HM2.out).mono ?_
          rintro e W ⟨A7, c7, rfl, hk⟩
          go_wp2_with fail
          refine (awl_copy hk (by simp) hn (by omega)).mono ?_
          rintro e W ⟨A, c, rfl, hk⟩
          go_wp2_with fail
          refine (awl_without (hk.alloc _) List.mem_cons_self hn (by omega) (names_new _ nm) rfl (Nat.le_refl _) (by simp [maxLen]) HX2.out HM2.out).mono ?_
          rintro e W ⟨A8, c8, rfl, hk⟩
          go_wp2_with fail
          refine (awl_same (A := A7) (B := A8) (x := x2) (y := x2) hk (by simp) (by simp) HM2.out HM2.out (by omega) (by omega)).mono ?_
          rintro e W ⟨rfl, hk⟩
          go_wp2_with fail
          refine (awl_awake hk).mono ?_
          rintro e W ⟨rfl, hk⟩
          go_wp2_with fail
          go_ret
          exact ⟨rfl, hk.1⟩
    · have hr0b : (r == 0) = false := by rw [beq_eq_false_iff_ne]; exact hr0
      have hk : Aw w [(A1, ls)] W := ⟨HK0.out.1, fun p hp => HK0.out.2 p (by simp at hp ⊢; subst hp; simp)⟩
      clear HK0 hlaw
      -- the rest, from the seventh region on
      go_wp2_with fail
      refine (awl_copy hk (by simp) hn (by omega)).mono ?_
      rintro e W ⟨A, c, rfl, hk⟩
      go_wp2_with fail
      refine (awl_keep hk (by simp) hn (by omega) (hrn.below (hk.1.mono hBn)) hnn (Nat.le_trans hBn hk.1.size) hmn HX3.out HM3.out).mono ?_
      rintro e W ⟨K, ck, rfl, hk⟩
      go_wp2_with fail
      refine (awl_copy hk (by simp) hn (by omega)).mono ?_
      rintro e W ⟨A, c, rfl, hk⟩
      go_wp2_with fail
      refine (awl_without hk (by simp) hn (by omega) (hrn.below (hk.1.mono hBn)) hnn (Nat.le_trans hBn hk.1.size) hmn HX4.out HM4.out).mono ?_
      rintro e W ⟨O, co, rfl, hk⟩
      have HK : Hid (Aw w [(K, x3), (O, x4), (A1, ls)] W) := ⟨hk.1, fun p hp => hk.2 p (by simp at hp ⊢; rcases hp with rfl | rfl | rfl <;> simp)⟩
      clear hk
      go_wp2_with fail
      go_loopw [13] (fun i wr => ∃ k : Nat, i = .int .i64 k ∧ k ≤ n ∧ Hid (Aw w [(K, x3), (O, x4), (A1, ls)] wr)) (fun i _ => n - (intOf i).toNat)
      case atStart => exact ⟨0, rfl, by omega, HK⟩
      case round =>
        clear HK
        obtain ⟨k, rfl, hk, HK⟩ := hrel
        by_cases hlt : k < n
        · have hltI : (k : Int) < (n : Int) := by omega
          obtain ⟨l, hl⟩ := get_lt Hn hlt
          obtain ⟨b, o, rfl, hbB, g0, g1⟩ := (HK.out.get (A := A1) (ls := ls) (by simp)).at2 (labsC_at hl)
          have hkl := HKL.out k l hl
          have hG : ∀ (A : Option Addr) (x : List Lab) (m c : Nat), (A, x) ∈ [(K, x3), (O, x4), (some ⟨b, o, none⟩, ls)] → x.length = m → m * 32 ≤ 140737488355328 → ∀ W', Below wr.heap.size wr W' → Hid (Calls Tryz.prog 22 #[.slice A m c, .string l.1] W' fun e w' => e = .returned (.string (getL x l.1)) ∧ Below wr.heap.size wr w') := fun A x m c hx hxm hm W' hb => by
            refine (labGet_any x l.1 A m c _ W' ((HK.out.step hb).get hx) hxm (Nat.le_refl _) (by simp only [maxLen]; omega)).mono ?_
            rintro e w' ⟨rfl, hb2⟩
            exact ⟨rfl, hb.trans (hb2.mono hb.size)⟩
          have HGK := hG K x3 m3 ck (by simp) HM3.out (by omega)
          have HGO := hG O x4 m4 co (by simp) HM4.out (by omega)
          have HS : Hid (b < wr.heap.size) := hbB
          have hcs : (getL x3 l.1 = l.2 ∧ getL x4 l.1 ≠ l.2) ∨ (getL x3 l.1 ≠ l.2 ∧ getL x4 l.1 = l.2) := by
            by_cases a3 : getL x3 l.1 = l.2 <;> by_cases a4 : getL x4 l.1 = l.2
            · rw [decide_eq_true a3, decide_eq_true a4] at hkl; cases hkl
            · exact .inl ⟨a3, a4⟩
            · exact .inr ⟨a3, a4⟩
            · rw [decide_eq_false a3, decide_eq_false a4] at hkl; cases hkl
          clear hkl hG hl
          generalize getL x3 l.1 = r3 at *
          generalize getL x4 l.1 = r4 at *
          rcases hcs with ⟨h3, h4⟩ | ⟨h3, h4⟩
          · have e3 : (r3.toList == l.2.toList) = true := by rw [beq_toList]; exact decide_eq_true h3
            have e4 : (r4.toList == l.2.toList) = false := by rw [beq_toList]; exact decide_eq_false h4
            clear h3 h4
            go_wp2_with fail
            go_region_held3 (fun w' => w'.cell? ⟨b, o + k * 2, none⟩ = some (.string l.1) ∧ w'.cell? ⟨b, o + k * 2 + 1, none⟩ = some (.string l.2))
              (first | exact ⟨g0, g1⟩ | exact ⟨(hb2.cell (p := ⟨b, o + k * 2, none⟩) HS.out).trans g0, (hb2.cell (p := ⟨b, o + k * 2 + 1, none⟩) HS.out).trans g1⟩ | exact ⟨(hb1.cell (p := ⟨b, o + k * 2, none⟩) HS.out).trans g0, (hb1.cell (p := ⟨b, o + k * 2 + 1, none⟩) HS.out).trans g1⟩ | go_keep)
              (first
                | (go_at_call 22; refine ((HGO _ hb1).out).mono ?_; rintro e w2 ⟨rfl, hb2⟩)
                | (go_at_call 22; refine ((HGK _ (Below.refl _ _).drew).out).mono ?_; rintro e w1 ⟨rfl, hb1⟩))
            have HK2 : Hid (Aw w [(K, x3), (O, x4), (some ⟨b, o, none⟩, ls)] w2) := HK.out.step hb2
            clear hb1 hb2
            go_wp2_with fail
            go_roundw
            case rel => exact ⟨k + 1, by go_num, by omega, HK2⟩
            case measure => simp [intOf]; omega
          · have e3 : (r3.toList == l.2.toList) = false := by rw [beq_toList]; exact decide_eq_false h3
            have e4 : (r4.toList == l.2.toList) = true := by rw [beq_toList]; exact decide_eq_true h4
            clear h3 h4
            go_wp2_with fail
            go_region_held3 (fun w' => w'.cell? ⟨b, o + k * 2, none⟩ = some (.string l.1) ∧ w'.cell? ⟨b, o + k * 2 + 1, none⟩ = some (.string l.2))
              (first | exact ⟨g0, g1⟩ | exact ⟨(hb2.cell (p := ⟨b, o + k * 2, none⟩) HS.out).trans g0, (hb2.cell (p := ⟨b, o + k * 2 + 1, none⟩) HS.out).trans g1⟩ | exact ⟨(hb1.cell (p := ⟨b, o + k * 2, none⟩) HS.out).trans g0, (hb1.cell (p := ⟨b, o + k * 2 + 1, none⟩) HS.out).trans g1⟩ | go_keep)
              (first
                | (go_at_call 22; refine ((HGO _ hb1).out).mono ?_; rintro e w2 ⟨rfl, hb2⟩)
                | (go_at_call 22; refine ((HGK _ (Below.refl _ _).drew).out).mono ?_; rintro e w1 ⟨rfl, hb1⟩))
            have HK2 : Hid (Aw w [(K, x3), (O, x4), (some ⟨b, o, none⟩, ls)] w2) := HK.out.step hb2
            clear hb1 hb2
            go_wp2_with fail
            go_roundw
            case rel => exact ⟨k + 1, by go_num, by omega, HK2⟩
            case measure => simp [intOf]; omega
        · have hkn : k = n := by omega
          subst hkn
          have hk := HK.out
          have hsum : IntKind.i64.wrap ((m3 : Int) + (m4 : Int)) = (k : Int) := by rw [IntKind.wrap_i64]; omega
          clear HK
          go_wp2_with fail
          refine (awl_copy hk (by simp) hn (by omega)).mono ?_
          rintro e W ⟨A, c, rfl, hk⟩
          go_wp2_with fail
          refine (awl_with nm ByteArray.empty hk List.mem_cons_self hn (by omega) HX5.out HM2.out).mono ?_
          rintro e W ⟨A7, c7, rfl, hk⟩
          go_wp2_with fail
          refine (awl_copy hk (by simp) hn (by omega)).mono ?_
          rintro e W ⟨A, c, rfl, hk⟩
          go_wp2_with fail
          refine (awl_without (hk.alloc _) List.mem_cons_self hn (by omega) (names_new _ nm) rfl (Nat.le_refl _) (by simp [maxLen]) HX2.out HM2.out).mono ?_
          rintro e W ⟨A8, c8, rfl, hk⟩
          go_wp2_with fail
          refine (awl_same (A := A7) (B := A8) (x := x2) (y := x2) hk (by simp) (by simp) HM2.out HM2.out (by omega) (by omega)).mono ?_
          rintro e W ⟨rfl, hk⟩
          go_wp2_with fail
          refine (awl_awake hk).mono ?_
          rintro e W ⟨rfl, hk⟩
          go_wp2_with fail
          go_ret
          exact ⟨rfl, hk.1⟩
  · have hC := fun (W : World) (A : Option Addr) (c : Nat) (rows : List (Option Addr × List Lab)) (hk : Aw w ((A, ls) :: rows) W) => Lib.hid (awl_check (c := c) hk List.mem_cons_self hn (by omega) hok)
    have hckb : (checkL ls != 0) = true := by rw [bne_iff_ne]; exact hck
    clear hck
    generalize checkL ls = r at *
    go_enter Tryz.func7, Tryz.ntmps7
    go_wp2_with fail
    refine (awl_copy hk (by simp) hn (by omega)).mono ?_
    rintro e W ⟨A, c, rfl, hk⟩
    go_wp2_with fail
    refine ((hC _ _ _ _ hk).out).mono ?_
    rintro e W ⟨rfl, hk⟩
    go_wp2_with fail
    refine (awl_awake hk).mono ?_
    rintro e W ⟨rfl, hk⟩
    go_wp2_with fail
    go_ret
    exact ⟨rfl, hk.1⟩
end Go.Proofs.YtnlheomfobpcmaaGreat
