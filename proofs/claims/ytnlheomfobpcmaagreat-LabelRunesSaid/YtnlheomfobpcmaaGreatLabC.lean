/- Compare of two label sets: package label's own and the document's. -/
import Derived.Test.YtnlheomfobpcmaaGreatOrd
import Derived.Test.YtnlheomfobpcmaaGreatLabG
import Derived.Test.YtnlheomfobpcmaaGreatLater
import Derived.Test.YtnlheomfobpcmaaGreatShelfLab
import Derived.Deep.RegionHeld3
namespace Go.Proofs.YtnlheomfobpcmaaGreat
open Go.RowKit

def orI (x y : Int) : Int := if x = 0 then y else x
set_option maxHeartbeats 1000000 in
theorem or_any (x y : Int) (G : Nat) (w : World) (hG : Blk w G 3 [.int .i64 x, .int .i64 y]) :
    Calls Tryz.prog 67 #[.slice (some ⟨G, 0, none⟩) 2 2] w fun e w' => e = .returned (.int .i64 (orI x y)) ∧ w' = w := by
  have c0 := Blk.cell hG (j := 0) rfl
  have c1 := Blk.cell hG (j := 1) rfl
  clear hG
  by_cases hx : x = 0
  · subst hx
    by_cases hy : y = 0
    · subst hy
      go_enter Tryz.func67, Tryz.ntmps67
      go_wp2_with fail
      go_loop [8] (fun i => i = .int .i64 0 ∨ i = .int .i64 1 ∨ i = .int .i64 2) (fun i => 2 - (intOf i).toNat)
      case atStart => exact .inl rfl
      case round =>
        rcases hrel with rfl | rfl | rfl
        · go_wp2_with fail
          go_round
          case rel => exact .inr (.inl rfl)
          case measure => decide
        · go_wp2_with fail
          go_round
          case rel => exact .inr (.inr rfl)
          case measure => decide
        · go_wp2_with fail
          go_ret
          exact ⟨rfl, rfl⟩
    · have hyb : (y != 0) = true := by rw [bne_iff_ne]; exact hy
      go_enter Tryz.func67, Tryz.ntmps67
      go_wp2_with fail
      go_loop [8] (fun i => i = .int .i64 0 ∨ i = .int .i64 1) (fun i => 2 - (intOf i).toNat)
      case atStart => exact .inl rfl
      case round =>
        rcases hrel with rfl | rfl
        · go_wp2_with fail
          go_round
          case rel => exact .inr rfl
          case measure => decide
        · go_wp2_with fail
          go_ret
          exact ⟨rfl, rfl⟩
  · have hxb : (x != 0) = true := by rw [bne_iff_ne]; exact hx
    go_enter Tryz.func67, Tryz.ntmps67
    go_wp2_with fail
    go_loop [8] (fun i => i = .int .i64 0) (fun i => 2 - (intOf i).toNat)
    case atStart => rfl
    case round =>
      subst hrel
      go_wp2_with fail
      go_ret
      exact ⟨ret_int (by unfold orI; rw [if_neg hx]), rfl⟩
theorem labCmp_or (x1 y1 x2 y2 : ByteArray) : orI (strCmp x1 x2) (strCmp y1 y2) = labCmp (x1, y1) (x2, y2) := rfl
set_option maxRecDepth 100000 in
set_option maxHeartbeats 2000000 in
theorem compare1_any (x1 y1 x2 y2 : ByteArray) (w : World) :
    Calls Tryz.prog 66 #[.agg #[.string x1, .string y1], .agg #[.string x2, .string y2]] w fun e w' => e = .returned (.int .i64 (labCmp (x1, y1) (x2, y2))) ∧ Below w.heap.size w w' := by
  have hC : ∀ (a b : ByteArray) (W : World), Calls Tryz.prog 68 #[.string a, .string b] W fun e w' => e = .returned (.int .i64 (strCmp a b)) ∧ w' = W := fun a b W => Tryz.strings_Compare a b W
  have HC := Lib.hid hC
  clear hC
  go_enter Tryz.func66, Tryz.ntmps66
  go_wp2_with fail
  have b0 : Blk ((w.alloc (.cells #[.string x1, .string y1] 51)).alloc (.cells #[.string x2, .string y2] 51)) w.heap.size 51 [.string x1, .string y1] := (Blk.new w 51 [.string x1, .string y1]).alloc _
  have b1 : Blk ((w.alloc (.cells #[.string x1, .string y1] 51)).alloc (.cells #[.string x2, .string y2] 51)) (w.heap.size + 1) 51 [.string x2, .string y2] := by
    have := Blk.new (w.alloc (.cells #[.string x1, .string y1] 51)) 51 [.string x2, .string y2]
    simpa using this
  have e0 := Blk.cell b0 (j := 0) rfl
  have e1 := Blk.cell b0 (j := 1) rfl
  have e2 := Blk.cell b1 (j := 0) rfl
  have e3 := Blk.cell b1 (j := 1) rfl
  have hb : Below w.heap.size w ((w.alloc (.cells #[.string x1, .string y1] 51)).alloc (.cells #[.string x2, .string y2] 51)) := ((Below.refl _ _).alloc (Nat.le_refl _) _).alloc (by simp) _
  have HB := Lib.hid hb
  clear b0 b1 hb
  generalize (w.alloc (.cells #[.string x1, .string y1] 51)).alloc (.cells #[.string x2, .string y2] 51) = W0 at *
  go_region_held3 (fun w' => w'.cell? ⟨w.heap.size, 0, none⟩ = some (.string x1) ∧ w'.cell? ⟨w.heap.size, 1, none⟩ = some (.string y1) ∧ w'.cell? ⟨w.heap.size + 1, 0, none⟩ = some (.string x2) ∧ w'.cell? ⟨w.heap.size + 1, 1, none⟩ = some (.string y2))
    (first | exact ⟨e0, e1, e2, e3⟩ | go_keep)
    (first
      | (go_at_call 68; refine (HC.out _ _ _).mono ?_; rintro e w' ⟨rfl, rfl⟩)
      | (go_at_call 67; refine (or_any (strCmp x1 x2) (strCmp y1 y2) _ _ ?q).mono ?_; (case q => exact Blk.new _ _ [.int .i64 (strCmp x1 x2), .int .i64 (strCmp y1 y2)]); rintro e w' ⟨rfl, rfl⟩))
  go_wp2_with fail
  go_ret
  exact ⟨ret_int (labCmp_or _ _ _ _), (HB.out.alloc HB.out.size _).drew⟩
theorem upto_step {α : Type} {ls ms : List α} {k : Nat} {l m : α} (h : Hid (∀ j, j < k → ls[j]? = ms[j]?)) (h1 : ls[k]? = some l) (h2 : ms[k]? = some m) (he : l = m) : Hid (∀ j, j < k + 1 → ls[j]? = ms[j]?) := by
  intro j hj
  by_cases e : j = k
  · subst e; rw [h1, h2, he]
  · exact h.out j (by omega)
set_option maxHeartbeats 2000000 in
theorem compareFunc_any (ls ms : List Lab) (A1 A2 : Option Addr) (n1 n2 c1 c2 B1 B2 : Nat) (w : World) (h1 : Rd w B1 2 A1 (labsC ls)) (h2 : Rd w B2 2 A2 (labsC ms)) (hn1 : ls.length = n1) (hn2 : ms.length = n2) (hB1 : B1 ≤ w.heap.size) (hB2 : B2 ≤ w.heap.size) (hm1 : n1 ≤ maxLen) (hm2 : n2 ≤ maxLen) :
    Calls Tryz.prog 65 #[.slice A1 n1 c1, .slice A2 n2 c2, .func (.func 66) #[] #[]] w fun e w' => e = .returned (.int .i64 (setCmp ls ms)) ∧ Below w.heap.size w w' := by
  unfold maxLen at hm1 hm2
  have Hn1 := Lib.hid hn1
  have Hn2 := Lib.hid hn2
  clear hn1 hn2
  go_enter Tryz.func65, Tryz.ntmps65
  go_wp2_with fail
  go_loopw [13] (fun i wr => ∃ k : Nat, i = .int .i64 k ∧ k ≤ n1 ∧ k ≤ n2 ∧ Hid (Below w.heap.size w wr) ∧ Hid (∀ j, j < k → ls[j]? = ms[j]?)) (fun i _ => n1 - (intOf i).toNat)
  case atStart => exact ⟨0, rfl, by omega, by omega, Below.refl _ _, fun j hj => by omega⟩
  case round =>
    obtain ⟨k, rfl, hk1, hk2, HB, HA⟩ := hrel
    have hs := HB.out.size
    by_cases hlt : k < n1
    · have hltI : (k : Int) < (n1 : Int) := by omega
      obtain ⟨l, hl⟩ := get_lt Hn1 hlt
      obtain ⟨b, o, rfl, hbB, g0, g1⟩ := (h1.below (HB.out.mono hB1)).at2 (labsC_at hl)
      by_cases hlt2 : k < n2
      · have hltJ : ¬ (n2 : Int) ≤ (k : Int) := by omega
        obtain ⟨m, hm⟩ := get_lt Hn2 hlt2
        obtain ⟨b', o', rfl, hbB', g0', g1'⟩ := (h2.below (HB.out.mono hB2)).at2 (labsC_at hm)
        have q0 := (Below.cell (p := ⟨b', o' + k * 2, none⟩) ((Below.refl wr.heap.size wr).alloc (Nat.le_refl _) (.cells #[.string l.1, .string l.2] 51)) (by show b' < _; omega)).trans g0'
        have q1 := (Below.cell (p := ⟨b', o' + k * 2 + 1, none⟩) ((Below.refl wr.heap.size wr).alloc (Nat.le_refl _) (.cells #[.string l.1, .string l.2] 51)) (by show b' < _; omega)).trans g1'
        have HW := fun W => Lib.hid (compare1_any l.1 l.2 m.1 m.2 W)
        have HO : Hid (∀ o o', Below w.heap.size w ((wr.alloc o).alloc o')) := fun o o' => (HB.out.alloc hs o).alloc (by simp; omega) o'
        have hz : labCmp (l.1, l.2) (m.1, m.2) = labCmp l m := rfl
        by_cases he : l = m
        · have hc : labCmp (l.1, l.2) (m.1, m.2) = 0 := by rw [hz, he]; exact labCmp_is.refl m
          rw [hc] at HW
          have HA2 := upto_step HA hl hm he
          clear he hz hc hl hm HA
          go_wp2_with (go_at_call 66; refine ((HW _).out).mono ?_; rintro e w' ⟨rfl, hb1⟩)
          have HB2 : Hid (Below w.heap.size w w') := (HO.out _ _).trans (hb1.mono (HO.out _ _).size)
          go_wp2_with fail
          go_roundw
          case rel => exact ⟨k + 1, by go_num, by omega, by omega, HB2, HA2⟩
          case measure => simp [intOf]; omega
        · have hc : labCmp l m ≠ 0 := fun h => he ((labCmp_is.eq l m).1 h)
          have HT : Hid (setCmp ls ms = labCmp (l.1, l.2) (m.1, m.2)) := setCmp_at HA hl hm hc
          have hcb : (labCmp (l.1, l.2) (m.1, m.2) != 0) = true := by rw [bne_iff_ne]; exact hc
          clear hz he hc
          generalize labCmp (l.1, l.2) (m.1, m.2) = r at *
          clear hl hm HA
          go_wp2_with (go_at_call 66; refine ((HW _).out).mono ?_; rintro e w' ⟨rfl, hb1⟩)
          go_ret
          exact ⟨ret_int HT.out.symm, (HO.out _ _).trans (hb1.mono (HO.out _ _).size)⟩
      · have hkn : k = n2 := by omega
        subst hkn
        have HT : Hid (setCmp ls ms = 1) := setCmp_long (by have := Hn2.out; rw [this]; exact HA) (by have := Hn1.out; have := Hn2.out; omega)
        have HO : Hid (∀ o, Below w.heap.size w (wr.alloc o)) := fun o => HB.out.alloc hs o
        go_wp2_with fail
        go_ret
        exact ⟨ret_int HT.out.symm, HO.out _⟩
    · have hkn : k = n1 := by omega
      subst hkn
      by_cases hlt2 : k < n2
      · have hltJ : (k : Int) < (n2 : Int) := by omega
        have HT : Hid (setCmp ls ms = -1) := setCmp_short (by have := Hn1.out; rw [this]; exact HA) (by have := Hn1.out; have := Hn2.out; omega)
        go_wp2_with fail
        go_ret
        exact ⟨ret_int HT.out.symm, HB.out⟩
      · have hkn : k = n2 := by omega
        subst hkn
        have HT : Hid (setCmp ls ms = 0) := setCmp_same (by have := Hn1.out; rw [this]; exact HA) (by have := Hn1.out; have := Hn2.out; omega)
        go_wp2_with fail
        go_ret
        exact ⟨ret_int HT.out.symm, HB.out⟩
set_option maxHeartbeats 1000000 in
theorem labCompare_any (ls ms : List Lab) (A1 A2 : Option Addr) (n1 n2 c1 c2 B1 B2 : Nat) (w : World) (h1 : Rd w B1 2 A1 (labsC ls)) (h2 : Rd w B2 2 A2 (labsC ms)) (hn1 : ls.length = n1) (hn2 : ms.length = n2) (hB1 : B1 ≤ w.heap.size) (hB2 : B2 ≤ w.heap.size) (hm1 : n1 ≤ maxLen) (hm2 : n2 ≤ maxLen) :
    Calls Tryz.prog 32 #[.slice A1 n1 c1, .slice A2 n2 c2] w fun e w' => e = .returned (.int .i64 (setCmp ls ms)) ∧ Below w.heap.size w w' := by
  have HC := Lib.hid (compareFunc_any ls ms A1 A2 n1 n2 c1 c2 B1 B2 w h1 h2 hn1 hn2 hB1 hB2 hm1 hm2)
  clear h1 h2 hn1 hn2
  go_enter Tryz.func32, Tryz.ntmps32
  go_wp2_with (go_at_call 65; refine (HC.out).mono ?_; rintro e w' ⟨rfl, hb⟩)
  go_ret
  exact ⟨rfl, hb⟩
set_option maxHeartbeats 1000000 in
theorem order_any (a b : ByteArray) (w : World) : Calls Tryz.prog 69 #[.string a, .string b] w fun e w' => e = .returned (.int .i64 (strCmp a b)) ∧ w = w' := by
  have hl := strLess a b
  have hr := strCmp_rng a b
  have he : (a.toList == b.toList) = decide (strCmp a b = 0) := by
    rw [beq_toList, decide_eq_decide]
    exact (strCmp_is.eq a b).symm
  have HS : ∀ z, strCmp a b = z → Hid (strCmp a b = z) := fun z h => h
  rcases (show strCmp a b = -1 ∨ strCmp a b = 0 ∨ strCmp a b = 1 by omega) with h | h | h
  · have HT := HS _ h
    rw [h] at hl he
    have l1 : Op.bytesLess a.toList b.toList = true := by rw [hl]; decide
    clear h hr hl
    go_enter Tryz.func69, Tryz.ntmps69
    go_wp2_with fail
    go_ret
    exact ⟨ret_int HT.out.symm, rfl⟩
  · have HT := HS _ h
    rw [h] at hl he
    have l1 : Op.bytesLess a.toList b.toList = false := by rw [hl]; decide
    have l2 : (a.toList == b.toList) = true := by rw [he]; decide
    clear h hr hl he
    go_enter Tryz.func69, Tryz.ntmps69
    go_wp2_with fail
    go_ret
    exact ⟨ret_int HT.out.symm, rfl⟩
  · have HT := HS _ h
    rw [h] at hl he
    have l1 : Op.bytesLess a.toList b.toList = false := by rw [hl]; decide
    have l2 : (a.toList == b.toList) = false := by rw [he]; decide
    clear h hr hl he
    go_enter Tryz.func69, Tryz.ntmps69
    go_wp2_with fail
    go_ret
    exact ⟨ret_int HT.out.symm, rfl⟩
end Go.Proofs.YtnlheomfobpcmaaGreat
