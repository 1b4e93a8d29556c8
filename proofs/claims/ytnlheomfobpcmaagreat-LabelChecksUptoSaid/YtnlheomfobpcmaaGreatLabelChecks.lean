/- LabelChecks: whether a label set may be, its bytes, hash and text are as the document says. -/
import Derived.Test.YtnlheomfobpcmaaGreatRTextT
import Derived.Test.YtnlheomfobpcmaaGreatLendL
import Derived.Test.YtnlheomfobpcmaaGreatLabA
namespace Go.Proofs.YtnlheomfobpcmaaGreat
open Go.RowKit

theorem apart_own {W1 W2 : World} {b1 s1 n1 c1 b2 s2 n2 c2 : Nat} {e1 e2 : TypeId} {A1 A2 : Option Addr} {x1 x2 : List (List Value)} (h1 : Own W1 b1 e1 s1 A1 n1 c1 x1) (h2 : Own W2 b2 e2 s2 A2 n2 c2 x2) (h : W1.heap.size ≤ b2) : A2 = none ∨ A2.map Addr.block ≠ A1.map Addr.block := by
  rcases h2.form with ⟨e, _⟩ | ⟨g, rfl, hg, _⟩
  · exact .inl e
  · right
    intro e
    have := (h1.block (b := g) (by rw [← e]; rfl)).2
    omega
set_option maxRecDepth 100000 in
set_option maxHeartbeats 8000000 in
theorem labelChecks_any (ls : List Lab) (A1 : Option Addr) (n c1 B : Nat) (w : World) (h : Rd w B 2 A1 (labsC ls)) (hn : ls.length = n) (hB : B ≤ w.heap.size) (hm : n * 32 ≤ 140737488351232) (hok : okLabs ls) (he : (encL ls).length ≤ 140737488355300) (ht : (textL ls).length ≤ 1099511627776) :
    Calls Tryz.prog 3 #[.slice A1 n c1] w fun e w' => e = .returned (.bool true) ∧ Below w.heap.size w w' := by
  have hmx : n ≤ maxLen := by simp only [maxLen]; omega
  have hmy : n ≤ 140737488355328 := by omega
  have HLL := Lib.hid (lendLabels_any ls A1 n c1 B w h hn hB (by omega))
  have HRC : ∀ W, Below w.heap.size w W → Hid (Calls Tryz.prog 15 #[.slice A1 n c1] W fun e w' => e = .returned (.int .i64 (checkL ls)) ∧ Below W.heap.size W w') := fun W hb => by
    refine (check3_any ls A1 n c1 B W (h.below (hb.mono hB)) hn hmx hok).mono ?_
    rintro e w' ⟨rfl, q, rfl⟩
    exact ⟨rfl, below_drewN (Below.refl _ _) q⟩
  have HRE : ∀ W, Below w.heap.size w W → Hid (Calls Tryz.prog 17 #[.slice A1 n c1] W fun e w' => BytesOut W (encL ls) e w') := fun W hb => rlabEncode_any ls A1 n c1 B W (h.below (hb.mono hB)) hn (Nat.le_trans hB hb.size) hmy he
  have HRH : ∀ W, Below w.heap.size w W → Hid (Calls Tryz.prog 18 #[.slice A1 n c1] W fun e w' => e = .returned (.int .u32 (fnvL (encL ls) : Nat)) ∧ Below W.heap.size W w') := fun W hb => rhash_any ls A1 n c1 B W (h.below (hb.mono hB)) hn (Nat.le_trans hB hb.size) hmy he
  have HRT : ∀ W, Below w.heap.size w W → Hid (Calls Tryz.prog 19 #[.slice A1 n c1] W fun e w' => e = .returned (.string (textB ls)) ∧ Below W.heap.size W w') := fun W hb => rtext_any ls A1 n c1 B W (h.below (hb.mono hB)) hn (Nat.le_trans hB hb.size) hmy ht
  have HKp : ∀ (W : World) (A : Option Addr) (c : Nat), Below w.heap.size w W → LentLabels W w.heap.size ls A c → Hid (Calls Tryz.prog 14 #[.slice A n c, .slice A1 n c1] W fun e w' => e = .returned (.bool true) ∧ W.grownBy w' (A.map Addr.block)) := fun W A c hb hL => keptLabels_any ls A A1 n c n c1 B w.heap.size W hL hn (h.below (hb.mono hB)) rfl (by omega) (Nat.le_trans hB hb.size)
  have HCk : ∀ (W : World) (A : Option Addr) (c b : Nat), LentLabels W b ls A c → Hid (Calls Tryz.prog 10 #[.slice A n c] W fun e w' => e = .returned (.int .i64 (checkL ls)) ∧ Below W.heap.size W w') := fun W A c b hL => check_any ls A n c _ W hL.rd hn (Nat.le_refl _) hmx hok
  have HEn : ∀ (W : World) (A : Option Addr) (c b : Nat), LentLabels W b ls A c → Hid (Calls Tryz.prog 11 #[.slice A n c] W fun e w' => BytesOut W (encL ls) e w') := fun W A c b hL => labEncode_any ls A n c _ W hL.rd hn (Nat.le_refl _) hmy he
  have HHs : ∀ (W : World) (A : Option Addr) (c b : Nat), LentLabels W b ls A c → Hid (Calls Tryz.prog 12 #[.slice A n c] W fun e w' => e = .returned (.int .u32 (fnvL (encL ls) : Nat)) ∧ Below W.heap.size W w') := fun W A c b hL => hash_any ls A n c _ W hL.rd hn (Nat.le_refl _) hmy he
  have HTx : ∀ (W : World) (A : Option Addr) (c b : Nat), LentLabels W b ls A c → Hid (Calls Tryz.prog 13 #[.slice A n c] W fun e w' => e = .returned (.string (textB ls)) ∧ Below W.heap.size W w') := fun W A c b hL => labText_any ls A n c _ W hL.rd hn (Nat.le_refl _) hmy ht
  have HSb : ∀ (W : World) (A A' : Option Addr) (c c' b b' : Nat), Own W b 5 1 A (encL ls).length c (bytesC (encL ls)) → Own W b' 5 1 A' (encL ls).length c' (bytesC (encL ls)) → Hid (Calls Tryz.prog 16 #[.slice A (encL ls).length c, .slice A' (encL ls).length c'] W fun e w' => e = .returned (.bool true) ∧ Below W.heap.size W w') := fun W A A' c c' b b' h1 h2 => by
    refine (sameBytes_any (encL ls) (encL ls) A A' _ _ c c' _ _ W h1.rd h2.rd rfl rfl (by simp only [maxLen]; omega) (by simp only [maxLen]; omega)).mono ?_
    rintro e w' ⟨rfl, q, rfl⟩
    exact ⟨ret_bool (by simp), below_drewN (Below.refl _ _) q⟩
  clear h hn hok he ht hmx hmy
  generalize checkL ls = r at *
  generalize textB ls = X at *
  generalize fnvL (encL ls) = hh at *
  go_enter Tryz.func3, Tryz.ntmps3
  go_wp2_with fail
  refine (HLL.out).mono ?_
  rintro e w1 ⟨A2, c2, rfl, L2, hb1⟩
  have HL1 := Lib.hid L2
  clear HLL L2
  go_wp2_with fail
  refine ((HCk w1 A2 c2 _ HL1.out).out).mono ?_
  rintro e w2 ⟨rfl, hb⟩
  have HL2 := Lib.hid (HL1.out.belowAll hb)
  have hb2 := hb1.trans (hb.mono hb1.size)
  have z2 := hb.size
  clear hb
  go_wp2_with fail
  refine ((HEn w2 A2 c2 _ HL2.out).out).mono ?_
  rintro e w3 ⟨A3, m3, c3, hm3, rfl, O3, hb⟩
  subst hm3
  have HN := Lib.hid (apart_own HL2.out O3 (Nat.le_refl _))
  have HL3 := Lib.hid (HL2.out.belowAll hb)
  have HO3 := Lib.hid O3
  have hb3 := hb2.trans (hb.mono hb2.size)
  clear hb HL1 HL2 O3
  go_wp2_with fail
  refine ((HHs w3 A2 c2 _ HL3.out).out).mono ?_
  rintro e w4 ⟨rfl, hb⟩
  have HL4 := Lib.hid (HL3.out.belowAll hb)
  have HO4 := Lib.hid (HO3.out.belowAll hb)
  have hb4 := hb3.trans (hb.mono hb3.size)
  clear hb HL3 HO3
  go_wp2_with fail
  refine ((HTx w4 A2 c2 _ HL4.out).out).mono ?_
  rintro e w5 ⟨rfl, hb⟩
  have HL5 := Lib.hid (HL4.out.belowAll hb)
  have HO5 := Lib.hid (HO4.out.belowAll hb)
  have hb5 := hb4.trans (hb.mono hb4.size)
  clear hb HL4 HO4
  go_wp2_with fail
  have hge : ∀ g, A2.map Addr.block = some g → w.heap.size ≤ g := fun g hg => (HL5.out.block hg).1
  have HGE := Lib.hid hge
  clear hge
  refine ((HKp w5 A2 c2 hb5 HL5.out).out).mono ?_
  rintro e w6 ⟨rfl, hg⟩
  have HO6 := Lib.hid (HO5.out.grown hg HN.out)
  have hb6 := hb5.trans (below_of_grown hg hb5.size HGE.out)
  clear hg HL5 HO5
  go_wp2_with fail
  refine ((HRC w6 hb6).out).mono ?_
  rintro e w7 ⟨rfl, hb⟩
  have HO7 := Lib.hid (HO6.out.belowAll hb)
  have hb7 := hb6.trans (hb.mono hb6.size)
  clear hb HO6
  go_wp2_with fail
  refine ((HRE w7 hb7).out).mono ?_
  rintro e w8 ⟨A8, m8, c8, hm8, rfl, O8, hb⟩
  subst hm8
  have HO8 := Lib.hid (HO7.out.belowAll hb)
  have HP8 := Lib.hid O8
  have hb8 := hb7.trans (hb.mono hb7.size)
  clear hb HO7 O8
  go_wp2_with fail
  refine ((HSb w8 A3 A8 c3 c8 _ _ HO8.out HP8.out).out).mono ?_
  rintro e w9 ⟨rfl, hb⟩
  have hb9 := hb8.trans (hb.mono hb8.size)
  clear hb HO8 HP8
  go_wp2_with fail
  refine ((HRH w9 hb9).out).mono ?_
  rintro e w10 ⟨rfl, hb⟩
  have hb10 := hb9.trans (hb.mono hb9.size)
  clear hb
  go_wp2_with fail
  refine ((HRT w10 hb10).out).mono ?_
  rintro e w11 ⟨rfl, hb⟩
  have hb11 := hb10.trans (hb.mono hb10.size)
  clear hb
  go_wp2_with fail
  refine (awake_any w11).mono ?_
  rintro e w12 ⟨rfl, hb⟩
  have hb12 := hb11.trans (hb.mono hb11.size)
  go_wp2_with fail
  go_ret
  exact ⟨rfl, hb12⟩
end Go.Proofs.YtnlheomfobpcmaaGreat
