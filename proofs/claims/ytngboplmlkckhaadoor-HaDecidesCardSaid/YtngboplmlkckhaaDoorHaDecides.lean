/- HaDecides: whatever the arguments, the law hands back true, and nothing that was there has turned. -/
import Derived.Test.YtngboplmlkckhaaDoorHaB
import Derived.Test.YtngboplmlkckhaaDoorBytesK
import Derived.Deep.RegionHeld3
import Derived.Deep.DrawnRows
namespace Go.Proofs.YtngboplmlkckhaaDoor
open Go.RowKit
attribute [local go_sem ↓] Go.wp_at_zero Go.wp_at_succ

/-- Three registers in memory: the one that was handed in, the one wanted, the one read. -/
def Three (X W D : Nat) (rep : ByteArray) (stamp : Int) (p : ByteArray × Int × Int) (w : World) : Prop :=
  Blk w X 23 [.string rep, .int .i64 stamp] ∧ Blk w W 23 [.string p.1, .int .i64 p.2.1] ∧ Blk w D 23 [.string p.1, .int .i64 p.2.1]
section
variable {X W D : Nat} {rep : ByteArray} {stamp : Int} {p : ByteArray × Int × Int} {w w' : World}
theorem Three.below (h : Three X W D rep stamp p w) (hb : Below w.heap.size w w') : Three X W D rep stamp p w' :=
  ⟨h.1.below hb h.1.lt, h.2.1.below hb h.2.1.lt, h.2.2.below hb h.2.2.lt⟩
theorem Three.grown {g : Nat} (h : Three X W D rep stamp p w) (hb : w.grownBy w' (some g)) (h1 : X ≠ g) (h2 : W ≠ g) (h3 : D ≠ g) : Three X W D rep stamp p w' :=
  ⟨h.1.grown hb (by simpa using h1), h.2.1.grown hb (by simpa using h2), h.2.2.grown hb (by simpa using h3)⟩
theorem Three.cells (h : Three X W D rep stamp p w) : w.cell? ⟨X, 0, none⟩ = some (.string rep) ∧ w.cell? ⟨X, 1, none⟩ = some (.int .i64 stamp) ∧ w.cell? ⟨W, 0, none⟩ = some (.string p.1) ∧ w.cell? ⟨W, 1, none⟩ = some (.int .i64 p.2.1) ∧ w.cell? ⟨D, 0, none⟩ = some (.string p.1) ∧ w.cell? ⟨D, 1, none⟩ = some (.int .i64 p.2.1) :=
  ⟨h.1.cell rfl, h.1.cell rfl, h.2.1.cell rfl, h.2.1.cell rfl, h.2.2.cell rfl, h.2.2.cell rfl⟩
end
def J (w0 : World) (X W D : Nat) (rep : ByteArray) (stamp : Int) (p : ByteArray × Int × Int) (w : World) : Prop := Three X W D rep stamp p w ∧ Below w0.heap.size w0 w
theorem J.step {w0 : World} {X W D : Nat} {rep : ByteArray} {stamp : Int} {p : ByteArray × Int × Int} {w w' : World} (h : J w0 X W D rep stamp p w) (hb : Below w.heap.size w w') : J w0 X W D rep stamp p w' := ⟨h.1.below hb, h.2.trans (hb.mono h.2.size)⟩
theorem J.drewN {w0 : World} {X W D : Nat} {rep : ByteArray} {stamp : Int} {p : ByteArray × Int × Int} {w : World} (h : J w0 X W D rep stamp p w) (n : Nat) : J w0 X W D rep stamp p (w.drewN n) := ⟨h.1, below_drewN h.2 n⟩
theorem J.drew {w0 : World} {X W D : Nat} {rep : ByteArray} {stamp : Int} {p : ByteArray × Int × Int} {w : World} (h : J w0 X W D rep stamp p w) : J w0 X W D rep stamp p w.drew := ⟨h.1, h.2.drew⟩
set_option maxRecDepth 100000 in
set_option maxHeartbeats 4000000 in
theorem haDecides_any (has : Bool) (rep r t : ByteArray) (stamp now refresh failover : Int) (l : List UInt8) (A : Option Addr) (n c B : Nat) (w : World) (htab : Tab10 w) (hrep : rep.size ≤ 140737488351232) (hs1 : -9223372036854775808 ≤ stamp) (hs2 : stamp ≤ 9223372036854775807)
    (hr : r.size ≤ 140737488351232) (hrd : Rd w B 1 A (bytesC l)) (hn : l.length = n) (hB : B ≤ w.heap.size) (hnc : n ≤ c) (hcm : c ≤ maxLen) (hm : n ≤ 140737488351232) (ht : t.size ≤ 140737488351232) :
    Calls Tryd.prog 3 #[.bool has, .agg #[.string rep, .int .i64 stamp], .string r, .int .i64 now, .int .i64 refresh, .int .i64 failover, .slice A n c, .string t] w fun e w' => e = .returned (.bool true) ∧ Below w.heap.size w w' := by
  subst hn
  have hb0 : Below w.heap.size w (w.alloc (.cells #[.string rep, .int .i64 stamp] 23)) := (Below.refl _ _).alloc (Nat.le_refl _) _
  have bX0 := Blk.new w 23 [.string rep, .int .i64 stamp]
  have HD1 := Lib.hid (rdecode_any l A l.length c B _ (hrd.below (hb0.mono hB)) rfl (by simp; omega) (by omega) hnc hcm)
  have HRd := Lib.hid hrd
  have HB0 := Lib.hid hb0
  clear hrd
  go_enter Tryd.func3, Tryd.ntmps3
  go_wp2_with fail
  refine (HD1.out).mono ?_
  rintro e w1 ⟨rfl, hb1⟩
  have HB1 := Lib.hid (HB0.out.trans (hb1.mono HB0.out.size))
  have bX1 := bX0.below hb1 bX0.lt
  clear hb0 bX0 HD1 hb1 HB0
  generalize hp : ldrR l = p at *
  have Hp := Lib.hid hp
  clear hp
  have hz1 := bX1.lt
  have hb2 : Below w1.heap.size w1 (w1.alloc (.cells #[.string p.1, .int .i64 p.2.1] 23)) := (Below.refl _ _).alloc (Nat.le_refl _) _
  have bW2 := Blk.new w1 23 [.string p.1, .int .i64 p.2.1]
  have HB2 := Lib.hid (HB1.out.trans (hb2.mono HB1.out.size))
  have bX2 := bX1.below hb2 hz1
  have HL := Lib.hid (lendBytes_any l A l.length c B _ (HRd.out.below (HB2.out.mono hB)) rfl (Nat.le_trans hB HB2.out.size) (by omega))
  clear hb2 HB1 bX1
  go_wp2_with fail
  refine (HL.out).mono ?_
  rintro e w3 ⟨A3, c3, rfl, hlent, hb3⟩
  have HB3 := Lib.hid (HB2.out.trans (hb3.mono HB2.out.size))
  have bX3 := bX2.below hb3 bX2.lt
  have bW3 := bW2.below hb3 bW2.lt
  have hz3 := hb3.size
  rw [World.size_alloc] at hz3
  have hg3 : ∀ g, A3 = some ⟨g, 0, none⟩ → w1.heap.size + 1 ≤ g ∧ g < w3.heap.size := by
    intro g hg
    have := Own.block hlent (b := g) (by rw [hg]; rfl)
    rw [World.size_alloc] at this
    exact this
  have hcap3 := Own.cap hlent
  have HD3 := decode_any l A3 l.length c3 w3.heap.size w3 hlent.rd rfl (Nat.le_refl _) (by omega) (by omega) hcap3.2
  rw [Hp.out] at HD3
  have HD3 := Lib.hid HD3
  have HLent := Lib.hid hlent
  clear hlent hb3 HL bX2 bW2 HB2 hcap3
  go_wp2_with fail
  refine (HD3.out).mono ?_
  rintro e w4 ⟨rfl, hb4⟩
  have HB4 := Lib.hid (HB3.out.trans (hb4.mono HB3.out.size))
  have bX4 := bX3.below hb4 bX3.lt
  have bW4 := bW3.below hb4 bW3.lt
  have HLent4 := Lib.hid (HLent.out.belowAll hb4)
  have hz4 := hb4.size
  clear HLent HD3 HB3 bX3 bW3 hb4
  go_wp2_with fail
  generalize hW : World.alloc _ _ = W5
  have hT : Three w.heap.size w1.heap.size w4.heap.size rep stamp p W5 := by
    rw [← hW]
    exact ⟨bX4.alloc _, bW4.alloc _, Blk.new _ _ [.string p.1, .int .i64 p.2.1]⟩
  have hz5 : W5.heap.size = w4.heap.size + 1 := by rw [← hW]; simp
  have HB5 : Hid (Below w.heap.size w W5) := by show Below _ _ _; rw [← hW]; exact HB4.out.alloc (by omega) _
  have HLent5 : Hid (Lent W5 (w1.alloc (.cells #[.string p.1, .int .i64 p.2.1] 23)).heap.size l A3 c3) := by show Lent _ _ _ _ _; rw [← hW]; exact Own.alloc HLent4.out _
  have HRd5 := Lib.hid (HRd.out.below (HB5.out.mono hB))
  clear hW HB4 bX4 bW4 HLent4 HRd
  obtain ⟨g, rfl, hg1, hg2⟩ : ∃ g, A3 = some ⟨g, 0, none⟩ ∧ w1.heap.size + 1 ≤ g ∧ g < w3.heap.size := by
    rcases Own.form HLent5.out with ⟨_, h0, _⟩ | ⟨g, h, _⟩
    · omega
    · exact ⟨g, h, hg3 g h⟩
  have hJ : Hid (J w w.heap.size w1.heap.size w4.heap.size rep stamp p W5) := ⟨hT, HB5.out⟩
  have n1 : w.heap.size ≠ g := by omega
  have n2 : w1.heap.size ≠ g := by omega
  have n3 : w4.heap.size ≠ g := by omega
  have n4 : w.heap.size ≤ g := by omega
  have hbs := HB5.out.size
  have hz0 : w.heap.size + 1 ≤ w1.heap.size := hz1
  have HK : Hid (Calls Tryd.prog 9 #[.slice (some ⟨g, 0, none⟩) l.length c3, .slice A l.length c] W5.drew fun e w' => e = .returned (.bool true) ∧ J w w.heap.size w1.heap.size w4.heap.size rep stamp p w') := (keptBytes_any l (some ⟨g, 0, none⟩) A l.length c3 l.length c B _ W5.drew HLent5.out rfl HRd5.out rfl (by omega) (Nat.le_trans hB hbs)).mono fun e w' ⟨he, hg⟩ =>
    ⟨he, hT.grown (w := W5.drew) hg n1 n2 n3, HB5.out.drew.trans (below_of_grown hg hbs (fun g' e => by cases e; exact n4))⟩
  have heq := neq_ldr p.1 p.2.1 p.1 p.2.1
  have hself : ldrEq p.1 p.2.1 p.1 p.2.1 = true := ldrEq_iff.2 ⟨rfl, rfl⟩
  rw [hself] at heq
  have hgl := guard_ldr
  have HE := fun (W : World) => Lib.hid (encode_any rep stamp W (by omega) hs1 hs2)
  have HE2 := fun (W : World) => Lib.hid (rencode_any rep stamp W (by omega) hs1 hs2)
  have hlb := ldrB_len rep stamp (by omega) hs1 hs2
  generalize hlB : ldrB rep stamp = lb at *
  have HK1 := fun (W : World) (h : J w w.heap.size w1.heap.size w4.heap.size rep stamp p W) => Lib.hid (key_any t r W (htab.below h.2) (by omega) (by omega))
  have HK2 := fun (W : World) (h : J w w.heap.size w1.heap.size w4.heap.size rep stamp p W) => Lib.hid (rkey_any t r W (by omega) (by omega))
  generalize keyB t (keyH r) = kb at *
  clear hlB HLent5 HRd5 HB5 hT hz5 n1 n2 n3 n4 hbs hg3 hg1 hg2 hz3 hz4 hz1
  go_region_held3 (fun w' => w'.cell? ⟨w.heap.size, 0, none⟩ = some (.string rep) ∧ w'.cell? ⟨w.heap.size, 1, none⟩ = some (.int .i64 stamp) ∧ w'.cell? ⟨w1.heap.size, 0, none⟩ = some (.string p.1) ∧ w'.cell? ⟨w1.heap.size, 1, none⟩ = some (.int .i64 p.2.1) ∧ w'.cell? ⟨w4.heap.size, 0, none⟩ = some (.string p.1) ∧ w'.cell? ⟨w4.heap.size, 1, none⟩ = some (.int .i64 p.2.1))
    (exact (hJ.out.1.cells))
    (first
      | (go_at_call 9; refine (HK.out).mono ?_; rintro e w6 ⟨rfl, hj⟩; replace hJ := Lib.hid hj; clear hj)
      | (go_at_call 11; refine ((HE _).out).mono ?_; rintro e w7 ⟨A7, m7, c7, rfl, rfl, ho7, hb7⟩; replace hJ := Lib.hid (hJ.out.step hb7); (try replace hR2 := Lib.hid (hR2.out.below hb7)); have hR1 := Lib.hid ho7.rd; clear hb7 ho7)
      | (go_at_call 12; refine ((HE2 _).out).mono ?_; rintro e w8 ⟨A8, m8, c8, rfl, rfl, ho8, hb8⟩; replace hJ := Lib.hid (hJ.out.step hb8); (try replace hR1 := Lib.hid (hR1.out.below hb8)); have hR2 := Lib.hid ho8.rd; clear hb8 ho8)
      | (go_at_call 10; refine (sameBytes_self lb A7 A8 lb.length c7 c8 _ _ _ hR1.out hR2.out rfl (by simp only [maxLen]; omega)).mono ?_; rintro e w9 ⟨rfl, q9, rfl⟩; replace hJ := Lib.hid (hJ.out.drewN q9))
      | (go_at_call 13; refine ((HK1 _ hJ.out).out).mono ?_; rintro e w10 ⟨rfl, hb10⟩; replace hJ := Lib.hid (hJ.out.step hb10); clear hb10)
      | (go_at_call 14; refine ((HK2 _ hJ.out).out).mono ?_; rintro e w11 ⟨rfl, hb11⟩; replace hJ := Lib.hid (hJ.out.step hb11); clear hb11))
  have hJ2 := hJ
  clear HE HE2 HK1 HK2 HK hJ hR1 hR2 heq hself
  have bX := hJ2.out.1.1
  have c0 := bX.cell (j := 0) rfl
  have c1 := bX.cell (j := 1) rfl
  have HBB := Lib.hid hJ2.out.2
  have ht := htab.below HBB.out
  have HA := fun (W : World) (h : Tab10 W) => Lib.hid (hawake_any W h)
  go_wp2_with fail
  all_goals first
    | (refine ((HA _ ht).out).mono ?_
       rintro e w20 ⟨rfl, hb20⟩
       go_wp2_with fail
       go_ret
       exact ⟨rfl, HBB.out.trans (hb20.mono HBB.out.size)⟩)
    | skip
  have k0 := later_cell bX (j := 0) rfl
  have k1 := later_cell bX (j := 1) rfl
  have HD1 := fun (W : World) => Lib.hid (decide_any has rep r stamp now refresh failover W (by omega) (by omega) (by omega) (by omega))
  have HD2 := fun (W : World) => Lib.hid (rdecide_any has rep r stamp now refresh failover W (by omega) (by omega) (by omega) (by omega))
  generalize decR has rep stamp r now refresh failover = dv at *
  have HAL := fun (z : Later _) => HA _ (ht.below (later_below z))
  clear c0 c1 HA
  refine wp_region_later (by kernel_rfl) (by kernel_rfl) ?_
  repeat (any_goals (first | go_big_quiet_step ((first | (go_at_call 16; with_reducible exact later_call (HD1 _).out) | (go_at_call 17; with_reducible exact later_call (HD2 _).out) | (go_at_call 15; with_reducible exact later_call (HAL _).out))) | quiet_step ((first | (go_at_call 16; with_reducible exact later_call (HD1 _).out) | (go_at_call 17; with_reducible exact later_call (HD2 _).out) | (go_at_call 15; with_reducible exact later_call (HAL _).out))) | (refine wpQuiet_step (fun K hK => ?_); go_simp; split <;> (refine hK _ ?_; clear hK K))))
  all_goals (refine wpQuiet_nil ?_; intro _ hw'; obtain ⟨z, rfl⟩ := hw')
  go_wp2_with fail
  go_ret
  exact ⟨rfl, HBB.out.trans ((later_below z).mono HBB.out.size)⟩
theorem haDecides_law (has : Bool) (rep : ByteArray) (stamp : Int) (r : ByteArray) (now refresh failover : Int) (l : List UInt8) (A : Option Addr) (n c B : Nat) (t : ByteArray) (w : World) (htab : Tab10 w) (hrep : rep.size ≤ 140737488351232) (hs : -9223372036854775808 ≤ stamp ∧ stamp < 9223372036854775808) (hr : r.size ≤ 140737488351232)
    (_ : -9223372036854775808 ≤ now ∧ now < 9223372036854775808) (_ : -9223372036854775808 ≤ refresh ∧ refresh < 9223372036854775808) (_ : -9223372036854775808 ≤ failover ∧ failover < 9223372036854775808)
    (hrd : Rd w B 1 A (bytesC l)) (hn : l.length = n) (hB : B ≤ w.heap.size) (hnc : n ≤ c) (hcm : c ≤ maxLen) (hm : n ≤ 140737488351232) (ht : t.size ≤ 140737488351232) :
    Calls Tryd.prog 3 #[.bool has, .agg #[.string rep, .int .i64 stamp], .string r, .int .i64 now, .int .i64 refresh, .int .i64 failover, .slice A n c, .string t] w fun e w' => e = .returned (.bool true) ∧ Below w.heap.size w w' :=
  haDecides_any has rep r t stamp now refresh failover l A n c B w htab hrep hs.1 (by omega) hr hrd hn hB hnc hcm hm ht
end Go.Proofs.YtngboplmlkckhaaDoor
