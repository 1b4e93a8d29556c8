/- Nodes are held against one another. -/
import Derived.Test.YtakfnojiaakfpaaGreatDoorNodC
import Derived.RegionTactic
namespace Go.Proofs.YtakfnojiaakfpaaGreatDoor
open Go.RowKit
theorem two_new (w : World) (c d : List Value) (e : TypeId) : Blk (((w.alloc (.cells c.toArray e)).alloc (.cells d.toArray e)).drew) w.heap.size e c ∧ Blk (((w.alloc (.cells c.toArray e)).alloc (.cells d.toArray e)).drew) (w.heap.size + 1) e d ∧ Below w.heap.size w (((w.alloc (.cells c.toArray e)).alloc (.cells d.toArray e)).drew) := by
  have h1 := (Blk.new w e c).alloc (.cells d.toArray e)
  have h2 := Blk.new (w.alloc (.cells c.toArray e)) e d
  rw [World.size_alloc] at h2
  exact ⟨h1, h2, (((Below.refl w.heap.size w).alloc (Nat.le_refl _) _).alloc (by simp) _).drew⟩
theorem nod_ext {x y : Nod} (h0 : x.kind = y.kind) (h1 : x.op = y.op) (h2 : x.text = y.text) (h3 : x.mat = y.mat) (h4 : x.width = y.width) (h5 : x.back = y.back) (h6 : x.grp = y.grp) (h7 : x.names = y.names) (h8 : x.cmp = y.cmp) (h9 : x.parts = y.parts) : x = y := by
  cases x; cases y; simp only [Nod.mk.injEq]; exact ⟨h0, h1, h2, h3, h4, h5, h6, h7, h8, h9⟩
set_option maxRecDepth 100000 in
set_option maxHeartbeats 20000000 in
theorem sameNodes_any (ns ms : List Nod) (A1 A2 : Option Addr) (n1 n2 c1 c2 B1 B2 : Nat) (w : World) (h1 : RdNods w B1 A1 ns) (h2 : RdNods w B2 A2 ms) (hB1 : B1 ≤ w.heap.size) (hB2 : B2 ≤ w.heap.size) (hn1 : ns.length = n1) (hn2 : ms.length = n2) (hm1 : n1 ≤ maxLen) (hm2 : n2 ≤ maxLen) :
    Calls Tryz.prog 12 #[.slice A1 n1 c1, .slice A2 n2 c2] w fun e w' => e = .returned (.bool (decide (ns = ms))) ∧ Below w.heap.size w w' := by
  unfold maxLen at hm1 hm2
  by_cases hl : n1 = n2
  · obtain rfl : n1 = n2 := hl
    have Hn1 := Lib.hid hn1
    have Hn2 := Lib.hid hn2
    clear hn1 hn2
    go_enter Tryz.func12, Tryz.ntmps12
    go_wp2
    go_loopw [5] (fun i wr => ∃ k : Nat, k ≤ n1 ∧ i = .int .i64 k ∧ Below w.heap.size w wr ∧ Hid (∀ j, j < k → ns[j]? = ms[j]?)) (fun i _ => n1 - (intOf i).toNat)
    case atStart => exact ⟨0, by omega, rfl, Below.refl _ _, fun j hj => by omega⟩
    case round =>
      obtain ⟨k, hk, rfl, hb, hall⟩ := hrel
      have hk0 : (0 : Int) ≤ k := by omega
      have hbs := hb.size
      by_cases hlt : k < n1
      · have hltI : (k : Int) < n1 := by omega
        obtain ⟨x, e1⟩ := get_lt Hn1 hlt
        obtain ⟨y, e2⟩ := get_lt Hn2 hlt
        obtain ⟨b1, o1, Am, cm, An, cn, hA1, hb1, p0, p1, p2, p3, p4, p5, p6, p7, p8, p9, r1, r2, _, _, _, _⟩ := (h1.below (hb.mono hB1)).at_ e1
        obtain ⟨b2, o2, Bm, dm, Bn, dn, hA2, hb2, q0, q1, q2, q3, q4, q5, q6, q7, q8, q9, s1, s2, _, _, _, _⟩ := (h2.below (hb.mono hB2)).at_ e2
        subst hA1 hA2
        have hbl1 : b1 < wr.heap.size := by omega
        have hbl2 : b2 < wr.heap.size := by omega
        have E1 := Lib.hid e1
        have E2 := Lib.hid e2
        clear e1 e2
        go_wp2_with fail
        go_region
        all_goals clear p0 p1 p2 p3 p4 p5 p6 p7 p8 p9 q0 q1 q2 q3 q4 q5 q6 q7 q8 q9
        · generalize hW : World.drew _ = W1
          have hN : Blk W1 (wr.heap.size) 41 (nodC x Am cm An cn) ∧ Blk W1 (wr.heap.size + 1) 41 (nodC y Bm dm Bn dn) ∧ Below wr.heap.size wr W1 := by rw [← hW]; exact two_new wr _ _ _
          obtain ⟨hX, hY, hb3⟩ := hN
          clear hW
          have hsz3 := hb3.size
          have p0 := hX.cell (j := 0) rfl
          have q0 := hY.cell (j := 0) rfl
          have p1 := hX.cell (j := 1) rfl
          have q1 := hY.cell (j := 1) rfl
          have p2 := hX.cell (j := 2) rfl
          have q2 := hY.cell (j := 2) rfl
          have p3 := hX.cell (j := 3) rfl
          have q3 := hY.cell (j := 3) rfl
          have p4 := hX.cell (j := 4) rfl
          have q4 := hY.cell (j := 4) rfl
          have p5 := hX.cell (j := 5) rfl
          have q5 := hY.cell (j := 5) rfl
          have p6 := hX.cell (j := 6) rfl
          have q6 := hY.cell (j := 6) rfl
          have p7 := hX.cell (j := 7) rfl
          have q7 := hY.cell (j := 7) rfl
          have p8 := hX.cell (j := 8) rfl
          have q8 := hY.cell (j := 8) rfl
          have p9 := hX.cell (j := 9) rfl
          have q9 := hY.cell (j := 9) rfl
          have R1 := r1.below (hb3.mono (by omega))
          have R2 := r2.below (hb3.mono (by omega))
          have S1 := s1.below (hb3.mono (by omega))
          have S2 := s2.below (hb3.mono (by omega))
          have HM := Lib.hid (sameMatchers_any x.mat y.mat Am Bm x.mat.length y.mat.length cm dm B1 B2 W1 R1 S1 rfl rfl (by omega) (by omega))
          have HT := fun q => Lib.hid (sameTexts_any x.names y.names An Bn x.names.length y.names.length cn dn B1 B2 (W1.drewN q) (R2.drewN q) (S2.drewN q) rfl rfl (by omega) (by omega))
          have HB := Lib.hid (hb.trans (hb3.mono hbs))
          clear hX hY hb3 R1 R2 S1 S2 r1 r2 s1 s2
          go_wp2_with (first | (go_at_call 24; refine (HM.out).mono ?_; rintro e w2 ⟨rfl, n, rfl⟩) | (go_at_call 25; refine ((HT _).out).mono ?_; rintro e w2 ⟨rfl, n, rfl⟩))
          all_goals clear p0 p1 p2 p3 p4 p5 p6 p7 p8 p9 q0 q1 q2 q3 q4 q5 q6 q7 q8 q9 HM HT
          all_goals first
            | (have hEq : x = y := nod_ext ‹_› ‹_› (toList_inj.1 ‹_›) ‹_› ‹_› ‹_› ‹_› ‹_› ‹_› (by simpa using ‹(x.parts != y.parts) = false›)
               exact ⟨⟨k + 1, by omega, by go_num, (by first | exact HB.out | exact below_drewN HB.out _ | exact below_drewN (below_drewN HB.out _) _), fun j hj => by
                 by_cases ej : j = k
                 · subst ej; rw [E1.out, E2.out]; exact congrArg some hEq
                 · exact hall j (by omega)⟩, by simp [intOf]; omega⟩)
            | (have hNe : x ≠ y := by
                 intro e
                 first
                 | exact absurd (congrArg Nod.kind e) ‹¬ x.kind = y.kind›
                 | exact absurd (congrArg Nod.op e) ‹¬ x.op = y.op›
                 | exact absurd (congrArg (fun z => z.text.toList) e) ‹¬ x.text.toList = y.text.toList›
                 | exact absurd (congrArg Nod.mat e) ‹¬ x.mat = y.mat›
                 | exact absurd (congrArg Nod.width e) ‹¬ x.width = y.width›
                 | exact absurd (congrArg Nod.back e) ‹¬ x.back = y.back›
                 | exact absurd (congrArg Nod.grp e) ‹¬ x.grp = y.grp›
                 | exact absurd (congrArg Nod.names e) ‹¬ x.names = y.names›
                 | exact absurd (congrArg Nod.cmp e) ‹¬ x.cmp = y.cmp›
                 | exact absurd (congrArg Nod.parts e) (by simpa using ‹(x.parts != y.parts) = true›)
               go_ret
               exact ⟨ret_bool (decide_eq_false (take_ne E1.out E2.out hNe)).symm, (by first | exact HB.out | exact below_drewN HB.out _ | exact below_drewN (below_drewN HB.out _) _)⟩)
        · generalize hW : World.drew _ = W1
          have hN : Blk W1 (wr.heap.size) 41 (nodC y Bm dm Bn dn) ∧ Blk W1 (wr.heap.size + 1) 41 (nodC x Am cm An cn) ∧ Below wr.heap.size wr W1 := by rw [← hW]; exact two_new wr _ _ _
          obtain ⟨hY, hX, hb3⟩ := hN
          clear hW
          have hsz3 := hb3.size
          have p0 := hX.cell (j := 0) rfl
          have q0 := hY.cell (j := 0) rfl
          have p1 := hX.cell (j := 1) rfl
          have q1 := hY.cell (j := 1) rfl
          have p2 := hX.cell (j := 2) rfl
          have q2 := hY.cell (j := 2) rfl
          have p3 := hX.cell (j := 3) rfl
          have q3 := hY.cell (j := 3) rfl
          have p4 := hX.cell (j := 4) rfl
          have q4 := hY.cell (j := 4) rfl
          have p5 := hX.cell (j := 5) rfl
          have q5 := hY.cell (j := 5) rfl
          have p6 := hX.cell (j := 6) rfl
          have q6 := hY.cell (j := 6) rfl
          have p7 := hX.cell (j := 7) rfl
          have q7 := hY.cell (j := 7) rfl
          have p8 := hX.cell (j := 8) rfl
          have q8 := hY.cell (j := 8) rfl
          have p9 := hX.cell (j := 9) rfl
          have q9 := hY.cell (j := 9) rfl
          have R1 := r1.below (hb3.mono (by omega))
          have R2 := r2.below (hb3.mono (by omega))
          have S1 := s1.below (hb3.mono (by omega))
          have S2 := s2.below (hb3.mono (by omega))
          have HM := Lib.hid (sameMatchers_any x.mat y.mat Am Bm x.mat.length y.mat.length cm dm B1 B2 W1 R1 S1 rfl rfl (by omega) (by omega))
          have HT := fun q => Lib.hid (sameTexts_any x.names y.names An Bn x.names.length y.names.length cn dn B1 B2 (W1.drewN q) (R2.drewN q) (S2.drewN q) rfl rfl (by omega) (by omega))
          have HB := Lib.hid (hb.trans (hb3.mono hbs))
          clear hX hY hb3 R1 R2 S1 S2 r1 r2 s1 s2
          go_wp2_with (first | (go_at_call 24; refine (HM.out).mono ?_; rintro e w2 ⟨rfl, n, rfl⟩) | (go_at_call 25; refine ((HT _).out).mono ?_; rintro e w2 ⟨rfl, n, rfl⟩))
          all_goals clear p0 p1 p2 p3 p4 p5 p6 p7 p8 p9 q0 q1 q2 q3 q4 q5 q6 q7 q8 q9 HM HT
          all_goals first
            | (have hEq : x = y := nod_ext ‹_› ‹_› (toList_inj.1 ‹_›) ‹_› ‹_› ‹_› ‹_› ‹_› ‹_› (by simpa using ‹(x.parts != y.parts) = false›)
               exact ⟨⟨k + 1, by omega, by go_num, (by first | exact HB.out | exact below_drewN HB.out _ | exact below_drewN (below_drewN HB.out _) _), fun j hj => by
                 by_cases ej : j = k
                 · subst ej; rw [E1.out, E2.out]; exact congrArg some hEq
                 · exact hall j (by omega)⟩, by simp [intOf]; omega⟩)
            | (have hNe : x ≠ y := by
                 intro e
                 first
                 | exact absurd (congrArg Nod.kind e) ‹¬ x.kind = y.kind›
                 | exact absurd (congrArg Nod.op e) ‹¬ x.op = y.op›
                 | exact absurd (congrArg (fun z => z.text.toList) e) ‹¬ x.text.toList = y.text.toList›
                 | exact absurd (congrArg Nod.mat e) ‹¬ x.mat = y.mat›
                 | exact absurd (congrArg Nod.width e) ‹¬ x.width = y.width›
                 | exact absurd (congrArg Nod.back e) ‹¬ x.back = y.back›
                 | exact absurd (congrArg Nod.grp e) ‹¬ x.grp = y.grp›
                 | exact absurd (congrArg Nod.names e) ‹¬ x.names = y.names›
                 | exact absurd (congrArg Nod.cmp e) ‹¬ x.cmp = y.cmp›
                 | exact absurd (congrArg Nod.parts e) (by simpa using ‹(x.parts != y.parts) = true›)
               go_ret
               exact ⟨ret_bool (decide_eq_false (take_ne E1.out E2.out hNe)).symm, (by first | exact HB.out | exact below_drewN HB.out _ | exact below_drewN (below_drewN HB.out _) _)⟩)
      · have hltI : ¬ (k : Int) < n1 := by omega
        have HD : Hid (decide (ns = ms) = true) := decide_eq_true (eq_of_upto (by rw [Hn1.out, Hn2.out]) fun j hj => hall j (by rw [Hn1.out] at hj; omega))
        go_wp2
        go_ret
        exact ⟨ret_bool HD.out.symm, hb⟩
  · have HD : Hid (decide (ns = ms) = false) := decide_eq_false (by rintro rfl; omega)
    have hl2 : ¬ (n1 : Int) = (n2 : Int) := by omega
    have hl3 : ((n1 : Int) != (n2 : Int)) = true := by rw [bne_iff_ne]; exact hl2
    clear hl hl2
    go_enter Tryz.func12, Tryz.ntmps12
    go_wp2
    go_ret
    exact ⟨ret_bool HD.out.symm, Below.refl _ _⟩
end Go.Proofs.YtakfnojiaakfpaaGreatDoor
