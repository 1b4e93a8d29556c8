/- HaOne: whatever the moments and the names, the law hands back true, and nothing that was there has turned. -/
import Derived.Test.YtngboplmlkckhaaDoorHaB
namespace Go.Proofs.YtngboplmlkckhaaDoor
open Go.RowKit

theorem decR_own {rep : ByteArray} {stamp now refresh failover : Int} : decR true rep stamp rep now refresh failover = if refresh ≤ now - stamp then 1 else 0 := by simp [decR]
theorem decR_other {rep r : ByteArray} {stamp now refresh failover : Int} (h : ¬ rep = r) : decR true rep stamp r now refresh failover = if failover ≤ now - stamp then 2 else 3 := by simp [decR, h]

set_option maxRecDepth 100000 in
set_option maxHeartbeats 4000000 in
theorem haOne_ww11 (rep : ByteArray) (stamp now refresh failover : Int) (w : World) (htab : Tab10 w) (hrep : rep.size ≤ 140737488351232) (h1 : -1099511627776 ≤ stamp) (h2 : stamp ≤ 1099511627776) (h3 : -1099511627776 ≤ now) (h4 : now ≤ 1099511627776) (hr :  refresh ≤ now - stamp) (hf :  failover ≤ now - stamp) :
    Calls Tryd.prog 4 #[.agg #[.string rep, .int .i64 stamp], .string rep, .string rep, .int .i64 now, .int .i64 refresh, .int .i64 failover] w fun e w' => e = .returned (.bool true) ∧ Below w.heap.size w w' := by
  have HD0 : ∀ W : World, Hid (Calls Tryd.prog 16 #[.bool true, .agg #[.string rep, .int .i64 stamp], .string rep, .int .i64 now, .int .i64 refresh, .int .i64 failover] W fun e w' => e = .returned (.int .i64 1) ∧ Below W.heap.size W w') := fun W => by
    have h := decide_any true rep rep stamp now refresh failover W (by omega) (by omega) (by omega) (by omega)
    rw [decR_own, if_pos hr] at h
    exact h
  have HE := fun (W : World) => Lib.hid (encode_any rep stamp W (by omega) (by omega) (by omega))
  have HA := fun (W : World) (h : Tab10 W) => Lib.hid (hawake_any W h)
  have hrd : decide (refresh ≤ now - stamp) = true := decide_eq_true hr
  have hfd : decide (failover ≤ now - stamp) = true := decide_eq_true hf
  have hbn : Hid (Below w.heap.size w (w.alloc (.cells #[.string rep, .int .i64 stamp] 23))) := (Below.refl _ _).alloc (Nat.le_refl _) _
  have bX := Blk.new w 23 [.string rep, .int .i64 stamp]
  clear hr hf
  have heq := neq_ldr rep stamp rep stamp
  have hself : ldrEq rep stamp rep stamp = true := ldrEq_iff.2 ⟨rfl, rfl⟩
  rw [hself] at heq
  have hgl := guard_ldr
  go_enter Tryd.func4, Tryd.ntmps4
  go_wp2_with fail
  generalize hW : World.alloc _ _ = W0
  have bX0 : Blk W0 w.heap.size 23 [.string rep, .int .i64 stamp] := by rw [← hW]; exact bX
  have HB0 : Hid (Below w.heap.size w W0) := by show Below _ _ _; rw [← hW]; exact hbn.out
  clear hW bX hbn
  have c0 := later_cell bX0 (j := 0) rfl
  have c1 := later_cell bX0 (j := 1) rfl
  refine wp_region_later (by kernel_rfl) (by kernel_rfl) ?_
  repeat (any_goals (first | go_big_quiet_step ((first | (go_at_call 16; with_reducible exact later_call (HD0 _).out))) | quiet_step ((first | (go_at_call 16; with_reducible exact later_call (HD0 _).out))) | (refine wpQuiet_step (fun K hK => ?_); go_simp; split <;> (refine hK _ ?_; clear hK K))))
  all_goals (refine wpQuiet_nil ?_; intro _ hw'; obtain ⟨z, rfl⟩ := hw')
  have HB1 := Lib.hid (HB0.out.trans ((later_below z).mono HB0.out.size))
  have bX1 := later_blk bX0 z
  clear c0 c1 bX0 HB0
  generalize later W0 z = W1 at *
  have c0 := bX1.cell (j := 0) rfl
  have c1 := bX1.cell (j := 1) rfl
  have hz1 := bX1.lt
  go_wp2_with fail
  refine ((HE _).out).mono ?_
  rintro e w3 ⟨A3, m3, c3, hm3, rfl, ho3, hb3⟩
  have hcap := ho3.cap
  have HDc : Hid (Calls Tryd.prog 8 #[.slice A3 m3 c3] w3 fun e w' => e = .returned (.tuple #[.agg #[.string rep, .int .i64 stamp], .int .i64 0]) ∧ Below w3.heap.size w3 w') := by
    have h := decode_any (ldrB rep stamp) A3 m3 c3 w3.heap.size w3 ho3.rd hm3 (Nat.le_refl _) (by rw [← hm3]; exact ldrB_len rep stamp (by omega) (by omega) (by omega)) hcap.1 hcap.2
    rw [ldrR_put rep stamp (by omega) (by omega) (by omega)] at h
    exact h
  have HB3 := Lib.hid (HB1.out.trans (hb3.mono HB1.out.size))
  have bX3 := bX1.below hb3 bX1.lt
  clear c0 c1 bX1 HE HB1 ho3 hb3 hm3 hcap hz1
  go_wp2_with fail
  refine (HDc.out).mono ?_
  rintro e w4 ⟨rfl, hb4⟩
  have HB4 := Lib.hid (HB3.out.trans (hb4.mono HB3.out.size))
  have bX4 := bX3.below hb4 bX3.lt
  have c0 := bX4.cell (j := 0) rfl
  have c1 := bX4.cell (j := 1) rfl
  have hz4 := bX4.lt
  clear HB3 HDc bX3 hb4
  go_wp2_with fail
  refine ((HD0 _).out).mono ?_
  rintro e w5 ⟨rfl, hb5⟩
  have HB5 := Lib.hid ((HB4.out.alloc HB4.out.size (.cells #[.string rep, .int .i64 stamp] 23)).trans (hb5.mono (by have := HB4.out.size; simp; omega)))
  have bX5 := (bX4.alloc (.cells #[.string rep, .int .i64 stamp] 23)).below hb5 (by simp; omega)
  have ht5 := htab.below HB5.out
  clear c0 c1 HB4 bX4 hb5
  have c0 := bX5.cell (j := 0) rfl
  have c1 := bX5.cell (j := 1) rfl
  go_wp2_with fail
  refine ((HA _ ht5).out).mono ?_
  rintro e w6 ⟨rfl, hb6⟩
  go_wp2_with fail
  go_ret
  exact ⟨rfl, HB5.out.trans (hb6.mono HB5.out.size)⟩
set_option maxRecDepth 100000 in
set_option maxHeartbeats 4000000 in
theorem haOne_ww10 (rep : ByteArray) (stamp now refresh failover : Int) (w : World) (htab : Tab10 w) (hrep : rep.size ≤ 140737488351232) (h1 : -1099511627776 ≤ stamp) (h2 : stamp ≤ 1099511627776) (h3 : -1099511627776 ≤ now) (h4 : now ≤ 1099511627776) (hr :  refresh ≤ now - stamp) (hf : ¬ failover ≤ now - stamp) :
    Calls Tryd.prog 4 #[.agg #[.string rep, .int .i64 stamp], .string rep, .string rep, .int .i64 now, .int .i64 refresh, .int .i64 failover] w fun e w' => e = .returned (.bool true) ∧ Below w.heap.size w w' := by
  have HD0 : ∀ W : World, Hid (Calls Tryd.prog 16 #[.bool true, .agg #[.string rep, .int .i64 stamp], .string rep, .int .i64 now, .int .i64 refresh, .int .i64 failover] W fun e w' => e = .returned (.int .i64 1) ∧ Below W.heap.size W w') := fun W => by
    have h := decide_any true rep rep stamp now refresh failover W (by omega) (by omega) (by omega) (by omega)
    rw [decR_own, if_pos hr] at h
    exact h
  have HE := fun (W : World) => Lib.hid (encode_any rep stamp W (by omega) (by omega) (by omega))
  have HA := fun (W : World) (h : Tab10 W) => Lib.hid (hawake_any W h)
  have hrd : decide (refresh ≤ now - stamp) = true := decide_eq_true hr
  have hfd : decide (failover ≤ now - stamp) = false := decide_eq_false hf
  have hbn : Hid (Below w.heap.size w (w.alloc (.cells #[.string rep, .int .i64 stamp] 23))) := (Below.refl _ _).alloc (Nat.le_refl _) _
  have bX := Blk.new w 23 [.string rep, .int .i64 stamp]
  clear hr hf
  have heq := neq_ldr rep stamp rep stamp
  have hself : ldrEq rep stamp rep stamp = true := ldrEq_iff.2 ⟨rfl, rfl⟩
  rw [hself] at heq
  have hgl := guard_ldr
  go_enter Tryd.func4, Tryd.ntmps4
  go_wp2_with fail
  generalize hW : World.alloc _ _ = W0
  have bX0 : Blk W0 w.heap.size 23 [.string rep, .int .i64 stamp] := by rw [← hW]; exact bX
  have HB0 : Hid (Below w.heap.size w W0) := by show Below _ _ _; rw [← hW]; exact hbn.out
  clear hW bX hbn
  have c0 := later_cell bX0 (j := 0) rfl
  have c1 := later_cell bX0 (j := 1) rfl
  refine wp_region_later (by kernel_rfl) (by kernel_rfl) ?_
  repeat (any_goals (first | go_big_quiet_step ((first | (go_at_call 16; with_reducible exact later_call (HD0 _).out))) | quiet_step ((first | (go_at_call 16; with_reducible exact later_call (HD0 _).out))) | (refine wpQuiet_step (fun K hK => ?_); go_simp; split <;> (refine hK _ ?_; clear hK K))))
  all_goals (refine wpQuiet_nil ?_; intro _ hw'; obtain ⟨z, rfl⟩ := hw')
  have HB1 := Lib.hid (HB0.out.trans ((later_below z).mono HB0.out.size))
  have bX1 := later_blk bX0 z
  clear c0 c1 bX0 HB0
  generalize later W0 z = W1 at *
  have c0 := bX1.cell (j := 0) rfl
  have c1 := bX1.cell (j := 1) rfl
  have hz1 := bX1.lt
  go_wp2_with fail
  refine ((HE _).out).mono ?_
  rintro e w3 ⟨A3, m3, c3, hm3, rfl, ho3, hb3⟩
  have hcap := ho3.cap
  have HDc : Hid (Calls Tryd.prog 8 #[.slice A3 m3 c3] w3 fun e w' => e = .returned (.tuple #[.agg #[.string rep, .int .i64 stamp], .int .i64 0]) ∧ Below w3.heap.size w3 w') := by
    have h := decode_any (ldrB rep stamp) A3 m3 c3 w3.heap.size w3 ho3.rd hm3 (Nat.le_refl _) (by rw [← hm3]; exact ldrB_len rep stamp (by omega) (by omega) (by omega)) hcap.1 hcap.2
    rw [ldrR_put rep stamp (by omega) (by omega) (by omega)] at h
    exact h
  have HB3 := Lib.hid (HB1.out.trans (hb3.mono HB1.out.size))
  have bX3 := bX1.below hb3 bX1.lt
  clear c0 c1 bX1 HE HB1 ho3 hb3 hm3 hcap hz1
  go_wp2_with fail
  refine (HDc.out).mono ?_
  rintro e w4 ⟨rfl, hb4⟩
  have HB4 := Lib.hid (HB3.out.trans (hb4.mono HB3.out.size))
  have bX4 := bX3.below hb4 bX3.lt
  have c0 := bX4.cell (j := 0) rfl
  have c1 := bX4.cell (j := 1) rfl
  have hz4 := bX4.lt
  clear HB3 HDc bX3 hb4
  go_wp2_with fail
  refine ((HD0 _).out).mono ?_
  rintro e w5 ⟨rfl, hb5⟩
  have HB5 := Lib.hid ((HB4.out.alloc HB4.out.size (.cells #[.string rep, .int .i64 stamp] 23)).trans (hb5.mono (by have := HB4.out.size; simp; omega)))
  have bX5 := (bX4.alloc (.cells #[.string rep, .int .i64 stamp] 23)).below hb5 (by simp; omega)
  have ht5 := htab.below HB5.out
  clear c0 c1 HB4 bX4 hb5
  have c0 := bX5.cell (j := 0) rfl
  have c1 := bX5.cell (j := 1) rfl
  go_wp2_with fail
  refine ((HA _ ht5).out).mono ?_
  rintro e w6 ⟨rfl, hb6⟩
  go_wp2_with fail
  go_ret
  exact ⟨rfl, HB5.out.trans (hb6.mono HB5.out.size)⟩
set_option maxRecDepth 100000 in
set_option maxHeartbeats 4000000 in
theorem haOne_ww01 (rep : ByteArray) (stamp now refresh failover : Int) (w : World) (htab : Tab10 w) (hrep : rep.size ≤ 140737488351232) (h1 : -1099511627776 ≤ stamp) (h2 : stamp ≤ 1099511627776) (h3 : -1099511627776 ≤ now) (h4 : now ≤ 1099511627776) (hr : ¬ refresh ≤ now - stamp) (hf :  failover ≤ now - stamp) :
    Calls Tryd.prog 4 #[.agg #[.string rep, .int .i64 stamp], .string rep, .string rep, .int .i64 now, .int .i64 refresh, .int .i64 failover] w fun e w' => e = .returned (.bool true) ∧ Below w.heap.size w w' := by
  have HD0 : ∀ W : World, Hid (Calls Tryd.prog 16 #[.bool true, .agg #[.string rep, .int .i64 stamp], .string rep, .int .i64 now, .int .i64 refresh, .int .i64 failover] W fun e w' => e = .returned (.int .i64 0) ∧ Below W.heap.size W w') := fun W => by
    have h := decide_any true rep rep stamp now refresh failover W (by omega) (by omega) (by omega) (by omega)
    rw [decR_own, if_neg hr] at h
    exact h
  have HE := fun (W : World) => Lib.hid (encode_any rep stamp W (by omega) (by omega) (by omega))
  have HA := fun (W : World) (h : Tab10 W) => Lib.hid (hawake_any W h)
  have hrd : decide (refresh ≤ now - stamp) = false := decide_eq_false hr
  have hfd : decide (failover ≤ now - stamp) = true := decide_eq_true hf
  have hbn : Hid (Below w.heap.size w (w.alloc (.cells #[.string rep, .int .i64 stamp] 23))) := (Below.refl _ _).alloc (Nat.le_refl _) _
  have bX := Blk.new w 23 [.string rep, .int .i64 stamp]
  clear hr hf
  have heq := neq_ldr rep stamp rep stamp
  have hself : ldrEq rep stamp rep stamp = true := ldrEq_iff.2 ⟨rfl, rfl⟩
  rw [hself] at heq
  have hgl := guard_ldr
  go_enter Tryd.func4, Tryd.ntmps4
  go_wp2_with fail
  generalize hW : World.alloc _ _ = W0
  have bX0 : Blk W0 w.heap.size 23 [.string rep, .int .i64 stamp] := by rw [← hW]; exact bX
  have HB0 : Hid (Below w.heap.size w W0) := by show Below _ _ _; rw [← hW]; exact hbn.out
  clear hW bX hbn
  have c0 := later_cell bX0 (j := 0) rfl
  have c1 := later_cell bX0 (j := 1) rfl
  refine wp_region_later (by kernel_rfl) (by kernel_rfl) ?_
  repeat (any_goals (first | go_big_quiet_step ((first | (go_at_call 16; with_reducible exact later_call (HD0 _).out))) | quiet_step ((first | (go_at_call 16; with_reducible exact later_call (HD0 _).out))) | (refine wpQuiet_step (fun K hK => ?_); go_simp; split <;> (refine hK _ ?_; clear hK K))))
  all_goals (refine wpQuiet_nil ?_; intro _ hw'; obtain ⟨z, rfl⟩ := hw')
  have HB1 := Lib.hid (HB0.out.trans ((later_below z).mono HB0.out.size))
  have bX1 := later_blk bX0 z
  clear c0 c1 bX0 HB0
  generalize later W0 z = W1 at *
  have c0 := bX1.cell (j := 0) rfl
  have c1 := bX1.cell (j := 1) rfl
  have hz1 := bX1.lt
  go_wp2_with fail
  refine ((HE _).out).mono ?_
  rintro e w3 ⟨A3, m3, c3, hm3, rfl, ho3, hb3⟩
  have hcap := ho3.cap
  have HDc : Hid (Calls Tryd.prog 8 #[.slice A3 m3 c3] w3 fun e w' => e = .returned (.tuple #[.agg #[.string rep, .int .i64 stamp], .int .i64 0]) ∧ Below w3.heap.size w3 w') := by
    have h := decode_any (ldrB rep stamp) A3 m3 c3 w3.heap.size w3 ho3.rd hm3 (Nat.le_refl _) (by rw [← hm3]; exact ldrB_len rep stamp (by omega) (by omega) (by omega)) hcap.1 hcap.2
    rw [ldrR_put rep stamp (by omega) (by omega) (by omega)] at h
    exact h
  have HB3 := Lib.hid (HB1.out.trans (hb3.mono HB1.out.size))
  have bX3 := bX1.below hb3 bX1.lt
  clear c0 c1 bX1 HE HB1 ho3 hb3 hm3 hcap hz1
  go_wp2_with fail
  refine (HDc.out).mono ?_
  rintro e w4 ⟨rfl, hb4⟩
  have HB4 := Lib.hid (HB3.out.trans (hb4.mono HB3.out.size))
  have bX4 := bX3.below hb4 bX3.lt
  have c0 := bX4.cell (j := 0) rfl
  have c1 := bX4.cell (j := 1) rfl
  have hz4 := bX4.lt
  clear HB3 HDc bX3 hb4
  go_wp2_with fail
  refine ((HD0 _).out).mono ?_
  rintro e w5 ⟨rfl, hb5⟩
  have HB5 := Lib.hid ((HB4.out.alloc HB4.out.size (.cells #[.string rep, .int .i64 stamp] 23)).trans (hb5.mono (by have := HB4.out.size; simp; omega)))
  have bX5 := (bX4.alloc (.cells #[.string rep, .int .i64 stamp] 23)).below hb5 (by simp; omega)
  have ht5 := htab.below HB5.out
  clear c0 c1 HB4 bX4 hb5
  have c0 := bX5.cell (j := 0) rfl
  have c1 := bX5.cell (j := 1) rfl
  go_wp2_with fail
  refine ((HA _ ht5).out).mono ?_
  rintro e w6 ⟨rfl, hb6⟩
  go_wp2_with fail
  go_ret
  exact ⟨rfl, HB5.out.trans (hb6.mono HB5.out.size)⟩
set_option maxRecDepth 100000 in
set_option maxHeartbeats 4000000 in
theorem haOne_ww00 (rep : ByteArray) (stamp now refresh failover : Int) (w : World) (htab : Tab10 w) (hrep : rep.size ≤ 140737488351232) (h1 : -1099511627776 ≤ stamp) (h2 : stamp ≤ 1099511627776) (h3 : -1099511627776 ≤ now) (h4 : now ≤ 1099511627776) (hr : ¬ refresh ≤ now - stamp) (hf : ¬ failover ≤ now - stamp) :
    Calls Tryd.prog 4 #[.agg #[.string rep, .int .i64 stamp], .string rep, .string rep, .int .i64 now, .int .i64 refresh, .int .i64 failover] w fun e w' => e = .returned (.bool true) ∧ Below w.heap.size w w' := by
  have HD0 : ∀ W : World, Hid (Calls Tryd.prog 16 #[.bool true, .agg #[.string rep, .int .i64 stamp], .string rep, .int .i64 now, .int .i64 refresh, .int .i64 failover] W fun e w' => e = .returned (.int .i64 0) ∧ Below W.heap.size W w') := fun W => by
    have h := decide_any true rep rep stamp now refresh failover W (by omega) (by omega) (by omega) (by omega)
    rw [decR_own, if_neg hr] at h
    exact h
  have HE := fun (W : World) => Lib.hid (encode_any rep stamp W (by omega) (by omega) (by omega))
  have HA := fun (W : World) (h : Tab10 W) => Lib.hid (hawake_any W h)
  have hrd : decide (refresh ≤ now - stamp) = false := decide_eq_false hr
  have hfd : decide (failover ≤ now - stamp) = false := decide_eq_false hf
  have hbn : Hid (Below w.heap.size w (w.alloc (.cells #[.string rep, .int .i64 stamp] 23))) := (Below.refl _ _).alloc (Nat.le_refl _) _
  have bX := Blk.new w 23 [.string rep, .int .i64 stamp]
  clear hr hf
  have heq := neq_ldr rep stamp rep stamp
  have hself : ldrEq rep stamp rep stamp = true := ldrEq_iff.2 ⟨rfl, rfl⟩
  rw [hself] at heq
  have hgl := guard_ldr
  go_enter Tryd.func4, Tryd.ntmps4
  go_wp2_with fail
  generalize hW : World.alloc _ _ = W0
  have bX0 : Blk W0 w.heap.size 23 [.string rep, .int .i64 stamp] := by rw [← hW]; exact bX
  have HB0 : Hid (Below w.heap.size w W0) := by show Below _ _ _; rw [← hW]; exact hbn.out
  clear hW bX hbn
  have c0 := later_cell bX0 (j := 0) rfl
  have c1 := later_cell bX0 (j := 1) rfl
  refine wp_region_later (by kernel_rfl) (by kernel_rfl) ?_
  repeat (any_goals (first | go_big_quiet_step ((first | (go_at_call 16; with_reducible exact later_call (HD0 _).out))) | quiet_step ((first | (go_at_call 16; with_reducible exact later_call (HD0 _).out))) | (refine wpQuiet_step (fun K hK => ?_); go_simp; split <;> (refine hK _ ?_; clear hK K))))
  all_goals (refine wpQuiet_nil ?_; intro _ hw'; obtain ⟨z, rfl⟩ := hw')
  have HB1 := Lib.hid (HB0.out.trans ((later_below z).mono HB0.out.size))
  have bX1 := later_blk bX0 z
  clear c0 c1 bX0 HB0
  generalize later W0 z = W1 at *
  have c0 := bX1.cell (j := 0) rfl
  have c1 := bX1.cell (j := 1) rfl
  have hz1 := bX1.lt
  go_wp2_with fail
  refine ((HE _).out).mono ?_
  rintro e w3 ⟨A3, m3, c3, hm3, rfl, ho3, hb3⟩
  have hcap := ho3.cap
  have HDc : Hid (Calls Tryd.prog 8 #[.slice A3 m3 c3] w3 fun e w' => e = .returned (.tuple #[.agg #[.string rep, .int .i64 stamp], .int .i64 0]) ∧ Below w3.heap.size w3 w') := by
    have h := decode_any (ldrB rep stamp) A3 m3 c3 w3.heap.size w3 ho3.rd hm3 (Nat.le_refl _) (by rw [← hm3]; exact ldrB_len rep stamp (by omega) (by omega) (by omega)) hcap.1 hcap.2
    rw [ldrR_put rep stamp (by omega) (by omega) (by omega)] at h
    exact h
  have HB3 := Lib.hid (HB1.out.trans (hb3.mono HB1.out.size))
  have bX3 := bX1.below hb3 bX1.lt
  clear c0 c1 bX1 HE HB1 ho3 hb3 hm3 hcap hz1
  go_wp2_with fail
  refine (HDc.out).mono ?_
  rintro e w4 ⟨rfl, hb4⟩
  have HB4 := Lib.hid (HB3.out.trans (hb4.mono HB3.out.size))
  have bX4 := bX3.below hb4 bX3.lt
  have c0 := bX4.cell (j := 0) rfl
  have c1 := bX4.cell (j := 1) rfl
  have hz4 := bX4.lt
  clear HB3 HDc bX3 hb4
  go_wp2_with fail
  refine ((HD0 _).out).mono ?_
  rintro e w5 ⟨rfl, hb5⟩
  have HB5 := Lib.hid ((HB4.out.alloc HB4.out.size (.cells #[.string rep, .int .i64 stamp] 23)).trans (hb5.mono (by have := HB4.out.size; simp; omega)))
  have bX5 := (bX4.alloc (.cells #[.string rep, .int .i64 stamp] 23)).below hb5 (by simp; omega)
  have ht5 := htab.below HB5.out
  clear c0 c1 HB4 bX4 hb5
  have c0 := bX5.cell (j := 0) rfl
  have c1 := bX5.cell (j := 1) rfl
  go_wp2_with fail
  refine ((HA _ ht5).out).mono ?_
  rintro e w6 ⟨rfl, hb6⟩
  go_wp2_with fail
  go_ret
  exact ⟨rfl, HB5.out.trans (hb6.mono HB5.out.size)⟩
set_option maxRecDepth 100000 in
set_option maxHeartbeats 4000000 in
theorem haOne_wt11 (rep b : ByteArray) (stamp now refresh failover : Int) (w : World) (htab : Tab10 w) (hrep : rep.size ≤ 140737488351232) (h1 : -1099511627776 ≤ stamp) (h2 : stamp ≤ 1099511627776) (h3 : -1099511627776 ≤ now) (h4 : now ≤ 1099511627776) (hb : ¬ rep = b) (hr :  refresh ≤ now - stamp) (hf :  failover ≤ now - stamp) :
    Calls Tryd.prog 4 #[.agg #[.string rep, .int .i64 stamp], .string rep, .string b, .int .i64 now, .int .i64 refresh, .int .i64 failover] w fun e w' => e = .returned (.bool true) ∧ Below w.heap.size w w' := by
  have HD0 : ∀ W : World, Hid (Calls Tryd.prog 16 #[.bool true, .agg #[.string rep, .int .i64 stamp], .string rep, .int .i64 now, .int .i64 refresh, .int .i64 failover] W fun e w' => e = .returned (.int .i64 1) ∧ Below W.heap.size W w') := fun W => by
    have h := decide_any true rep rep stamp now refresh failover W (by omega) (by omega) (by omega) (by omega)
    rw [decR_own, if_pos hr] at h
    exact h
  have HD2 : ∀ W : World, Hid (Calls Tryd.prog 16 #[.bool true, .agg #[.string rep, .int .i64 stamp], .string b, .int .i64 now, .int .i64 refresh, .int .i64 failover] W fun e w' => e = .returned (.int .i64 2) ∧ Below W.heap.size W w') := fun W => by
    have h := decide_any true rep b stamp now refresh failover W (by omega) (by omega) (by omega) (by omega)
    rw [decR_other hb, if_pos hf] at h
    exact h
  have HE := fun (W : World) => Lib.hid (encode_any rep stamp W (by omega) (by omega) (by omega))
  have HA := fun (W : World) (h : Tab10 W) => Lib.hid (hawake_any W h)
  have hrd : decide (refresh ≤ now - stamp) = true := decide_eq_true hr
  have hfd : decide (failover ≤ now - stamp) = true := decide_eq_true hf
  have hbn : Hid (Below w.heap.size w (w.alloc (.cells #[.string rep, .int .i64 stamp] 23))) := (Below.refl _ _).alloc (Nat.le_refl _) _
  have bX := Blk.new w 23 [.string rep, .int .i64 stamp]
  clear hr hf hb
  have heq := neq_ldr rep stamp rep stamp
  have hself : ldrEq rep stamp rep stamp = true := ldrEq_iff.2 ⟨rfl, rfl⟩
  rw [hself] at heq
  have hgl := guard_ldr
  go_enter Tryd.func4, Tryd.ntmps4
  go_wp2_with fail
  generalize hW : World.alloc _ _ = W0
  have bX0 : Blk W0 w.heap.size 23 [.string rep, .int .i64 stamp] := by rw [← hW]; exact bX
  have HB0 : Hid (Below w.heap.size w W0) := by show Below _ _ _; rw [← hW]; exact hbn.out
  clear hW bX hbn
  have c0 := later_cell bX0 (j := 0) rfl
  have c1 := later_cell bX0 (j := 1) rfl
  refine wp_region_later (by kernel_rfl) (by kernel_rfl) ?_
  repeat (any_goals (first | go_big_quiet_step ((first | (go_at_call 16; with_reducible exact later_call (HD0 _).out) | (go_at_call 16; with_reducible exact later_call (HD2 _).out))) | quiet_step ((first | (go_at_call 16; with_reducible exact later_call (HD0 _).out) | (go_at_call 16; with_reducible exact later_call (HD2 _).out))) | (refine wpQuiet_step (fun K hK => ?_); go_simp; split <;> (refine hK _ ?_; clear hK K))))
  all_goals (refine wpQuiet_nil ?_; intro _ hw'; obtain ⟨z, rfl⟩ := hw')
  have HB1 := Lib.hid (HB0.out.trans ((later_below z).mono HB0.out.size))
  have bX1 := later_blk bX0 z
  clear c0 c1 bX0 HB0
  generalize later W0 z = W1 at *
  have c0 := bX1.cell (j := 0) rfl
  have c1 := bX1.cell (j := 1) rfl
  have hz1 := bX1.lt
  go_wp2_with fail
  refine ((HE _).out).mono ?_
  rintro e w3 ⟨A3, m3, c3, hm3, rfl, ho3, hb3⟩
  have hcap := ho3.cap
  have HDc : Hid (Calls Tryd.prog 8 #[.slice A3 m3 c3] w3 fun e w' => e = .returned (.tuple #[.agg #[.string rep, .int .i64 stamp], .int .i64 0]) ∧ Below w3.heap.size w3 w') := by
    have h := decode_any (ldrB rep stamp) A3 m3 c3 w3.heap.size w3 ho3.rd hm3 (Nat.le_refl _) (by rw [← hm3]; exact ldrB_len rep stamp (by omega) (by omega) (by omega)) hcap.1 hcap.2
    rw [ldrR_put rep stamp (by omega) (by omega) (by omega)] at h
    exact h
  have HB3 := Lib.hid (HB1.out.trans (hb3.mono HB1.out.size))
  have bX3 := bX1.below hb3 bX1.lt
  clear c0 c1 bX1 HE HB1 ho3 hb3 hm3 hcap hz1
  go_wp2_with fail
  refine (HDc.out).mono ?_
  rintro e w4 ⟨rfl, hb4⟩
  have HB4 := Lib.hid (HB3.out.trans (hb4.mono HB3.out.size))
  have bX4 := bX3.below hb4 bX3.lt
  have c0 := bX4.cell (j := 0) rfl
  have c1 := bX4.cell (j := 1) rfl
  have hz4 := bX4.lt
  clear HB3 HDc bX3 hb4
  go_wp2_with fail
  refine ((HD0 _).out).mono ?_
  rintro e w5 ⟨rfl, hb5⟩
  have HB5 := Lib.hid ((HB4.out.alloc HB4.out.size (.cells #[.string rep, .int .i64 stamp] 23)).trans (hb5.mono (by have := HB4.out.size; simp; omega)))
  have bX5 := (bX4.alloc (.cells #[.string rep, .int .i64 stamp] 23)).below hb5 (by simp; omega)
  have ht5 := htab.below HB5.out
  clear c0 c1 HB4 bX4 hb5
  have c0 := bX5.cell (j := 0) rfl
  have c1 := bX5.cell (j := 1) rfl
  go_wp2_with fail
  refine ((HA _ ht5).out).mono ?_
  rintro e w6 ⟨rfl, hb6⟩
  go_wp2_with fail
  go_ret
  exact ⟨rfl, HB5.out.trans (hb6.mono HB5.out.size)⟩
set_option maxRecDepth 100000 in
set_option maxHeartbeats 4000000 in
theorem haOne_wt10 (rep b : ByteArray) (stamp now refresh failover : Int) (w : World) (htab : Tab10 w) (hrep : rep.size ≤ 140737488351232) (h1 : -1099511627776 ≤ stamp) (h2 : stamp ≤ 1099511627776) (h3 : -1099511627776 ≤ now) (h4 : now ≤ 1099511627776) (hb : ¬ rep = b) (hr :  refresh ≤ now - stamp) (hf : ¬ failover ≤ now - stamp) :
    Calls Tryd.prog 4 #[.agg #[.string rep, .int .i64 stamp], .string rep, .string b, .int .i64 now, .int .i64 refresh, .int .i64 failover] w fun e w' => e = .returned (.bool true) ∧ Below w.heap.size w w' := by
  have HD0 : ∀ W : World, Hid (Calls Tryd.prog 16 #[.bool true, .agg #[.string rep, .int .i64 stamp], .string rep, .int .i64 now, .int .i64 refresh, .int .i64 failover] W fun e w' => e = .returned (.int .i64 1) ∧ Below W.heap.size W w') := fun W => by
    have h := decide_any true rep rep stamp now refresh failover W (by omega) (by omega) (by omega) (by omega)
    rw [decR_own, if_pos hr] at h
    exact h
  have HD2 : ∀ W : World, Hid (Calls Tryd.prog 16 #[.bool true, .agg #[.string rep, .int .i64 stamp], .string b, .int .i64 now, .int .i64 refresh, .int .i64 failover] W fun e w' => e = .returned (.int .i64 3) ∧ Below W.heap.size W w') := fun W => by
    have h := decide_any true rep b stamp now refresh failover W (by omega) (by omega) (by omega) (by omega)
    rw [decR_other hb, if_neg hf] at h
    exact h
  have HE := fun (W : World) => Lib.hid (encode_any rep stamp W (by omega) (by omega) (by omega))
  have HA := fun (W : World) (h : Tab10 W) => Lib.hid (hawake_any W h)
  have hrd : decide (refresh ≤ now - stamp) = true := decide_eq_true hr
  have hfd : decide (failover ≤ now - stamp) = false := decide_eq_false hf
  have hbn : Hid (Below w.heap.size w (w.alloc (.cells #[.string rep, .int .i64 stamp] 23))) := (Below.refl _ _).alloc (Nat.le_refl _) _
  have bX := Blk.new w 23 [.string rep, .int .i64 stamp]
  clear hr hf hb
  have heq := neq_ldr rep stamp rep stamp
  have hself : ldrEq rep stamp rep stamp = true := ldrEq_iff.2 ⟨rfl, rfl⟩
  rw [hself] at heq
  have hgl := guard_ldr
  go_enter Tryd.func4, Tryd.ntmps4
  go_wp2_with fail
  generalize hW : World.alloc _ _ = W0
  have bX0 : Blk W0 w.heap.size 23 [.string rep, .int .i64 stamp] := by rw [← hW]; exact bX
  have HB0 : Hid (Below w.heap.size w W0) := by show Below _ _ _; rw [← hW]; exact hbn.out
  clear hW bX hbn
  have c0 := later_cell bX0 (j := 0) rfl
  have c1 := later_cell bX0 (j := 1) rfl
  refine wp_region_later (by kernel_rfl) (by kernel_rfl) ?_
  repeat (any_goals (first | go_big_quiet_step ((first | (go_at_call 16; with_reducible exact later_call (HD0 _).out) | (go_at_call 16; with_reducible exact later_call (HD2 _).out))) | quiet_step ((first | (go_at_call 16; with_reducible exact later_call (HD0 _).out) | (go_at_call 16; with_reducible exact later_call (HD2 _).out))) | (refine wpQuiet_step (fun K hK => ?_); go_simp; split <;> (refine hK _ ?_; clear hK K))))
  all_goals (refine wpQuiet_nil ?_; intro _ hw'; obtain ⟨z, rfl⟩ := hw')
  have HB1 := Lib.hid (HB0.out.trans ((later_below z).mono HB0.out.size))
  have bX1 := later_blk bX0 z
  clear c0 c1 bX0 HB0
  generalize later W0 z = W1 at *
  have c0 := bX1.cell (j := 0) rfl
  have c1 := bX1.cell (j := 1) rfl
  have hz1 := bX1.lt
  go_wp2_with fail
  refine ((HE _).out).mono ?_
  rintro e w3 ⟨A3, m3, c3, hm3, rfl, ho3, hb3⟩
  have hcap := ho3.cap
  have HDc : Hid (Calls Tryd.prog 8 #[.slice A3 m3 c3] w3 fun e w' => e = .returned (.tuple #[.agg #[.string rep, .int .i64 stamp], .int .i64 0]) ∧ Below w3.heap.size w3 w') := by
    have h := decode_any (ldrB rep stamp) A3 m3 c3 w3.heap.size w3 ho3.rd hm3 (Nat.le_refl _) (by rw [← hm3]; exact ldrB_len rep stamp (by omega) (by omega) (by omega)) hcap.1 hcap.2
    rw [ldrR_put rep stamp (by omega) (by omega) (by omega)] at h
    exact h
  have HB3 := Lib.hid (HB1.out.trans (hb3.mono HB1.out.size))
  have bX3 := bX1.below hb3 bX1.lt
  clear c0 c1 bX1 HE HB1 ho3 hb3 hm3 hcap hz1
  go_wp2_with fail
  refine (HDc.out).mono ?_
  rintro e w4 ⟨rfl, hb4⟩
  have HB4 := Lib.hid (HB3.out.trans (hb4.mono HB3.out.size))
  have bX4 := bX3.below hb4 bX3.lt
  have c0 := bX4.cell (j := 0) rfl
  have c1 := bX4.cell (j := 1) rfl
  have hz4 := bX4.lt
  clear HB3 HDc bX3 hb4
  go_wp2_with fail
  refine ((HD0 _).out).mono ?_
  rintro e w5 ⟨rfl, hb5⟩
  have HB5 := Lib.hid ((HB4.out.alloc HB4.out.size (.cells #[.string rep, .int .i64 stamp] 23)).trans (hb5.mono (by have := HB4.out.size; simp; omega)))
  have bX5 := (bX4.alloc (.cells #[.string rep, .int .i64 stamp] 23)).below hb5 (by simp; omega)
  have ht5 := htab.below HB5.out
  clear c0 c1 HB4 bX4 hb5
  have c0 := bX5.cell (j := 0) rfl
  have c1 := bX5.cell (j := 1) rfl
  go_wp2_with fail
  refine ((HA _ ht5).out).mono ?_
  rintro e w6 ⟨rfl, hb6⟩
  go_wp2_with fail
  go_ret
  exact ⟨rfl, HB5.out.trans (hb6.mono HB5.out.size)⟩
set_option maxRecDepth 100000 in
set_option maxHeartbeats 4000000 in
theorem haOne_wt01 (rep b : ByteArray) (stamp now refresh failover : Int) (w : World) (htab : Tab10 w) (hrep : rep.size ≤ 140737488351232) (h1 : -1099511627776 ≤ stamp) (h2 : stamp ≤ 1099511627776) (h3 : -1099511627776 ≤ now) (h4 : now ≤ 1099511627776) (hb : ¬ rep = b) (hr : ¬ refresh ≤ now - stamp) (hf :  failover ≤ now - stamp) :
    Calls Tryd.prog 4 #[.agg #[.string rep, .int .i64 stamp], .string rep, .string b, .int .i64 now, .int .i64 refresh, .int .i64 failover] w fun e w' => e = .returned (.bool true) ∧ Below w.heap.size w w' := by
  have HD0 : ∀ W : World, Hid (Calls Tryd.prog 16 #[.bool true, .agg #[.string rep, .int .i64 stamp], .string rep, .int .i64 now, .int .i64 refresh, .int .i64 failover] W fun e w' => e = .returned (.int .i64 0) ∧ Below W.heap.size W w') := fun W => by
    have h := decide_any true rep rep stamp now refresh failover W (by omega) (by omega) (by omega) (by omega)
    rw [decR_own, if_neg hr] at h
    exact h
  have HD2 : ∀ W : World, Hid (Calls Tryd.prog 16 #[.bool true, .agg #[.string rep, .int .i64 stamp], .string b, .int .i64 now, .int .i64 refresh, .int .i64 failover] W fun e w' => e = .returned (.int .i64 2) ∧ Below W.heap.size W w') := fun W => by
    have h := decide_any true rep b stamp now refresh failover W (by omega) (by omega) (by omega) (by omega)
    rw [decR_other hb, if_pos hf] at h
    exact h
  have HE := fun (W : World) => Lib.hid (encode_any rep stamp W (by omega) (by omega) (by omega))
  have HA := fun (W : World) (h : Tab10 W) => Lib.hid (hawake_any W h)
  have hrd : decide (refresh ≤ now - stamp) = false := decide_eq_false hr
  have hfd : decide (failover ≤ now - stamp) = true := decide_eq_true hf
  have hbn : Hid (Below w.heap.size w (w.alloc (.cells #[.string rep, .int .i64 stamp] 23))) := (Below.refl _ _).alloc (Nat.le_refl _) _
  have bX := Blk.new w 23 [.string rep, .int .i64 stamp]
  clear hr hf hb
  have heq := neq_ldr rep stamp rep stamp
  have hself : ldrEq rep stamp rep stamp = true := ldrEq_iff.2 ⟨rfl, rfl⟩
  rw [hself] at heq
  have hgl := guard_ldr
  go_enter Tryd.func4, Tryd.ntmps4
  go_wp2_with fail
  generalize hW : World.alloc _ _ = W0
  have bX0 : Blk W0 w.heap.size 23 [.string rep, .int .i64 stamp] := by rw [← hW]; exact bX
  have HB0 : Hid (Below w.heap.size w W0) := by show Below _ _ _; rw [← hW]; exact hbn.out
  clear hW bX hbn
  have c0 := later_cell bX0 (j := 0) rfl
  have c1 := later_cell bX0 (j := 1) rfl
  refine wp_region_later (by kernel_rfl) (by kernel_rfl) ?_
  repeat (any_goals (first | go_big_quiet_step ((first | (go_at_call 16; with_reducible exact later_call (HD0 _).out) | (go_at_call 16; with_reducible exact later_call (HD2 _).out))) | quiet_step ((first | (go_at_call 16; with_reducible exact later_call (HD0 _).out) | (go_at_call 16; with_reducible exact later_call (HD2 _).out))) | (refine wpQuiet_step (fun K hK => ?_); go_simp; split <;> (refine hK _ ?_; clear hK K))))
  all_goals (refine wpQuiet_nil ?_; intro _ hw'; obtain ⟨z, rfl⟩ := hw')
  have HB1 := Lib.hid (HB0.out.trans ((later_below z).mono HB0.out.size))
  have bX1 := later_blk bX0 z
  clear c0 c1 bX0 HB0
  generalize later W0 z = W1 at *
  have c0 := bX1.cell (j := 0) rfl
  have c1 := bX1.cell (j := 1) rfl
  have hz1 := bX1.lt
  go_wp2_with fail
  refine ((HE _).out).mono ?_
  rintro e w3 ⟨A3, m3, c3, hm3, rfl, ho3, hb3⟩
  have hcap := ho3.cap
  have HDc : Hid (Calls Tryd.prog 8 #[.slice A3 m3 c3] w3 fun e w' => e = .returned (.tuple #[.agg #[.string rep, .int .i64 stamp], .int .i64 0]) ∧ Below w3.heap.size w3 w') := by
    have h := decode_any (ldrB rep stamp) A3 m3 c3 w3.heap.size w3 ho3.rd hm3 (Nat.le_refl _) (by rw [← hm3]; exact ldrB_len rep stamp (by omega) (by omega) (by omega)) hcap.1 hcap.2
    rw [ldrR_put rep stamp (by omega) (by omega) (by omega)] at h
    exact h
  have HB3 := Lib.hid (HB1.out.trans (hb3.mono HB1.out.size))
  have bX3 := bX1.below hb3 bX1.lt
  clear c0 c1 bX1 HE HB1 ho3 hb3 hm3 hcap hz1
  go_wp2_with fail
  refine (HDc.out).mono ?_
  rintro e w4 ⟨rfl, hb4⟩
  have HB4 := Lib.hid (HB3.out.trans (hb4.mono HB3.out.size))
  have bX4 := bX3.below hb4 bX3.lt
  have c0 := bX4.cell (j := 0) rfl
  have c1 := bX4.cell (j := 1) rfl
  have hz4 := bX4.lt
  clear HB3 HDc bX3 hb4
  go_wp2_with fail
  refine ((HD0 _).out).mono ?_
  rintro e w5 ⟨rfl, hb5⟩
  have HB5 := Lib.hid ((HB4.out.alloc HB4.out.size (.cells #[.string rep, .int .i64 stamp] 23)).trans (hb5.mono (by have := HB4.out.size; simp; omega)))
  have bX5 := (bX4.alloc (.cells #[.string rep, .int .i64 stamp] 23)).below hb5 (by simp; omega)
  have ht5 := htab.below HB5.out
  clear c0 c1 HB4 bX4 hb5
  have c0 := bX5.cell (j := 0) rfl
  have c1 := bX5.cell (j := 1) rfl
  go_wp2_with fail
  refine ((HA _ ht5).out).mono ?_
  rintro e w6 ⟨rfl, hb6⟩
  go_wp2_with fail
  go_ret
  exact ⟨rfl, HB5.out.trans (hb6.mono HB5.out.size)⟩
set_option maxRecDepth 100000 in
set_option maxHeartbeats 4000000 in
theorem haOne_wt00 (rep b : ByteArray) (stamp now refresh failover : Int) (w : World) (htab : Tab10 w) (hrep : rep.size ≤ 140737488351232) (h1 : -1099511627776 ≤ stamp) (h2 : stamp ≤ 1099511627776) (h3 : -1099511627776 ≤ now) (h4 : now ≤ 1099511627776) (hb : ¬ rep = b) (hr : ¬ refresh ≤ now - stamp) (hf : ¬ failover ≤ now - stamp) :
    Calls Tryd.prog 4 #[.agg #[.string rep, .int .i64 stamp], .string rep, .string b, .int .i64 now, .int .i64 refresh, .int .i64 failover] w fun e w' => e = .returned (.bool true) ∧ Below w.heap.size w w' := by
  have HD0 : ∀ W : World, Hid (Calls Tryd.prog 16 #[.bool true, .agg #[.string rep, .int .i64 stamp], .string rep, .int .i64 now, .int .i64 refresh, .int .i64 failover] W fun e w' => e = .returned (.int .i64 0) ∧ Below W.heap.size W w') := fun W => by
    have h := decide_any true rep rep stamp now refresh failover W (by omega) (by omega) (by omega) (by omega)
    rw [decR_own, if_neg hr] at h
    exact h
  have HD2 : ∀ W : World, Hid (Calls Tryd.prog 16 #[.bool true, .agg #[.string rep, .int .i64 stamp], .string b, .int .i64 now, .int .i64 refresh, .int .i64 failover] W fun e w' => e = .returned (.int .i64 3) ∧ Below W.heap.size W w') := fun W => by
    have h := decide_any true rep b stamp now refresh failover W (by omega) (by omega) (by omega) (by omega)
    rw [decR_other hb, if_neg hf] at h
    exact h
  have HE := fun (W : World) => Lib.hid (encode_any rep stamp W (by omega) (by omega) (by omega))
  have HA := fun (W : World) (h : Tab10 W) => Lib.hid (hawake_any W h)
  have hrd : decide (refresh ≤ now - stamp) = false := decide_eq_false hr
  have hfd : decide (failover ≤ now - stamp) = false := decide_eq_false hf
  have hbn : Hid (Below w.heap.size w (w.alloc (.cells #[.string rep, .int .i64 stamp] 23))) := (Below.refl _ _).alloc (Nat.le_refl _) _
  have bX := Blk.new w 23 [.string rep, .int .i64 stamp]
  clear hr hf hb
  have heq := neq_ldr rep stamp rep stamp
  have hself : ldrEq rep stamp rep stamp = true := ldrEq_iff.2 ⟨rfl, rfl⟩
  rw [hself] at heq
  have hgl := guard_ldr
  go_enter Tryd.func4, Tryd.ntmps4
  go_wp2_with fail
  generalize hW : World.alloc _ _ = W0
  have bX0 : Blk W0 w.heap.size 23 [.string rep, .int .i64 stamp] := by rw [← hW]; exact bX
  have HB0 : Hid (Below w.heap.size w W0) := by show Below _ _ _; rw [← hW]; exact hbn.out
  clear hW bX hbn
  have c0 := later_cell bX0 (j := 0) rfl
  have c1 := later_cell bX0 (j := 1) rfl
  refine wp_region_later (by kernel_rfl) (by kernel_rfl) ?_
  repeat (any_goals (first | go_big_quiet_step ((first | (go_at_call 16; with_reducible exact later_call (HD0 _).out) | (go_at_call 16; with_reducible exact later_call (HD2 _).out))) | quiet_step ((first | (go_at_call 16; with_reducible exact later_call (HD0 _).out) | (go_at_call 16; with_reducible exact later_call (HD2 _).out))) | (refine wpQuiet_step (fun K hK => ?_); go_simp; split <;> (refine hK _ ?_; clear hK K))))
  all_goals (refine wpQuiet_nil ?_; intro _ hw'; obtain ⟨z, rfl⟩ := hw')
  have HB1 := Lib.hid (HB0.out.trans ((later_below z).mono HB0.out.size))
  have bX1 := later_blk bX0 z
  clear c0 c1 bX0 HB0
  generalize later W0 z = W1 at *
  have c0 := bX1.cell (j := 0) rfl
  have c1 := bX1.cell (j := 1) rfl
  have hz1 := bX1.lt
  go_wp2_with fail
  refine ((HE _).out).mono ?_
  rintro e w3 ⟨A3, m3, c3, hm3, rfl, ho3, hb3⟩
  have hcap := ho3.cap
  have HDc : Hid (Calls Tryd.prog 8 #[.slice A3 m3 c3] w3 fun e w' => e = .returned (.tuple #[.agg #[.string rep, .int .i64 stamp], .int .i64 0]) ∧ Below w3.heap.size w3 w') := by
    have h := decode_any (ldrB rep stamp) A3 m3 c3 w3.heap.size w3 ho3.rd hm3 (Nat.le_refl _) (by rw [← hm3]; exact ldrB_len rep stamp (by omega) (by omega) (by omega)) hcap.1 hcap.2
    rw [ldrR_put rep stamp (by omega) (by omega) (by omega)] at h
    exact h
  have HB3 := Lib.hid (HB1.out.trans (hb3.mono HB1.out.size))
  have bX3 := bX1.below hb3 bX1.lt
  clear c0 c1 bX1 HE HB1 ho3 hb3 hm3 hcap hz1
  go_wp2_with fail
  refine (HDc.out).mono ?_
  rintro e w4 ⟨rfl, hb4⟩
  have HB4 := Lib.hid (HB3.out.trans (hb4.mono HB3.out.size))
  have bX4 := bX3.below hb4 bX3.lt
  have c0 := bX4.cell (j := 0) rfl
  have c1 := bX4.cell (j := 1) rfl
  have hz4 := bX4.lt
  clear HB3 HDc bX3 hb4
  go_wp2_with fail
  refine ((HD0 _).out).mono ?_
  rintro e w5 ⟨rfl, hb5⟩
  have HB5 := Lib.hid ((HB4.out.alloc HB4.out.size (.cells #[.string rep, .int .i64 stamp] 23)).trans (hb5.mono (by have := HB4.out.size; simp; omega)))
  have bX5 := (bX4.alloc (.cells #[.string rep, .int .i64 stamp] 23)).below hb5 (by simp; omega)
  have ht5 := htab.below HB5.out
  clear c0 c1 HB4 bX4 hb5
  have c0 := bX5.cell (j := 0) rfl
  have c1 := bX5.cell (j := 1) rfl
  go_wp2_with fail
  refine ((HA _ ht5).out).mono ?_
  rintro e w6 ⟨rfl, hb6⟩
  go_wp2_with fail
  go_ret
  exact ⟨rfl, HB5.out.trans (hb6.mono HB5.out.size)⟩
set_option maxRecDepth 100000 in
set_option maxHeartbeats 4000000 in
theorem haOne_tw11 (rep a : ByteArray) (stamp now refresh failover : Int) (w : World) (htab : Tab10 w) (hrep : rep.size ≤ 140737488351232) (h1 : -1099511627776 ≤ stamp) (h2 : stamp ≤ 1099511627776) (h3 : -1099511627776 ≤ now) (h4 : now ≤ 1099511627776) (ha : ¬ rep = a) (hr :  refresh ≤ now - stamp) (hf :  failover ≤ now - stamp) :
    Calls Tryd.prog 4 #[.agg #[.string rep, .int .i64 stamp], .string a, .string rep, .int .i64 now, .int .i64 refresh, .int .i64 failover] w fun e w' => e = .returned (.bool true) ∧ Below w.heap.size w w' := by
  have HD0 : ∀ W : World, Hid (Calls Tryd.prog 16 #[.bool true, .agg #[.string rep, .int .i64 stamp], .string rep, .int .i64 now, .int .i64 refresh, .int .i64 failover] W fun e w' => e = .returned (.int .i64 1) ∧ Below W.heap.size W w') := fun W => by
    have h := decide_any true rep rep stamp now refresh failover W (by omega) (by omega) (by omega) (by omega)
    rw [decR_own, if_pos hr] at h
    exact h
  have HD1 : ∀ W : World, Hid (Calls Tryd.prog 16 #[.bool true, .agg #[.string rep, .int .i64 stamp], .string a, .int .i64 now, .int .i64 refresh, .int .i64 failover] W fun e w' => e = .returned (.int .i64 2) ∧ Below W.heap.size W w') := fun W => by
    have h := decide_any true rep a stamp now refresh failover W (by omega) (by omega) (by omega) (by omega)
    rw [decR_other ha, if_pos hf] at h
    exact h
  have HE := fun (W : World) => Lib.hid (encode_any rep stamp W (by omega) (by omega) (by omega))
  have HA := fun (W : World) (h : Tab10 W) => Lib.hid (hawake_any W h)
  have hrd : decide (refresh ≤ now - stamp) = true := decide_eq_true hr
  have hfd : decide (failover ≤ now - stamp) = true := decide_eq_true hf
  have ea : (a.toList == rep.toList) = false := by rw [beq_toList]; exact decide_eq_false (fun e => ha e.symm)
  have hbn : Hid (Below w.heap.size w (w.alloc (.cells #[.string rep, .int .i64 stamp] 23))) := (Below.refl _ _).alloc (Nat.le_refl _) _
  have bX := Blk.new w 23 [.string rep, .int .i64 stamp]
  clear hr hf ha
  have heq := neq_ldr rep stamp rep stamp
  have hself : ldrEq rep stamp rep stamp = true := ldrEq_iff.2 ⟨rfl, rfl⟩
  rw [hself] at heq
  have hgl := guard_ldr
  go_enter Tryd.func4, Tryd.ntmps4
  go_wp2_with fail
  generalize hW : World.alloc _ _ = W0
  have bX0 : Blk W0 w.heap.size 23 [.string rep, .int .i64 stamp] := by rw [← hW]; exact bX
  have HB0 : Hid (Below w.heap.size w W0) := by show Below _ _ _; rw [← hW]; exact hbn.out
  clear hW bX hbn
  have c0 := later_cell bX0 (j := 0) rfl
  have c1 := later_cell bX0 (j := 1) rfl
  refine wp_region_later (by kernel_rfl) (by kernel_rfl) ?_
  repeat (any_goals (first | go_big_quiet_step ((first | (go_at_call 16; with_reducible exact later_call (HD0 _).out) | (go_at_call 16; with_reducible exact later_call (HD1 _).out))) | quiet_step ((first | (go_at_call 16; with_reducible exact later_call (HD0 _).out) | (go_at_call 16; with_reducible exact later_call (HD1 _).out))) | (refine wpQuiet_step (fun K hK => ?_); go_simp; split <;> (refine hK _ ?_; clear hK K))))
  all_goals (refine wpQuiet_nil ?_; intro _ hw'; obtain ⟨z, rfl⟩ := hw')
  have HB1 := Lib.hid (HB0.out.trans ((later_below z).mono HB0.out.size))
  have bX1 := later_blk bX0 z
  clear c0 c1 bX0 HB0
  generalize later W0 z = W1 at *
  have c0 := bX1.cell (j := 0) rfl
  have c1 := bX1.cell (j := 1) rfl
  have hz1 := bX1.lt
  go_wp2_with fail
  refine ((HE _).out).mono ?_
  rintro e w3 ⟨A3, m3, c3, hm3, rfl, ho3, hb3⟩
  have hcap := ho3.cap
  have HDc : Hid (Calls Tryd.prog 8 #[.slice A3 m3 c3] w3 fun e w' => e = .returned (.tuple #[.agg #[.string rep, .int .i64 stamp], .int .i64 0]) ∧ Below w3.heap.size w3 w') := by
    have h := decode_any (ldrB rep stamp) A3 m3 c3 w3.heap.size w3 ho3.rd hm3 (Nat.le_refl _) (by rw [← hm3]; exact ldrB_len rep stamp (by omega) (by omega) (by omega)) hcap.1 hcap.2
    rw [ldrR_put rep stamp (by omega) (by omega) (by omega)] at h
    exact h
  have HB3 := Lib.hid (HB1.out.trans (hb3.mono HB1.out.size))
  have bX3 := bX1.below hb3 bX1.lt
  clear c0 c1 bX1 HE HB1 ho3 hb3 hm3 hcap hz1
  go_wp2_with fail
  refine (HDc.out).mono ?_
  rintro e w4 ⟨rfl, hb4⟩
  have HB4 := Lib.hid (HB3.out.trans (hb4.mono HB3.out.size))
  have bX4 := bX3.below hb4 bX3.lt
  have c0 := bX4.cell (j := 0) rfl
  have c1 := bX4.cell (j := 1) rfl
  have hz4 := bX4.lt
  clear HB3 HDc bX3 hb4
  go_wp2_with fail
  refine ((HD0 _).out).mono ?_
  rintro e w5 ⟨rfl, hb5⟩
  have HB5 := Lib.hid ((HB4.out.alloc HB4.out.size (.cells #[.string rep, .int .i64 stamp] 23)).trans (hb5.mono (by have := HB4.out.size; simp; omega)))
  have bX5 := (bX4.alloc (.cells #[.string rep, .int .i64 stamp] 23)).below hb5 (by simp; omega)
  have ht5 := htab.below HB5.out
  clear c0 c1 HB4 bX4 hb5
  have c0 := bX5.cell (j := 0) rfl
  have c1 := bX5.cell (j := 1) rfl
  go_wp2_with fail
  refine ((HA _ ht5).out).mono ?_
  rintro e w6 ⟨rfl, hb6⟩
  go_wp2_with fail
  go_ret
  exact ⟨rfl, HB5.out.trans (hb6.mono HB5.out.size)⟩
set_option maxRecDepth 100000 in
set_option maxHeartbeats 4000000 in
theorem haOne_tw10 (rep a : ByteArray) (stamp now refresh failover : Int) (w : World) (htab : Tab10 w) (hrep : rep.size ≤ 140737488351232) (h1 : -1099511627776 ≤ stamp) (h2 : stamp ≤ 1099511627776) (h3 : -1099511627776 ≤ now) (h4 : now ≤ 1099511627776) (ha : ¬ rep = a) (hr :  refresh ≤ now - stamp) (hf : ¬ failover ≤ now - stamp) :
    Calls Tryd.prog 4 #[.agg #[.string rep, .int .i64 stamp], .string a, .string rep, .int .i64 now, .int .i64 refresh, .int .i64 failover] w fun e w' => e = .returned (.bool true) ∧ Below w.heap.size w w' := by
  have HD0 : ∀ W : World, Hid (Calls Tryd.prog 16 #[.bool true, .agg #[.string rep, .int .i64 stamp], .string rep, .int .i64 now, .int .i64 refresh, .int .i64 failover] W fun e w' => e = .returned (.int .i64 1) ∧ Below W.heap.size W w') := fun W => by
    have h := decide_any true rep rep stamp now refresh failover W (by omega) (by omega) (by omega) (by omega)
    rw [decR_own, if_pos hr] at h
    exact h
  have HD1 : ∀ W : World, Hid (Calls Tryd.prog 16 #[.bool true, .agg #[.string rep, .int .i64 stamp], .string a, .int .i64 now, .int .i64 refresh, .int .i64 failover] W fun e w' => e = .returned (.int .i64 3) ∧ Below W.heap.size W w') := fun W => by
    have h := decide_any true rep a stamp now refresh failover W (by omega) (by omega) (by omega) (by omega)
    rw [decR_other ha, if_neg hf] at h
    exact h
  have HE := fun (W : World) => Lib.hid (encode_any rep stamp W (by omega) (by omega) (by omega))
  have HA := fun (W : World) (h : Tab10 W) => Lib.hid (hawake_any W h)
  have hrd : decide (refresh ≤ now - stamp) = true := decide_eq_true hr
  have hfd : decide (failover ≤ now - stamp) = false := decide_eq_false hf
  have ea : (a.toList == rep.toList) = false := by rw [beq_toList]; exact decide_eq_false (fun e => ha e.symm)
  have hbn : Hid (Below w.heap.size w (w.alloc (.cells #[.string rep, .int .i64 stamp] 23))) := (Below.refl _ _).alloc (Nat.le_refl _) _
  have bX := Blk.new w 23 [.string rep, .int .i64 stamp]
  clear hr hf ha
  have heq := neq_ldr rep stamp rep stamp
  have hself : ldrEq rep stamp rep stamp = true := ldrEq_iff.2 ⟨rfl, rfl⟩
  rw [hself] at heq
  have hgl := guard_ldr
  go_enter Tryd.func4, Tryd.ntmps4
  go_wp2_with fail
  generalize hW : World.alloc _ _ = W0
  have bX0 : Blk W0 w.heap.size 23 [.string rep, .int .i64 stamp] := by rw [← hW]; exact bX
  have HB0 : Hid (Below w.heap.size w W0) := by show Below _ _ _; rw [← hW]; exact hbn.out
  clear hW bX hbn
  have c0 := later_cell bX0 (j := 0) rfl
  have c1 := later_cell bX0 (j := 1) rfl
  refine wp_region_later (by kernel_rfl) (by kernel_rfl) ?_
  repeat (any_goals (first | go_big_quiet_step ((first | (go_at_call 16; with_reducible exact later_call (HD0 _).out) | (go_at_call 16; with_reducible exact later_call (HD1 _).out))) | quiet_step ((first | (go_at_call 16; with_reducible exact later_call (HD0 _).out) | (go_at_call 16; with_reducible exact later_call (HD1 _).out))) | (refine wpQuiet_step (fun K hK => ?_); go_simp; split <;> (refine hK _ ?_; clear hK K))))
  all_goals (refine wpQuiet_nil ?_; intro _ hw'; obtain ⟨z, rfl⟩ := hw')
  have HB1 := Lib.hid (HB0.out.trans ((later_below z).mono HB0.out.size))
  have bX1 := later_blk bX0 z
  clear c0 c1 bX0 HB0
  generalize later W0 z = W1 at *
  have c0 := bX1.cell (j := 0) rfl
  have c1 := bX1.cell (j := 1) rfl
  have hz1 := bX1.lt
  go_wp2_with fail
  refine ((HE _).out).mono ?_
  rintro e w3 ⟨A3, m3, c3, hm3, rfl, ho3, hb3⟩
  have hcap := ho3.cap
  have HDc : Hid (Calls Tryd.prog 8 #[.slice A3 m3 c3] w3 fun e w' => e = .returned (.tuple #[.agg #[.string rep, .int .i64 stamp], .int .i64 0]) ∧ Below w3.heap.size w3 w') := by
    have h := decode_any (ldrB rep stamp) A3 m3 c3 w3.heap.size w3 ho3.rd hm3 (Nat.le_refl _) (by rw [← hm3]; exact ldrB_len rep stamp (by omega) (by omega) (by omega)) hcap.1 hcap.2
    rw [ldrR_put rep stamp (by omega) (by omega) (by omega)] at h
    exact h
  have HB3 := Lib.hid (HB1.out.trans (hb3.mono HB1.out.size))
  have bX3 := bX1.below hb3 bX1.lt
  clear c0 c1 bX1 HE HB1 ho3 hb3 hm3 hcap hz1
  go_wp2_with fail
  refine (HDc.out).mono ?_
  rintro e w4 ⟨rfl, hb4⟩
  have HB4 := Lib.hid (HB3.out.trans (hb4.mono HB3.out.size))
  have bX4 := bX3.below hb4 bX3.lt
  have c0 := bX4.cell (j := 0) rfl
  have c1 := bX4.cell (j := 1) rfl
  have hz4 := bX4.lt
  clear HB3 HDc bX3 hb4
  go_wp2_with fail
  refine ((HD0 _).out).mono ?_
  rintro e w5 ⟨rfl, hb5⟩
  have HB5 := Lib.hid ((HB4.out.alloc HB4.out.size (.cells #[.string rep, .int .i64 stamp] 23)).trans (hb5.mono (by have := HB4.out.size; simp; omega)))
  have bX5 := (bX4.alloc (.cells #[.string rep, .int .i64 stamp] 23)).below hb5 (by simp; omega)
  have ht5 := htab.below HB5.out
  clear c0 c1 HB4 bX4 hb5
  have c0 := bX5.cell (j := 0) rfl
  have c1 := bX5.cell (j := 1) rfl
  go_wp2_with fail
  refine ((HA _ ht5).out).mono ?_
  rintro e w6 ⟨rfl, hb6⟩
  go_wp2_with fail
  go_ret
  exact ⟨rfl, HB5.out.trans (hb6.mono HB5.out.size)⟩
set_option maxRecDepth 100000 in
set_option maxHeartbeats 4000000 in
theorem haOne_tw01 (rep a : ByteArray) (stamp now refresh failover : Int) (w : World) (htab : Tab10 w) (hrep : rep.size ≤ 140737488351232) (h1 : -1099511627776 ≤ stamp) (h2 : stamp ≤ 1099511627776) (h3 : -1099511627776 ≤ now) (h4 : now ≤ 1099511627776) (ha : ¬ rep = a) (hr : ¬ refresh ≤ now - stamp) (hf :  failover ≤ now - stamp) :
    Calls Tryd.prog 4 #[.agg #[.string rep, .int .i64 stamp], .string a, .string rep, .int .i64 now, .int .i64 refresh, .int .i64 failover] w fun e w' => e = .returned (.bool true) ∧ Below w.heap.size w w' := by
  have HD0 : ∀ W : World, Hid (Calls Tryd.prog 16 #[.bool true, .agg #[.string rep, .int .i64 stamp], .string rep, .int .i64 now, .int .i64 refresh, .int .i64 failover] W fun e w' => e = .returned (.int .i64 0) ∧ Below W.heap.size W w') := fun W => by
    have h := decide_any true rep rep stamp now refresh failover W (by omega) (by omega) (by omega) (by omega)
    rw [decR_own, if_neg hr] at h
    exact h
  have HD1 : ∀ W : World, Hid (Calls Tryd.prog 16 #[.bool true, .agg #[.string rep, .int .i64 stamp], .string a, .int .i64 now, .int .i64 refresh, .int .i64 failover] W fun e w' => e = .returned (.int .i64 2) ∧ Below W.heap.size W w') := fun W => by
    have h := decide_any true rep a stamp now refresh failover W (by omega) (by omega) (by omega) (by omega)
    rw [decR_other ha, if_pos hf] at h
    exact h
  have HE := fun (W : World) => Lib.hid (encode_any rep stamp W (by omega) (by omega) (by omega))
  have HA := fun (W : World) (h : Tab10 W) => Lib.hid (hawake_any W h)
  have hrd : decide (refresh ≤ now - stamp) = false := decide_eq_false hr
  have hfd : decide (failover ≤ now - stamp) = true := decide_eq_true hf
  have ea : (a.toList == rep.toList) = false := by rw [beq_toList]; exact decide_eq_false (fun e => ha e.symm)
  have hbn : Hid (Below w.heap.size w (w.alloc (.cells #[.string rep, .int .i64 stamp] 23))) := (Below.refl _ _).alloc (Nat.le_refl _) _
  have bX := Blk.new w 23 [.string rep, .int .i64 stamp]
  clear hr hf ha
  have heq := neq_ldr rep stamp rep stamp
  have hself : ldrEq rep stamp rep stamp = true := ldrEq_iff.2 ⟨rfl, rfl⟩
  rw [hself] at heq
  have hgl := guard_ldr
  go_enter Tryd.func4, Tryd.ntmps4
  go_wp2_with fail
  generalize hW : World.alloc _ _ = W0
  have bX0 : Blk W0 w.heap.size 23 [.string rep, .int .i64 stamp] := by rw [← hW]; exact bX
  have HB0 : Hid (Below w.heap.size w W0) := by show Below _ _ _; rw [← hW]; exact hbn.out
  clear hW bX hbn
  have c0 := later_cell bX0 (j := 0) rfl
  have c1 := later_cell bX0 (j := 1) rfl
  refine wp_region_later (by kernel_rfl) (by kernel_rfl) ?_
  repeat (any_goals (first | go_big_quiet_step ((first | (go_at_call 16; with_reducible exact later_call (HD0 _).out) | (go_at_call 16; with_reducible exact later_call (HD1 _).out))) | quiet_step ((first | (go_at_call 16; with_reducible exact later_call (HD0 _).out) | (go_at_call 16; with_reducible exact later_call (HD1 _).out))) | (refine wpQuiet_step (fun K hK => ?_); go_simp; split <;> (refine hK _ ?_; clear hK K))))
  all_goals (refine wpQuiet_nil ?_; intro _ hw'; obtain ⟨z, rfl⟩ := hw')
  have HB1 := Lib.hid (HB0.out.trans ((later_below z).mono HB0.out.size))
  have bX1 := later_blk bX0 z
  clear c0 c1 bX0 HB0
  generalize later W0 z = W1 at *
  have c0 := bX1.cell (j := 0) rfl
  have c1 := bX1.cell (j := 1) rfl
  have hz1 := bX1.lt
  go_wp2_with fail
  refine ((HE _).out).mono ?_
  rintro e w3 ⟨A3, m3, c3, hm3, rfl, ho3, hb3⟩
  have hcap := ho3.cap
  have HDc : Hid (Calls Tryd.prog 8 #[.slice A3 m3 c3] w3 fun e w' => e = .returned (.tuple #[.agg #[.string rep, .int .i64 stamp], .int .i64 0]) ∧ Below w3.heap.size w3 w') := by
    have h := decode_any (ldrB rep stamp) A3 m3 c3 w3.heap.size w3 ho3.rd hm3 (Nat.le_refl _) (by rw [← hm3]; exact ldrB_len rep stamp (by omega) (by omega) (by omega)) hcap.1 hcap.2
    rw [ldrR_put rep stamp (by omega) (by omega) (by omega)] at h
    exact h
  have HB3 := Lib.hid (HB1.out.trans (hb3.mono HB1.out.size))
  have bX3 := bX1.below hb3 bX1.lt
  clear c0 c1 bX1 HE HB1 ho3 hb3 hm3 hcap hz1
  go_wp2_with fail
  refine (HDc.out).mono ?_
  rintro e w4 ⟨rfl, hb4⟩
  have HB4 := Lib.hid (HB3.out.trans (hb4.mono HB3.out.size))
  have bX4 := bX3.below hb4 bX3.lt
  have c0 := bX4.cell (j := 0) rfl
  have c1 := bX4.cell (j := 1) rfl
  have hz4 := bX4.lt
  clear HB3 HDc bX3 hb4
  go_wp2_with fail
  refine ((HD0 _).out).mono ?_
  rintro e w5 ⟨rfl, hb5⟩
  have HB5 := Lib.hid ((HB4.out.alloc HB4.out.size (.cells #[.string rep, .int .i64 stamp] 23)).trans (hb5.mono (by have := HB4.out.size; simp; omega)))
  have bX5 := (bX4.alloc (.cells #[.string rep, .int .i64 stamp] 23)).below hb5 (by simp; omega)
  have ht5 := htab.below HB5.out
  clear c0 c1 HB4 bX4 hb5
  have c0 := bX5.cell (j := 0) rfl
  have c1 := bX5.cell (j := 1) rfl
  go_wp2_with fail
  refine ((HA _ ht5).out).mono ?_
  rintro e w6 ⟨rfl, hb6⟩
  go_wp2_with fail
  go_ret
  exact ⟨rfl, HB5.out.trans (hb6.mono HB5.out.size)⟩
set_option maxRecDepth 100000 in
set_option maxHeartbeats 4000000 in
theorem haOne_tw00 (rep a : ByteArray) (stamp now refresh failover : Int) (w : World) (htab : Tab10 w) (hrep : rep.size ≤ 140737488351232) (h1 : -1099511627776 ≤ stamp) (h2 : stamp ≤ 1099511627776) (h3 : -1099511627776 ≤ now) (h4 : now ≤ 1099511627776) (ha : ¬ rep = a) (hr : ¬ refresh ≤ now - stamp) (hf : ¬ failover ≤ now - stamp) :
    Calls Tryd.prog 4 #[.agg #[.string rep, .int .i64 stamp], .string a, .string rep, .int .i64 now, .int .i64 refresh, .int .i64 failover] w fun e w' => e = .returned (.bool true) ∧ Below w.heap.size w w' := by
  have HD0 : ∀ W : World, Hid (Calls Tryd.prog 16 #[.bool true, .agg #[.string rep, .int .i64 stamp], .string rep, .int .i64 now, .int .i64 refresh, .int .i64 failover] W fun e w' => e = .returned (.int .i64 0) ∧ Below W.heap.size W w') := fun W => by
    have h := decide_any true rep rep stamp now refresh failover W (by omega) (by omega) (by omega) (by omega)
    rw [decR_own, if_neg hr] at h
    exact h
  have HD1 : ∀ W : World, Hid (Calls Tryd.prog 16 #[.bool true, .agg #[.string rep, .int .i64 stamp], .string a, .int .i64 now, .int .i64 refresh, .int .i64 failover] W fun e w' => e = .returned (.int .i64 3) ∧ Below W.heap.size W w') := fun W => by
    have h := decide_any true rep a stamp now refresh failover W (by omega) (by omega) (by omega) (by omega)
    rw [decR_other ha, if_neg hf] at h
    exact h
  have HE := fun (W : World) => Lib.hid (encode_any rep stamp W (by omega) (by omega) (by omega))
  have HA := fun (W : World) (h : Tab10 W) => Lib.hid (hawake_any W h)
  have hrd : decide (refresh ≤ now - stamp) = false := decide_eq_false hr
  have hfd : decide (failover ≤ now - stamp) = false := decide_eq_false hf
  have ea : (a.toList == rep.toList) = false := by rw [beq_toList]; exact decide_eq_false (fun e => ha e.symm)
  have hbn : Hid (Below w.heap.size w (w.alloc (.cells #[.string rep, .int .i64 stamp] 23))) := (Below.refl _ _).alloc (Nat.le_refl _) _
  have bX := Blk.new w 23 [.string rep, .int .i64 stamp]
  clear hr hf ha
  have heq := neq_ldr rep stamp rep stamp
  have hself : ldrEq rep stamp rep stamp = true := ldrEq_iff.2 ⟨rfl, rfl⟩
  rw [hself] at heq
  have hgl := guard_ldr
  go_enter Tryd.func4, Tryd.ntmps4
  go_wp2_with fail
  generalize hW : World.alloc _ _ = W0
  have bX0 : Blk W0 w.heap.size 23 [.string rep, .int .i64 stamp] := by rw [← hW]; exact bX
  have HB0 : Hid (Below w.heap.size w W0) := by show Below _ _ _; rw [← hW]; exact hbn.out
  clear hW bX hbn
  have c0 := later_cell bX0 (j := 0) rfl
  have c1 := later_cell bX0 (j := 1) rfl
  refine wp_region_later (by kernel_rfl) (by kernel_rfl) ?_
  repeat (any_goals (first | go_big_quiet_step ((first | (go_at_call 16; with_reducible exact later_call (HD0 _).out) | (go_at_call 16; with_reducible exact later_call (HD1 _).out))) | quiet_step ((first | (go_at_call 16; with_reducible exact later_call (HD0 _).out) | (go_at_call 16; with_reducible exact later_call (HD1 _).out))) | (refine wpQuiet_step (fun K hK => ?_); go_simp; split <;> (refine hK _ ?_; clear hK K))))
  all_goals (refine wpQuiet_nil ?_; intro _ hw'; obtain ⟨z, rfl⟩ := hw')
  have HB1 := Lib.hid (HB0.out.trans ((later_below z).mono HB0.out.size))
  have bX1 := later_blk bX0 z
  clear c0 c1 bX0 HB0
  generalize later W0 z = W1 at *
  have c0 := bX1.cell (j := 0) rfl
  have c1 := bX1.cell (j := 1) rfl
  have hz1 := bX1.lt
  go_wp2_with fail
  refine ((HE _).out).mono ?_
  rintro e w3 ⟨A3, m3, c3, hm3, rfl, ho3, hb3⟩
  have hcap := ho3.cap
  have HDc : Hid (Calls Tryd.prog 8 #[.slice A3 m3 c3] w3 fun e w' => e = .returned (.tuple #[.agg #[.string rep, .int .i64 stamp], .int .i64 0]) ∧ Below w3.heap.size w3 w') := by
    have h := decode_any (ldrB rep stamp) A3 m3 c3 w3.heap.size w3 ho3.rd hm3 (Nat.le_refl _) (by rw [← hm3]; exact ldrB_len rep stamp (by omega) (by omega) (by omega)) hcap.1 hcap.2
    rw [ldrR_put rep stamp (by omega) (by omega) (by omega)] at h
    exact h
  have HB3 := Lib.hid (HB1.out.trans (hb3.mono HB1.out.size))
  have bX3 := bX1.below hb3 bX1.lt
  clear c0 c1 bX1 HE HB1 ho3 hb3 hm3 hcap hz1
  go_wp2_with fail
  refine (HDc.out).mono ?_
  rintro e w4 ⟨rfl, hb4⟩
  have HB4 := Lib.hid (HB3.out.trans (hb4.mono HB3.out.size))
  have bX4 := bX3.below hb4 bX3.lt
  have c0 := bX4.cell (j := 0) rfl
  have c1 := bX4.cell (j := 1) rfl
  have hz4 := bX4.lt
  clear HB3 HDc bX3 hb4
  go_wp2_with fail
  refine ((HD0 _).out).mono ?_
  rintro e w5 ⟨rfl, hb5⟩
  have HB5 := Lib.hid ((HB4.out.alloc HB4.out.size (.cells #[.string rep, .int .i64 stamp] 23)).trans (hb5.mono (by have := HB4.out.size; simp; omega)))
  have bX5 := (bX4.alloc (.cells #[.string rep, .int .i64 stamp] 23)).below hb5 (by simp; omega)
  have ht5 := htab.below HB5.out
  clear c0 c1 HB4 bX4 hb5
  have c0 := bX5.cell (j := 0) rfl
  have c1 := bX5.cell (j := 1) rfl
  go_wp2_with fail
  refine ((HA _ ht5).out).mono ?_
  rintro e w6 ⟨rfl, hb6⟩
  go_wp2_with fail
  go_ret
  exact ⟨rfl, HB5.out.trans (hb6.mono HB5.out.size)⟩
set_option maxRecDepth 100000 in
set_option maxHeartbeats 4000000 in
theorem haOne_tt11 (rep a b : ByteArray) (stamp now refresh failover : Int) (w : World) (htab : Tab10 w) (hrep : rep.size ≤ 140737488351232) (h1 : -1099511627776 ≤ stamp) (h2 : stamp ≤ 1099511627776) (h3 : -1099511627776 ≤ now) (h4 : now ≤ 1099511627776) (ha : ¬ rep = a) (hb : ¬ rep = b) (hr :  refresh ≤ now - stamp) (hf :  failover ≤ now - stamp) :
    Calls Tryd.prog 4 #[.agg #[.string rep, .int .i64 stamp], .string a, .string b, .int .i64 now, .int .i64 refresh, .int .i64 failover] w fun e w' => e = .returned (.bool true) ∧ Below w.heap.size w w' := by
  have HD0 : ∀ W : World, Hid (Calls Tryd.prog 16 #[.bool true, .agg #[.string rep, .int .i64 stamp], .string rep, .int .i64 now, .int .i64 refresh, .int .i64 failover] W fun e w' => e = .returned (.int .i64 1) ∧ Below W.heap.size W w') := fun W => by
    have h := decide_any true rep rep stamp now refresh failover W (by omega) (by omega) (by omega) (by omega)
    rw [decR_own, if_pos hr] at h
    exact h
  have HD1 : ∀ W : World, Hid (Calls Tryd.prog 16 #[.bool true, .agg #[.string rep, .int .i64 stamp], .string a, .int .i64 now, .int .i64 refresh, .int .i64 failover] W fun e w' => e = .returned (.int .i64 2) ∧ Below W.heap.size W w') := fun W => by
    have h := decide_any true rep a stamp now refresh failover W (by omega) (by omega) (by omega) (by omega)
    rw [decR_other ha, if_pos hf] at h
    exact h
  have HD2 : ∀ W : World, Hid (Calls Tryd.prog 16 #[.bool true, .agg #[.string rep, .int .i64 stamp], .string b, .int .i64 now, .int .i64 refresh, .int .i64 failover] W fun e w' => e = .returned (.int .i64 2) ∧ Below W.heap.size W w') := fun W => by
    have h := decide_any true rep b stamp now refresh failover W (by omega) (by omega) (by omega) (by omega)
    rw [decR_other hb, if_pos hf] at h
    exact h
  have HE := fun (W : World) => Lib.hid (encode_any rep stamp W (by omega) (by omega) (by omega))
  have HA := fun (W : World) (h : Tab10 W) => Lib.hid (hawake_any W h)
  have hrd : decide (refresh ≤ now - stamp) = true := decide_eq_true hr
  have hfd : decide (failover ≤ now - stamp) = true := decide_eq_true hf
  have ea : (a.toList == rep.toList) = false := by rw [beq_toList]; exact decide_eq_false (fun e => ha e.symm)
  have hbn : Hid (Below w.heap.size w (w.alloc (.cells #[.string rep, .int .i64 stamp] 23))) := (Below.refl _ _).alloc (Nat.le_refl _) _
  have bX := Blk.new w 23 [.string rep, .int .i64 stamp]
  clear hr hf ha hb
  have heq := neq_ldr rep stamp rep stamp
  have hself : ldrEq rep stamp rep stamp = true := ldrEq_iff.2 ⟨rfl, rfl⟩
  rw [hself] at heq
  have hgl := guard_ldr
  go_enter Tryd.func4, Tryd.ntmps4
  go_wp2_with fail
  generalize hW : World.alloc _ _ = W0
  have bX0 : Blk W0 w.heap.size 23 [.string rep, .int .i64 stamp] := by rw [← hW]; exact bX
  have HB0 : Hid (Below w.heap.size w W0) := by show Below _ _ _; rw [← hW]; exact hbn.out
  clear hW bX hbn
  have c0 := later_cell bX0 (j := 0) rfl
  have c1 := later_cell bX0 (j := 1) rfl
  refine wp_region_later (by kernel_rfl) (by kernel_rfl) ?_
  repeat (any_goals (first | go_big_quiet_step ((first | (go_at_call 16; with_reducible exact later_call (HD1 _).out) | (go_at_call 16; with_reducible exact later_call (HD2 _).out))) | quiet_step ((first | (go_at_call 16; with_reducible exact later_call (HD1 _).out) | (go_at_call 16; with_reducible exact later_call (HD2 _).out))) | (refine wpQuiet_step (fun K hK => ?_); go_simp; split <;> (refine hK _ ?_; clear hK K))))
  all_goals (refine wpQuiet_nil ?_; intro _ hw'; obtain ⟨z, rfl⟩ := hw')
  have HB1 := Lib.hid (HB0.out.trans ((later_below z).mono HB0.out.size))
  have bX1 := later_blk bX0 z
  clear c0 c1 bX0 HB0
  generalize later W0 z = W1 at *
  have c0 := bX1.cell (j := 0) rfl
  have c1 := bX1.cell (j := 1) rfl
  have hz1 := bX1.lt
  go_wp2_with fail
  refine ((HE _).out).mono ?_
  rintro e w3 ⟨A3, m3, c3, hm3, rfl, ho3, hb3⟩
  have hcap := ho3.cap
  have HDc : Hid (Calls Tryd.prog 8 #[.slice A3 m3 c3] w3 fun e w' => e = .returned (.tuple #[.agg #[.string rep, .int .i64 stamp], .int .i64 0]) ∧ Below w3.heap.size w3 w') := by
    have h := decode_any (ldrB rep stamp) A3 m3 c3 w3.heap.size w3 ho3.rd hm3 (Nat.le_refl _) (by rw [← hm3]; exact ldrB_len rep stamp (by omega) (by omega) (by omega)) hcap.1 hcap.2
    rw [ldrR_put rep stamp (by omega) (by omega) (by omega)] at h
    exact h
  have HB3 := Lib.hid (HB1.out.trans (hb3.mono HB1.out.size))
  have bX3 := bX1.below hb3 bX1.lt
  clear c0 c1 bX1 HE HB1 ho3 hb3 hm3 hcap hz1
  go_wp2_with fail
  refine (HDc.out).mono ?_
  rintro e w4 ⟨rfl, hb4⟩
  have HB4 := Lib.hid (HB3.out.trans (hb4.mono HB3.out.size))
  have bX4 := bX3.below hb4 bX3.lt
  have c0 := bX4.cell (j := 0) rfl
  have c1 := bX4.cell (j := 1) rfl
  have hz4 := bX4.lt
  clear HB3 HDc bX3 hb4
  go_wp2_with fail
  refine ((HD0 _).out).mono ?_
  rintro e w5 ⟨rfl, hb5⟩
  have HB5 := Lib.hid ((HB4.out.alloc HB4.out.size (.cells #[.string rep, .int .i64 stamp] 23)).trans (hb5.mono (by have := HB4.out.size; simp; omega)))
  have bX5 := (bX4.alloc (.cells #[.string rep, .int .i64 stamp] 23)).below hb5 (by simp; omega)
  have ht5 := htab.below HB5.out
  clear c0 c1 HB4 bX4 hb5
  have c0 := bX5.cell (j := 0) rfl
  have c1 := bX5.cell (j := 1) rfl
  go_wp2_with fail
  refine ((HA _ ht5).out).mono ?_
  rintro e w6 ⟨rfl, hb6⟩
  go_wp2_with fail
  go_ret
  exact ⟨rfl, HB5.out.trans (hb6.mono HB5.out.size)⟩
set_option maxRecDepth 100000 in
set_option maxHeartbeats 4000000 in
theorem haOne_tt10 (rep a b : ByteArray) (stamp now refresh failover : Int) (w : World) (htab : Tab10 w) (hrep : rep.size ≤ 140737488351232) (h1 : -1099511627776 ≤ stamp) (h2 : stamp ≤ 1099511627776) (h3 : -1099511627776 ≤ now) (h4 : now ≤ 1099511627776) (ha : ¬ rep = a) (hb : ¬ rep = b) (hr :  refresh ≤ now - stamp) (hf : ¬ failover ≤ now - stamp) :
    Calls Tryd.prog 4 #[.agg #[.string rep, .int .i64 stamp], .string a, .string b, .int .i64 now, .int .i64 refresh, .int .i64 failover] w fun e w' => e = .returned (.bool true) ∧ Below w.heap.size w w' := by
  have HD0 : ∀ W : World, Hid (Calls Tryd.prog 16 #[.bool true, .agg #[.string rep, .int .i64 stamp], .string rep, .int .i64 now, .int .i64 refresh, .int .i64 failover] W fun e w' => e = .returned (.int .i64 1) ∧ Below W.heap.size W w') := fun W => by
    have h := decide_any true rep rep stamp now refresh failover W (by omega) (by omega) (by omega) (by omega)
    rw [decR_own, if_pos hr] at h
    exact h
  have HD1 : ∀ W : World, Hid (Calls Tryd.prog 16 #[.bool true, .agg #[.string rep, .int .i64 stamp], .string a, .int .i64 now, .int .i64 refresh, .int .i64 failover] W fun e w' => e = .returned (.int .i64 3) ∧ Below W.heap.size W w') := fun W => by
    have h := decide_any true rep a stamp now refresh failover W (by omega) (by omega) (by omega) (by omega)
    rw [decR_other ha, if_neg hf] at h
    exact h
  have HD2 : ∀ W : World, Hid (Calls Tryd.prog 16 #[.bool true, .agg #[.string rep, .int .i64 stamp], .string b, .int .i64 now, .int .i64 refresh, .int .i64 failover] W fun e w' => e = .returned (.int .i64 3) ∧ Below W.heap.size W w') := fun W => by
    have h := decide_any true rep b stamp now refresh failover W (by omega) (by omega) (by omega) (by omega)
    rw [decR_other hb, if_neg hf] at h
    exact h
  have HE := fun (W : World) => Lib.hid (encode_any rep stamp W (by omega) (by omega) (by omega))
  have HA := fun (W : World) (h : Tab10 W) => Lib.hid (hawake_any W h)
  have hrd : decide (refresh ≤ now - stamp) = true := decide_eq_true hr
  have hfd : decide (failover ≤ now - stamp) = false := decide_eq_false hf
  have ea : (a.toList == rep.toList) = false := by rw [beq_toList]; exact decide_eq_false (fun e => ha e.symm)
  have hbn : Hid (Below w.heap.size w (w.alloc (.cells #[.string rep, .int .i64 stamp] 23))) := (Below.refl _ _).alloc (Nat.le_refl _) _
  have bX := Blk.new w 23 [.string rep, .int .i64 stamp]
  clear hr hf ha hb
  have heq := neq_ldr rep stamp rep stamp
  have hself : ldrEq rep stamp rep stamp = true := ldrEq_iff.2 ⟨rfl, rfl⟩
  rw [hself] at heq
  have hgl := guard_ldr
  go_enter Tryd.func4, Tryd.ntmps4
  go_wp2_with fail
  generalize hW : World.alloc _ _ = W0
  have bX0 : Blk W0 w.heap.size 23 [.string rep, .int .i64 stamp] := by rw [← hW]; exact bX
  have HB0 : Hid (Below w.heap.size w W0) := by show Below _ _ _; rw [← hW]; exact hbn.out
  clear hW bX hbn
  have c0 := later_cell bX0 (j := 0) rfl
  have c1 := later_cell bX0 (j := 1) rfl
  refine wp_region_later (by kernel_rfl) (by kernel_rfl) ?_
  repeat (any_goals (first | go_big_quiet_step ((first | (go_at_call 16; with_reducible exact later_call (HD1 _).out) | (go_at_call 16; with_reducible exact later_call (HD2 _).out))) | quiet_step ((first | (go_at_call 16; with_reducible exact later_call (HD1 _).out) | (go_at_call 16; with_reducible exact later_call (HD2 _).out))) | (refine wpQuiet_step (fun K hK => ?_); go_simp; split <;> (refine hK _ ?_; clear hK K))))
  all_goals (refine wpQuiet_nil ?_; intro _ hw'; obtain ⟨z, rfl⟩ := hw')
  have HB1 := Lib.hid (HB0.out.trans ((later_below z).mono HB0.out.size))
  have bX1 := later_blk bX0 z
  clear c0 c1 bX0 HB0
  generalize later W0 z = W1 at *
  have c0 := bX1.cell (j := 0) rfl
  have c1 := bX1.cell (j := 1) rfl
  have hz1 := bX1.lt
  go_wp2_with fail
  refine ((HE _).out).mono ?_
  rintro e w3 ⟨A3, m3, c3, hm3, rfl, ho3, hb3⟩
  have hcap := ho3.cap
  have HDc : Hid (Calls Tryd.prog 8 #[.slice A3 m3 c3] w3 fun e w' => e = .returned (.tuple #[.agg #[.string rep, .int .i64 stamp], .int .i64 0]) ∧ Below w3.heap.size w3 w') := by
    have h := decode_any (ldrB rep stamp) A3 m3 c3 w3.heap.size w3 ho3.rd hm3 (Nat.le_refl _) (by rw [← hm3]; exact ldrB_len rep stamp (by omega) (by omega) (by omega)) hcap.1 hcap.2
    rw [ldrR_put rep stamp (by omega) (by omega) (by omega)] at h
    exact h
  have HB3 := Lib.hid (HB1.out.trans (hb3.mono HB1.out.size))
  have bX3 := bX1.below hb3 bX1.lt
  clear c0 c1 bX1 HE HB1 ho3 hb3 hm3 hcap hz1
  go_wp2_with fail
  refine (HDc.out).mono ?_
  rintro e w4 ⟨rfl, hb4⟩
  have HB4 := Lib.hid (HB3.out.trans (hb4.mono HB3.out.size))
  have bX4 := bX3.below hb4 bX3.lt
  have c0 := bX4.cell (j := 0) rfl
  have c1 := bX4.cell (j := 1) rfl
  have hz4 := bX4.lt
  clear HB3 HDc bX3 hb4
  go_wp2_with fail
  refine ((HD0 _).out).mono ?_
  rintro e w5 ⟨rfl, hb5⟩
  have HB5 := Lib.hid ((HB4.out.alloc HB4.out.size (.cells #[.string rep, .int .i64 stamp] 23)).trans (hb5.mono (by have := HB4.out.size; simp; omega)))
  have bX5 := (bX4.alloc (.cells #[.string rep, .int .i64 stamp] 23)).below hb5 (by simp; omega)
  have ht5 := htab.below HB5.out
  clear c0 c1 HB4 bX4 hb5
  have c0 := bX5.cell (j := 0) rfl
  have c1 := bX5.cell (j := 1) rfl
  go_wp2_with fail
  refine ((HA _ ht5).out).mono ?_
  rintro e w6 ⟨rfl, hb6⟩
  go_wp2_with fail
  go_ret
  exact ⟨rfl, HB5.out.trans (hb6.mono HB5.out.size)⟩
set_option maxRecDepth 100000 in
set_option maxHeartbeats 4000000 in
theorem haOne_tt01 (rep a b : ByteArray) (stamp now refresh failover : Int) (w : World) (htab : Tab10 w) (hrep : rep.size ≤ 140737488351232) (h1 : -1099511627776 ≤ stamp) (h2 : stamp ≤ 1099511627776) (h3 : -1099511627776 ≤ now) (h4 : now ≤ 1099511627776) (ha : ¬ rep = a) (hb : ¬ rep = b) (hr : ¬ refresh ≤ now - stamp) (hf :  failover ≤ now - stamp) :
    Calls Tryd.prog 4 #[.agg #[.string rep, .int .i64 stamp], .string a, .string b, .int .i64 now, .int .i64 refresh, .int .i64 failover] w fun e w' => e = .returned (.bool true) ∧ Below w.heap.size w w' := by
  have HD0 : ∀ W : World, Hid (Calls Tryd.prog 16 #[.bool true, .agg #[.string rep, .int .i64 stamp], .string rep, .int .i64 now, .int .i64 refresh, .int .i64 failover] W fun e w' => e = .returned (.int .i64 0) ∧ Below W.heap.size W w') := fun W => by
    have h := decide_any true rep rep stamp now refresh failover W (by omega) (by omega) (by omega) (by omega)
    rw [decR_own, if_neg hr] at h
    exact h
  have HD1 : ∀ W : World, Hid (Calls Tryd.prog 16 #[.bool true, .agg #[.string rep, .int .i64 stamp], .string a, .int .i64 now, .int .i64 refresh, .int .i64 failover] W fun e w' => e = .returned (.int .i64 2) ∧ Below W.heap.size W w') := fun W => by
    have h := decide_any true rep a stamp now refresh failover W (by omega) (by omega) (by omega) (by omega)
    rw [decR_other ha, if_pos hf] at h
    exact h
  have HD2 : ∀ W : World, Hid (Calls Tryd.prog 16 #[.bool true, .agg #[.string rep, .int .i64 stamp], .string b, .int .i64 now, .int .i64 refresh, .int .i64 failover] W fun e w' => e = .returned (.int .i64 2) ∧ Below W.heap.size W w') := fun W => by
    have h := decide_any true rep b stamp now refresh failover W (by omega) (by omega) (by omega) (by omega)
    rw [decR_other hb, if_pos hf] at h
    exact h
  have HE := fun (W : World) => Lib.hid (encode_any rep stamp W (by omega) (by omega) (by omega))
  have HA := fun (W : World) (h : Tab10 W) => Lib.hid (hawake_any W h)
  have hrd : decide (refresh ≤ now - stamp) = false := decide_eq_false hr
  have hfd : decide (failover ≤ now - stamp) = true := decide_eq_true hf
  have ea : (a.toList == rep.toList) = false := by rw [beq_toList]; exact decide_eq_false (fun e => ha e.symm)
  have hbn : Hid (Below w.heap.size w (w.alloc (.cells #[.string rep, .int .i64 stamp] 23))) := (Below.refl _ _).alloc (Nat.le_refl _) _
  have bX := Blk.new w 23 [.string rep, .int .i64 stamp]
  clear hr hf ha hb
  have heq := neq_ldr rep stamp rep stamp
  have hself : ldrEq rep stamp rep stamp = true := ldrEq_iff.2 ⟨rfl, rfl⟩
  rw [hself] at heq
  have hgl := guard_ldr
  go_enter Tryd.func4, Tryd.ntmps4
  go_wp2_with fail
  generalize hW : World.alloc _ _ = W0
  have bX0 : Blk W0 w.heap.size 23 [.string rep, .int .i64 stamp] := by rw [← hW]; exact bX
  have HB0 : Hid (Below w.heap.size w W0) := by show Below _ _ _; rw [← hW]; exact hbn.out
  clear hW bX hbn
  have c0 := later_cell bX0 (j := 0) rfl
  have c1 := later_cell bX0 (j := 1) rfl
  refine wp_region_later (by kernel_rfl) (by kernel_rfl) ?_
  repeat (any_goals (first | go_big_quiet_step ((first | (go_at_call 16; with_reducible exact later_call (HD1 _).out) | (go_at_call 16; with_reducible exact later_call (HD2 _).out))) | quiet_step ((first | (go_at_call 16; with_reducible exact later_call (HD1 _).out) | (go_at_call 16; with_reducible exact later_call (HD2 _).out))) | (refine wpQuiet_step (fun K hK => ?_); go_simp; split <;> (refine hK _ ?_; clear hK K))))
  all_goals (refine wpQuiet_nil ?_; intro _ hw'; obtain ⟨z, rfl⟩ := hw')
  have HB1 := Lib.hid (HB0.out.trans ((later_below z).mono HB0.out.size))
  have bX1 := later_blk bX0 z
  clear c0 c1 bX0 HB0
  generalize later W0 z = W1 at *
  have c0 := bX1.cell (j := 0) rfl
  have c1 := bX1.cell (j := 1) rfl
  have hz1 := bX1.lt
  go_wp2_with fail
  refine ((HE _).out).mono ?_
  rintro e w3 ⟨A3, m3, c3, hm3, rfl, ho3, hb3⟩
  have hcap := ho3.cap
  have HDc : Hid (Calls Tryd.prog 8 #[.slice A3 m3 c3] w3 fun e w' => e = .returned (.tuple #[.agg #[.string rep, .int .i64 stamp], .int .i64 0]) ∧ Below w3.heap.size w3 w') := by
    have h := decode_any (ldrB rep stamp) A3 m3 c3 w3.heap.size w3 ho3.rd hm3 (Nat.le_refl _) (by rw [← hm3]; exact ldrB_len rep stamp (by omega) (by omega) (by omega)) hcap.1 hcap.2
    rw [ldrR_put rep stamp (by omega) (by omega) (by omega)] at h
    exact h
  have HB3 := Lib.hid (HB1.out.trans (hb3.mono HB1.out.size))
  have bX3 := bX1.below hb3 bX1.lt
  clear c0 c1 bX1 HE HB1 ho3 hb3 hm3 hcap hz1
  go_wp2_with fail
  refine (HDc.out).mono ?_
  rintro e w4 ⟨rfl, hb4⟩
  have HB4 := Lib.hid (HB3.out.trans (hb4.mono HB3.out.size))
  have bX4 := bX3.below hb4 bX3.lt
  have c0 := bX4.cell (j := 0) rfl
  have c1 := bX4.cell (j := 1) rfl
  have hz4 := bX4.lt
  clear HB3 HDc bX3 hb4
  go_wp2_with fail
  refine ((HD0 _).out).mono ?_
  rintro e w5 ⟨rfl, hb5⟩
  have HB5 := Lib.hid ((HB4.out.alloc HB4.out.size (.cells #[.string rep, .int .i64 stamp] 23)).trans (hb5.mono (by have := HB4.out.size; simp; omega)))
  have bX5 := (bX4.alloc (.cells #[.string rep, .int .i64 stamp] 23)).below hb5 (by simp; omega)
  have ht5 := htab.below HB5.out
  clear c0 c1 HB4 bX4 hb5
  have c0 := bX5.cell (j := 0) rfl
  have c1 := bX5.cell (j := 1) rfl
  go_wp2_with fail
  refine ((HA _ ht5).out).mono ?_
  rintro e w6 ⟨rfl, hb6⟩
  go_wp2_with fail
  go_ret
  exact ⟨rfl, HB5.out.trans (hb6.mono HB5.out.size)⟩
set_option maxRecDepth 100000 in
set_option maxHeartbeats 4000000 in
theorem haOne_tt00 (rep a b : ByteArray) (stamp now refresh failover : Int) (w : World) (htab : Tab10 w) (hrep : rep.size ≤ 140737488351232) (h1 : -1099511627776 ≤ stamp) (h2 : stamp ≤ 1099511627776) (h3 : -1099511627776 ≤ now) (h4 : now ≤ 1099511627776) (ha : ¬ rep = a) (hb : ¬ rep = b) (hr : ¬ refresh ≤ now - stamp) (hf : ¬ failover ≤ now - stamp) :
    Calls Tryd.prog 4 #[.agg #[.string rep, .int .i64 stamp], .string a, .string b, .int .i64 now, .int .i64 refresh, .int .i64 failover] w fun e w' => e = .returned (.bool true) ∧ Below w.heap.size w w' := by
  have HD0 : ∀ W : World, Hid (Calls Tryd.prog 16 #[.bool true, .agg #[.string rep, .int .i64 stamp], .string rep, .int .i64 now, .int .i64 refresh, .int .i64 failover] W fun e w' => e = .returned (.int .i64 0) ∧ Below W.heap.size W w') := fun W => by
    have h := decide_any true rep rep stamp now refresh failover W (by omega) (by omega) (by omega) (by omega)
    rw [decR_own, if_neg hr] at h
    exact h
  have HD1 : ∀ W : World, Hid (Calls Tryd.prog 16 #[.bool true, .agg #[.string rep, .int .i64 stamp], .string a, .int .i64 now, .int .i64 refresh, .int .i64 failover] W fun e w' => e = .returned (.int .i64 3) ∧ Below W.heap.size W w') := fun W => by
    have h := decide_any true rep a stamp now refresh failover W (by omega) (by omega) (by omega) (by omega)
    rw [decR_other ha, if_neg hf] at h
    exact h
  have HD2 : ∀ W : World, Hid (Calls Tryd.prog 16 #[.bool true, .agg #[.string rep, .int .i64 stamp], .string b, .int .i64 now, .int .i64 refresh, .int .i64 failover] W fun e w' => e = .returned (.int .i64 3) ∧ Below W.heap.size W w') := fun W => by
    have h := decide_any true rep b stamp now refresh failover W (by omega) (by omega) (by omega) (by omega)
    rw [decR_other hb, if_neg hf] at h
    exact h
  have HE := fun (W : World) => Lib.hid (encode_any rep stamp W (by omega) (by omega) (by omega))
  have HA := fun (W : World) (h : Tab10 W) => Lib.hid (hawake_any W h)
  have hrd : decide (refresh ≤ now - stamp) = false := decide_eq_false hr
  have hfd : decide (failover ≤ now - stamp) = false := decide_eq_false hf
  have ea : (a.toList == rep.toList) = false := by rw [beq_toList]; exact decide_eq_false (fun e => ha e.symm)
  have hbn : Hid (Below w.heap.size w (w.alloc (.cells #[.string rep, .int .i64 stamp] 23))) := (Below.refl _ _).alloc (Nat.le_refl _) _
  have bX := Blk.new w 23 [.string rep, .int .i64 stamp]
  clear hr hf ha hb
  have heq := neq_ldr rep stamp rep stamp
  have hself : ldrEq rep stamp rep stamp = true := ldrEq_iff.2 ⟨rfl, rfl⟩
  rw [hself] at heq
  have hgl := guard_ldr
  go_enter Tryd.func4, Tryd.ntmps4
  go_wp2_with fail
  generalize hW : World.alloc _ _ = W0
  have bX0 : Blk W0 w.heap.size 23 [.string rep, .int .i64 stamp] := by rw [← hW]; exact bX
  have HB0 : Hid (Below w.heap.size w W0) := by show Below _ _ _; rw [← hW]; exact hbn.out
  clear hW bX hbn
  have c0 := later_cell bX0 (j := 0) rfl
  have c1 := later_cell bX0 (j := 1) rfl
  refine wp_region_later (by kernel_rfl) (by kernel_rfl) ?_
  repeat (any_goals (first | go_big_quiet_step ((first | (go_at_call 16; with_reducible exact later_call (HD1 _).out) | (go_at_call 16; with_reducible exact later_call (HD2 _).out))) | quiet_step ((first | (go_at_call 16; with_reducible exact later_call (HD1 _).out) | (go_at_call 16; with_reducible exact later_call (HD2 _).out))) | (refine wpQuiet_step (fun K hK => ?_); go_simp; split <;> (refine hK _ ?_; clear hK K))))
  all_goals (refine wpQuiet_nil ?_; intro _ hw'; obtain ⟨z, rfl⟩ := hw')
  have HB1 := Lib.hid (HB0.out.trans ((later_below z).mono HB0.out.size))
  have bX1 := later_blk bX0 z
  clear c0 c1 bX0 HB0
  generalize later W0 z = W1 at *
  have c0 := bX1.cell (j := 0) rfl
  have c1 := bX1.cell (j := 1) rfl
  have hz1 := bX1.lt
  go_wp2_with fail
  refine ((HE _).out).mono ?_
  rintro e w3 ⟨A3, m3, c3, hm3, rfl, ho3, hb3⟩
  have hcap := ho3.cap
  have HDc : Hid (Calls Tryd.prog 8 #[.slice A3 m3 c3] w3 fun e w' => e = .returned (.tuple #[.agg #[.string rep, .int .i64 stamp], .int .i64 0]) ∧ Below w3.heap.size w3 w') := by
    have h := decode_any (ldrB rep stamp) A3 m3 c3 w3.heap.size w3 ho3.rd hm3 (Nat.le_refl _) (by rw [← hm3]; exact ldrB_len rep stamp (by omega) (by omega) (by omega)) hcap.1 hcap.2
    rw [ldrR_put rep stamp (by omega) (by omega) (by omega)] at h
    exact h
  have HB3 := Lib.hid (HB1.out.trans (hb3.mono HB1.out.size))
  have bX3 := bX1.below hb3 bX1.lt
  clear c0 c1 bX1 HE HB1 ho3 hb3 hm3 hcap hz1
  go_wp2_with fail
  refine (HDc.out).mono ?_
  rintro e w4 ⟨rfl, hb4⟩
  have HB4 := Lib.hid (HB3.out.trans (hb4.mono HB3.out.size))
  have bX4 := bX3.below hb4 bX3.lt
  have c0 := bX4.cell (j := 0) rfl
  have c1 := bX4.cell (j := 1) rfl
  have hz4 := bX4.lt
  clear HB3 HDc bX3 hb4
  go_wp2_with fail
  refine ((HD0 _).out).mono ?_
  rintro e w5 ⟨rfl, hb5⟩
  have HB5 := Lib.hid ((HB4.out.alloc HB4.out.size (.cells #[.string rep, .int .i64 stamp] 23)).trans (hb5.mono (by have := HB4.out.size; simp; omega)))
  have bX5 := (bX4.alloc (.cells #[.string rep, .int .i64 stamp] 23)).below hb5 (by simp; omega)
  have ht5 := htab.below HB5.out
  clear c0 c1 HB4 bX4 hb5
  have c0 := bX5.cell (j := 0) rfl
  have c1 := bX5.cell (j := 1) rfl
  go_wp2_with fail
  refine ((HA _ ht5).out).mono ?_
  rintro e w6 ⟨rfl, hb6⟩
  go_wp2_with fail
  go_ret
  exact ⟨rfl, HB5.out.trans (hb6.mono HB5.out.size)⟩
theorem haOne_out (rep a b : ByteArray) (stamp now refresh failover : Int) (w : World) (htab : Tab10 w) (h : ¬ (-1099511627776 ≤ stamp ∧ stamp ≤ 1099511627776 ∧ -1099511627776 ≤ now ∧ now ≤ 1099511627776)) :
    Calls Tryd.prog 4 #[.agg #[.string rep, .int .i64 stamp], .string a, .string b, .int .i64 now, .int .i64 refresh, .int .i64 failover] w fun e w' => e = .returned (.bool true) ∧ Below w.heap.size w w' := by
  have hbn : Hid (Below w.heap.size w (w.alloc (.cells #[.string rep, .int .i64 stamp] 23))) := (Below.refl _ _).alloc (Nat.le_refl _) _
  have HA := Lib.hid (hawake_any _ (htab.below hbn.out))
  rcases Int.lt_or_le stamp (-1099511627776) with h1 | h1
  · have t1 : decide (stamp < -1099511627776) = true := decide_eq_true h1
    clear h
    go_enter Tryd.func4, Tryd.ntmps4
    go_wp2_with (go_at_call 15; refine (HA.out).mono ?_; rintro e w' ⟨rfl, hb⟩)
    go_ret
    exact ⟨rfl, hbn.out.trans (hb.mono hbn.out.size)⟩
  rcases Int.lt_or_le 1099511627776 stamp with h2 | h2
  · have t1 : decide (stamp < -1099511627776) = false := decide_eq_false (by omega)
    clear h h1
    go_enter Tryd.func4, Tryd.ntmps4
    go_wp2_with (go_at_call 15; refine (HA.out).mono ?_; rintro e w' ⟨rfl, hb⟩)
    go_ret
    exact ⟨rfl, hbn.out.trans (hb.mono hbn.out.size)⟩
  rcases Int.lt_or_le now (-1099511627776) with h3 | h3
  · clear h
    go_enter Tryd.func4, Tryd.ntmps4
    go_wp2_with (go_at_call 15; refine (HA.out).mono ?_; rintro e w' ⟨rfl, hb⟩)
    go_ret
    exact ⟨rfl, hbn.out.trans (hb.mono hbn.out.size)⟩
  rcases Int.lt_or_le 1099511627776 now with h4 | h4
  · clear h
    go_enter Tryd.func4, Tryd.ntmps4
    go_wp2_with (go_at_call 15; refine (HA.out).mono ?_; rintro e w' ⟨rfl, hb⟩)
    go_ret
    exact ⟨rfl, hbn.out.trans (hb.mono hbn.out.size)⟩
  · exact absurd ⟨h1, h2, h3, h4⟩ h
theorem haOne_any (rep a b : ByteArray) (stamp now refresh failover : Int) (w : World) (htab : Tab10 w) (hrep : rep.size ≤ 140737488351232) :
    Calls Tryd.prog 4 #[.agg #[.string rep, .int .i64 stamp], .string a, .string b, .int .i64 now, .int .i64 refresh, .int .i64 failover] w fun e w' => e = .returned (.bool true) ∧ Below w.heap.size w w' := by
  by_cases h : -1099511627776 ≤ stamp ∧ stamp ≤ 1099511627776 ∧ -1099511627776 ≤ now ∧ now ≤ 1099511627776
  · obtain ⟨h1, h2, h3, h4⟩ := h
    by_cases hr : refresh ≤ now - stamp <;> by_cases hf : failover ≤ now - stamp <;> by_cases ha : rep = a <;> by_cases hb : rep = b
    · subst ha; subst hb; exact haOne_ww11 rep stamp now refresh failover w htab hrep h1 h2 h3 h4 hr hf
    · subst ha; exact haOne_wt11 rep b stamp now refresh failover w htab hrep h1 h2 h3 h4 hb hr hf
    · subst hb; exact haOne_tw11 rep a stamp now refresh failover w htab hrep h1 h2 h3 h4 ha hr hf
    · exact haOne_tt11 rep a b stamp now refresh failover w htab hrep h1 h2 h3 h4 ha hb hr hf
    · subst ha; subst hb; exact haOne_ww10 rep stamp now refresh failover w htab hrep h1 h2 h3 h4 hr hf
    · subst ha; exact haOne_wt10 rep b stamp now refresh failover w htab hrep h1 h2 h3 h4 hb hr hf
    · subst hb; exact haOne_tw10 rep a stamp now refresh failover w htab hrep h1 h2 h3 h4 ha hr hf
    · exact haOne_tt10 rep a b stamp now refresh failover w htab hrep h1 h2 h3 h4 ha hb hr hf
    · subst ha; subst hb; exact haOne_ww01 rep stamp now refresh failover w htab hrep h1 h2 h3 h4 hr hf
    · subst ha; exact haOne_wt01 rep b stamp now refresh failover w htab hrep h1 h2 h3 h4 hb hr hf
    · subst hb; exact haOne_tw01 rep a stamp now refresh failover w htab hrep h1 h2 h3 h4 ha hr hf
    · exact haOne_tt01 rep a b stamp now refresh failover w htab hrep h1 h2 h3 h4 ha hb hr hf
    · subst ha; subst hb; exact haOne_ww00 rep stamp now refresh failover w htab hrep h1 h2 h3 h4 hr hf
    · subst ha; exact haOne_wt00 rep b stamp now refresh failover w htab hrep h1 h2 h3 h4 hb hr hf
    · subst hb; exact haOne_tw00 rep a stamp now refresh failover w htab hrep h1 h2 h3 h4 ha hr hf
    · exact haOne_tt00 rep a b stamp now refresh failover w htab hrep h1 h2 h3 h4 ha hb hr hf
  · exact haOne_out rep a b stamp now refresh failover w htab h
theorem haOne_law (rep : ByteArray) (stamp : Int) (a b : ByteArray) (now refresh failover : Int) (w : World) (htab : Tab10 w) (hrep : rep.size ≤ 140737488351232) (_ : -9223372036854775808 ≤ stamp ∧ stamp < 9223372036854775808) (_ : a.size ≤ 140737488351232) (_ : b.size ≤ 140737488351232)
    (_ : -9223372036854775808 ≤ now ∧ now < 9223372036854775808) (_ : -9223372036854775808 ≤ refresh ∧ refresh < 9223372036854775808) (_ : -9223372036854775808 ≤ failover ∧ failover < 9223372036854775808) :
    Calls Tryd.prog 4 #[.agg #[.string rep, .int .i64 stamp], .string a, .string b, .int .i64 now, .int .i64 refresh, .int .i64 failover] w fun e w' => e = .returned (.bool true) ∧ Below w.heap.size w w' :=
  haOne_any rep a b stamp now refresh failover w htab hrep
end Go.Proofs.YtngboplmlkckhaaDoor
