/- ha: what every program answers that is one. -/
import Derived.Test.YtngboplmlkckhaaDoorLabF
import Derived.Test.YtngboplmlkckhaaDoorHaK
namespace Go.Proofs.YtngboplmlkckhaaDoor
open Go.RowKit

def replicaS : ByteArray := ⟨#[114, 101, 112, 108, 105, 99, 97]⟩
def cS : ByteArray := ⟨#[99]⟩
def rS : ByteArray := ⟨#[114]⟩
def awLabs : List Lab := [(clusterS, cS), (replicaS, rS)]
theorem aw_cluster : getL awLabs clusterS = cS := by decide +kernel
theorem aw_replica : getL awLabs replicaS = rS := by decide +kernel
theorem aw_without : withoutL awLabs [replicaS] = [(clusterS, cS)] := by decide +kernel
def LookAt (B0 S C R L : Nat) (w : World) (e : Ending) (w' : World) : Prop := e = .returned (.tuple #[]) ∧ Below B0 w w' ∧ Blk w' S 4 [.bool true] ∧ Blk w' C 9 [.string cS] ∧ Blk w' R 9 [.string rS] ∧ Blk w' L 4 [.bool true]
set_option maxRecDepth 100000 in
set_option maxHeartbeats 2000000 in
theorem look_any (A : Option Addr) (t v : Int) (S C R L B B0 : Nat) (w : World) (hr : Rd w B 2 A (labsC awLabs)) (hB : B ≤ w.heap.size) (hB0 : B0 ≤ w.heap.size) (hS : Blk w S 4 [.bool false]) (hC : Blk w C 9 [.string ByteArray.empty]) (hR : Blk w R 9 [.string ByteArray.empty]) (hL : Blk w L 4 [.bool true])
    (hne : S ≠ C ∧ S ≠ R ∧ S ≠ L ∧ C ≠ R ∧ C ≠ L ∧ R ≠ L) (hle : B0 ≤ S ∧ B0 ≤ C ∧ B0 ≤ R ∧ B0 ≤ L) :
    Calls Tryd.prog 42 #[.agg #[.slice A 2 2, .int .i64 t, .int .u64 v], .pointer (some ⟨S, 0, none⟩), .pointer (some ⟨C, 0, none⟩), .pointer (some ⟨R, 0, none⟩), .pointer (some ⟨L, 0, none⟩)] w (LookAt B0 S C R L w) := by
  go_enter Tryd.func42, Tryd.ntmps42
  go_wp2_with fail
  generalize hW : World.alloc _ _ = W0
  have hX : Blk W0 w.heap.size 55 [.slice A 2 2, .int .i64 t, .int .u64 v] := by rw [← hW]; exact Blk.new w _ _
  have hb0 : Below w.heap.size w W0 := by rw [← hW]; exact (Below.refl _ _).alloc (Nat.le_refl _) _
  clear hW
  have hsz0 := hb0.size
  have c0 := later_cell hX (j := 0) rfl
  have HC := fun (nm : ByteArray) (z : Later W0) => Lib.hid (labGet_any awLabs nm A 2 2 B (later W0 z) (later_rd (hr.below (hb0.mono hB)) (Nat.le_trans hB hsz0) z) rfl (Nat.le_trans hB (Nat.le_trans hsz0 (later_size z))) (by simp [maxLen]))
  refine wp_region_later (by kernel_rfl) (by kernel_rfl) ?_
  repeat (any_goals (first | go_big_quiet_step ((first | (go_at_call 43; with_reducible exact later_call (HC _ _).out))) | quiet_step ((first | (go_at_call 43; with_reducible exact later_call (HC _ _).out))) | (refine wpQuiet_step (fun K hK => ?_); go_simp; split <;> (refine hK _ ?_; clear hK K))))
  all_goals (refine wpQuiet_nil ?_; intro _ hw'; obtain ⟨z, rfl⟩ := hw')
  all_goals
    have hW := hb0.trans ((later_below z).mono hsz0)
    have bS := hS.below hW hS.lt
    have bC := hC.below hW hC.lt
    have bR := hR.below hW hR.lt
    have bL := hL.below hW hL.lt
    have HF : Hid (Below B0 w (later W0 z)) := hW.mono hB0
    clear hW c0 HC hX hS hC hR hL hr
    generalize later W0 z = W1 at *
    have e1 : getL awLabs ⟨#[99, 108, 117, 115, 116, 101, 114]⟩ = ⟨#[99]⟩ := aw_cluster
    have e2 : getL awLabs ⟨#[114, 101, 112, 108, 105, 99, 97]⟩ = ⟨#[114]⟩ := aw_replica
    have s0 := bS.cell (j := 0) rfl
    have s1 := bC.cell (j := 0) rfl
    have s2 := bR.cell (j := 0) rfl
    have s3 := bL.cell (j := 0) rfl
    have f0 := bS.frozen
    have f1 := bC.frozen
    have f2 := bR.frozen
    have f3 := bL.frozen
    go_wp2_with fail
    go_end0
    obtain ⟨n1, n2, n3, n4, n5, n6⟩ := hne
    refine ⟨rfl, (((HF.out.setCell hle.2.1 _).setCell hle.2.2.1 _).setCell hle.1 _).setCell hle.2.2.2 _, ?_, ?_, ?_, ?_⟩
    · exact (((((bS.other n1 _).other n2 _).set 0 (.bool true)).other n3 _))
    · exact ((((bC.set 0 (.string cS)).other n4 _).other (Ne.symm n1) _).other n5 _)
    · exact ((((bR.other (Ne.symm n4) _).set 0 (.string rS)).other (Ne.symm n2) _).other n6 _)
    · exact ((((bL.other (Ne.symm n5) _).other (Ne.symm n6) _).other (Ne.symm n3) _).set 0 (.bool true))
theorem eiSamp : EI Tryd.prog 51 55 3 40 := EI.mk' Tryd.underlying51 (z := .agg #[.slice none 0 0, .int .i64 0, .int .u64 0]) (by kernel_rfl) rfl (by omega)
def awOut (A : Option Addr) (c : Nat) : List (List Value) := [[.slice A 1 c, .int .i64 0, .int .u64 0]]
theorem awOut_sz (A : Option Addr) (c : Nat) : ∀ x ∈ awOut A c, x.length = 3 := by simp [awOut]
theorem awOut_one (A : Option Addr) (c : Nat) : ∀ y ∈ awOut A c, ∀ u ∈ y, u.oneCell' = true := by
  intro y hy u hu
  simp [awOut] at hy
  subst hy
  simp at hu
  rcases hu with rfl | rfl | rfl <;> rfl
def SplitOut (w : World) (e : Ending) (w' : World) : Prop := ∃ G c A c2, e = .returned (.tuple #[.string ⟨#[99]⟩, .string ⟨#[114]⟩, .slice (some ⟨G, 0, none⟩) 1 c, .int .i64 0]) ∧ w'.cell? ⟨G, 0, none⟩ = some (.slice A 1 c2) ∧ Below w.heap.size w w'
set_option maxRecDepth 100000 in
set_option maxHeartbeats 2000000 in
theorem split_any (L T : Nat) (w : World) (hr : Rd w w.heap.size 2 (some ⟨L, 0, none⟩) (labsC awLabs)) (hT : Blk w T 55 [.slice (some ⟨L, 0, none⟩) 2 2, .int .i64 0, .int .u64 0]) :
    Calls Tryd.prog 31 #[.slice (some ⟨T, 0, none⟩) 1 1] w (SplitOut w) := by
  have hmf : ∀ (fn : Fn) (first cap : Array Value) (w : World), (Instr.makeFunc fn first cap).run Tryd.prog w = .ok (.func fn first cap) w := fun _ _ _ _ => rfl
  have c0 := hT.cell (j := 0) rfl
  have c1 := hT.cell (j := 1) rfl
  have c2 := hT.cell (j := 2) rfl
  have hlt := hT.lt
  go_enter Tryd.func31, Tryd.ntmps31
  go_wp2_with fail
  generalize hW : World.alloc _ _ = W0
  have bC : Blk W0 w.heap.size 9 [.string ByteArray.empty] := by rw [← hW]; exact (((Blk.new w _ _).alloc _).alloc _).alloc _
  have bR : Blk W0 (w.heap.size + 1) 9 [.string ByteArray.empty] := by
    rw [← hW]
    have := ((Blk.new (w.alloc (.cells #[.string ByteArray.empty] 9)) 9 [.string ByteArray.empty]).alloc (.cells #[.bool false] 4)).alloc (.cells #[.bool true] 4)
    rw [World.size_alloc] at this
    exact this
  have bS : Blk W0 (w.heap.size + 1 + 1) 4 [.bool false] := by
    rw [← hW]
    have := (Blk.new ((w.alloc (.cells #[.string ByteArray.empty] 9)).alloc (.cells #[.string ByteArray.empty] 9)) 4 [.bool false]).alloc (.cells #[.bool true] 4)
    rw [World.size_alloc, World.size_alloc] at this
    exact this
  have bL : Blk W0 (w.heap.size + 1 + 1 + 1) 4 [.bool true] := by
    rw [← hW]
    have := Blk.new (((w.alloc (.cells #[.string ByteArray.empty] 9)).alloc (.cells #[.string ByteArray.empty] 9)).alloc (.cells #[.bool false] 4)) 4 [.bool true]
    rw [World.size_alloc, World.size_alloc, World.size_alloc] at this
    exact this
  have hb0 : Below w.heap.size w W0 := by rw [← hW]; exact ((((Below.refl _ _).alloc (Nat.le_refl _) _).alloc (by simp) _).alloc (by simp; omega) _).alloc (by simp; omega) _
  have hz0 : w.heap.size + 1 + 1 + 1 < W0.heap.size := bL.lt
  clear hW c0 c1 c2
  have bT := hT.below hb0 hT.lt
  have c0 := bT.cell (j := 0) rfl
  have c1 := bT.cell (j := 1) rfl
  have c2 := bT.cell (j := 2) rfl
  have rL := hr.below hb0
  clear hT hr
  have HB0 := Lib.hid hb0
  clear hb0
  have HK := fun (o : Obj) => Lib.hid (look_any (some ⟨L, 0, none⟩) 0 0 (w.heap.size + 1 + 1) w.heap.size (w.heap.size + 1) (w.heap.size + 1 + 1 + 1) w.heap.size w.heap.size (W0.alloc o) (rL.below ((Below.refl _ _).alloc (by omega) o)) (by simp; omega) (by simp; omega) (bS.alloc o) (bC.alloc o) (bR.alloc o) (bL.alloc o) (by omega) (by omega))
  refine wp_loop_rounds 2 ?_
  rw [rounds_succ]
  go_wp2_with (go_at_call 42; refine (HK _).out.mono ?_; rintro e w1 ⟨rfl, hb1, bS1, bC1, bR1, bL1⟩)
  have hbw1 : Below w.heap.size w w1 := (HB0.out.alloc (by omega) (.cells #[.slice (some ⟨L, 0, none⟩) 2 2, .int .i64 0, .int .u64 0] 55)).trans hb1
  have rL1 := (rL.below ((Below.refl w.heap.size W0).alloc (by omega) (.cells #[.slice (some ⟨L, 0, none⟩) 2 2, .int .i64 0, .int .u64 0] 55))).below hb1
  have bT1 := (bT.alloc (.cells #[.slice (some ⟨L, 0, none⟩) 2 2, .int .i64 0, .int .u64 0] 55)).below hb1 hlt
  clear HK bS bC bR bL c0 c1 c2 bT rL hb1
  have HB1 := Lib.hid hbw1
  have hz1 := bL1.lt
  clear hbw1
  have c0 := bT1.cell (j := 0) rfl
  have c1 := bT1.cell (j := 1) rfl
  have c2 := bT1.cell (j := 2) rfl
  rw [rounds_succ]
  go_wp2_with fail
  refine wp_loop_rounds 2 ?_
  rw [rounds_succ]
  go_wp2_with fail
  clear c0 c1 c2
  generalize hW : World.alloc _ _ = W2
  have bX : Blk W2 w1.heap.size 55 [.slice (some ⟨L, 0, none⟩) 2 2, .int .i64 0, .int .u64 0] := by rw [← hW]; exact Blk.new w1 _ _
  have hb2 : Below w1.heap.size w1 W2 := by rw [← hW]; exact (Below.refl _ _).alloc (Nat.le_refl _) _
  clear hW
  have hz2 := hb2.size
  have bS2 := bS1.below hb2 bS1.lt
  have bC2 : Blk W2 w.heap.size 9 [.string ⟨#[99]⟩] := bC1.below hb2 bC1.lt
  have bR2 : Blk W2 (w.heap.size + 1) 9 [.string ⟨#[114]⟩] := bR1.below hb2 bR1.lt
  have bL2 := bL1.below hb2 bL1.lt
  have rL2 := rL1.below (hb2.mono (by omega))
  have HB2 := Lib.hid (HB1.out.trans (hb2.mono (by omega)))
  clear bS1 bC1 bR1 bL1 rL1 hb2 HB1 bT1
  have s0 := later_cell bS2 (j := 0) rfl
  have s1 := later_cell bC2 (j := 0) rfl
  have s2 := later_cell bR2 (j := 0) rfl
  have s3 := later_cell bL2 (j := 0) rfl
  have s4 := later_cell bX (j := 0) rfl
  have HC := fun (nm : ByteArray) (z : Later W2) => labGet_any awLabs nm (some ⟨L, 0, none⟩) 2 2 w.heap.size (later W2 z) (later_rd rL2 (by omega) z) rfl (Nat.le_trans (by omega) (later_size z)) (by simp [maxLen])
  have HC1 : ∀ z : Later W2, Hid (Calls Tryd.prog 43 #[.slice (some ⟨L, 0, none⟩) 2 2, .string ⟨#[99, 108, 117, 115, 116, 101, 114]⟩] (later W2 z) fun e w' => e = .returned (.string ⟨#[99]⟩) ∧ Below (later W2 z).heap.size (later W2 z) w') := fun z => by
    have h := HC clusterS z
    rw [aw_cluster] at h
    exact h
  have HC2 : ∀ z : Later W2, Hid (Calls Tryd.prog 43 #[.slice (some ⟨L, 0, none⟩) 2 2, .string ⟨#[114, 101, 112, 108, 105, 99, 97]⟩] (later W2 z) fun e w' => e = .returned (.string ⟨#[114]⟩) ∧ Below (later W2 z).heap.size (later W2 z) w') := fun z => by
    have h := HC replicaS z
    rw [aw_replica] at h
    exact h
  clear HC
  refine wp_region_later (by kernel_rfl) (by kernel_rfl) ?_
  repeat (any_goals (first | go_big_quiet_step ((first | (go_at_call 43; with_reducible exact (later_call (HC1 _).out)) | (go_at_call 43; with_reducible exact (later_call (HC2 _).out)))) | quiet_step ((first | (go_at_call 43; with_reducible exact (later_call (HC1 _).out)) | (go_at_call 43; with_reducible exact (later_call (HC2 _).out)))) | (refine wpQuiet_step (fun K hK => ?_); go_simp; split <;> (refine hK _ ?_; clear hK K))))
  all_goals (refine wpQuiet_nil ?_; intro _ hw'; obtain ⟨z, rfl⟩ := hw')
  have bX3 := later_blk bX z
  have bS3 := later_blk bS2 z
  have bC3 := later_blk bC2 z
  have bR3 := later_blk bR2 z
  have rL3 := later_rd rL2 (by omega) z
  have hz3 := later_size z
  have HB3 := Lib.hid (HB2.out.trans ((later_below z).mono (by have := HB2.out.size; omega)))
  clear HC1 HC2 s0 s1 s2 s3 s4 bX bS2 bC2 bR2 bL2 rL2 HB2
  generalize later W2 z = W3 at *
  have s4 := bX3.cell (j := 0) rfl
  have hzx := bX3.lt
  go_wp2_with (at_builtin; go_must (refine wpList_append_rd _ rfl (.tmp 52) (.tmp 54) _ rfl eiLab rfl (Own.lit (n := 0) (xs := []) W3 (by omega) (by simp) rfl (by simp [maxLen]) (Nat.le_refl _) #[] rfl) rfl (rL3.below ((Below.refl _ _).alloc (by omega) _)) rfl (labsC_one _) (by simp [maxLen]) (by simp) (by simp) ?_; intro A4 c4 w4 ho4 hg4 hat4 hb4; have bX4 := (bX3.alloc (.cells #[] 47)).below hb4 hzx; have bS4 := (bS3.alloc (.cells #[] 47)).below hb4 (by omega); have bC4 := (bC3.alloc (.cells #[] 47)).below hb4 (by omega); have bR4 := (bR3.alloc (.cells #[] 47)).below hb4 (by omega); have fX4 := bX4.frozen; have x4 := bX4.cell (j := 0) rfl; have y4 := bS4.cell (j := 0) rfl; clear s4 bX3 bS3 bC3 bR3))
  have hO5 := ho4.setOther (own_ne_blk ho4 bX4 (by decide)) 0 (.slice A4 2 c4)
  have bX5 := bX4.set 0 (.slice A4 2 c4)
  have bS5 := bS4.other (a := ⟨w1.heap.size, 0, none⟩) (by simp; omega) (.slice A4 2 c4)
  have bC5 := bC4.other (a := ⟨w1.heap.size, 0, none⟩) (by simp; omega) (.slice A4 2 c4)
  have bR5 := bR4.other (a := ⟨w1.heap.size, 0, none⟩) (by simp; omega) (.slice A4 2 c4)
  have hz4 := hb4.size
  rw [World.size_alloc] at hz4
  have HB5 := Lib.hid (((HB3.out.alloc (by omega) (.cells #[] 47)).trans (hb4.mono (by omega))).setCell (p := ⟨w1.heap.size, 0, none⟩) (by simp; omega) (.slice A4 2 c4))
  clear HB3 bX4 bS4 bC4 bR4 fX4 x4 y4 ho4 hg4 hat4 hb4 rL3
  have hz5 : (w4.setCell ⟨w1.heap.size, 0, none⟩ (.slice A4 2 c4)).heap.size = w4.heap.size := by simp
  generalize hW5 : w4.setCell ⟨w1.heap.size, 0, none⟩ (.slice A4 2 c4) = W5 at *
  have hrn : Rd (W5.alloc (.cells #[.string replicaS] 9)) (W5.heap.size + 1) 1 (some ⟨W5.heap.size, 0, none⟩) (namesC [replicaS]) := Rd.new W5 (namesC_sz _) _ rfl
  rw [← hz5]
  refine (without_any awLabs [replicaS] A4 (some ⟨W5.heap.size, 0, none⟩) 2 c4 W5.heap.size 1 1 (W5.heap.size + 1) _ ?q1 rfl ?q2 ?q3 hrn rfl ?q4 ?q5).mono ?_
  case q1 => exact hO5.rd.below ((Below.refl _ _).alloc (Nat.le_refl _) _)
  case q2 => simp
  case q3 => simp
  case q4 => simp
  case q5 => simp [maxLen]
  rw [aw_without]
  rintro e w6 ⟨A6, m6, c6, rfl, hm6, ho6, hb6⟩
  obtain rfl : m6 = 1 := by simpa using hm6.symm
  rw [World.size_alloc] at hb6
  have bX6 := (bX5.alloc (.cells #[.string replicaS] 9)).below hb6 (by have := bX5.lt; omega)
  have bC6 := (bC5.alloc (.cells #[.string replicaS] 9)).below hb6 (by have := bC5.lt; omega)
  have bR6 := (bR5.alloc (.cells #[.string replicaS] 9)).below hb6 (by have := bR5.lt; omega)
  have hz6 := hb6.size
  rw [World.size_alloc] at hz6
  have HB6 := Lib.hid (((HB5.out.alloc (by omega) (.cells #[.string replicaS] 9)).trans (hb6.mono (by omega))))
  have HB7 : Hid (Below w.heap.size w (w6.setCell ⟨w1.heap.size, 0, none⟩ (.slice A6 1 c6))) := HB6.out.setCell (p := ⟨w1.heap.size, 0, none⟩) (by simp; omega) (.slice A6 1 c6)
  clear hrn hO5 bX5 bS5 bC5 bR5 HB5 hW5 hm6 hb6
  have fX6 := bX6.frozen
  have x60 := bX6.cell (j := 0) rfl
  have x61 := bX6.cell (j := 1) rfl
  have x62 := bX6.cell (j := 2) rfl
  have bX7 := bX6.set 0 (.slice A6 1 c6)
  have bC7 := bC6.other (a := ⟨w1.heap.size, 0, none⟩) (by simp; omega) (.slice A6 1 c6)
  have bR7 := bR6.other (a := ⟨w1.heap.size, 0, none⟩) (by simp; omega) (.slice A6 1 c6)
  have hz7 : (w6.setCell ⟨w1.heap.size, 0, none⟩ (.slice A6 1 c6)).heap.size = w6.heap.size := by simp
  clear bC6 bR6
  have HR7 : Hid (Rd ((w6.setCell ⟨w1.heap.size, 0, none⟩ (.slice A6 1 c6)).alloc (.cells #[.slice A6 1 c6, .int .i64 0, .int .u64 0] 55)) (w6.heap.size + 1) 3 (some ⟨w6.heap.size, 0, none⟩) (awOut A6 c6)) := by
    have := Rd.new (e := 55) (w6.setCell ⟨w1.heap.size, 0, none⟩ (.slice A6 1 c6)) (awOut_sz A6 c6) #[.slice A6 1 c6, .int .i64 0, .int .u64 0] rfl
    rw [hz7] at this
    exact this
  go_wp2_with (at_builtin; go_must (refine wpList_append_rd _ rfl (.tmp 63) (.tmp 65) _ rfl eiSamp (base := w6.heap.size) rfl (Own.nil_ (by omega)) rfl HR7.out rfl (awOut_one A6 c6) (by simp [maxLen]) (by simp) (by simp) ?_; intro A8 c8 w8 ho8 hg8 hat8 hb8))
  rcases ho8.form with ⟨_, h0, _⟩ | ⟨G, rfl, hG1, hG2⟩
  · omega
  have hcell8 : w8.cell? ⟨G, 0, none⟩ = some (.slice A6 1 c6) := by
    obtain ⟨b, o, e, hb, q0, _, _⟩ := ho8.rd.at3 (k := 0) (by simp [awOut]; exact ⟨rfl, rfl, rfl⟩)
    injection e with e
    injection e with e1 e2
    subst e1 e2
    simpa using q0
  have bC8 := (bC7.alloc (.cells #[.slice A6 1 c6, .int .i64 0, .int .u64 0] 55)).below hb8 (by omega)
  have bR8 := (bR7.alloc (.cells #[.slice A6 1 c6, .int .i64 0, .int .u64 0] 55)).below hb8 (by omega)
  have HB8 := Lib.hid ((HB7.out.alloc (by omega) (.cells #[.slice A6 1 c6, .int .i64 0, .int .u64 0] 55)).trans (hb8.mono (by omega)))
  have HC8 := Lib.hid hcell8
  have k1 := bC8.cell (j := 0) rfl
  have k2 := bR8.cell (j := 0) rfl
  clear hcell8 ho8 hg8 hat8 hb8 bC7 bR7 bX6 bX7 fX6 x60 x61 x62 HB7 HB6 HR7 bC8 bR8 HB0 hmf
  rw [rounds_succ]
  go_wp2_with fail
  go_quiet (fail)
  go_wp2_with fail
  (try simp only [Exit.inBlock, Exit.then]); refine bodyPost_ret (by simp [results, Tryd.results31, go_sem]; try rfl) rfl ?_
  exact ⟨G, c8, A6, c6, rfl, HC8.out, below_drewN HB8.out _⟩
end Go.Proofs.YtngboplmlkckhaaDoor
