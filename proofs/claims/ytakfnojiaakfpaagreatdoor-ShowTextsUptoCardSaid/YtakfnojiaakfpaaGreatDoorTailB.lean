/- A region that draws its order: first operations that only read or make new memory, a new block at any time among them, then some in one forced order. -/
import Derived.Test.YtakfnojiaakfpaaGreatDoorShwI
import Derived.Test.YtakfnojiaakfpaaGreatDoorShwJ
import Derived.Test.YtakfnojiaakfpaaGreatDoorTypC
import Derived.Test.YtakfnojiaakfpaaGreatDoorShwC
import Derived.Test.YtakfnojiaakfpaaGreatDoorNodC
import Derived.Test.YtakfnojiaakfpaaGreatDoorShowD
namespace Go.Proofs.YtakfnojiaakfpaaGreatDoor
section
open Go.RowKit
def sdC (s : Sd) : List Value := [.string s.text, .int .i64 s.row, .int .i64 s.deep]
def sdsC (l : List Sd) : List (List Value) := l.map sdC
theorem sdsC_at {l : List Sd} {k : Nat} {s : Sd} (h : l[k]? = some s) : (sdsC l)[k]? = some [.string s.text, .int .i64 s.row, .int .i64 s.deep] := by simp [sdsC, sdC, h]
/-- A part that lies in bounds. -/
def SdIn (s : Sd) : Prop := s.text.size ≤ 1000000 ∧ 0 ≤ s.deep ∧ s.deep ≤ 1000
/-- A closure that says a leaf's text. -/
def leafW (L : Nat) : Value := .func (.func 44) #[] #[.pointer (some ⟨L, 0, none⟩)]
set_option maxHeartbeats 400000 in
theorem swr1_any (F : Nat) (w : World) : Calls Tryz.prog 43 #[.func (.func F) #[] #[]] w fun e w' => e = .returned (leafW w.heap.size) ∧ w.alloc (.cells #[.func (.func F) #[] #[]] 81) = w' := by
  have hmf : ∀ (fn : Fn) (first cap : Array Value) (w : World), (Instr.makeFunc fn first cap).run Tryz.prog w = .ok (.func fn first cap) w := fun _ _ _ _ => rfl
  go_enter Tryz.func43, Tryz.ntmps43
  go_wp2
  go_ret
  exact ⟨rfl, rfl⟩
set_option maxHeartbeats 400000 in
theorem swr2_any (n : Nod) (Am An : Option Addr) (cm cn : Nat) (w : World) : Calls Tryz.prog 45 #[nodeV n Am An cm cn] w fun e w' => e = .returned (.string n.text) ∧ Below w.heap.size w w' := by
  unfold nodeV
  go_enter Tryz.func45, Tryz.ntmps45
  go_wp2
  go_ret
  exact ⟨rfl, (Below.refl _ _).alloc (Nat.le_refl _) _⟩
theorem NamesAt.below {n : Nod} {An : Option Addr} {cn : Nat} {w w' : World} (h : NamesAt n An cn w) (hb : Below w.heap.size w w') : NamesAt n An cn w' := ⟨(h.rd.below hb).more hb.size, h.le, h.len, h.size⟩
/-- A leaf's closure: its text is the function's. -/
def leafF (k : Int) : Nat := if k = 1 then 45 else 46
set_option maxRecDepth 100000 in
set_option maxHeartbeats 2000000 in
theorem swrlT_any (T : ByteArray) (n : Nod) (Am An : Option Addr) (cm cn L : Nat) (S : Value) (w : World) (hF : ∀ W, Below w.heap.size w W → Calls Tryz.prog 45 #[nodeV n Am An cm cn] W fun e w' => e = .returned (.string T) ∧ Below W.heap.size W w')
    (hL : w.cell? ⟨L, 0, none⟩ = some (.func (.func 45) #[] #[])) (hLs : L < w.heap.size) :
    Calls Tryz.prog 44 #[nodeV n Am An cm cn, S, .pointer (some ⟨L, 0, none⟩)] w fun e w' => e = .returned (sdV ⟨T, 7, 0⟩) ∧ Below w.heap.size w w' := by
  have HF := fun (W : World) (h : Below w.heap.size w W) => Lib.hid (hF W h)
  clear hF
  unfold nodeV at HF ⊢
  go_enter Tryz.func44, Tryz.ntmps44
  go_upto_region 1 with fail
  generalize hW : World.alloc _ _ = W0
  have hB0 : Below w.heap.size w W0 := by rw [← hW]; exact by repeat (first | exact Below.refl _ _ | refine Below.alloc ?_ (by first | exact Nat.le_refl _ | (simp; done) | (simp; omega)) _ | refine Below.setCell ?_ (by first | exact Nat.le_refl _ | (simp; done) | (simp; omega)) _ | refine Below.drew ?_)
  have hX : Blk W0 w.heap.size 41 (nodC n Am cm An cn) := by rw [← hW]; exact (Blk.new w _ (nodC n Am cm An cn)).alloc _
  have hR : Blk W0 (w.heap.size + 1) 53 [.string ⟨#[]⟩, .int .i64 0, .int .i64 0] := by rw [← hW]; exact blk_new1 (by simp)
  have hL2 := (hB0.cell (p := ⟨L, 0, none⟩) hLs).trans hL
  clear hW hL
  have x0 := hX.cell (j := 0) rfl
  have x1 := hX.cell (j := 1) rfl
  have x2 := hX.cell (j := 2) rfl
  have x3 := hX.cell (j := 3) rfl
  have x4 := hX.cell (j := 4) rfl
  have x5 := hX.cell (j := 5) rfl
  have x6 := hX.cell (j := 6) rfl
  have x7 := hX.cell (j := 7) rfl
  have x8 := hX.cell (j := 8) rfl
  have x9 := hX.cell (j := 9) rfl
  have HF0 := HF W0 hB0
  go_wp2_with fail
  refine (HF0.out).mono ?_
  rintro e w1 ⟨rfl, hb1⟩
  have hR1 := hR.below hb1 hR.lt
  have hB1 := hB0.trans (hb1.mono hB0.size)
  clear hX hR hB0 hb1 HF0 HF x0 x1 x2 x3 x4 x5 x6 x7 x8 x9 hL2
  have c0 := hR1.cell (j := 0) rfl
  have c1 := hR1.cell (j := 1) rfl
  have c2 := hR1.cell (j := 2) rfl
  have f0 := hR1.frozen
  go_wp2_with fail
  have bE := ((hR1.set 0 (.string T)).set 1 (.int .i64 7)).set 2 (.int .i64 0)
  have d0 := bE.cell (j := 0) rfl
  have d1 := bE.cell (j := 1) rfl
  have d2 := bE.cell (j := 2) rfl
  exact bodyPost_ret (v := sdV ⟨T, 7, 0⟩) (by simp [results, Tryz.results44, go_sem, d0, d1, d2]; rfl) rfl ⟨rfl, ((hB1.setCell (by simp) _).setCell (by simp) _).setCell (by simp) _⟩
set_option maxRecDepth 100000 in
set_option maxHeartbeats 2000000 in
theorem swrlC_any (T : ByteArray) (n : Nod) (Am An : Option Addr) (cm cn L : Nat) (S : Value) (w : World) (hF : ∀ W, Below w.heap.size w W → Calls Tryz.prog 46 #[nodeV n Am An cm cn] W fun e w' => e = .returned (.string T) ∧ Below W.heap.size W w')
    (hL : w.cell? ⟨L, 0, none⟩ = some (.func (.func 46) #[] #[])) (hLs : L < w.heap.size) :
    Calls Tryz.prog 44 #[nodeV n Am An cm cn, S, .pointer (some ⟨L, 0, none⟩)] w fun e w' => e = .returned (sdV ⟨T, 7, 0⟩) ∧ Below w.heap.size w w' := by
  have HF := fun (W : World) (h : Below w.heap.size w W) => Lib.hid (hF W h)
  clear hF
  unfold nodeV at HF ⊢
  go_enter Tryz.func44, Tryz.ntmps44
  go_upto_region 1 with fail
  generalize hW : World.alloc _ _ = W0
  have hB0 : Below w.heap.size w W0 := by rw [← hW]; exact by repeat (first | exact Below.refl _ _ | refine Below.alloc ?_ (by first | exact Nat.le_refl _ | (simp; done) | (simp; omega)) _ | refine Below.setCell ?_ (by first | exact Nat.le_refl _ | (simp; done) | (simp; omega)) _ | refine Below.drew ?_)
  have hX : Blk W0 w.heap.size 41 (nodC n Am cm An cn) := by rw [← hW]; exact (Blk.new w _ (nodC n Am cm An cn)).alloc _
  have hR : Blk W0 (w.heap.size + 1) 53 [.string ⟨#[]⟩, .int .i64 0, .int .i64 0] := by rw [← hW]; exact blk_new1 (by simp)
  have hL2 := (hB0.cell (p := ⟨L, 0, none⟩) hLs).trans hL
  clear hW hL
  have x0 := hX.cell (j := 0) rfl
  have x1 := hX.cell (j := 1) rfl
  have x2 := hX.cell (j := 2) rfl
  have x3 := hX.cell (j := 3) rfl
  have x4 := hX.cell (j := 4) rfl
  have x5 := hX.cell (j := 5) rfl
  have x6 := hX.cell (j := 6) rfl
  have x7 := hX.cell (j := 7) rfl
  have x8 := hX.cell (j := 8) rfl
  have x9 := hX.cell (j := 9) rfl
  have HF0 := HF W0 hB0
  go_wp2_with fail
  refine (HF0.out).mono ?_
  rintro e w1 ⟨rfl, hb1⟩
  have hR1 := hR.below hb1 hR.lt
  have hB1 := hB0.trans (hb1.mono hB0.size)
  clear hX hR hB0 hb1 HF0 HF x0 x1 x2 x3 x4 x5 x6 x7 x8 x9 hL2
  have c0 := hR1.cell (j := 0) rfl
  have c1 := hR1.cell (j := 1) rfl
  have c2 := hR1.cell (j := 2) rfl
  have f0 := hR1.frozen
  go_wp2_with fail
  have bE := ((hR1.set 0 (.string T)).set 1 (.int .i64 7)).set 2 (.int .i64 0)
  have d0 := bE.cell (j := 0) rfl
  have d1 := bE.cell (j := 1) rfl
  have d2 := bE.cell (j := 2) rfl
  exact bodyPost_ret (v := sdV ⟨T, 7, 0⟩) (by simp [results, Tryz.results44, go_sem, d0, d1, d2]; rfl) rfl ⟨rfl, ((hB1.setCell (by simp) _).setCell (by simp) _).setCell (by simp) _⟩
set_option maxRecDepth 100000 in
set_option maxHeartbeats 2000000 in
theorem swr3_any (n : Nod) (Am An : Option Addr) (cm cn : Nat) (p : Sd) (A3 : Option Addr) (c B : Nat) (w : World) (hr : Rd w B 3 A3 (sdsC [p])) (hB : B ≤ w.heap.size) (hop : inB 1 12 n.op = true) (hp : SdIn p) :
    Calls Tryz.prog 47 #[nodeV n Am An cm cn, .slice A3 1 c] w fun e w' => e = .returned (sdV (p.inside (funcsL.getD n.op.toNat ByteArray.empty))) ∧ Below w.heap.size w w' := by
  have hop' : 1 ≤ n.op ∧ n.op ≤ 12 := by simpa [inB] using hop
  clear hop
  obtain ⟨k, hk⟩ : ∃ k : Nat, n.op = (k : Int) := ⟨n.op.toNat, by omega⟩
  have hkn : n.op.toNat = k := by omega
  have hk13 : k < 13 := by omega
  obtain ⟨p1, p2, p3⟩ := hp
  obtain ⟨b, o, rfl, hb, e0, e1, e2⟩ := hr.at3 (sdsC_at (k := 0) rfl)
  simp only [Nat.zero_mul, Nat.add_zero] at e0 e1 e2
  have HF := fun W : World => Lib.hid (by have := sfuncsw_any k hk13 W; rw [← hk] at this; exact this)
  have hws : (funcsL.getD k ByteArray.empty).size ≤ 100 := by
    have : ∀ k : Nat, k < 13 → (funcsL.getD k ByteArray.empty).size ≤ 100 := by decide +kernel
    exact this k hk13
  rw [hkn]
  have HI := fun W : World => Lib.hid (sinside_any p (funcsL.getD k ByteArray.empty) W p1 (by omega) p2 p3)
  unfold sdV at HI ⊢
  generalize hV : p.inside (funcsL.getD k ByteArray.empty) = V at *
  have HV := Lib.hid hV
  clear hV
  generalize funcsL.getD k ByteArray.empty = wd at *
  have hbw : b < w.heap.size := by omega
  clear hop' hk
  unfold nodeV
  go_enter Tryz.func47, Tryz.ntmps47
  go_upto_region 1 with fail
  generalize hW : World.alloc _ _ = W0
  have hB0 : Below w.heap.size w W0 := by rw [← hW]; exact by repeat (first | exact Below.refl _ _ | refine Below.alloc ?_ (by first | exact Nat.le_refl _ | (simp; done) | (simp; omega)) _ | refine Below.setCell ?_ (by first | exact Nat.le_refl _ | (simp; done) | (simp; omega)) _ | refine Below.drew ?_)
  have hX : Blk W0 w.heap.size 41 (nodC n Am cm An cn) := by rw [← hW]; exact (Blk.new w _ (nodC n Am cm An cn)).alloc _
  have hR : Blk W0 (w.heap.size + 1) 53 [.string ⟨#[]⟩, .int .i64 0, .int .i64 0] := by rw [← hW]; exact blk_new1 (by simp)
  clear hW
  have hs0 := hB0.size
  have l0 := later_at (w := W0) (by omega) ((hB0.cell (p := ⟨b, o, none⟩) hbw).trans e0)
  have l1 := later_at (w := W0) (by omega) ((hB0.cell (p := ⟨b, o + 1, none⟩) hbw).trans e1)
  have l2 := later_at (w := W0) (by omega) ((hB0.cell (p := ⟨b, o + 2, none⟩) hbw).trans e2)
  have x1 := later_cell hX (j := 1) rfl
  refine wp_region_later_tail 7 (by kernel_rfl) (by kernel_rfl) ?_
  simp only [List.take_succ_cons, List.take_zero, List.drop_succ_cons, List.drop_zero]
  go_big_quiet_step (fail)
  go_big_quiet_step (fail)
  go_big_quiet_step (fail)
  go_big_quiet_step (fail)
  go_big_quiet_step (fail)
  go_big_quiet_step ((go_at_call 49; exact later_call (HF _).out))
  go_big_quiet_step ((go_at_call 48; exact later_call (HI _).out))
  refine wpQuiet_nil ?_
  intro _ hw'
  obtain ⟨z, rfl⟩ := hw'
  have hR1 := later_blk hR z
  have hB1 := hB0.trans ((later_below z).mono hs0)
  clear hX hR hB0 hs0 HF HI l0 l1 l2 x1
  generalize later W0 z = W1 at *
  have c0 := hR1.cell (j := 0) rfl
  have c1 := hR1.cell (j := 1) rfl
  have c2 := hR1.cell (j := 2) rfl
  have f0 := hR1.frozen
  go_wp2_with fail
  have bE := ((hR1.set 0 (.string (V).text)).set 1 (.int .i64 (V).row)).set 2 (.int .i64 (V).deep)
  have d0 := bE.cell (j := 0) rfl
  have d1 := bE.cell (j := 1) rfl
  have d2 := bE.cell (j := 2) rfl
  exact bodyPost_ret (v := sdV (V)) (by simp [results, Tryz.results47, go_sem, d0, d1, d2]; rfl) rfl ⟨rfl, ((hB1.setCell (by simp) _).setCell (by simp) _).setCell (by simp) _⟩
set_option maxRecDepth 100000 in
set_option maxHeartbeats 2000000 in
theorem swr4_any (n : Nod) (Am An : Option Addr) (cm cn : Nat) (p : Sd) (A3 : Option Addr) (c B : Nat) (w : World) (hr : Rd w B 3 A3 (sdsC [p])) (hB : B ≤ w.heap.size) (hop : inB 1 5 n.op = true) (hg : n.grp = 0 ∨ n.grp = 1 ∨ n.grp = 2) (hN : NamesAt n An cn w) (hp : SdIn p) :
    Calls Tryz.prog 50 #[nodeV n Am An cm cn, .slice A3 1 c] w fun e w' => e = .returned (sdV (p.inside (aggW n))) ∧ Below w.heap.size w w' := by
  obtain ⟨p1, p2, p3⟩ := hp
  obtain ⟨b, o, rfl, hb, e0, e1, e2⟩ := hr.at3 (sdsC_at (k := 0) rfl)
  simp only [Nat.zero_mul, Nat.add_zero] at e0 e1 e2
  have HA := fun (W : World) (h : Below w.heap.size w W) => Lib.hid (sagg_any n Am An cm cn p W hop hg (hN.below h) p1 p2 p3)
  clear hop hg hN
  generalize hV : p.inside (aggW n) = V at *
  clear hV
  have hbw : b < w.heap.size := by omega
  unfold nodeV sdV at HA
  unfold sdV
  unfold nodeV
  go_enter Tryz.func50, Tryz.ntmps50
  go_upto_region 1 with fail
  generalize hW : World.alloc _ _ = W0
  have hB0 : Below w.heap.size w W0 := by rw [← hW]; exact by repeat (first | exact Below.refl _ _ | refine Below.alloc ?_ (by first | exact Nat.le_refl _ | (simp; done) | (simp; omega)) _ | refine Below.setCell ?_ (by first | exact Nat.le_refl _ | (simp; done) | (simp; omega)) _ | refine Below.drew ?_)
  have hX : Blk W0 w.heap.size 41 (nodC n Am cm An cn) := by rw [← hW]; exact (Blk.new w _ (nodC n Am cm An cn)).alloc _
  have hR : Blk W0 (w.heap.size + 1) 53 [.string ⟨#[]⟩, .int .i64 0, .int .i64 0] := by rw [← hW]; exact blk_new1 (by simp)
  clear hW
  have hs0 := hB0.size
  have l0 := later_at (w := W0) (by omega) ((hB0.cell (p := ⟨b, o, none⟩) hbw).trans e0)
  have l1 := later_at (w := W0) (by omega) ((hB0.cell (p := ⟨b, o + 1, none⟩) hbw).trans e1)
  have l2 := later_at (w := W0) (by omega) ((hB0.cell (p := ⟨b, o + 2, none⟩) hbw).trans e2)
  have x0 := later_cell hX (j := 0) rfl
  have x1 := later_cell hX (j := 1) rfl
  have x2 := later_cell hX (j := 2) rfl
  have x3 := later_cell hX (j := 3) rfl
  have x4 := later_cell hX (j := 4) rfl
  have x5 := later_cell hX (j := 5) rfl
  have x6 := later_cell hX (j := 6) rfl
  have x7 := later_cell hX (j := 7) rfl
  have x8 := later_cell hX (j := 8) rfl
  have x9 := later_cell hX (j := 9) rfl
  have HL := fun z : Later W0 => HA (later W0 z) (hB0.trans ((later_below z).mono hs0))
  refine wp_region_later_tail 5 (by kernel_rfl) (by kernel_rfl) ?_
  simp only [List.take_succ_cons, List.take_zero, List.drop_succ_cons, List.drop_zero]
  go_big_quiet_step (fail)
  go_big_quiet_step (fail)
  go_big_quiet_step (fail)
  go_big_quiet_step (fail)
  go_big_quiet_step ((go_at_call 51; exact later_call (HL _).out))
  refine wpQuiet_nil ?_
  intro _ hw'
  obtain ⟨z, rfl⟩ := hw'
  have hR1 := later_blk hR z
  have hB1 := hB0.trans ((later_below z).mono hs0)
  clear hX hR hB0 hs0 HA HL l0 l1 l2 x0 x1 x2 x3 x4 x5 x6 x7 x8 x9
  generalize later W0 z = W1 at *
  have c0 := hR1.cell (j := 0) rfl
  have c1 := hR1.cell (j := 1) rfl
  have c2 := hR1.cell (j := 2) rfl
  have f0 := hR1.frozen
  go_wp2_with fail
  have bE := ((hR1.set 0 (.string (V).text)).set 1 (.int .i64 (V).row)).set 2 (.int .i64 (V).deep)
  have d0 := bE.cell (j := 0) rfl
  have d1 := bE.cell (j := 1) rfl
  have d2 := bE.cell (j := 2) rfl
  exact bodyPost_ret (v := sdV (V)) (by simp [results, Tryz.results50, go_sem, d0, d1, d2]; rfl) rfl ⟨rfl, ((hB1.setCell (by simp) _).setCell (by simp) _).setCell (by simp) _⟩
set_option maxRecDepth 100000 in
set_option maxHeartbeats 2000000 in
theorem swr5_any (n : Nod) (Am An : Option Addr) (cm cn : Nat) (p q : Sd) (A3 : Option Addr) (c B : Nat) (w : World) (hr : Rd w B 3 A3 (sdsC [p, q])) (hB : B ≤ w.heap.size) (hop : inB 1 13 n.op = true) (hg : n.grp = 3 ∨ n.grp = 4 ∨ n.grp = 0) (hN : NamesAt n An cn w) (hp : SdIn p) (hq : SdIn q) :
    Calls Tryz.prog 52 #[nodeV n Am An cm cn, .slice A3 2 c] w fun e w' => e = .returned (sdV (binT n p q)) ∧ Below w.heap.size w w' := by
  obtain ⟨p1, p2, p3⟩ := hp
  obtain ⟨q1, q2, q3⟩ := hq
  obtain ⟨b, o, rfl, hb, e0, e1, e2⟩ := hr.at3 (sdsC_at (k := 0) rfl)
  obtain ⟨b', o', e, hb', g0, g1, g2⟩ := hr.at3 (sdsC_at (k := 1) rfl)
  injection e with e
  injection e with ea eb
  subst ea eb
  simp only [Nat.zero_mul, Nat.one_mul, Nat.add_zero] at e0 e1 e2 g0 g1 g2
  have HA := fun (W : World) (h : Below w.heap.size w W) => Lib.hid (sbin_any n Am An cm cn p q W hop hg (hN.below h) p1 q1 p2 p3 q2 q3)
  clear hop hg hN
  generalize hV : binT n p q = V at *
  clear hV
  have hbw : b < w.heap.size := by omega
  unfold nodeV sdV at HA
  unfold sdV
  unfold nodeV
  go_enter Tryz.func52, Tryz.ntmps52
  go_upto_region 1 with fail
  generalize hW : World.alloc _ _ = W0
  have hB0 : Below w.heap.size w W0 := by rw [← hW]; exact by repeat (first | exact Below.refl _ _ | refine Below.alloc ?_ (by first | exact Nat.le_refl _ | (simp; done) | (simp; omega)) _ | refine Below.setCell ?_ (by first | exact Nat.le_refl _ | (simp; done) | (simp; omega)) _ | refine Below.drew ?_)
  have hX : Blk W0 w.heap.size 41 (nodC n Am cm An cn) := by rw [← hW]; exact (Blk.new w _ (nodC n Am cm An cn)).alloc _
  have hR : Blk W0 (w.heap.size + 1) 53 [.string ⟨#[]⟩, .int .i64 0, .int .i64 0] := by rw [← hW]; exact blk_new1 (by simp)
  clear hW
  have hs0 := hB0.size
  have l0 := later_at (w := W0) (by omega) ((hB0.cell (p := ⟨b, o, none⟩) hbw).trans e0)
  have l1 := later_at (w := W0) (by omega) ((hB0.cell (p := ⟨b, o + 1, none⟩) hbw).trans e1)
  have l2 := later_at (w := W0) (by omega) ((hB0.cell (p := ⟨b, o + 2, none⟩) hbw).trans e2)
  have m0 := later_at (w := W0) (by omega) ((hB0.cell (p := ⟨b, o + 3, none⟩) hbw).trans g0)
  have m1 := later_at (w := W0) (by omega) ((hB0.cell (p := ⟨b, o + 3 + 1, none⟩) hbw).trans g1)
  have m2 := later_at (w := W0) (by omega) ((hB0.cell (p := ⟨b, o + 3 + 2, none⟩) hbw).trans g2)
  have x0 := later_cell hX (j := 0) rfl
  have x1 := later_cell hX (j := 1) rfl
  have x2 := later_cell hX (j := 2) rfl
  have x3 := later_cell hX (j := 3) rfl
  have x4 := later_cell hX (j := 4) rfl
  have x5 := later_cell hX (j := 5) rfl
  have x6 := later_cell hX (j := 6) rfl
  have x7 := later_cell hX (j := 7) rfl
  have x8 := later_cell hX (j := 8) rfl
  have x9 := later_cell hX (j := 9) rfl
  have HL := fun z : Later W0 => HA (later W0 z) (hB0.trans ((later_below z).mono hs0))
  refine wp_region_later_tail 8 (by kernel_rfl) (by kernel_rfl) ?_
  simp only [List.take_succ_cons, List.take_zero, List.drop_succ_cons, List.drop_zero]
  go_big_quiet_step (fail)
  go_big_quiet_step (fail)
  go_big_quiet_step (fail)
  go_big_quiet_step (fail)
  go_big_quiet_step (fail)
  go_big_quiet_step (fail)
  go_big_quiet_step (fail)
  go_big_quiet_step ((go_at_call 53; exact later_call (HL _).out))
  refine wpQuiet_nil ?_
  intro _ hw'
  obtain ⟨z, rfl⟩ := hw'
  have hR1 := later_blk hR z
  have hB1 := hB0.trans ((later_below z).mono hs0)
  clear hX hR hB0 hs0 HA HL l0 l1 l2 m0 m1 m2 x0 x1 x2 x3 x4 x5 x6 x7 x8 x9
  generalize later W0 z = W1 at *
  have c0 := hR1.cell (j := 0) rfl
  have c1 := hR1.cell (j := 1) rfl
  have c2 := hR1.cell (j := 2) rfl
  have f0 := hR1.frozen
  go_wp2_with fail
  have bE := ((hR1.set 0 (.string (V).text)).set 1 (.int .i64 (V).row)).set 2 (.int .i64 (V).deep)
  have d0 := bE.cell (j := 0) rfl
  have d1 := bE.cell (j := 1) rfl
  have d2 := bE.cell (j := 2) rfl
  exact bodyPost_ret (v := sdV (V)) (by simp [results, Tryz.results52, go_sem, d0, d1, d2]; rfl) rfl ⟨rfl, ((hB1.setCell (by simp) _).setCell (by simp) _).setCell (by simp) _⟩
set_option maxRecDepth 100000 in
set_option maxHeartbeats 2000000 in
theorem swr6_any (n : Nod) (Am An : Option Addr) (cm cn : Nat) (p : Sd) (A3 : Option Addr) (c B : Nat) (w : World) (hr : Rd w B 3 A3 (sdsC [p])) (hB : B ≤ w.heap.size) (hp : SdIn p) :
    Calls Tryz.prog 54 #[nodeV n Am An cm cn, .slice A3 1 c] w fun e w' => e = .returned (sdV (negT p)) ∧ Below w.heap.size w w' := by
  obtain ⟨p1, p2, p3⟩ := hp
  obtain ⟨b, o, rfl, hb, e0, e1, e2⟩ := hr.at3 (sdsC_at (k := 0) rfl)
  simp only [Nat.zero_mul, Nat.add_zero] at e0 e1 e2
  have HW := fun W : World => Lib.hid (swithin_any p 6 W p1 p2 p3)
  have hz := within_size p 6
  have hd := within_deep p 6
  have HV : Hid (negT p = ⟨sMinus ++ (p.within 6).text, 6, (p.within 6).deep + 1⟩) := rfl
  unfold sdV at HW ⊢
  generalize p.within 6 = q at *
  have hbw : b < w.heap.size := by omega
  unfold nodeV
  go_enter Tryz.func54, Tryz.ntmps54
  go_upto_region 1 with fail
  generalize hW : World.alloc _ _ = W0
  have hB0 : Below w.heap.size w W0 := by rw [← hW]; exact by repeat (first | exact Below.refl _ _ | refine Below.alloc ?_ (by first | exact Nat.le_refl _ | (simp; done) | (simp; omega)) _ | refine Below.setCell ?_ (by first | exact Nat.le_refl _ | (simp; done) | (simp; omega)) _ | refine Below.drew ?_)
  have hX : Blk W0 w.heap.size 41 (nodC n Am cm An cn) := by rw [← hW]; exact (Blk.new w _ (nodC n Am cm An cn)).alloc _
  have hR : Blk W0 (w.heap.size + 1) 53 [.string ⟨#[]⟩, .int .i64 0, .int .i64 0] := by rw [← hW]; exact blk_new1 (by simp)
  clear hW
  have hs0 := hB0.size
  have l0 := (hB0.cell (p := ⟨b, o, none⟩) hbw).trans e0
  have l1 := (hB0.cell (p := ⟨b, o + 1, none⟩) hbw).trans e1
  have l2 := (hB0.cell (p := ⟨b, o + 2, none⟩) hbw).trans e2
  go_wp2_with fail
  refine ((HW W0).out).mono ?_
  rintro e w1 ⟨rfl, hb1⟩
  have hR1 := hR.below hb1 hR.lt
  have hB1 := hB0.trans (hb1.mono hs0)
  clear hX hR hB0 hb1 hs0 l0 l1 l2 HW
  go_upto_region 2 with fail
  generalize hW : World.alloc _ _ = W2
  have hY : Blk W2 w1.heap.size 53 [.string q.text, .int .i64 q.row, .int .i64 q.deep] := by rw [← hW]; exact Blk.new _ _ _
  have hR2 : Blk W2 (w.heap.size + 1) 53 [.string ⟨#[]⟩, .int .i64 0, .int .i64 0] := by rw [← hW]; exact hR1.alloc _
  have hB2 : Below w.heap.size w W2 := by rw [← hW]; exact hB1.alloc hB1.size _
  clear hW hR1 hB1
  have y0 := hY.cell (j := 0) rfl
  have y2 := hY.cell (j := 2) rfl
  have c0 := hR2.cell (j := 0) rfl
  have c1 := hR2.cell (j := 1) rfl
  have c2 := hR2.cell (j := 2) rfl
  have f0 := hR2.frozen
  go_wp2_with fail
  rw [HV.out]
  have bE := ((hR2.set 0 (.string ((⟨#[45]⟩ : ByteArray) ++ q.text))).set 1 (.int .i64 6)).set 2 (.int .i64 (q.deep + 1))
  have d0 := bE.cell (j := 0) rfl
  have d1 := bE.cell (j := 1) rfl
  have d2 := bE.cell (j := 2) rfl
  exact bodyPost_ret (v := sdV ⟨(⟨#[45]⟩ : ByteArray) ++ q.text, 6, q.deep + 1⟩) (by simp [results, Tryz.results54, go_sem, d0, d1, d2]; rfl) rfl ⟨rfl, ((hB2.setCell (by simp) _).setCell (by simp) _).setCell (by simp) _⟩
end
section
open Go.RowKit
def byteOk (c : UInt8) : Bool := decide (32 ≤ c.toNat) || decide (c.toNat = 10)
theorem clean_no {s : ByteArray} {k : Nat} (h : k < s.size) (hc : byteOk s[k] = false) : cleanB s = false := by
  rw [cleanB, List.all_eq_false]
  have h' : k < s.data.toList.length := by rw [← Lib.size_eq]; exact h
  exact ⟨s.data.toList[k], List.getElem_mem h', by rw [show s.data.toList[k] = s[k] from rfl]; unfold byteOk at hc; rw [hc]; decide⟩
theorem clean_all {s : ByteArray} (h : ∀ j (hj : j < s.size), byteOk s[j] = true) : cleanB s = true := by
  rw [cleanB, List.all_eq_true]
  intro c hc
  obtain ⟨j, hj, rfl⟩ := List.getElem_of_mem hc
  exact h j (by rw [Lib.size_eq]; exact hj)
theorem clean_step {s : ByteArray} {k : Nat} (h : k < s.size) (hc : byteOk s[k] = true) (ha : Hid (∀ j (hj : j < s.size), j < k → byteOk s[j] = true)) : Hid (∀ j (hj : j < s.size), j < k + 1 → byteOk s[j] = true) := by
  intro j hj hlt
  by_cases e : j = k
  · subst e; exact hc
  · exact ha j hj (by omega)
def nodeClean (n : Nod) : Bool := n.mat.all fun m => cleanB m.val
theorem may_no {ns : List Nod} {k q : Nat} {n : Nod} {m : Mat} (hk : ns[k]? = some n) (hq : n.mat[q]? = some m) (h : cleanB m.val = false) : mayB ns = false := by
  rw [mayB, List.all_eq_false]
  refine ⟨n, List.mem_of_getElem? hk, ?_⟩
  have : (n.mat.all fun m => cleanB m.val) = false := by rw [List.all_eq_false]; exact ⟨m, List.mem_of_getElem? hq, by simp [h]⟩
  rw [this]; decide
theorem all_step {α : Type} {l : List α} {p : α → Bool} {k : Nat} {x : α} (hk : l[k]? = some x) (h : p x = true) (ha : Hid (∀ j y, j < k → l[j]? = some y → p y = true)) : Hid (∀ j y, j < k + 1 → l[j]? = some y → p y = true) := by
  intro j y hj hy
  by_cases e : j = k
  · subst e
    rw [hk] at hy
    injection hy with hy
    subst hy
    exact h
  · exact ha j y (by omega) hy
theorem all_done {α : Type} {l : List α} {p : α → Bool} {k : Nat} (hk : l.length ≤ k) (ha : Hid (∀ j y, j < k → l[j]? = some y → p y = true)) : l.all p = true := by
  rw [List.all_eq_true]
  intro x hx
  obtain ⟨j, hj, rfl⟩ := List.getElem_of_mem hx
  exact ha j _ (by omega) (List.getElem?_eq_getElem hj)
set_option maxHeartbeats 4000000 in
set_option maxRecDepth 100000 in
theorem may_any (ns : List Nod) (A : Option Addr) (n c B : Nat) (w : World) (hr : RdNods w B A ns) (hn : ns.length = n) (hB : B ≤ w.heap.size) (hml : n ≤ 1000000) (hv : ∀ x ∈ ns, x.mat.length ≤ 1000 ∧ ∀ m ∈ x.mat, m.val.size ≤ 1000000) :
    Calls Tryz.prog 22 #[.slice A n c] w fun e w' => e = .returned (.bool (mayB ns)) ∧ Below w.heap.size w w' := by
  have HN := Lib.hid hn
  have HV := Lib.hid hv
  clear hn hv
  go_enter Tryz.func22, Tryz.ntmps22
  go_wp2
  go_loopw [10] (fun i wr => ∃ k : Nat, k ≤ n ∧ i = .int .i64 k ∧ Hid (∀ j y, j < k → ns[j]? = some y → nodeClean y = true) ∧ Hid (Below w.heap.size w wr)) (fun i _ => n - (intOf i).toNat)
  case atStart => exact ⟨0, by omega, rfl, fun j y h => by omega, Below.refl _ _⟩
  case round =>
    obtain ⟨k, hk, rfl, HA, hb⟩ := hrel
    have hk0 : (0 : Int) ≤ k := by omega
    have hbs := hb.out.size
    by_cases hlt : k < n
    · have hltI : (k : Int) < n := by omega
      obtain ⟨x, hx⟩ := get_lt HN hlt
      obtain ⟨b, o, Am, cm, An, cn, hA, hbl, p0, p1, p2, p3, p4, p5, p6, p7, p8, p9, hm, _⟩ := (hr.below (hb.out.mono hB)).at_ hx
      subst hA
      have hbl2 : b < wr.heap.size := by omega
      obtain ⟨hx1, hx2⟩ := HV.out x (List.mem_of_getElem? hx)
      have HX := Lib.hid hx
      have HX2 := Lib.hid hx2
      have HM := Lib.hid hm
      clear hx hx2 hm
      go_wp2_with fail
      clear p0 p1 p2 p3 p4 p5 p6 p7 p8 p9
      generalize hW : World.alloc _ _ = W1
      have hB1 : Hid (Below w.heap.size w W1) := by show Below _ _ _; rw [← hW]; exact hb.out.alloc hbs _
      have hB2 : Hid (Below wr.heap.size wr W1) := by show Below _ _ _; rw [← hW]; exact (Below.refl _ _).alloc (Nat.le_refl _) _
      clear hW
      generalize wr = w9 at *
      go_loopw [17] (fun i wr => ∃ q : Nat, q ≤ x.mat.length ∧ i = .int .i64 q ∧ Hid (∀ j y, j < q → x.mat[j]? = some y → cleanB y.val = true) ∧ Hid (Below w9.heap.size w9 wr) ∧ Hid (Below w.heap.size w wr)) (fun i _ => x.mat.length - (intOf i).toNat)
      case atStart => exact ⟨0, by omega, rfl, fun j y h => by omega, hB2, hB1⟩
      case round =>
        clear hB1 hB2
        obtain ⟨q, hq, rfl, HA2, hb2, hb1⟩ := hrel
        have hq0 : (0 : Int) ≤ q := by omega
        have hbs2 := hb2.out.size
        have hbs1 := hb1.out.size
        by_cases hlt2 : q < x.mat.length
        · have hltI2 : (q : Int) < (x.mat.length : Int) := by omega
          have hy := List.getElem?_eq_getElem hlt2
          generalize x.mat[q] = y at hy
          obtain ⟨b3, o3, hA3, hbl3, m0, m1, m2⟩ := (HM.out.below (hb2.out.mono (Nat.le_trans hB hbs))).at_mat hy
          subst hA3
          have hbl4 : b3 < wr.heap.size := by omega
          have hys := HX2.out y (List.mem_of_getElem? hy)
          have HY := Lib.hid hy
          clear hy
          go_wp2_with fail
          clear m0 m1 m2
          generalize hW : World.alloc _ _ = W2
          have hX2 : Blk W2 wr.heap.size 37 [.int .i64 y.kind, .string y.name, .string y.val] := by rw [← hW]; exact Blk.new _ _ _
          have hB3 : Hid (Below w9.heap.size w9 W2) := by show Below _ _ _; rw [← hW]; exact hb2.out.alloc hbs2 _
          have hB4 : Hid (Below w.heap.size w W2) := by show Below _ _ _; rw [← hW]; exact hb1.out.alloc hbs1 _
          clear hW
          have c2 := hX2.cell (j := 2) rfl
          go_loop [7] (fun i => ∃ p : Nat, p ≤ y.val.size ∧ i = .int .i64 p ∧ Hid (∀ j (hj : j < y.val.size), j < p → byteOk y.val[j] = true)) (fun i => y.val.size - (intOf i).toNat)
          case atStart => exact ⟨0, by omega, rfl, fun j _ hj => by omega⟩
          case round =>
            obtain ⟨p, hp, rfl, HA3⟩ := hrel
            have hp0 : (0 : Int) ≤ p := by omega
            by_cases hlt3 : p < y.val.size
            · have hltI3 : (p : Int) < (y.val.size : Int) := by omega
              cases hc : byteOk y.val[p] with
              | true =>
                have hA4 := clean_step hlt3 hc HA3
                simp only [byteOk, Bool.or_eq_true, decide_eq_true_eq] at hc
                by_cases h32 : 32 ≤ y.val[p].toNat
                · have g1 : ¬ (y.val[p].toNat : Int) < 32 := by omega
                  clear hc
                  go_wp2_with fail
                  go_round
                  case rel => exact ⟨p + 1, by omega, by go_num, hA4⟩
                  case measure => simp [intOf]; omega
                · have g1 : (y.val[p].toNat : Int) < 32 := by omega
                  have g2 : (y.val[p].toNat : Int) = 10 := by omega
                  clear hc
                  go_wp2_with fail
                  go_round
                  case rel => exact ⟨p + 1, by omega, by go_num, hA4⟩
                  case measure => simp [intOf]; omega
              | false =>
                have HF := Lib.hid (may_no HX.out HY.out (clean_no hlt3 hc))
                simp only [byteOk, Bool.or_eq_false_iff, decide_eq_false_iff_not] at hc
                have g1 : (y.val[p].toNat : Int) < 32 := by omega
                have g2 : ¬ (y.val[p].toNat : Int) = 10 := by omega
                clear hc
                go_wp2_with fail
                go_ret
                exact ⟨ret_bool HF.out.symm, hB4.out⟩
            · have hltI3 : ¬ (p : Int) < (y.val.size : Int) := by omega
              have HC := all_step (p := fun z : Mat => cleanB z.val) HY.out (clean_all fun j hj => HA3.out j hj (by omega)) HA2
              go_wp2_with fail
              go_roundw
              case rel => exact ⟨q + 1, by omega, by go_num, HC, hB3, hB4⟩
              case measure => simp [intOf]; omega
        · have hltI2 : ¬ (q : Int) < (x.mat.length : Int) := by omega
          have HC : Hid (∀ j y, j < k + 1 → ns[j]? = some y → nodeClean y = true) := all_step HX.out (all_done (k := q) (by omega) HA2) HA
          go_wp2_with fail
          go_roundw
          case rel => exact ⟨k + 1, by omega, by go_num, HC, hb1⟩
          case measure => simp [intOf]; omega
    · have hltI : ¬ (k : Int) < n := by omega
      have HF : Hid (mayB ns = true) := all_done (k := k) (by have := HN.out; omega) HA
      go_wp2
      go_ret
      exact ⟨ret_bool HF.out.symm, hb.out⟩
end
section
open Go.RowKit
/-- How far a tree has been written. -/
structure ShowAt (ns : List Nod) (k : Nat) (ty : List Int) (st : List Sd) : Prop where
  len : ty.length = st.length
  run : runN' (ns.drop k) k ty = runN' ns 0 []
  shw : showF (ns.drop k) st = showF ns []
  inn : ∀ s ∈ st, s.over = false ∧ 0 ≤ s.deep
  few : st.length ≤ k
theorem ShowAt.start (ns : List Nod) : ShowAt ns 0 [] [] := ⟨rfl, rfl, rfl, by simp, by simp⟩
theorem getD_deep {p : List Sd} (h : ∀ s ∈ p, 0 ≤ s.deep) (k : Nat) : 0 ≤ (p.getD k sd0).deep := by
  rw [List.getD_eq_getElem?_getD]
  cases hk : p[k]? with
  | none => decide
  | some s => exact h s (List.mem_of_getElem? hk)
theorem within_pos {s : Sd} (h : 0 ≤ s.deep) (k : Int) : 0 ≤ (s.within k).deep := by
  unfold Sd.within
  split
  · exact h
  · show 0 ≤ s.deep + 1
    omega
theorem sayT_deep {n : Nod} {p : List Sd} (h : ∀ s ∈ p, 0 ≤ s.deep) : 0 ≤ (sayT n p).deep := by
  have h0 := getD_deep h 0
  have h1 := getD_deep h 1
  unfold sayT
  split
  · exact Int.le_refl 0
  split
  · exact Int.le_refl 0
  split
  · show 0 ≤ (p.getD 0 sd0).deep + 1
    omega
  split
  · show 0 ≤ (p.getD 0 sd0).deep + 1
    omega
  split
  · have := within_pos h0 (rowN n.op)
    show 0 ≤ max _ _
    omega
  · have := within_pos h0 6
    show 0 ≤ _ + 1
    omega
section
variable {ns : List Nod} {k : Nat} {ty : List Int} {st : List Sd} {tt : List Int} {x : Nod}
theorem ShowAt.node (h : ShowAt ns k ty st) (hr : runN' ns 0 [] = .ok tt) (hx : ns[k]? = some x) : (stepN ty x).1 = 0 := by
  rcases Int.decEq (stepN ty x).1 0 with h0 | h0
  · exfalso
    have := runN_stop hx h0
    rw [h.run, hr] at this
    cases this
  · exact h0
theorem ShowAt.parts (h : ShowAt ns k ty st) (hr : runN' ns 0 [] = .ok tt) (hx : ns[k]? = some x) : formB x = true ∧ matCode x.mat = 0 ∧ 0 ≤ x.parts ∧ x.parts ≤ (st.length : Int) := by
  obtain ⟨h1, h2, h3, _⟩ := stepN_parts (h.node hr hx)
  rw [h.len] at h3
  exact ⟨h1, h2, (formB_parts h1).2.1, h3⟩
theorem showF_at (hx : ns[k]? = some x) : showF (ns.drop k) st = if (sayT x (st.drop (cutT st x))).over = true then none else showF (ns.drop (k + 1)) (st.take (cutT st x) ++ [sayT x (st.drop (cutT st x))]) := by
  obtain ⟨hk, e⟩ := List.getElem?_eq_some_iff.1 hx
  rw [List.drop_eq_getElem_cons hk, e]
  rfl
theorem ShowAt.over (h : ShowAt ns k ty st) (hx : ns[k]? = some x) (ho : (sayT x (st.drop (cutT st x))).over = true) : showF ns [] = none := by
  rw [← h.shw, showF_at hx, if_pos ho]
theorem ShowAt.next (h : ShowAt ns k ty st) (hr : runN' ns 0 [] = .ok tt) (hx : ns[k]? = some x) (ho : (sayT x (st.drop (cutT st x))).over = false) : ShowAt ns (k + 1) (stepN ty x).2 (st.take (cutT st x) ++ [sayT x (st.drop (cutT st x))]) := by
  have h0 := h.node hr hx
  obtain ⟨h1, h2, h3, h4⟩ := stepN_parts h0
  refine ⟨?_, (runN_step hx h0).trans h.run, ?_, ?_, ?_⟩
  · rw [h4, h.len, List.length_append, List.length_take, List.length_singleton, cutT]
    omega
  · rw [← h.shw, showF_at hx, if_neg (by rw [ho]; decide)]
  · intro s hs
    rcases List.mem_append.1 hs with hs | hs
    · exact h.inn s (List.mem_of_mem_take hs)
    · rw [List.mem_singleton] at hs
      subst hs
      exact ⟨ho, sayT_deep fun s hs => (h.inn s (List.mem_of_mem_drop hs)).2⟩
  · have := h.few
    rw [List.length_append, List.length_take, List.length_singleton]
    omega
theorem ShowAt.done (h : ShowAt ns k ty st) (hk : ns.length ≤ k) : showF ns [] = some st ∧ runN' ns 0 [] = .ok ty := by
  have h1 := h.shw
  have h2 := h.run
  rw [List.drop_of_length_le hk] at h1 h2
  exact ⟨h1.symm, h2.symm⟩
theorem ShowAt.sdIn (h : ShowAt ns k ty st) {s : Sd} (hs : s ∈ st) : SdIn s := by
  obtain ⟨h1, h2⟩ := h.inn s hs
  simp only [Sd.over, Bool.or_eq_false_iff, decide_eq_false_iff_not] at h1
  exact ⟨by omega, h2, by omega⟩
end
theorem run_mats : ∀ (ns : List Nod) (k : Nat) (st st' : List Int), runN' ns k st = .ok st' → ∀ n ∈ ns, matCode n.mat = 0
  | [], _, _, _, _ => by simp
  | n :: r, k, st, st', h => by
    rw [runN'] at h
    by_cases h0 : (stepN st n).1 = 0
    · rw [if_pos h0] at h
      intro x hx
      rcases List.mem_cons.1 hx with rfl | hx
      · exact (stepN_parts h0).2.1
      · exact run_mats r _ _ _ h x hx
    · rw [if_neg h0] at h; cases h
/-- Its matchers are few and short. -/
theorem mats_short {n : Nod} (h : matCode n.mat = 0) : n.mat.length ≤ 8 ∧ ∀ m ∈ n.mat, m.val.size ≤ 256 ∧ nameB m.name = true ∧ kindB m.kind = true := by
  obtain ⟨h1, h2⟩ := matCode_iff.1 h
  refine ⟨h1, fun m hm => ?_⟩
  have := List.all_eq_true.1 h2 m hm
  simp only [matB, Bool.and_eq_true, decide_eq_true_eq] at this
  exact ⟨this.2, this.1.2, this.1.1⟩
theorem showT_bad {ns : List Nod} (h : (checkN ns).2.2 ≠ 0) : showT ns = (ByteArray.empty, 200) := by rw [showT, if_pos (.inl h)]
theorem showT_may {ns : List Nod} (h : mayB ns = false) : showT ns = (ByteArray.empty, 200) := by rw [showT, if_pos (.inr h)]
theorem showT_none {ns : List Nod} (h : showF ns [] = none) : showT ns = (ByteArray.empty, 200) := by
  unfold showT
  rw [h]
  simp
theorem showT_some {ns : List Nod} {st : List Sd} (h1 : (checkN ns).2.2 = 0) (h2 : mayB ns = true) (h : showF ns [] = some st) : showT ns = ((st.getD 0 sd0).text, 0) := by
  unfold showT
  rw [if_neg (by rintro (h3 | h3); exact h3 h1; rw [h2] at h3; cases h3), h]
theorem check_run {ns : List Nod} (h : (checkN ns).2.2 = 0) : ∃ t, runN' ns 0 [] = .ok [t] ∧ ns.length ≤ 4096 := by
  have hck : checkN ns = ((checkN ns).1, (checkN ns).2.1, 0) := by rw [← h]
  obtain ⟨r1, _, _, r4⟩ := checkN_ok hck
  exact ⟨_, r1, r4⟩
theorem say_1 {x : Nod} {p : List Sd} (h : x.kind = 1) : sayT x p = ⟨x.text, 7, 0⟩ := by rw [sayT, if_pos h]
theorem say_23 {x : Nod} {p : List Sd} (h : x.kind = 2 ∨ x.kind = 3) : sayT x p = ⟨selT x, 7, 0⟩ := by rw [sayT, if_neg (by omega), if_pos h]
theorem say_4 {x : Nod} {a : Sd} {p : List Sd} (h : x.kind = 4) : sayT x (a :: p) = a.inside (funcsL.getD x.op.toNat ByteArray.empty) := by
  have e1 : ¬ x.kind = 1 := by omega
  have e23 : ¬ (x.kind = 2 ∨ x.kind = 3) := by omega
  rw [sayT, if_neg e1, if_neg e23, if_pos h]
  rfl
theorem say_5 {x : Nod} {a : Sd} {p : List Sd} (h : x.kind = 5) : sayT x (a :: p) = a.inside (aggW x) := by
  have e1 : ¬ x.kind = 1 := by omega
  have e23 : ¬ (x.kind = 2 ∨ x.kind = 3) := by omega
  have e4 : ¬ x.kind = 4 := by omega
  rw [sayT, if_neg e1, if_neg e23, if_neg e4, if_pos h]
  rfl
theorem say_6 {x : Nod} {a b : Sd} {p : List Sd} (h : x.kind = 6) : sayT x (a :: b :: p) = binT x a b := by
  have e1 : ¬ x.kind = 1 := by omega
  have e23 : ¬ (x.kind = 2 ∨ x.kind = 3) := by omega
  have e4 : ¬ x.kind = 4 := by omega
  have e5 : ¬ x.kind = 5 := by omega
  rw [sayT, if_neg e1, if_neg e23, if_neg e4, if_neg e5, if_pos h]
  rfl
theorem say_7 {x : Nod} {a : Sd} {p : List Sd} (h : x.kind = 7) : sayT x (a :: p) = negT a := by
  have e1 : ¬ x.kind = 1 := by omega
  have e23 : ¬ (x.kind = 2 ∨ x.kind = 3) := by omega
  have e4 : ¬ x.kind = 4 := by omega
  have e5 : ¬ x.kind = 5 := by omega
  have e6 : ¬ x.kind = 6 := by omega
  rw [sayT, if_neg e1, if_neg e23, if_neg e4, if_neg e5, if_neg e6]
  rfl
/-- What a node asks for, kind by kind. -/
def KindIs (x : Nod) : Prop :=
  (x.kind = 1 ∧ x.parts = 0) ∨ ((x.kind = 2 ∨ x.kind = 3) ∧ x.parts = 0 ∧ 0 ≤ x.width ∧ x.width < 2147483648 ∧ 0 ≤ x.back ∧ x.back < 2147483648) ∨ (x.kind = 4 ∧ x.parts = 1 ∧ inB 1 12 x.op = true) ∨
  (x.kind = 5 ∧ x.parts = 1 ∧ inB 1 5 x.op = true ∧ (x.grp = 0 ∨ x.grp = 1 ∨ x.grp = 2)) ∨ (x.kind = 6 ∧ x.parts = 2 ∧ inB 1 13 x.op = true ∧ (x.grp = 3 ∨ x.grp = 4 ∨ x.grp = 0)) ∨ (x.kind = 7 ∧ x.parts = 1)
theorem kind_is {x : Nod} (h : formB x = true) : KindIs x := by
  rcases form_node h with ⟨e, _⟩ | ⟨hk, e, h1, h2, h3⟩ | ⟨e, h⟩ | ⟨e, h1, _, h3⟩ | ⟨e, h1, _, h3, _⟩ | e
  · exact .inl ⟨by rw [e]; rfl, by rw [e]; rfl⟩
  · exact .inr (.inl ⟨hk, by rw [e]; rfl, by omega, by omega, h2, h3⟩)
  · exact .inr (.inr (.inl ⟨by rw [e]; rfl, by rw [e]; rfl, h⟩))
  · exact .inr (.inr (.inr (.inl ⟨by rw [e]; rfl, by rw [e]; rfl, h1, by rcases h3 with h | h | h; exact .inr (.inl h); exact .inr (.inr h); exact .inl h.1⟩)))
  · exact .inr (.inr (.inr (.inr (.inl ⟨by rw [e]; rfl, by rw [e]; rfl, h1, by rcases h3 with h | h | h; exact .inl h; exact .inr (.inl h); exact .inr (.inr h.1)⟩))))
  · exact .inr (.inr (.inr (.inr (.inr ⟨by rw [e]; rfl, by rw [e]; rfl⟩))))
theorem eiSaid : EI Tryz.prog 51 53 3 32 := EI.mk' Tryz.underlying51 (z := .agg #[.string ByteArray.empty, .int .i64 0, .int .i64 0]) (by kernel_rfl) rfl (by omega)
theorem Rd.dropS {w : World} {B sz b o : Nat} {xs : List (List Value)} (h : Rd w B sz (some ⟨b, o, none⟩) xs) (q : Nat) : Rd w B sz (some ⟨b, o + q * sz, none⟩) (xs.drop q) := by
  refine ⟨fun x hx => h.1 x (List.mem_of_mem_drop hx), fun hn => ?_⟩
  obtain ⟨b', o', e, hb, hc⟩ := h.2 (by rintro rfl; simp at hn)
  injection e with e
  injection e with e1 e2
  subst e1 e2
  refine ⟨b, o + q * sz, rfl, hb, fun k x j v hx hv => ?_⟩
  have := hc (q + k) x j v (by rw [List.getElem?_drop] at hx; exact hx) hv
  rw [show o + q * sz + k * sz + j = o + (q + k) * sz + j from by rw [Nat.add_mul]; omega]
  exact this
theorem one_said (s : Sd) : ∀ y ∈ [sdC s], ∀ u ∈ y, u.oneCell' = true := by
  intro y hy u hu
  rw [List.mem_singleton] at hy
  subst hy
  simp only [sdC, List.mem_cons, List.not_mem_nil, or_false] at hu
  rcases hu with rfl | rfl | rfl <;> rfl
theorem sdsC_drop (l : List Sd) (q : Nat) : sdsC (l.drop q) = (sdsC l).drop q := by simp [sdsC, List.map_drop]
end
section
open Go.RowKit
/-- The map as far as it is filled, and the leaves' cells. -/
def LitW (M : Nat) (w2 w : World) (es : List (Int × Value)) : Prop :=
  IntMap w M es ∧ Below M w2 w ∧ M < w.heap.size ∧ ∀ p ∈ es, ∀ L, p.2 = leafW L → L < w.heap.size ∧ M < L ∧ w.cell? ⟨L, 0, none⟩ = some (.func (.func (leafF p.1)) #[] #[])
theorem LitW.new {M : Nat} (w2 : World) (h : w2.heap.size = M) : LitW M w2 (w2.alloc (.map #[] 0)) [] := by
  subst h
  exact ⟨IntMap.new w2, (Below.refl _ _).alloc (Nat.le_refl _) _, by simp, by simp⟩
theorem LitW.alloc {M : Nat} {w2 w : World} {es : List (Int × Value)} (h : LitW M w2 w es) (o : Obj) : LitW M w2 (w.alloc o) es := by
  obtain ⟨h1, h2, h3, h4⟩ := h
  refine ⟨h1.alloc o, h2.alloc (by omega) o, by simp; omega, fun p hp L hL => ?_⟩
  obtain ⟨g1, g2, g3⟩ := h4 p hp L hL
  exact ⟨by simp; omega, g2, (World.cell?_alloc_lt w o _ g1).trans g3⟩
theorem LitW.insert {M : Nat} {w2 w w' : World} {es : List (Int × Value)} (h : LitW M w2 w es) {k : Int} {v : Value} (h1 : IntMap w' M (es ++ [(k, v)])) (hg : w.grownBy w' (some M)) (hz : w'.heap.size = w.heap.size)
    (hv : ∀ L, v = leafW L → L < w.heap.size ∧ M < L ∧ w.cell? ⟨L, 0, none⟩ = some (.func (.func (leafF k)) #[] #[])) : LitW M w2 w' (es ++ [(k, v)]) := by
  obtain ⟨_, h2, h3, h4⟩ := h
  refine ⟨h1, h2.trans (below_of_grown hg (by omega) (fun g e => by injection e with e; omega)), by omega, fun p hp L hL => ?_⟩
  have key : L < w.heap.size ∧ M < L ∧ w.cell? ⟨L, 0, none⟩ = some (.func (.func (leafF p.1)) #[] #[]) := by
    rcases List.mem_append.1 hp with hp | hp
    · exact h4 p hp L hL
    · simp at hp
      subst hp
      exact hv L hL
  obtain ⟨g1, g2, g3⟩ := key
  exact ⟨by omega, g2, (World.cell?_of_block (hg.block L g1 (by intro e; injection e with e; omega))).trans g3⟩
theorem LitW.later {M : Nat} {w2 w w' : World} {es : List (Int × Value)} (h : LitW M w2 w es) (hb : Below w.heap.size w w') : LitW M w2 w' es := by
  obtain ⟨h1, h2, h3, h4⟩ := h
  refine ⟨h1.below hb h3, h2.trans (hb.mono (by omega)), Nat.lt_of_lt_of_le h3 hb.size, fun p hp L hL => ?_⟩
  obtain ⟨g1, g2, g3⟩ := h4 p hp L hL
  exact ⟨Nat.lt_of_lt_of_le g1 hb.size, g2, (hb.cell (p := ⟨L, 0, none⟩) g1).trans g3⟩
theorem wpList_insert_leafW {P : Program} {w2 w : World} {es : List (Int × Value)} {ops : Array Oper} {rest : List Oper} {a : Act} {Q : Exit → Act → World → Prop} {m k x : Operand} {t ty t2 : TypeId} {pos : String} {after : Array Edge} {kt et : TypeId} {key : Int} {L F : Nat}
    (ht : P.underlying t = some (.map kt et)) (hk : P.underlying kt = some (.int .i64)) (hm : a.eval m = .map (some w2.heap.size)) (hkey : a.eval k = .int .i64 key) (hv : a.eval x = leafW L) (hF : F = leafF key)
    (hM : LitW w2.heap.size w2 w es) (hL : L = w.heap.size) (hn : es.lookup key = none)
    (h : ∀ w', LitW w2.heap.size w2 w' (es ++ [(key, leafW L)]) → wpList P ops Q rest a w') : wpList P ops Q (⟨none, .insert t m k x, ty, pos, after, none⟩ :: rest) a (w.alloc (.cells #[.func (.func F) #[] #[]] t2)) :=
  wpList_insert_int rfl m k x t rfl ht hk hm (hM.alloc _).1 key hkey _ hv hn fun w' h1 h2 h3 => h w' ((hM.alloc _).insert h1 h2 h3 fun L' e => by
    have e2 : L' = L := by simpa [leafW] using e.symm
    subst e2 hL hF
    exact ⟨by simp, hM.2.2.1, (Blk.new w t2 [.func (.func (leafF key)) #[] #[]]).cell rfl⟩)
theorem wpList_insert_fnW {P : Program} {w2 w : World} {es : List (Int × Value)} {ops : Array Oper} {rest : List Oper} {a : Act} {Q : Exit → Act → World → Prop} {m k x : Operand} {t ty : TypeId} {pos : String} {after : Array Edge} {kt et : TypeId} {key : Int} {f : FuncId} {fs cs : Array Value}
    (ht : P.underlying t = some (.map kt et)) (hk : P.underlying kt = some (.int .i64)) (hm : a.eval m = .map (some w2.heap.size)) (hkey : a.eval k = .int .i64 key) (hv : a.eval x = .func (.func f) fs cs) (hf : f ≠ 44)
    (hM : LitW w2.heap.size w2 w es) (hn : es.lookup key = none)
    (h : ∀ w', LitW w2.heap.size w2 w' (es ++ [(key, .func (.func f) fs cs)]) → wpList P ops Q rest a w') : wpList P ops Q (⟨none, .insert t m k x, ty, pos, after, none⟩ :: rest) a w :=
  wpList_insert_int rfl m k x t rfl ht hk hm hM.1 key hkey _ hv hn fun w' h1 h2 h3 => h w' (hM.insert h1 h2 h3 fun L' e => absurd (by simpa [leafW] using congrArg (fun v => match v with | Value.func (.func g) _ _ => g | _ => 0) e) hf)
def fnV (f : Nat) : Value := .func (.func f) #[] #[]
def writersV (L1 L2 L3 : Nat) : List (Int × Value) := [(1, leafW L1), (2, leafW L2), (3, leafW L3), (4, fnV 47), (5, fnV 50), (6, fnV 52), (7, fnV 54)]
set_option maxRecDepth 100000 in
set_option maxHeartbeats 2000000 in
theorem swriters_any (w : World) : Calls Tryz.prog 23 #[] w fun e w' => ∃ L1 L2 L3, e = .returned (.map (some w.heap.size)) ∧ LitW w.heap.size w w' (writersV L1 L2 L3) := by
  have hmm := @run_makeMap_plain Tryz.prog
  have HL := LitW.new w rfl
  go_enter Tryz.func23, Tryz.ntmps23
  go_wp2_with (first
      | (go_at_call 43; refine (swr1_any _ _).mono ?_; rintro e w' ⟨rfl, rfl⟩)
      | (apply wpList_insert_leafW (w2 := w) Tryz.underlying49 Tryz.underlying3; rfl; rfl; rfl; rfl; exact HL; simp; rfl; intro wI HL2; clear HL; have HL := HL2; clear HL2)
      | (apply wpList_insert_fnW (w2 := w) Tryz.underlying49 Tryz.underlying3; rfl; rfl; rfl; decide; exact HL; rfl; intro wI HL2; clear HL; have HL := HL2; clear HL2))
  go_ret
  exact ⟨_, _, _, rfl, HL⟩
end
section
open Go Go.RowKit
def ptrB (b : Nat) : Value := .pointer (some ⟨b, 0, none⟩)
/-- The worlds behind V. -/
def LatC (V : World) : World → Prop := fun w' => ∃ x, w' = later V x
theorem LatC.refl (V : World) : LatC V V := ⟨⟨V, Below.refl _ _⟩, rfl⟩
theorem LatC.below {V w : World} (h : LatC V w) : Below V.heap.size V w := by
  obtain ⟨x, rfl⟩ := h
  exact x.2
theorem LatC.of {V w : World} (h : Below V.heap.size V w) : LatC V w := ⟨⟨w, h⟩, rfl⟩
theorem LatC.trans {V w u : World} (h : LatC V w) (h2 : LatC w u) : LatC V u := .of (h.below.trans (h2.below.mono h.below.size))
theorem quietUpon_mono {P : Program} {C D : World → Prop} (h : ∀ w, C w → D w) {w : World} {v : Value} {r : Result Next} (hr : Oper.quietUpon P C w v r) : Oper.quietUpon P D w v r := by
  cases r with
  | ok n w' =>
    cases n <;> simp only [Oper.quietUpon] at hr ⊢
    case value => exact hr
    case skip => exact hr
    case enter => exact ⟨hr.1, hr.2.mono fun _ _ ⟨h1, h2⟩ => ⟨h1, h _ h2⟩⟩
  | halt x w' => simp only [Oper.quietUpon] at hr
section
variable {P : Program} {ops : Array Oper} {md : Region.Mode} {W : World}
/-- In every world behind W the operation yields v, and leaves a world behind that one. -/
def YieldsG (P : Program) (ops : Array Oper) (W : World) (o : Oper) (v : Value) (a : Act) : Prop :=
  (Region.wanted o (yielded ops a.tmps) = true ∧ ∀ w, LatC W w → o.quietAt P a (LatC w) w v) ∨ (Region.wanted o (yielded ops a.tmps) = false ∧ v = undef)
theorem YieldsG.of_same {o : Oper} {v : Value} {a a' : Act} (hy : YieldsG P ops W o v a) (he : execOp a'.eval o = execOp a.eval o) (hw : Region.wanted o (yielded ops a'.tmps) = Region.wanted o (yielded ops a.tmps)) : YieldsG P ops W o v a' := by
  unfold YieldsG Oper.quietAt at *
  rw [he, hw]
  exact hy
def gOp (P : Program) (ops : Array Oper) (W : World) (i : Nat) (K : Act → Prop) (a : Act) : Prop := ∃ o v, ops[i]? = some o ∧ YieldsG P ops W o v a ∧ K (a.put o.dst v)
theorem gOp_put {j : Nat} {oi oj : Oper} {v : Value} (hj : ops[j]? = some oj) (hap : oi.apart ops oj = true) (hsi : ∀ cs b, oi.op ≠ .select cs b) (hsj : ∀ cs b, oj.op ≠ .select cs b) {K : Act → Prop} {a : Act} (hy : YieldsG P ops W oi v a) (h : gOp P ops W j K (a.put oi.dst v)) :
    gOp P ops W j (fun a' => YieldsG P ops W oi v a' ∧ K (a'.put oi.dst v)) a := by
  obtain ⟨h1, h2, h3⟩ := Oper.apart_spec hap
  obtain ⟨o, u, ho, hu, hk⟩ := h
  have : o = oj := Option.some.inj (ho.symm.trans hj)
  subst this
  exact ⟨o, u, hj, hu.of_same (execOp_put o hsj a oi.dst v h1).symm (wanted_put o a oi.dst v h1).symm, hy.of_same (execOp_put oi hsi a o.dst u h3) (wanted_put oi a o.dst u h3), by rw [← Act.put_comm a v u h2]; exact hk⟩
theorem YieldsG.qOp {i : Nat} {o : Oper} {v : Value} {a : Act} (hi : ops[i]? = some o) (hy : YieldsG P ops W o v a) {w : World} (hw : LatC W w) {K : Act → Prop} (h : K (a.put o.dst v)) : qOp P ops (LatC w) i K a :=
  YieldsIn.qOp hi (hy.imp (fun ⟨h1, h2⟩ => ⟨h1, fun u hu => quietUpon_mono (fun _ h3 => hu.trans h3) (h2 u (hw.trans hu))⟩) id) h
/-- The head of a region, whatever order is picked; n makes the new block. -/
def wpHeadG (P : Program) (md : Region.Mode) (ops : Array Oper) (W : World) (n d : Nat) (L : Array Bool → Act → Nat → Prop) : Nat → Array Bool → Act → Nat → Prop
  | 0, listed, a, β => L listed a β
  | f + 1, listed, a, β => Region.ready md ops listed ≠ [] ∧ ∀ i ∈ Region.ready md ops listed,
    (i < n ∧ gOp P ops W i (fun a' => wpHeadG P md ops W n d L f (listed.setIfInBounds i true) a' β) a) ∨ (i = n ∧ ∀ b, wpHeadG P md ops W n d L f (listed.setIfInBounds i true) (a.put (some d) (ptrB b)) b)
theorem wpAny_of_wpHeadG {n d g : Nat} {obj : Obj} {L : Array Bool → Act → Nat → Prop} {Q : Exit → Act → World → Prop}
    (hAl : ∀ (a : Act) (w : World) (K : Act → World → Prop), K (a.put (some d) (ptrB w.heap.size)) (w.alloc obj) → wpOp P ops Q n K a w)
    (hL : ∀ listed a w β, LatC W w → w.heap[β]? = some obj → W.heap.size ≤ β → L listed a β → wpAny P md ops Q g listed a w) (hLn : ∀ listed a β, L listed a β → listed.getD n false = true) :
    ∀ (f : Nat) (listed : Array Bool) (a : Act) (β : Nat) (w : World), LatC W w → (listed.getD n false = true → w.heap[β]? = some obj ∧ W.heap.size ≤ β) → wpHeadG P md ops W n d L f listed a β → wpAny P md ops Q (f + g) listed a w
  | 0, listed, a, β, w, hw, hb, h => by
    rw [Nat.zero_add]
    obtain ⟨h1, h2⟩ := hb (hLn _ _ _ h)
    exact hL _ _ _ β hw h1 h2 h
  | f + 1, listed, a, β, w, hw, hb, h => by
    rw [show f + 1 + g = (f + g) + 1 by omega]
    refine ⟨fun h0 => absurd h0 h.1, fun i hi => ?_⟩
    rcases h.2 i hi with ⟨hin, o, v, ho, hy, hk⟩ | ⟨rfl, hk⟩
    · refine wpOp_of_qOp (C := LatC w) (K := fun a' => wpHeadG P md ops W n d L f (listed.setIfInBounds i true) a' β) (LatC.refl w) (fun a' w' hw' hk' => ?_) (hy.qOp ho hw hk)
      refine wpAny_of_wpHeadG hAl hL hLn f _ a' β w' (hw.trans hw') (fun hn => ?_) hk'
      rw [getD_set_ne false (by omega)] at hn
      obtain ⟨h1, h2⟩ := hb hn
      have hlt : β < w.heap.size := (Array.getElem?_eq_some_iff.1 h1).1
      exact ⟨(hw'.below.block β hlt).trans h1, h2⟩
    · refine hAl a w _ ?_
      refine wpAny_of_wpHeadG hAl hL hLn f _ _ w.heap.size (w.alloc obj) (hw.trans (.of ((Below.refl _ _).alloc (Nat.le_refl _) _))) (fun _ => ⟨heap_alloc_new w obj, hw.below.size⟩) (hk _)
theorem wpHeadG_first {n d i : Nat} {oi oa : Oper} {v : Value} {L : Array Bool → Act → Nat → Prop} (hi : ops[i]? = some oi) (hoa : ops[n]? = some oa) (hda : oa.dst = some d) (hsel : ∀ (j : Nat) (o : Oper) cs b, ops[j]? = some o → o.op ≠ .select cs b)
    (hs : Region.sinkB md ops (n + 1) = true) (hc : Region.chainB md ops (n + 1) = true) (hn : n + 1 < ops.size) (hin : i < n) (hdone : ∀ listed a β, L listed a β → ∀ j ∈ Region.ready md ops listed, n + 1 ≤ j) :
    ∀ (f : Nat) (listed : Array Bool) (a : Act) (β : Nat), HeadInv md ops (n + 1) listed →
      (∀ j oj, ops[j]? = some oj → j ≠ i → listed.getD j true = false → (∀ e ∈ oj.after, Region.binds md e = true → e.on ≠ i) → oi.apart ops oj = true) →
      i ∈ Region.ready md ops listed → YieldsG P ops W oi v a → wpHeadG P md ops W n d L f (listed.setIfInBounds i true) (a.put oi.dst v) β → wpHeadG P md ops W n d L (f + 1) listed a β := by
  intro f
  induction f with
  | zero =>
    intro listed a β inv _ hr hy H
    have hun := (mem_ready.1 hr).1
    refine ⟨fun h => (by rw [h] at hr; cases hr), fun j hj => ?_⟩
    have hjn : j < n + 1 := by
      rcases Nat.lt_or_ge j (n + 1) with h | h
      · exact h
      · exact absurd hj (tail_waits hs hc hn inv _ i rfl (by omega) hun j h)
    by_cases hji : j = i
    · subst hji
      exact .inl ⟨hin, oi, v, hi, hy, H⟩
    · have := hdone _ _ _ H j (ready_mono hj hji)
      omega
  | succ f ih =>
    intro listed a β inv hfree hr hy H
    have hun := (mem_ready.1 hr).1
    refine ⟨fun h => (by rw [h] at hr; cases hr), fun j hj => ?_⟩
    have hjn : j < n + 1 := by
      rcases Nat.lt_or_ge j (n + 1) with h | h
      · exact h
      · exact absurd hj (tail_waits hs hc hn inv _ i rfl (by omega) hun j h)
    by_cases hji : j = i
    · subst hji
      exact .inl ⟨hin, oi, v, hi, hy, H⟩
    · obtain ⟨hjun, oj, hoj, hall⟩ := mem_ready.1 hj
      have hnot : ∀ e ∈ oj.after, Region.binds md e = true → e.on ≠ i := fun e he hb heq => by
        have h1 := hall e he hb
        rw [heq, getD_both hun] at h1
        cases h1
      have hap := hfree j oj hoj hji hjun hnot
      have hfree' : ∀ k ok, ops[k]? = some ok → k ≠ i → (listed.setIfInBounds j true).getD k true = false → (∀ e ∈ ok.after, Region.binds md e = true → e.on ≠ i) → oi.apart ops ok = true := fun k ok hk hki hun hno => by
        refine hfree k ok hk hki ?_ hno
        by_cases hjk : j = k
        · subst hjk; exact hjun
        · rw [getD_set_ne true hjk] at hun; exact hun
      rcases H.2 j (ready_mono hj hji) with ⟨hjlt, h1⟩ | ⟨rfl, h1⟩
      · obtain ⟨o, u, ho, hu, h3, h4⟩ := gOp_put hoj hap (fun cs b => hsel i oi cs b hi) (fun cs b => hsel j oj cs b hoj) hy h1
        refine .inl ⟨hjlt, o, u, ho, hu, ih (listed.setIfInBounds j true) _ β (inv.set hj hjn) hfree' (ready_mono hr (Ne.symm hji)) h3 ?_⟩
        rw [Array.setIfInBounds_comm _ _ hji]
        exact h4
      · have hoe : oj = oa := Option.some.inj (hoj.symm.trans hoa)
        subst hoe
        obtain ⟨p1, p2, p3⟩ := Oper.apart_spec hap
        rw [hda] at p3
        refine .inr ⟨rfl, fun b => ih (listed.setIfInBounds j true) _ b (inv.set hj hjn) hfree' (ready_mono hr (Ne.symm hji)) (hy.of_same (execOp_put oi (fun cs b => hsel i oi cs b hi) a (some d) (ptrB b) p3) (wanted_put oi a (some d) (ptrB b) p3)) ?_⟩
        rw [Array.setIfInBounds_comm _ _ hji, ← Act.put_comm a v (ptrB b) (fun d' hd' => by rw [← hda]; exact p2 d' hd')]
        exact h1 b
/-- The walk in the order of the text. -/
def wpGrow (P : Program) (ops : Array Oper) (W : World) (d : Nat) (Lq : Act → Nat → Prop) : List Oper → Act → Prop
  | [], a => ∀ b, Lq (a.put (some d) (ptrB b)) b
  | o :: r, a => ∃ v, YieldsG P ops W o v a ∧ wpGrow P ops W d Lq r (a.put o.dst v)
theorem getD_set_self {l : Array Bool} {n : Nat} (h : n < l.size) (x : Bool) : (l.setIfInBounds n true).getD n x = true := by simp [h]
theorem wpHeadG_lex {n d g : Nat} {oa : Oper} {Lq : Act → Nat → Prop} (hoa : ops[n]? = some oa) (hda : oa.dst = some d) (hsel : Region.noSelect ops = true) (hs : Region.sinkB md ops (n + 1) = true) (hc : Region.chainB md ops (n + 1) = true) (hn : n + 1 < ops.size) :
    ∀ (l : List Oper) (k : Nat) (listed : Array Bool) (a : Act) (β : Nat), (∀ j, j < l.length → l[j]? = ops[k + j]?) → k + l.length = n → (∀ j, j < k → listed.getD j true = true) → HeadInv md ops (n + 1) listed → Region.lexHead md ops g (l.length + 1) k listed = true → wpGrow P ops W d Lq l a →
    wpHeadG P md ops W n d (fun listed' a' b => listed'.getD n false = true ∧ Region.seqB md ops g (n + 1) listed' = true ∧ Lq a' b) (l.length + 1) listed a β
  | [], k, listed, a, β, _, hk, hall, inv, hB, h => by
    have : k = n := by simpa using hk
    subst this
    simp only [List.length_nil, Region.lexHead, Bool.and_eq_true] at hB
    obtain ⟨⟨hr, _⟩, hB'⟩ := hB
    have hr' : k ∈ Region.ready md ops listed := by simpa using hr
    have hun := (mem_ready.1 hr').1
    refine ⟨fun h => (by rw [h] at hr'; cases hr'), fun i hi => ?_⟩
    have hik : i = k := by
      rcases Nat.lt_trichotomy i k with h1 | h1 | h1
      · have h2 := (mem_ready.1 hi).1
        rw [hall i h1] at h2
        cases h2
      · exact h1
      · exact absurd hi (tail_waits hs hc hn inv _ k rfl (by omega) hun i (by omega))
    subst hik
    exact .inr ⟨rfl, fun b => ⟨getD_set_self (by rw [inv.size]; omega) false, hB', h b⟩⟩
  | o :: l, k, listed, a, β, hl, hk, hall, inv, hB, h => by
    have h0 : ops[k]? = some o := by simpa using (hl 0 (by simp)).symm
    rw [List.length_cons, Region.lexHead] at hB
    simp only [Bool.and_eq_true] at hB
    obtain ⟨⟨hr, hf⟩, hB'⟩ := hB
    have hkn : k < n := by simp only [List.length_cons] at hk; omega
    have hr' : k ∈ Region.ready md ops listed := by simpa using hr
    obtain ⟨v, hy, hK⟩ := h
    have hksz : k < listed.size := by rw [inv.size]; omega
    exact wpHeadG_first h0 hoa hda (Region.noSelect_spec hsel) hs hc hn hkn (fun listed' a' b hL => seqB_ready hL.2.1) (l.length + 1) listed a β inv (Region.free_spec h0 hf) hr' hy
      (wpHeadG_lex hoa hda hsel hs hc hn l (k + 1) _ _ β (fun j hj => by have := hl (j + 1) (by simp; omega); simpa [Nat.add_assoc, Nat.add_comm 1 j] using this) (by simp only [List.length_cons] at hk; omega)
        (fun j hj => by
          by_cases hjk : k = j
          · subst hjk; exact getD_set_self hksz true
          · rw [getD_set_ne true hjk]; exact hall j (by omega))
        (inv.set hr' (by omega)) hB' hK)
/-- Each operation has a slot of its own. -/
def dstsB : List Oper → Nat → Bool
  | [], _ => true
  | o :: r, m => (match o.dst with
    | some d => decide (d < m) && r.all (fun p => p.dst != some d)
    | none => false) && dstsB r m
theorem put_other (a : Act) {x : Option Tmp} {d : Nat} (h : x ≠ some d) (v : Value) : (a.put x v).tmps[d]? = a.tmps[d]? := by
  cases x with
  | none => rfl
  | some e =>
    have he : e ≠ d := fun h2 => h (by rw [h2])
    simp [Act.put, Array.getElem?_setIfInBounds_ne he]
theorem put_size (a : Act) (x : Option Tmp) (v : Value) : (a.put x v).tmps.size = a.tmps.size := by
  cases x with
  | none => rfl
  | some e => simp [Act.put]
theorem quiet_keeps {C : World → Prop} {aE : Act} {d : Nat} : ∀ (r : List Oper) (a : Act), r.all (fun p => p.dst != some d) = true → wpQuiet P ops C (fun a' => a' = aE) r a → aE.tmps[d]? = a.tmps[d]?
  | [], a, _, h => by
    have h : a = aE := h
    rw [h]
  | o :: r, a, hd, h => by
    simp only [List.all_cons, Bool.and_eq_true, bne_iff_ne, ne_eq] at hd
    rw [wpQuiet] at h
    split at h
    · obtain ⟨v, _, h2⟩ := h
      rw [quiet_keeps r _ hd.2 h2, put_other a hd.1]
    · rw [quiet_keeps r _ hd.2 h, put_other a hd.1]
theorem grow_of_quiet {aE : Act} {d : Nat} {Lq : Act → Nat → Prop} (hq : ∀ b, Lq (aE.put (some d) (ptrB b)) b) : ∀ (l : List Oper) (a : Act), dstsB l a.tmps.size = true → (∀ V, LatC W V → wpQuiet P ops (LatC V) (fun a' => a' = aE) l a) → wpGrow P ops W d Lq l a
  | [], a, _, h => by
    have h : a = aE := h W (LatC.refl W)
    rw [h]
    exact hq
  | o :: r, a, hd, h => by
    rw [dstsB, Bool.and_eq_true] at hd
    obtain ⟨h1, h2⟩ := hd
    cases hdo : o.dst with
    | none => rw [hdo] at h1; cases h1
    | some e =>
      rw [hdo] at h1
      simp only [Bool.and_eq_true, decide_eq_true_eq] at h1
      obtain ⟨he, hr⟩ := h1
      have key : ∀ C (u : Value), wpQuiet P ops C (fun a' => a' = aE) r (a.put o.dst u) → aE.tmps[e]? = some u := by
        intro C u hu
        rw [quiet_keeps r _ hr hu, hdo]
        simp [Act.put, he]
      have hall : ∀ V, LatC W V → ∃ u, (if Region.wanted o (yielded ops a.tmps) = true then ∀ w, LatC V w → o.quietAt P a (LatC V) w u else u = undef) ∧ wpQuiet P ops (LatC V) (fun a' => a' = aE) r (a.put o.dst u) := by
        intro V hV
        have := h V hV
        rw [wpQuiet] at this
        by_cases hw : Region.wanted o (yielded ops a.tmps) = true
        · rw [if_pos hw] at this
          obtain ⟨u, h3, h4⟩ := this
          exact ⟨u, by rw [if_pos hw]; exact h3, h4⟩
        · rw [if_neg hw] at this
          exact ⟨undef, by rw [if_neg hw], this⟩
      obtain ⟨v, hv1, hv2⟩ := hall W (LatC.refl W)
      have hkv := key _ v hv2
      have hsame : ∀ V, LatC W V → (if Region.wanted o (yielded ops a.tmps) = true then ∀ w, LatC V w → o.quietAt P a (LatC V) w v else v = undef) ∧ wpQuiet P ops (LatC V) (fun a' => a' = aE) r (a.put o.dst v) := by
        intro V hV
        obtain ⟨u, h3, h4⟩ := hall V hV
        have hku := key _ u h4
        have : u = v := Option.some.inj (hku.symm.trans hkv)
        subst this
        exact ⟨h3, h4⟩
      refine ⟨v, ?_, grow_of_quiet hq r _ (by rw [put_size]; exact h2) fun V hV => (hsame V hV).2⟩
      by_cases hw : Region.wanted o (yielded ops a.tmps) = true
      · refine .inl ⟨hw, fun w hw' => ?_⟩
        have := (hsame w hw').1
        rw [if_pos hw] at this
        exact this w (LatC.refl w)
      · rw [if_neg hw] at hv1
        exact .inr ⟨by simpa using hw, hv1⟩
/-- A region that draws: its head only reads or makes new memory; one operation behind it in the text makes a block; its tail is in one order. -/
theorem wp_region_later_alloc {id : Nat} {Q : Exit → Act → World → Prop} {a aE : Act} {l : List Oper} {oa : Oper} {obj : Obj} (n d : Nat) (hm : P.follows .mixedOrders = true) (hB : Region.lexTailB .any l.toArray (n + 1) = true) (hoa : l.toArray[n]? = some oa) (hda : oa.dst = some d) (hds : dstsB (l.take n) a.tmps.size = true)
    (hAl : ∀ (a : Act) (w : World) (K : Act → World → Prop), K (a.put (some d) (ptrB w.heap.size)) (w.alloc obj) → wpOp P l.toArray Q n K a w)
    (h : ∀ V, LatC W V → wpQuiet P l.toArray (LatC V) (fun a' => a' = aE) (l.take n) a)
    (hT : ∀ w' b, Below W.heap.size W w' → w'.heap[b]? = some obj → W.heap.size ≤ b → wpList P l.toArray Q (l.drop (n + 1)) (aE.put (some d) (ptrB b)) w') : (Code.region id l.toArray true).wp P Q a W := by
  simp only [Region.lexTailB, Bool.and_eq_true, decide_eq_true_eq] at hB
  obtain ⟨⟨⟨⟨hsel, hn⟩, hs⟩, hc⟩, hlex⟩ := hB
  have hn' : n + 1 < l.length := by simpa using hn
  have htl : (l.take n).length = n := by simp; omega
  have hdl : (l.drop (n + 1)).length = l.toArray.size - (n + 1) := by simp
  have inv0 : HeadInv .any l.toArray (n + 1) (Array.replicate l.toArray.size false) :=
    ⟨by simp, fun j oj _ hl => (by rw [getD_replicate_false] at hl; cases hl), fun t _ ht => getD_in (by simpa using ht) (getD_replicate_false _ _)⟩
  have hg := grow_of_quiet (Lq := fun a' b => ∀ w', Below W.heap.size W w' → w'.heap[b]? = some obj → W.heap.size ≤ b → wpList P l.toArray Q (l.drop (n + 1)) a' w') (fun b w' h1 h2 h3 => hT w' b h1 h2 h3) (l.take n) a hds h
  have H := wpHeadG_lex (md := .any) (g := l.toArray.size - (n + 1)) hoa hda hsel hs hc hn (l.take n) 0 _ a 0 (fun j hj => by
    have hj' : j < n := by rw [htl] at hj; exact hj
    simp [hj']) (by simpa using htl) (fun j hj => by omega) inv0 (by rw [htl]; exact hlex) hg
  refine wp_region_any hm ?_
  have := wpAny_of_wpHeadG (Q := Q) (obj := obj) (g := l.toArray.size - (n + 1)) hAl (fun listed a' w' β hw' h1 h2 hL => by
    have := wpAny_of_seq (md := .any) (Q' := Q) (l.drop (n + 1)) (n + 1) listed a' w' (fun j => by simp [List.getElem?_drop]) (by rw [hdl]; exact hL.2.1) (hL.2.2 w' hw'.below h1 h2)
    rwa [hdl] at this) (fun _ _ _ hL => hL.1) _ _ _ _ _ (LatC.of (Below.refl W.heap.size W).drew) (fun hf => by rw [getD_replicate_false] at hf; cases hf) H
  rw [htl, show n + 1 + (l.toArray.size - (n + 1)) = l.toArray.size by omega] at this
  exact this
end
end
end Go.Proofs.YtakfnojiaakfpaaGreatDoor
