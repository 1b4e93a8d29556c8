/- The document's writer: a node over its parts; all but operations over two. -/
import Derived.Test.YtakfnojiaakfpaaGreatDoorRShwD
import Derived.Test.YtakfnojiaakfpaaGreatDoorTailB
namespace Go.Proofs.YtakfnojiaakfpaaGreatDoor
open Go.RowKit
theorem within_wrap (s : Sd) (k : Int) : s.within k = wrapS s (decide (s.row < k)) := by
  unfold Sd.within wrapS
  by_cases h : k ≤ s.row
  · rw [if_pos h, if_neg (by simp; omega)]
  · rw [if_neg h, if_pos (by simp; omega)]
theorem funcsR_at {k : Nat} (h : k < 12) : funcsR[k]? = some (funcsL.getD (k + 1) ByteArray.empty) := by
  have : ∀ k : Nat, k < 12 → funcsR[k]? = some (funcsL.getD (k + 1) ByteArray.empty) := by decide +kernel
  exact this k h
theorem aggsR_at {k : Nat} (h : k < 5) : aggsR[k]? = some (aggsL.getD (k + 1) ByteArray.empty) := by
  have : ∀ k : Nat, k < 5 → aggsR[k]? = some (aggsL.getD (k + 1) ByteArray.empty) := by decide +kernel
  exact this k h
theorem ops20_at {k : Nat} (h : k < 13) : ops20[k]? = some (opsL.getD (k + 1) ByteArray.empty) := by
  have : ∀ k : Nat, k < 13 → ops20[k]? = some (opsL.getD (k + 1) ByteArray.empty) := by decide +kernel
  exact this k h
theorem funcsT_size : ∀ k : Nat, k < 13 → (funcsL.getD k ByteArray.empty).size ≤ 100 := by decide +kernel
theorem aggsT_size : ∀ k : Nat, k < 6 → (aggsL.getD k ByteArray.empty).size ≤ 100 := by decide +kernel
set_option maxRecDepth 100000 in
set_option maxHeartbeats 1000000 in
theorem rover1_any (n : Nod) (Am An : Option Addr) (cm cn : Nat) (P : Value) (w : World) (hk : n.kind = 1) :
    Calls Tryz.prog 19 #[nodeV n Am An cm cn, P] w fun e w' => e = .returned (sdV ⟨n.text, 7, 0⟩) ∧ Below w.heap.size w w' := by
  unfold nodeV sdV
  obtain ⟨kind, op, text, mat, width, back, grp, names, cmp, parts⟩ := n
  dsimp only at *
  subst hk
  go_enter Tryz.func19, Tryz.ntmps19
  go_upto_region 1 with fail
  generalize hW : World.alloc _ _ = W0
  have hB0 : Below w.heap.size w W0 := by rw [← hW]; exact by repeat (first | exact Below.refl _ _ | refine Below.alloc ?_ (by first | exact Nat.le_refl _ | (simp; done) | (simp; omega)) _ | refine Below.setCell ?_ (by first | exact Nat.le_refl _ | (simp; done) | (simp; omega)) _ | refine Below.drew ?_)
  have hX : Blk W0 w.heap.size 41 [.int .i64 1, .int .i64 op, .string text, .slice Am mat.length cm, .int .i64 width, .int .i64 back, .int .i64 grp, .slice An names.length cn, .bool cmp, .int .i64 parts] := by rw [← hW]; exact (Blk.new w _ _).alloc _
  have hR : Blk W0 (w.heap.size + 1) 45 [.string ⟨#[]⟩, .int .i64 0, .int .i64 0] := by rw [← hW]; exact blk_new1 (by simp)
  clear hW
  have hs0 := hB0.size
  have x0 := hX.cell (j := 0) rfl
  have x2 := hX.cell (j := 2) rfl
  have c0 := hR.cell (j := 0) rfl
  have c1 := hR.cell (j := 1) rfl
  have c2 := hR.cell (j := 2) rfl
  have f0 := hR.frozen
  go_wp2_with fail
  have bE := ((hR.set 0 (.string text)).set 1 (.int .i64 7)).set 2 (.int .i64 0)
  have d0 := bE.cell (j := 0) rfl
  have d1 := bE.cell (j := 1) rfl
  have d2 := bE.cell (j := 2) rfl
  exact bodyPost_ret (v := sdV ⟨text, 7, 0⟩) (by simp [results, Tryz.results19, go_sem, d0, d1, d2]; rfl) rfl ⟨rfl, ((hB0.setCell (by simp) _).setCell (by simp) _).setCell (by simp) _⟩
set_option maxRecDepth 100000 in
set_option maxHeartbeats 2000000 in
theorem rover2_any (n : Nod) (Am An : Option Addr) (cm cn : Nat) (P : Value) (w : World) (hk : n.kind = 2 ∨ n.kind = 3) (hsel : ∀ W, Below w.heap.size w W → Calls Tryz.prog 36 #[nodeV n Am An cm cn] W fun e w' => e = .returned (.string (selT n)) ∧ Below W.heap.size W w') :
    Calls Tryz.prog 19 #[nodeV n Am An cm cn, P] w fun e w' => e = .returned (sdV ⟨selT n, 7, 0⟩) ∧ Below w.heap.size w w' := by
  generalize selT n = tx at *
  have HSel := fun (W : World) (hb : Below w.heap.size w W) => Lib.hid (hsel W hb)
  clear hsel
  unfold nodeV at *
  unfold sdV
  obtain ⟨kind, op, text, mat, width, back, grp, names, cmp, parts⟩ := n
  dsimp only at *
  rcases hk with hk | hk
  ·
    subst hk
    go_enter Tryz.func19, Tryz.ntmps19
    go_upto_region 1 with fail
    generalize hW : World.alloc _ _ = W0
    have hB0 : Below w.heap.size w W0 := by rw [← hW]; exact by repeat (first | exact Below.refl _ _ | refine Below.alloc ?_ (by first | exact Nat.le_refl _ | (simp; done) | (simp; omega)) _ | refine Below.setCell ?_ (by first | exact Nat.le_refl _ | (simp; done) | (simp; omega)) _ | refine Below.drew ?_)
    have hX : Blk W0 w.heap.size 41 [.int .i64 2, .int .i64 op, .string text, .slice Am mat.length cm, .int .i64 width, .int .i64 back, .int .i64 grp, .slice An names.length cn, .bool cmp, .int .i64 parts] := by rw [← hW]; exact (Blk.new w _ _).alloc _
    have hR : Blk W0 (w.heap.size + 1) 45 [.string ⟨#[]⟩, .int .i64 0, .int .i64 0] := by rw [← hW]; exact blk_new1 (by simp)
    clear hW
    have hs0 := hB0.size
    have x0 := hX.cell (j := 0) rfl
    have x1 := hX.cell (j := 1) rfl
    have x2 := hX.cell (j := 2) rfl
    have x3 := hX.cell (j := 3) rfl
    have x4 := hX.cell (j := 4) rfl
    have x5 := hX.cell (j := 5) rfl
    have x6 := hX.cell (j := 6) rfl
    have x7 := hX.cell (j := 7) rfl
    have x8 := hX.cell (j := 8) rfl
    have x9 := hX.cell (j := 9) rfl
    go_wp2_with (go_at_call 36; refine ((HSel _ hB0).out).mono ?_; rintro e w1 ⟨rfl, hb1⟩; have hR1 := hR.below hb1 hR.lt; have c0 := hR1.cell (j := 0) rfl; have c1 := hR1.cell (j := 1) rfl; have c2 := hR1.cell (j := 2) rfl; have f0 := hR1.frozen)
    have bE := ((hR1.set 0 (.string tx)).set 1 (.int .i64 7)).set 2 (.int .i64 0)
    have d0 := bE.cell (j := 0) rfl
    have d1 := bE.cell (j := 1) rfl
    have d2 := bE.cell (j := 2) rfl
    exact bodyPost_ret (v := sdV ⟨tx, 7, 0⟩) (by simp [results, Tryz.results19, go_sem, d0, d1, d2]; rfl) rfl ⟨rfl, (((hB0.trans (hb1.mono hs0)).setCell (by simp) _).setCell (by simp) _).setCell (by simp) _⟩
  ·
    subst hk
    go_enter Tryz.func19, Tryz.ntmps19
    go_upto_region 1 with fail
    generalize hW : World.alloc _ _ = W0
    have hB0 : Below w.heap.size w W0 := by rw [← hW]; exact by repeat (first | exact Below.refl _ _ | refine Below.alloc ?_ (by first | exact Nat.le_refl _ | (simp; done) | (simp; omega)) _ | refine Below.setCell ?_ (by first | exact Nat.le_refl _ | (simp; done) | (simp; omega)) _ | refine Below.drew ?_)
    have hX : Blk W0 w.heap.size 41 [.int .i64 3, .int .i64 op, .string text, .slice Am mat.length cm, .int .i64 width, .int .i64 back, .int .i64 grp, .slice An names.length cn, .bool cmp, .int .i64 parts] := by rw [← hW]; exact (Blk.new w _ _).alloc _
    have hR : Blk W0 (w.heap.size + 1) 45 [.string ⟨#[]⟩, .int .i64 0, .int .i64 0] := by rw [← hW]; exact blk_new1 (by simp)
    clear hW
    have hs0 := hB0.size
    have x0 := hX.cell (j := 0) rfl
    have x1 := hX.cell (j := 1) rfl
    have x2 := hX.cell (j := 2) rfl
    have x3 := hX.cell (j := 3) rfl
    have x4 := hX.cell (j := 4) rfl
    have x5 := hX.cell (j := 5) rfl
    have x6 := hX.cell (j := 6) rfl
    have x7 := hX.cell (j := 7) rfl
    have x8 := hX.cell (j := 8) rfl
    have x9 := hX.cell (j := 9) rfl
    go_wp2_with (go_at_call 36; refine ((HSel _ hB0).out).mono ?_; rintro e w1 ⟨rfl, hb1⟩; have hR1 := hR.below hb1 hR.lt; have c0 := hR1.cell (j := 0) rfl; have c1 := hR1.cell (j := 1) rfl; have c2 := hR1.cell (j := 2) rfl; have f0 := hR1.frozen)
    have bE := ((hR1.set 0 (.string tx)).set 1 (.int .i64 7)).set 2 (.int .i64 0)
    have d0 := bE.cell (j := 0) rfl
    have d1 := bE.cell (j := 1) rfl
    have d2 := bE.cell (j := 2) rfl
    exact bodyPost_ret (v := sdV ⟨tx, 7, 0⟩) (by simp [results, Tryz.results19, go_sem, d0, d1, d2]; rfl) rfl ⟨rfl, (((hB0.trans (hb1.mono hs0)).setCell (by simp) _).setCell (by simp) _).setCell (by simp) _⟩
set_option maxRecDepth 100000 in
set_option maxHeartbeats 2000000 in
theorem rover4_any (n : Nod) (Am An : Option Addr) (cm cn : Nat) (s : Sd) (A3 : Option Addr) (c B : Nat) (w : World) (hk : n.kind = 4) (hr : Rd w B 3 A3 (sdsC [s])) (hB : B ≤ w.heap.size) (hop : inB 1 12 n.op = true) (hp : SdIn s) :
    Calls Tryz.prog 19 #[nodeV n Am An cm cn, .slice A3 1 c] w fun e w' => e = .returned (sdV (s.inside (funcsL.getD n.op.toNat ByteArray.empty))) ∧ Below w.heap.size w w' := by
  have hop' : 1 ≤ n.op ∧ n.op ≤ 12 := by simpa [inB] using hop
  clear hop
  obtain ⟨p1, p2, p3⟩ := hp
  obtain ⟨pb, po, rfl, hb, e0, e1, e2⟩ := hr.at3 (sdsC_at (k := 0) rfl)
  have hpb : pb < w.heap.size := by omega
  simp only [Nat.zero_mul, Nat.add_zero] at e0 e1 e2
  clear hr hb hB
  unfold nodeV
  obtain ⟨kind, op, text, mat, width, back, grp, names, cmp, parts⟩ := n
  dsimp only at *
  subst hk
  obtain ⟨kk, rfl⟩ : ∃ kk : Nat, op = (kk : Int) + 1 := ⟨(op - 1).toNat, by omega⟩
  have hkk : kk < 12 := by omega
  have hat := Lib.hid (funcsR_at hkk)
  have hws := funcsT_size (kk + 1) (by omega)
  have eop : funcsL.getD ((kk : Int) + 1).toNat ByteArray.empty = funcsL.getD (kk + 1) ByteArray.empty := by congr 1
  rw [eop]
  clear eop
  generalize funcsL.getD (kk + 1) ByteArray.empty = wd at *
  have hkI : (kk : Int) < 12 := by omega
  have hk0 : (0 : Int) ≤ kk := by omega
  unfold sdV
  go_enter Tryz.func19, Tryz.ntmps19
  go_upto_region 1 with fail
  generalize hW : World.alloc _ _ = W0
  have hB0 : Below w.heap.size w W0 := by rw [← hW]; exact by repeat (first | exact Below.refl _ _ | refine Below.alloc ?_ (by first | exact Nat.le_refl _ | (simp; done) | (simp; omega)) _ | refine Below.setCell ?_ (by first | exact Nat.le_refl _ | (simp; done) | (simp; omega)) _ | refine Below.drew ?_)
  have hX : Blk W0 w.heap.size 41 [.int .i64 4, .int .i64 ((kk : Int) + 1), .string text, .slice Am mat.length cm, .int .i64 width, .int .i64 back, .int .i64 grp, .slice An names.length cn, .bool cmp, .int .i64 parts] := by rw [← hW]; exact (Blk.new w _ _).alloc _
  have hR : Blk W0 (w.heap.size + 1) 45 [.string ⟨#[]⟩, .int .i64 0, .int .i64 0] := by rw [← hW]; exact blk_new1 (by simp)
  clear hW
  have hs0 := hB0.size
  have x0 := hX.cell (j := 0) rfl
  have hbW : pb < W0.heap.size := by omega
  have q0 : W0.cell? ⟨pb, po, none⟩ = some (.string s.text) := (hB0.cell (p := ⟨pb, po, none⟩) hpb).trans e0
  have q1 : W0.cell? ⟨pb, po + 1, none⟩ = some (.int .i64 s.row) := (hB0.cell (p := ⟨pb, po + 1, none⟩) hpb).trans e1
  have q2 : W0.cell? ⟨pb, po + 2, none⟩ = some (.int .i64 s.deep) := (hB0.cell (p := ⟨pb, po + 2, none⟩) hpb).trans e2
  go_upto_region 8 with fail
  clear x0
  apply wp_region_later_allocP (wordObj funcsR) [1, 2, 3, 7, 8, 9, 10, 13, 14, 15, 16, 17] 0 26 [4, 5, 6, 11, 12] [18, 19] (fun b => .slice (some ⟨b, 0, none⟩) 12 12) (by kernel_rfl) (by kernel_rfl) rfl rfl (by rfl) (fun _ h => by rw [h]; rfl)
  case hAl =>
    intro a w K hK
    unfold wpOp
    refine Or.inl ?_
    go_simp
    refine (rFuncsA_any w).mono ?_
    rintro e w' ⟨rfl, rfl⟩
    exact hK
  case h =>
    intro V hV
    have hbV := hV.below
    have hb5 : pb < V.heap.size := Nat.lt_of_lt_of_le hbW hbV.size
    have x1 := later_cell (hX.below hbV hX.lt) (j := 1) rfl
    have y0 := later_at hb5 ((hbV.cell (p := ⟨pb, po, none⟩) hbW).trans q0)
    have y2 := later_at hb5 ((hbV.cell (p := ⟨pb, po + 2, none⟩) hbW).trans q2)
    simp only [pickL, List.getElem?_cons_succ, List.getElem?_cons_zero]
    unfold LatC
    iterate 12 (go_big_quiet_step (fail))
    refine wpQuiet_nil ?_
    rfl
  case hM =>
    intro b V hV hbk
    have hK : Blk V b 9 (textsF funcsR) := hbk
    have k0 := later_cell hK (j := kk) (textsF_at hat.out)
    clear hK hbk
    simp only [pickL, List.getElem?_cons_succ, List.getElem?_cons_zero]
    unfold LatC
    go_simp
    iterate 5 (go_big_quiet_step (fail))
    refine wpQuiet_nil ?_
    rfl
  case hT =>
    intro w' b hb hbk hbs
    have hR1 := hR.below hb hR.lt
    have c0 := hR1.cell (j := 0) rfl
    have c1 := hR1.cell (j := 1) rfl
    have c2 := hR1.cell (j := 2) rfl
    have f0 := hR1.frozen
    simp only [pickL, List.getElem?_cons_succ, List.getElem?_cons_zero]
    go_wp2_with fail
    have bE := ((hR1.set 0 (.string (wd ++ (⟨#[40]⟩ : ByteArray) ++ s.text ++ (⟨#[41]⟩ : ByteArray)))).set 1 (.int .i64 7)).set 2 (.int .i64 (s.deep + 1))
    have d0 := bE.cell (j := 0) rfl
    have d1 := bE.cell (j := 1) rfl
    have d2 := bE.cell (j := 2) rfl
    exact bodyPost_ret (v := sdV (s.inside wd)) (by simp [results, Tryz.results19, go_sem, d0, d1, d2]; rfl) rfl ⟨rfl, (((hB0.trans (hb.mono hs0)).setCell (by simp) _).setCell (by simp) _).setCell (by simp) _⟩
set_option maxRecDepth 100000 in
set_option maxHeartbeats 4000000 in
theorem rover5_any (n : Nod) (Am An : Option Addr) (cm cn : Nat) (s : Sd) (A3 : Option Addr) (c B : Nat) (w : World) (hk : n.kind = 5) (hr : Rd w B 3 A3 (sdsC [s])) (hB : B ≤ w.heap.size) (hop : inB 1 5 n.op = true) (hg : n.grp = 0 ∨ n.grp = 1 ∨ n.grp = 2) (hN : NamesAt n An cn w) (hp : SdIn s) :
    Calls Tryz.prog 19 #[nodeV n Am An cm cn, .slice A3 1 c] w fun e w' => e = .returned (sdV (s.inside (aggW n))) ∧ Below w.heap.size w w' := by
  have hop' : 1 ≤ n.op ∧ n.op ≤ 5 := by simpa [inB] using hop
  clear hop
  obtain ⟨p1, p2, p3⟩ := hp
  obtain ⟨pb, po, rfl, hb, e0, e1, e2⟩ := hr.at3 (sdsC_at (k := 0) rfl)
  have hpb : pb < w.heap.size := by omega
  simp only [Nat.zero_mul, Nat.add_zero] at e0 e1 e2
  clear hr hb hB
  obtain ⟨n1, n2, n3, n4⟩ := hN
  have HL := fun (W : World) (hb : Below w.heap.size w W) => Lib.hid (rlist_any n.names An n.names.length cn w.heap.size W (n1.below hb) rfl n3 hb.size (by omega))
  have hns : (namesT n.names).size ≤ 1000000000002 := by
    rw [namesT, ByteArray.size_append, ByteArray.size_append]
    show 1 + _ + 1 ≤ _
    omega
  obtain ⟨aw, haw⟩ : ∃ aw, aggW n = aw := ⟨_, rfl⟩
  have HA : Hid (aw = aggsL.getD n.op.toNat ByteArray.empty ++ (if n.grp = 1 then sByB ++ namesT n.names ++ sBlank else if n.grp = 2 then sWithoutB ++ namesT n.names ++ sBlank else ByteArray.empty)) := haw.symm
  rw [haw]
  clear haw n1 n4
  unfold nodeV
  obtain ⟨kind, op, text, mat, width, back, grp, names, cmp, parts⟩ := n
  dsimp only at *
  subst hk
  obtain ⟨kk, rfl⟩ : ∃ kk : Nat, op = (kk : Int) + 1 := ⟨(op - 1).toNat, by omega⟩
  have hkk : kk < 5 := by omega
  have hat := Lib.hid (aggsR_at hkk)
  have hws := aggsT_size (kk + 1) (by omega)
  have eop : aggsL.getD ((kk : Int) + 1).toNat ByteArray.empty = aggsL.getD (kk + 1) ByteArray.empty := by congr 1
  rw [eop] at HA
  clear eop
  generalize aggsL.getD (kk + 1) ByteArray.empty = wd at *
  have hkI : (kk : Int) < 5 := by omega
  have hk0 : (0 : Int) ≤ kk := by omega
  unfold sdV
  go_enter Tryz.func19, Tryz.ntmps19
  go_upto_region 1 with fail
  generalize hW : World.alloc _ _ = W0
  have hB0 : Below w.heap.size w W0 := by rw [← hW]; exact by repeat (first | exact Below.refl _ _ | refine Below.alloc ?_ (by first | exact Nat.le_refl _ | (simp; done) | (simp; omega)) _ | refine Below.setCell ?_ (by first | exact Nat.le_refl _ | (simp; done) | (simp; omega)) _ | refine Below.drew ?_)
  have hX : Blk W0 w.heap.size 41 [.int .i64 5, .int .i64 ((kk : Int) + 1), .string text, .slice Am mat.length cm, .int .i64 width, .int .i64 back, .int .i64 grp, .slice An names.length cn, .bool cmp, .int .i64 parts] := by rw [← hW]; exact (Blk.new w _ _).alloc _
  have hR : Blk W0 (w.heap.size + 1) 45 [.string ⟨#[]⟩, .int .i64 0, .int .i64 0] := by rw [← hW]; exact blk_new1 (by simp)
  clear hW
  have hs0 := hB0.size
  have x0 := hX.cell (j := 0) rfl
  have hbW : pb < W0.heap.size := by omega
  have q0 : W0.cell? ⟨pb, po, none⟩ = some (.string s.text) := (hB0.cell (p := ⟨pb, po, none⟩) hpb).trans e0
  have q1 : W0.cell? ⟨pb, po + 1, none⟩ = some (.int .i64 s.row) := (hB0.cell (p := ⟨pb, po + 1, none⟩) hpb).trans e1
  have q2 : W0.cell? ⟨pb, po + 2, none⟩ = some (.int .i64 s.deep) := (hB0.cell (p := ⟨pb, po + 2, none⟩) hpb).trans e2
  go_upto_region 10 with fail
  clear x0
  apply wp_region_later_allocP (wordObj aggsR) [1, 2, 3] 0 47 [4, 5] [6] (fun b => .slice (some ⟨b, 0, none⟩) 5 5) (by kernel_rfl) (by kernel_rfl) rfl rfl (by rfl) (fun _ h => by rw [h]; rfl)
  case hAl =>
    intro a w K hK
    unfold wpOp
    refine Or.inl ?_
    go_simp
    refine (rAggsA_any w).mono ?_
    rintro e w' ⟨rfl, rfl⟩
    exact hK
  case h =>
    intro V hV
    have hbV := hV.below
    have x1 := later_cell (hX.below hbV hX.lt) (j := 1) rfl
    simp only [pickL, List.getElem?_cons_succ, List.getElem?_cons_zero]
    unfold LatC
    iterate 3 (go_big_quiet_step (fail))
    refine wpQuiet_nil ?_
    rfl
  case hM =>
    intro b V hV hbk
    have hK : Blk V b 9 (textsF aggsR) := hbk
    have k0 := later_cell hK (j := kk) (textsF_at hat.out)
    clear hK hbk
    simp only [pickL, List.getElem?_cons_succ, List.getElem?_cons_zero]
    unfold LatC
    go_simp
    iterate 2 (go_big_quiet_step (fail))
    refine wpQuiet_nil ?_
    rfl
  case hT =>
    intro w' b hb hbk hbs
    clear hbk hbs
    have hX1 := hX.below hb hX.lt
    have hR1 := hR.below hb hR.lt
    have hB1 := hB0.trans (hb.mono hs0)
    have hbW1 : pb < w'.heap.size := Nat.lt_of_lt_of_le hbW hb.size
    have z0 := (hb.cell (p := ⟨pb, po, none⟩) hbW).trans q0
    have z2 := (hb.cell (p := ⟨pb, po + 2, none⟩) hbW).trans q2
    have c6 := hX1.cell (j := 6) rfl
    have c7 := hX1.cell (j := 7) rfl
    clear q0 q1 q2 e0 e1 e2 hX hR hB0 hs0 hX1 hbW hb
    simp only [pickL, List.getElem?_cons_succ, List.getElem?_cons_zero]
    rcases hg with rfl | rfl | rfl
    · have HT : Hid (aw = wd) := by show _ = _; rw [HA.out]; simp
      clear HA
      go_upto_region 16 with fail
      clear c6 c7
      have y0 := later_at hbW1 z0
      have y2 := later_at hbW1 z2
      refine wp_region_later_tail 13 (by kernel_rfl) (by kernel_rfl) ?_
      simp only [List.take_succ_cons, List.take_zero, List.drop_succ_cons, List.drop_zero]
      iterate 13 (go_big_quiet_step (fail))
      refine wpQuiet_nil ?_
      intro _ hw9
      obtain ⟨z, rfl⟩ := hw9
      have hR2 := later_blk hR1 z
      have hB2 := hB1.trans ((later_below z).mono hB1.size)
      clear y0 y2 z0 z2 hbW1 hR1 hB1
      generalize later w' z = W2 at *
      have c0 := hR2.cell (j := 0) rfl
      have c1 := hR2.cell (j := 1) rfl
      have c2 := hR2.cell (j := 2) rfl
      have f0 := hR2.frozen
      go_wp2_with fail
      rw [HT.out]
      have bE := ((hR2.set 0 (.string ((wd) ++ (⟨#[40]⟩ : ByteArray) ++ s.text ++ (⟨#[41]⟩ : ByteArray)))).set 1 (.int .i64 7)).set 2 (.int .i64 (s.deep + 1))
      have d0 := bE.cell (j := 0) rfl
      have d1 := bE.cell (j := 1) rfl
      have d2 := bE.cell (j := 2) rfl
      exact bodyPost_ret (v := sdV (s.inside (wd))) (by simp [results, Tryz.results19, go_sem, d0, d1, d2]; rfl) rfl ⟨rfl, ((hB2.setCell (by simp) _).setCell (by simp) _).setCell (by simp) _⟩
    · have HT : Hid (aw = wd ++ (⟨#[32, 98, 121, 32]⟩ : ByteArray) ++ namesT names ++ (⟨#[32]⟩ : ByteArray)) := by
        show _ = _
        rw [HA.out]
        simp only [ByteArray.append_assoc]
        rfl
      clear HA
      go_wp2_with fail
      refine ((HL w' hB1).out).mono ?_
      rintro e w3 ⟨rfl, rfl⟩
      go_upto_region 16 with fail
      clear c6 c7
      have y0 := later_at hbW1 z0
      have y2 := later_at hbW1 z2
      refine wp_region_later_tail 13 (by kernel_rfl) (by kernel_rfl) ?_
      simp only [List.take_succ_cons, List.take_zero, List.drop_succ_cons, List.drop_zero]
      iterate 13 (go_big_quiet_step (fail))
      refine wpQuiet_nil ?_
      intro _ hw9
      obtain ⟨z, rfl⟩ := hw9
      have hR2 := later_blk hR1 z
      have hB2 := hB1.trans ((later_below z).mono hB1.size)
      clear y0 y2 z0 z2 hbW1 hR1 hB1
      generalize later w' z = W2 at *
      have c0 := hR2.cell (j := 0) rfl
      have c1 := hR2.cell (j := 1) rfl
      have c2 := hR2.cell (j := 2) rfl
      have f0 := hR2.frozen
      go_wp2_with fail
      rw [HT.out]
      have bE := ((hR2.set 0 (.string (((wd ++ (⟨#[32, 98, 121, 32]⟩ : ByteArray) ++ namesT names ++ (⟨#[32]⟩ : ByteArray))) ++ (⟨#[40]⟩ : ByteArray) ++ s.text ++ (⟨#[41]⟩ : ByteArray)))).set 1 (.int .i64 7)).set 2 (.int .i64 (s.deep + 1))
      have d0 := bE.cell (j := 0) rfl
      have d1 := bE.cell (j := 1) rfl
      have d2 := bE.cell (j := 2) rfl
      exact bodyPost_ret (v := sdV (s.inside ((wd ++ (⟨#[32, 98, 121, 32]⟩ : ByteArray) ++ namesT names ++ (⟨#[32]⟩ : ByteArray))))) (by simp [results, Tryz.results19, go_sem, d0, d1, d2]; rfl) rfl ⟨rfl, ((hB2.setCell (by simp) _).setCell (by simp) _).setCell (by simp) _⟩
    · have HT : Hid (aw = wd ++ (⟨#[32, 119, 105, 116, 104, 111, 117, 116, 32]⟩ : ByteArray) ++ namesT names ++ (⟨#[32]⟩ : ByteArray)) := by
        show _ = _
        rw [HA.out]
        simp only [ByteArray.append_assoc]
        rfl
      clear HA
      go_wp2_with fail
      refine ((HL w' hB1).out).mono ?_
      rintro e w3 ⟨rfl, rfl⟩
      go_upto_region 16 with fail
      clear c6 c7
      have y0 := later_at hbW1 z0
      have y2 := later_at hbW1 z2
      refine wp_region_later_tail 13 (by kernel_rfl) (by kernel_rfl) ?_
      simp only [List.take_succ_cons, List.take_zero, List.drop_succ_cons, List.drop_zero]
      iterate 13 (go_big_quiet_step (fail))
      refine wpQuiet_nil ?_
      intro _ hw9
      obtain ⟨z, rfl⟩ := hw9
      have hR2 := later_blk hR1 z
      have hB2 := hB1.trans ((later_below z).mono hB1.size)
      clear y0 y2 z0 z2 hbW1 hR1 hB1
      generalize later w' z = W2 at *
      have c0 := hR2.cell (j := 0) rfl
      have c1 := hR2.cell (j := 1) rfl
      have c2 := hR2.cell (j := 2) rfl
      have f0 := hR2.frozen
      go_wp2_with fail
      rw [HT.out]
      have bE := ((hR2.set 0 (.string (((wd ++ (⟨#[32, 119, 105, 116, 104, 111, 117, 116, 32]⟩ : ByteArray) ++ namesT names ++ (⟨#[32]⟩ : ByteArray))) ++ (⟨#[40]⟩ : ByteArray) ++ s.text ++ (⟨#[41]⟩ : ByteArray)))).set 1 (.int .i64 7)).set 2 (.int .i64 (s.deep + 1))
      have d0 := bE.cell (j := 0) rfl
      have d1 := bE.cell (j := 1) rfl
      have d2 := bE.cell (j := 2) rfl
      exact bodyPost_ret (v := sdV (s.inside ((wd ++ (⟨#[32, 119, 105, 116, 104, 111, 117, 116, 32]⟩ : ByteArray) ++ namesT names ++ (⟨#[32]⟩ : ByteArray))))) (by simp [results, Tryz.results19, go_sem, d0, d1, d2]; rfl) rfl ⟨rfl, ((hB2.setCell (by simp) _).setCell (by simp) _).setCell (by simp) _⟩
set_option maxRecDepth 100000 in
set_option maxHeartbeats 4000000 in
theorem rover7_any (n : Nod) (Am An : Option Addr) (cm cn : Nat) (s : Sd) (A3 : Option Addr) (c B : Nat) (w : World) (hk : n.kind = 7) (hr : Rd w B 3 A3 (sdsC [s])) (hB : B ≤ w.heap.size) (hp : SdIn s) :
    Calls Tryz.prog 19 #[nodeV n Am An cm cn, .slice A3 1 c] w fun e w' => e = .returned (sdV (negT s)) ∧ Below w.heap.size w w' := by
  obtain ⟨p1, p2, p3⟩ := hp
  obtain ⟨pb, po, rfl, hb, e0, e1, e2⟩ := hr.at3 (sdsC_at (k := 0) rfl)
  have hpb : pb < w.heap.size := by omega
  simp only [Nat.zero_mul, Nat.add_zero] at e0 e1 e2
  clear hr hb hB
  have HWr := fun W : World => Lib.hid (rwrap_any s (decide (s.row < 6)) W p1 p2 p3)
  have hz1 := within_size s 6
  have hz2 := within_deep s 6
  rw [within_wrap] at hz1 hz2
  have HT : Hid (negT s = ⟨(⟨#[45]⟩ : ByteArray) ++ (wrapS s (decide (s.row < 6))).text, 6, (wrapS s (decide (s.row < 6))).deep + 1⟩) := by
    show _ = _
    rw [negT, within_wrap]
    rfl
  have hA1 : (wrapS s (decide (s.row < 6))).text.size ≤ 1000002 := by omega
  have hA2 : 0 ≤ (wrapS s (decide (s.row < 6))).deep := by omega
  have hA3 : (wrapS s (decide (s.row < 6))).deep ≤ 1001 := by omega
  clear hz1 hz2
  generalize wrapS s (decide (s.row < 6)) = a1 at *
  rw [HT.out]
  clear HT
  unfold nodeV
  unfold sdV at HWr
  obtain ⟨kind, op, text, mat, width, back, grp, names, cmp, parts⟩ := n
  dsimp only at *
  subst hk
  go_enter Tryz.func19, Tryz.ntmps19
  go_upto_region 1 with fail
  generalize hW : World.alloc _ _ = W0
  have hB0 : Below w.heap.size w W0 := by rw [← hW]; exact by repeat (first | exact Below.refl _ _ | refine Below.alloc ?_ (by first | exact Nat.le_refl _ | (simp; done) | (simp; omega)) _ | refine Below.setCell ?_ (by first | exact Nat.le_refl _ | (simp; done) | (simp; omega)) _ | refine Below.drew ?_)
  have hX : Blk W0 w.heap.size 41 [.int .i64 7, .int .i64 op, .string text, .slice Am mat.length cm, .int .i64 width, .int .i64 back, .int .i64 grp, .slice An names.length cn, .bool cmp, .int .i64 parts] := by rw [← hW]; exact (Blk.new w _ _).alloc _
  have hR : Blk W0 (w.heap.size + 1) 45 [.string ⟨#[]⟩, .int .i64 0, .int .i64 0] := by rw [← hW]; exact blk_new1 (by simp)
  clear hW
  have hs0 := hB0.size
  have x0 := hX.cell (j := 0) rfl
  have hbW : pb < W0.heap.size := by omega
  have q0 : W0.cell? ⟨pb, po, none⟩ = some (.string s.text) := (hB0.cell (p := ⟨pb, po, none⟩) hpb).trans e0
  have q1 : W0.cell? ⟨pb, po + 1, none⟩ = some (.int .i64 s.row) := (hB0.cell (p := ⟨pb, po + 1, none⟩) hpb).trans e1
  have q2 : W0.cell? ⟨pb, po + 2, none⟩ = some (.int .i64 s.deep) := (hB0.cell (p := ⟨pb, po + 2, none⟩) hpb).trans e2
  go_upto_region 18 with fail
  clear x0
  apply wp_region_later_alloc (obj := .cells #[.string ⟨#[]⟩, .int .i64 0, .int .i64 0] 45) 9 6 (by kernel_rfl) (by kernel_rfl) rfl rfl (by rfl)
  case hAl =>
    intro a w K hK
    unfold wpOp
    refine Or.inl ?_
    go_simp
    exact hK
  case h =>
    intro V hV
    have hbV := hV.below
    have hb5 : pb < V.heap.size := Nat.lt_of_lt_of_le hbW hbV.size
    have y0 := later_at hb5 ((hbV.cell (p := ⟨pb, po, none⟩) hbW).trans q0)
    have y1 := later_at hb5 ((hbV.cell (p := ⟨pb, po + 1, none⟩) hbW).trans q1)
    have y2 := later_at hb5 ((hbV.cell (p := ⟨pb, po + 2, none⟩) hbW).trans q2)
    simp only [List.take_succ_cons, List.take_zero]
    unfold LatC
    iterate 8 (go_big_quiet_step (fail))
    go_big_quiet_step ((go_at_call 40; exact later_call (HWr _).out))
    refine wpQuiet_nil ?_
    rfl
  case hT =>
    intro w' b hb hbk hbs
    have hK : Blk w' b 45 [.string ⟨#[]⟩, .int .i64 0, .int .i64 0] := hbk
    have hR1 := hR.below hb hR.lt
    have hB1 := hB0.trans (hb.mono hs0)
    have hRl := hR.lt
    clear hbk HWr q0 q1 q2 e0 e1 e2 hX hR hB0 hb
    have k0 := hK.cell (j := 0) rfl
    have k1 := hK.cell (j := 1) rfl
    have k2 := hK.cell (j := 2) rfl
    have kf := hK.frozen
    simp only [List.drop_succ_cons, List.drop_zero]
    unfold ptrB
    go_upto_region 19 with fail
    generalize hW : World.setCell _ _ _ = W3
    have hA : Blk W3 b 45 [.string a1.text, .int .i64 a1.row, .int .i64 a1.deep] := by
      rw [← hW]
      exact ((hK.set 0 _).set 1 _).set 2 _
    have hR3 : Blk W3 (w.heap.size + 1) 45 [.string ⟨#[]⟩, .int .i64 0, .int .i64 0] := by
      rw [← hW]
      exact ((hR1.other (by simp; try omega) _).other (by simp; try omega) _).other (by simp; try omega) _
    have hB3 : Below w.heap.size w W3 := by
      rw [← hW]
      exact ((hB1.setCell (by simp; try omega) _).setCell (by simp; try omega) _).setCell (by simp; try omega) _
    clear hW hK hR1 hB1 k0 k1 k2 kf
    have l0 := hA.cell (j := 0) rfl
    have l2 := hA.cell (j := 2) rfl
    have c0 := hR3.cell (j := 0) rfl
    have c1 := hR3.cell (j := 1) rfl
    have c2 := hR3.cell (j := 2) rfl
    have f0 := hR3.frozen
    go_wp2_with fail
    have bE := ((hR3.set 0 (.string ((⟨#[45]⟩ : ByteArray) ++ a1.text))).set 1 (.int .i64 6)).set 2 (.int .i64 (a1.deep + 1))
    have d0 := bE.cell (j := 0) rfl
    have d1 := bE.cell (j := 1) rfl
    have d2 := bE.cell (j := 2) rfl
    exact bodyPost_ret (v := sdV ⟨(⟨#[45]⟩ : ByteArray) ++ a1.text, 6, a1.deep + 1⟩) (by simp [results, Tryz.results19, go_sem, d0, d1, d2]; rfl) rfl ⟨rfl, ((hB3.setCell (by simp; try omega) _).setCell (by simp; try omega) _).setCell (by simp; try omega) _⟩
end Go.Proofs.YtakfnojiaakfpaaGreatDoor
