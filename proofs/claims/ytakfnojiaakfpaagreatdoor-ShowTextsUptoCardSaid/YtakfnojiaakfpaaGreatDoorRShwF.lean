/- The document's writer: an operation over its two parts. -/
import Derived.Test.YtakfnojiaakfpaaGreatDoorRShwE
import Derived.Test.YtakfnojiaakfpaaGreatDoorTailC
namespace Go.Proofs.YtakfnojiaakfpaaGreatDoor
open Go.RowKit
theorem rowN_in {op : Int} (h1 : 1 ≤ op) (h2 : op ≤ 13) : 1 ≤ rowN op ∧ rowN op ≤ 5 := by
  have := row_at h1 h2 (l := 1) (by decide) (by decide)
  exact ⟨this.1, this.2.1⟩
set_option maxRecDepth 100000 in
set_option maxHeartbeats 8000000 in
theorem rover6_any (n : Nod) (Am An : Option Addr) (cm cn : Nat) (s t : Sd) (A3 : Option Addr) (c B : Nat) (w : World) (hk : n.kind = 6) (hr : Rd w B 3 A3 (sdsC [s, t])) (hB : B ≤ w.heap.size) (hop : inB 1 13 n.op = true) (hg : n.grp = 3 ∨ n.grp = 4 ∨ n.grp = 0) (hN : NamesAt n An cn w) (hp : SdIn s) (hpt : SdIn t) :
    Calls Tryz.prog 19 #[nodeV n Am An cm cn, .slice A3 2 c] w fun e w' => e = .returned (sdV (binT n s t)) ∧ Below w.heap.size w w' := by
  have hop' : 1 ≤ n.op ∧ n.op ≤ 13 := by simpa [inB] using hop
  clear hop
  have hrow := rowN_in hop'.1 hop'.2
  obtain ⟨p1, p2, p3⟩ := hp
  obtain ⟨t1, t2, t3⟩ := hpt
  obtain ⟨pb', po', hA', hb', f0, f1, f2⟩ := hr.at3 (sdsC_at (k := 1) rfl)
  obtain ⟨pb, po, rfl, hb, e0, e1, e2⟩ := hr.at3 (sdsC_at (k := 0) rfl)
  injection hA' with hA'
  injection hA' with h1 h2
  subst h1 h2
  have hpb : pb < w.heap.size := by omega
  simp only [Nat.zero_mul, Nat.one_mul, Nat.add_zero] at e0 e1 e2 f0 f1 f2
  clear hr hb hb' hB
  obtain ⟨n1, n2, n3, n4⟩ := hN
  have HL := fun (W : World) (hb : Below w.heap.size w W) => Lib.hid (rlist_any n.names An n.names.length cn w.heap.size W (n1.below hb) rfl n3 hb.size (by omega))
  have hns : (namesT n.names).size ≤ 1000000000002 := by
    rw [namesT, ByteArray.size_append, ByteArray.size_append]
    show 1 + _ + 1 ≤ _
    omega
  have HRow := fun W : World => Lib.hid (rrow20_any n.op W)
  have HWa := fun W : World => Lib.hid (rwrap_any s (decide (s.row < rowN n.op)) W p1 p2 p3)
  have HWb := fun W : World => Lib.hid (rwrap_any t (decide (t.row ≤ rowN n.op)) W t1 t2 t3)
  have hda : decide (t.row < rowN n.op + 1) = decide (t.row ≤ rowN n.op) := by rw [decide_eq_decide]; omega
  have ha1 := within_size s (rowN n.op)
  have ha2 := within_deep s (rowN n.op)
  have hb1 := within_size t (rowN n.op + 1)
  have hb2 := within_deep t (rowN n.op + 1)
  obtain ⟨bt, hbt⟩ : ∃ bt, binT n s t = bt := ⟨_, rfl⟩
  have HT : Hid (bt = ⟨(wrapS s (decide (s.row < rowN n.op))).text ++ binMid n ++ sBlank ++ (wrapS t (decide (t.row ≤ rowN n.op))).text, rowN n.op, max (wrapS s (decide (s.row < rowN n.op))).deep (wrapS t (decide (t.row ≤ rowN n.op))).deep⟩) := by
    show _ = _
    rw [← hbt, binT, within_wrap, within_wrap, hda]
  rw [hbt]
  clear hbt
  rw [within_wrap] at ha1 ha2 hb1 hb2
  rw [hda] at hb1 hb2
  have hA1 : (wrapS s (decide (s.row < rowN n.op))).text.size ≤ 1000002 := by omega
  have hA2 : 0 ≤ (wrapS s (decide (s.row < rowN n.op))).deep := by omega
  have hA3 : (wrapS s (decide (s.row < rowN n.op))).deep ≤ 1001 := by omega
  have hB1 : (wrapS t (decide (t.row ≤ rowN n.op))).text.size ≤ 1000002 := by omega
  have hB2 : 0 ≤ (wrapS t (decide (t.row ≤ rowN n.op))).deep := by omega
  have hB3 : (wrapS t (decide (t.row ≤ rowN n.op))).deep ≤ 1001 := by omega
  clear ha1 ha2 hb1 hb2 hda
  obtain ⟨kk, hkk⟩ : ∃ kk : Nat, n.op = (kk : Int) + 1 := ⟨(n.op - 1).toNat, by omega⟩
  have hk13 : kk < 13 := by omega
  have hat := Lib.hid (ops20_at hk13)
  have hws := opsT_size (kk + 1) (by omega)
  have HMid : Hid (binMid n = (if n.cmp = true then sBlank ++ opsL.getD (kk + 1) ByteArray.empty ++ sBoolB else sBlank ++ opsL.getD (kk + 1) ByteArray.empty) ++ (if n.grp = 3 then sOnB ++ namesT n.names else if n.grp = 4 then sIgnB ++ namesT n.names else ByteArray.empty)) := by
    show _ = _
    rw [binMid, opT, hkk]
    rfl
  generalize wrapS s (decide (s.row < rowN n.op)) = a1 at *
  generalize wrapS t (decide (t.row ≤ rowN n.op)) = b1 at *
  have hkI : (kk : Int) < 13 := by omega
  have hk0 : (0 : Int) ≤ kk := by omega
  generalize rowN n.op = r at *
  rw [hkk] at HRow
  generalize opsL.getD (kk + 1) ByteArray.empty = wd at *
  generalize binMid n = mid at *
  unfold nodeV
  unfold sdV at HWa HWb
  obtain ⟨kind, op, text, mat, width, back, grp, names, cmp, parts⟩ := n
  dsimp only at *
  subst hk hkk
  clear hop' n1 n4
  go_enter Tryz.func19, Tryz.ntmps19
  go_upto_region 1 with fail
  generalize hW : World.alloc _ _ = W0
  have hB0 : Below w.heap.size w W0 := by rw [← hW]; exact by repeat (first | exact Below.refl _ _ | refine Below.alloc ?_ (by first | exact Nat.le_refl _ | (simp; done) | (simp; omega)) _ | refine Below.setCell ?_ (by first | exact Nat.le_refl _ | (simp; done) | (simp; omega)) _ | refine Below.drew ?_)
  have hX : Blk W0 w.heap.size 41 [.int .i64 6, .int .i64 ((kk : Int) + 1), .string text, .slice Am mat.length cm, .int .i64 width, .int .i64 back, .int .i64 grp, .slice An names.length cn, .bool cmp, .int .i64 parts] := by rw [← hW]; exact (Blk.new w _ _).alloc _
  have hR : Blk W0 (w.heap.size + 1) 45 [.string ⟨#[]⟩, .int .i64 0, .int .i64 0] := by rw [← hW]; exact blk_new1 (by simp)
  clear hW
  have hs0 := hB0.size
  have x0 := hX.cell (j := 0) rfl
  have x1 := hX.cell (j := 1) rfl
  have hbW : pb < W0.heap.size := by omega
  have q0 : W0.cell? ⟨pb, po, none⟩ = some (.string s.text) := (hB0.cell (p := ⟨pb, po, none⟩) hpb).trans e0
  have q1 : W0.cell? ⟨pb, po + 1, none⟩ = some (.int .i64 s.row) := (hB0.cell (p := ⟨pb, po + 1, none⟩) hpb).trans e1
  have q2 : W0.cell? ⟨pb, po + 2, none⟩ = some (.int .i64 s.deep) := (hB0.cell (p := ⟨pb, po + 2, none⟩) hpb).trans e2
  have u0 : W0.cell? ⟨pb, po + 3, none⟩ = some (.string t.text) := (hB0.cell (p := ⟨pb, po + 3, none⟩) hpb).trans f0
  have u1 : W0.cell? ⟨pb, po + 3 + 1, none⟩ = some (.int .i64 t.row) := (hB0.cell (p := ⟨pb, po + 3 + 1, none⟩) hpb).trans f1
  have u2 : W0.cell? ⟨pb, po + 3 + 2, none⟩ = some (.int .i64 t.deep) := (hB0.cell (p := ⟨pb, po + 3 + 2, none⟩) hpb).trans f2
  clear e0 e1 e2 f0 f1 f2 hpb
  go_wp2_with fail
  refine ((HRow W0).out).mono ?_
  rintro e w1 ⟨rfl, rfl⟩
  go_upto_region 21 with fail
  clear x0 x1
  apply wp_region_later_alloc2 (obj := .cells #[.string ⟨#[]⟩, .int .i64 0, .int .i64 0] 45) (obj2 := .cells #[.string ⟨#[]⟩, .int .i64 0, .int .i64 0] 45) 20 8 9 (by kernel_rfl) (by kernel_rfl) (by decide) rfl rfl rfl rfl (by rfl)
  case hAl =>
    intro a w K hK
    unfold wpOp
    refine Or.inl ?_
    go_simp
    exact hK
  case hAl2 =>
    intro a w K hK
    unfold wpOp
    refine Or.inl ?_
    go_simp
    exact hK
  case h =>
    intro V hV
    have hbV := hV.below
    have hb5 : pb < V.heap.size := Nat.lt_of_lt_of_le hbW hbV.size
    have y0 := later_at hb5 ((hbV.cell (p := ⟨pb, po, none⟩) hbW).trans q0)
    have y1 := later_at hb5 ((hbV.cell (p := ⟨pb, po + 1, none⟩) hbW).trans q1)
    have y2 := later_at hb5 ((hbV.cell (p := ⟨pb, po + 2, none⟩) hbW).trans q2)
    have y3 := later_at hb5 ((hbV.cell (p := ⟨pb, po + 3, none⟩) hbW).trans u0)
    have y4 := later_at hb5 ((hbV.cell (p := ⟨pb, po + 3 + 1, none⟩) hbW).trans u1)
    have y5 := later_at hb5 ((hbV.cell (p := ⟨pb, po + 3 + 2, none⟩) hbW).trans u2)
    simp only [List.take_succ_cons, List.take_zero]
    unfold LatC
    iterate 9 (go_big_quiet_step (fail))
    go_big_quiet_step ((go_at_call 40; exact later_call (HWa _).out))
    iterate 9 (go_big_quiet_step (fail))
    go_big_quiet_step ((go_at_call 40; exact later_call (HWb _).out))
    refine wpQuiet_nil ?_
    rfl
  case hT =>
    intro w' b d hb hbk hbs hdk hds hne
    have hK : Blk w' b 45 [.string ⟨#[]⟩, .int .i64 0, .int .i64 0] := hbk
    have hD : Blk w' d 45 [.string ⟨#[]⟩, .int .i64 0, .int .i64 0] := hdk
    have hX1 := hX.below hb hX.lt
    have hR1 := hR.below hb hR.lt
    have hB1 := hB0.trans (hb.mono hs0)
    have hRl := hR.lt
    clear hbk hdk HWa HWb q0 q1 q2 u0 u1 u2 hX hR hB0 hb
    have k0 := hK.cell (j := 0) rfl
    have k1 := hK.cell (j := 1) rfl
    have k2 := hK.cell (j := 2) rfl
    have kf := hK.frozen
    have g0 := hD.cell (j := 0) rfl
    have g1 := hD.cell (j := 1) rfl
    have g2 := hD.cell (j := 2) rfl
    have gf := hD.frozen
    simp only [List.drop_succ_cons, List.drop_zero]
    unfold ptrB
    go_upto_region 22 with fail
    generalize hW : World.setCell _ _ _ = W3
    have hA3 : Blk W3 b 45 [.string a1.text, .int .i64 a1.row, .int .i64 a1.deep] := by
      rw [← hW]
      exact (((((hK.set 0 _).set 1 _).set 2 _).other (by simp; try omega) _).other (by simp; try omega) _).other (by simp; try omega) _
    have hC3 : Blk W3 d 45 [.string b1.text, .int .i64 b1.row, .int .i64 b1.deep] := by
      rw [← hW]
      exact (((((hD.other (by simp; try omega) _).other (by simp; try omega) _).other (by simp; try omega) _).set 0 _).set 1 _).set 2 _
    have hX3 : Blk W3 w.heap.size 41 [.int .i64 6, .int .i64 ((kk : Int) + 1), .string text, .slice Am mat.length cm, .int .i64 width, .int .i64 back, .int .i64 grp, .slice An names.length cn, .bool cmp, .int .i64 parts] := by
      rw [← hW]
      exact (((((hX1.other (by simp; try omega) _).other (by simp; try omega) _).other (by simp; try omega) _).other (by simp; try omega) _).other (by simp; try omega) _).other (by simp; try omega) _
    have hR3 : Blk W3 (w.heap.size + 1) 45 [.string ⟨#[]⟩, .int .i64 0, .int .i64 0] := by
      rw [← hW]
      exact (((((hR1.other (by simp; try omega) _).other (by simp; try omega) _).other (by simp; try omega) _).other (by simp; try omega) _).other (by simp; try omega) _).other (by simp; try omega) _
    have hB3 : Below w.heap.size w W3 := by
      rw [← hW]
      exact (((((hB1.setCell (by simp; try omega) _).setCell (by simp; try omega) _).setCell (by simp; try omega) _).setCell (by simp; try omega) _).setCell (by simp; try omega) _).setCell (by simp; try omega) _
    clear hW hK hD hX1 hR1 hB1 k0 k1 k2 kf g0 g1 g2 gf
    apply wp_region_later_allocP (wordObj ops20) [0, 1, 2, 4, 5, 6] 3 131 [7, 8] [9, 10] (fun b => .slice (some ⟨b, 0, none⟩) 13 13) (by kernel_rfl) (by kernel_rfl) rfl rfl (by rfl) (fun _ h => by rw [h]; rfl)
    case hAl =>
      intro a w K hK
      unfold wpOp
      refine Or.inl ?_
      go_simp
      refine (rOpsA_any w).mono ?_
      rintro e w' ⟨rfl, rfl⟩
      exact hK
    case h =>
      intro V hV
      have hbV := hV.below
      have l0 := later_cell (hA3.below hbV hA3.lt) (j := 0) rfl
      have x1 := later_cell (hX3.below hbV hX3.lt) (j := 1) rfl
      simp only [pickL, List.getElem?_cons_succ, List.getElem?_cons_zero]
      unfold LatC
      iterate 6 (go_big_quiet_step (fail))
      refine wpQuiet_nil ?_
      rfl
    case hM =>
      intro b V hV hbk
      have hK : Blk V b 9 (textsF ops20) := hbk
      have k0 := later_cell hK (j := kk) (textsF_at hat.out)
      clear hK hbk
      simp only [pickL, List.getElem?_cons_succ, List.getElem?_cons_zero]
      unfold LatC
      go_simp
      iterate 2 (go_big_quiet_step (fail))
      refine wpQuiet_nil ?_
      rfl
    case hT =>
      intro w6 b6 hb6 hbk6 hbs6
      clear hbk6 hbs6
      have hA6 := hA3.below hb6 hA3.lt
      have hC6 := hC3.below hb6 hC3.lt
      have hX6 := hX3.below hb6 hX3.lt
      have hR6 := hR3.below hb6 hR3.lt
      have hB6 := hB3.trans (hb6.mono hB3.size)
      clear hA3 hC3 hX3 hR3 hB3 hb6
      have x6 := hX6.cell (j := 6) rfl
      have x7 := hX6.cell (j := 7) rfl
      have x8 := hX6.cell (j := 8) rfl
      have l2 := hA6.cell (j := 2) rfl
      have m0 := hC6.cell (j := 0) rfl
      have m2 := hC6.cell (j := 2) rfl
      have c0 := hR6.cell (j := 0) rfl
      have c1 := hR6.cell (j := 1) rfl
      have c2 := hR6.cell (j := 2) rfl
      have cf := hR6.frozen
      clear hA6 hC6 hX6
      simp only [pickL, List.getElem?_cons_succ, List.getElem?_cons_zero]
      cases cmp with
      | true =>
        rcases hg with rfl | rfl | rfl
        ·
          have hV : Hid (bt = ⟨(a1.text ++ (⟨#[32]⟩ : ByteArray) ++ wd ++ (⟨#[32, 98, 111, 111, 108]⟩ : ByteArray) ++ (⟨#[32, 111, 110, 32]⟩ : ByteArray) ++ namesT names) ++ (⟨#[32]⟩ : ByteArray) ++ b1.text, r, max a1.deep b1.deep⟩) := by
            show _ = _
            rw [HT.out, HMid.out]
            first | rfl | (simp [ByteArray.append_assoc]; rfl) | (simp [ByteArray.append_assoc, sBlank, sBoolB, sOnB, sIgnB])
          clear HT HMid
          (go_wp2_with fail; refine ((HL w6 hB6).out).mono ?_; rintro e w7 ⟨rfl, rfl⟩)
          go_wp2_with fail
          rw [hV.out]
          have bE := ((hR6.set 0 (.string ((a1.text ++ (⟨#[32]⟩ : ByteArray) ++ wd ++ (⟨#[32, 98, 111, 111, 108]⟩ : ByteArray) ++ (⟨#[32, 111, 110, 32]⟩ : ByteArray) ++ namesT names) ++ (⟨#[32]⟩ : ByteArray) ++ b1.text))).set 1 (.int .i64 r)).set 2 (.int .i64 (max a1.deep b1.deep))
          have d0 := bE.cell (j := 0) rfl
          have d1 := bE.cell (j := 1) rfl
          have d2 := bE.cell (j := 2) rfl
          exact bodyPost_ret (v := sdV ⟨(a1.text ++ (⟨#[32]⟩ : ByteArray) ++ wd ++ (⟨#[32, 98, 111, 111, 108]⟩ : ByteArray) ++ (⟨#[32, 111, 110, 32]⟩ : ByteArray) ++ namesT names) ++ (⟨#[32]⟩ : ByteArray) ++ b1.text, r, max a1.deep b1.deep⟩) (by simp [results, Tryz.results19, go_sem, d0, d1, d2]; rfl) rfl ⟨rfl, ((hB6.setCell (by simp; try omega) _).setCell (by simp; try omega) _).setCell (by simp; try omega) _⟩
        ·
          have hV : Hid (bt = ⟨(a1.text ++ (⟨#[32]⟩ : ByteArray) ++ wd ++ (⟨#[32, 98, 111, 111, 108]⟩ : ByteArray) ++ (⟨#[32, 105, 103, 110, 111, 114, 105, 110, 103, 32]⟩ : ByteArray) ++ namesT names) ++ (⟨#[32]⟩ : ByteArray) ++ b1.text, r, max a1.deep b1.deep⟩) := by
            show _ = _
            rw [HT.out, HMid.out]
            first | rfl | (simp [ByteArray.append_assoc]; rfl) | (simp [ByteArray.append_assoc, sBlank, sBoolB, sOnB, sIgnB])
          clear HT HMid
          (go_wp2_with fail; refine ((HL w6 hB6).out).mono ?_; rintro e w7 ⟨rfl, rfl⟩)
          go_wp2_with fail
          rw [hV.out]
          have bE := ((hR6.set 0 (.string ((a1.text ++ (⟨#[32]⟩ : ByteArray) ++ wd ++ (⟨#[32, 98, 111, 111, 108]⟩ : ByteArray) ++ (⟨#[32, 105, 103, 110, 111, 114, 105, 110, 103, 32]⟩ : ByteArray) ++ namesT names) ++ (⟨#[32]⟩ : ByteArray) ++ b1.text))).set 1 (.int .i64 r)).set 2 (.int .i64 (max a1.deep b1.deep))
          have d0 := bE.cell (j := 0) rfl
          have d1 := bE.cell (j := 1) rfl
          have d2 := bE.cell (j := 2) rfl
          exact bodyPost_ret (v := sdV ⟨(a1.text ++ (⟨#[32]⟩ : ByteArray) ++ wd ++ (⟨#[32, 98, 111, 111, 108]⟩ : ByteArray) ++ (⟨#[32, 105, 103, 110, 111, 114, 105, 110, 103, 32]⟩ : ByteArray) ++ namesT names) ++ (⟨#[32]⟩ : ByteArray) ++ b1.text, r, max a1.deep b1.deep⟩) (by simp [results, Tryz.results19, go_sem, d0, d1, d2]; rfl) rfl ⟨rfl, ((hB6.setCell (by simp; try omega) _).setCell (by simp; try omega) _).setCell (by simp; try omega) _⟩
        ·
          have hV : Hid (bt = ⟨(a1.text ++ (⟨#[32]⟩ : ByteArray) ++ wd ++ (⟨#[32, 98, 111, 111, 108]⟩ : ByteArray)) ++ (⟨#[32]⟩ : ByteArray) ++ b1.text, r, max a1.deep b1.deep⟩) := by
            show _ = _
            rw [HT.out, HMid.out]
            first | rfl | (simp [ByteArray.append_assoc]; rfl) | (simp [ByteArray.append_assoc, sBlank, sBoolB, sOnB, sIgnB])
          clear HT HMid
          skip
          go_wp2_with fail
          rw [hV.out]
          have bE := ((hR6.set 0 (.string ((a1.text ++ (⟨#[32]⟩ : ByteArray) ++ wd ++ (⟨#[32, 98, 111, 111, 108]⟩ : ByteArray)) ++ (⟨#[32]⟩ : ByteArray) ++ b1.text))).set 1 (.int .i64 r)).set 2 (.int .i64 (max a1.deep b1.deep))
          have d0 := bE.cell (j := 0) rfl
          have d1 := bE.cell (j := 1) rfl
          have d2 := bE.cell (j := 2) rfl
          exact bodyPost_ret (v := sdV ⟨(a1.text ++ (⟨#[32]⟩ : ByteArray) ++ wd ++ (⟨#[32, 98, 111, 111, 108]⟩ : ByteArray)) ++ (⟨#[32]⟩ : ByteArray) ++ b1.text, r, max a1.deep b1.deep⟩) (by simp [results, Tryz.results19, go_sem, d0, d1, d2]; rfl) rfl ⟨rfl, ((hB6.setCell (by simp; try omega) _).setCell (by simp; try omega) _).setCell (by simp; try omega) _⟩
      | false =>
        rcases hg with rfl | rfl | rfl
        ·
          have hV : Hid (bt = ⟨(a1.text ++ (⟨#[32]⟩ : ByteArray) ++ wd ++ (⟨#[32, 111, 110, 32]⟩ : ByteArray) ++ namesT names) ++ (⟨#[32]⟩ : ByteArray) ++ b1.text, r, max a1.deep b1.deep⟩) := by
            show _ = _
            rw [HT.out, HMid.out]
            first | rfl | (simp [ByteArray.append_assoc]; rfl) | (simp [ByteArray.append_assoc, sBlank, sBoolB, sOnB, sIgnB])
          clear HT HMid
          (go_wp2_with fail; refine ((HL w6 hB6).out).mono ?_; rintro e w7 ⟨rfl, rfl⟩)
          go_wp2_with fail
          rw [hV.out]
          have bE := ((hR6.set 0 (.string ((a1.text ++ (⟨#[32]⟩ : ByteArray) ++ wd ++ (⟨#[32, 111, 110, 32]⟩ : ByteArray) ++ namesT names) ++ (⟨#[32]⟩ : ByteArray) ++ b1.text))).set 1 (.int .i64 r)).set 2 (.int .i64 (max a1.deep b1.deep))
          have d0 := bE.cell (j := 0) rfl
          have d1 := bE.cell (j := 1) rfl
          have d2 := bE.cell (j := 2) rfl
          exact bodyPost_ret (v := sdV ⟨(a1.text ++ (⟨#[32]⟩ : ByteArray) ++ wd ++ (⟨#[32, 111, 110, 32]⟩ : ByteArray) ++ namesT names) ++ (⟨#[32]⟩ : ByteArray) ++ b1.text, r, max a1.deep b1.deep⟩) (by simp [results, Tryz.results19, go_sem, d0, d1, d2]; rfl) rfl ⟨rfl, ((hB6.setCell (by simp; try omega) _).setCell (by simp; try omega) _).setCell (by simp; try omega) _⟩
        ·
          have hV : Hid (bt = ⟨(a1.text ++ (⟨#[32]⟩ : ByteArray) ++ wd ++ (⟨#[32, 105, 103, 110, 111, 114, 105, 110, 103, 32]⟩ : ByteArray) ++ namesT names) ++ (⟨#[32]⟩ : ByteArray) ++ b1.text, r, max a1.deep b1.deep⟩) := by
            show _ = _
            rw [HT.out, HMid.out]
            first | rfl | (simp [ByteArray.append_assoc]; rfl) | (simp [ByteArray.append_assoc, sBlank, sBoolB, sOnB, sIgnB])
          clear HT HMid
          (go_wp2_with fail; refine ((HL w6 hB6).out).mono ?_; rintro e w7 ⟨rfl, rfl⟩)
          go_wp2_with fail
          rw [hV.out]
          have bE := ((hR6.set 0 (.string ((a1.text ++ (⟨#[32]⟩ : ByteArray) ++ wd ++ (⟨#[32, 105, 103, 110, 111, 114, 105, 110, 103, 32]⟩ : ByteArray) ++ namesT names) ++ (⟨#[32]⟩ : ByteArray) ++ b1.text))).set 1 (.int .i64 r)).set 2 (.int .i64 (max a1.deep b1.deep))
          have d0 := bE.cell (j := 0) rfl
          have d1 := bE.cell (j := 1) rfl
          have d2 := bE.cell (j := 2) rfl
          exact bodyPost_ret (v := sdV ⟨(a1.text ++ (⟨#[32]⟩ : ByteArray) ++ wd ++ (⟨#[32, 105, 103, 110, 111, 114, 105, 110, 103, 32]⟩ : ByteArray) ++ namesT names) ++ (⟨#[32]⟩ : ByteArray) ++ b1.text, r, max a1.deep b1.deep⟩) (by simp [results, Tryz.results19, go_sem, d0, d1, d2]; rfl) rfl ⟨rfl, ((hB6.setCell (by simp; try omega) _).setCell (by simp; try omega) _).setCell (by simp; try omega) _⟩
        ·
          have hV : Hid (bt = ⟨(a1.text ++ (⟨#[32]⟩ : ByteArray) ++ wd) ++ (⟨#[32]⟩ : ByteArray) ++ b1.text, r, max a1.deep b1.deep⟩) := by
            show _ = _
            rw [HT.out, HMid.out]
            first | rfl | (simp [ByteArray.append_assoc]; rfl) | (simp [ByteArray.append_assoc, sBlank, sBoolB, sOnB, sIgnB])
          clear HT HMid
          skip
          go_wp2_with fail
          rw [hV.out]
          have bE := ((hR6.set 0 (.string ((a1.text ++ (⟨#[32]⟩ : ByteArray) ++ wd) ++ (⟨#[32]⟩ : ByteArray) ++ b1.text))).set 1 (.int .i64 r)).set 2 (.int .i64 (max a1.deep b1.deep))
          have d0 := bE.cell (j := 0) rfl
          have d1 := bE.cell (j := 1) rfl
          have d2 := bE.cell (j := 2) rfl
          exact bodyPost_ret (v := sdV ⟨(a1.text ++ (⟨#[32]⟩ : ByteArray) ++ wd) ++ (⟨#[32]⟩ : ByteArray) ++ b1.text, r, max a1.deep b1.deep⟩) (by simp [results, Tryz.results19, go_sem, d0, d1, d2]; rfl) rfl ⟨rfl, ((hB6.setCell (by simp; try omega) _).setCell (by simp; try omega) _).setCell (by simp; try omega) _⟩
end Go.Proofs.YtakfnojiaakfpaaGreatDoor
