/- How a query is read: brackets. -/
import Derived.Test.YtakfnojiaakfpaaGreatDoorParP
import Derived.Deep.DeepCutAuto
namespace Go.Proofs.YtakfnojiaakfpaaGreatDoor
section
/-! ## ParQ -/
open Go.RowKit
attribute [local go_sem ↓] Go.wp_at_zero Go.wp_at_succ tok_f0 tok_f2 tok_f3

/-- A node that is being made, with matchers. -/
def MatN (w : World) (base N : Nat) (x : Nod) : Prop := ∃ Am cm, Blk w N 41 (nodC x Am cm none 0) ∧ Own w base 37 3 Am x.mat.length cm (matsC x.mat)
theorem MatN.fr {w w' : World} {P N base : Nat} {R : Option Addr × Nat} {s : PS} {x : Nod} (h : MatN w base N x) (hP : PAt w P R s) (hf : Fr P none w w') (hne : N ≠ P) : MatN w' base N x := by
  obtain ⟨Am, cm, h1, h2⟩ := h
  exact ⟨Am, cm, h1.fr hf hne, h2.fr hP hf (by decide)⟩
theorem MatN.belowAll {w w' : World} {N base : Nat} {x : Nod} (h : MatN w base N x) (hb : Below w.heap.size w w') : MatN w' base N x := by
  obtain ⟨Am, cm, h1, h2⟩ := h
  exact ⟨Am, cm, h1.below hb h1.lt, h2.belowAll hb⟩
theorem MatN.lt {w : World} {N base : Nat} {x : Nod} (h : MatN w base N x) : N < w.heap.size := by
  obtain ⟨Am, cm, h1, h2⟩ := h
  exact h1.lt
def ResA (P : Nat) (R : Option Addr × Nat) (w0 : World) (s : PS) (N : Nat) (x : Nod) : Rp (List Mat) → Ending → World → Prop
  | .ok ms, e, w' => e = .returned (.tuple #[]) ∧ StQ P R w0 s w' ∧ MatN w' w0.heap.size N { x with mat := ms }
  | .error y, e, w' => e = .panicked (stopV y) ∧ Fr P none w0 w'
set_option maxRecDepth 100000 in
set_option maxHeartbeats 4000000 in
theorem padd_any {P N : Nat} {R : Option Addr × Nat} {w0 w : World} {s s0 : PS} (h : StQ P R w0 s w) (h0 : PAt w0 P R s0) (hout : s.out = s0.out) (hN : w0.heap.size ≤ N) (x : Nod) (hx : x.mat.length ≤ 100) (_hxn : x.names = []) (hm : MatN w w0.heap.size N x) (m : Mat) (hms : ∀ y ∈ x.mat ++ [m], y.name.size ≤ maxLen) (t : Tok) :
    Calls Tryz.prog 173 #[.pointer (some ⟨P, 0, none⟩), .pointer (some ⟨N, 0, none⟩), .agg #[.int .i64 m.kind, .string m.name, .string m.val], .agg #[.int .i64 t.kind, .int .i64 t.at_, .string t.text, .int .i64 t.span]] w (ResA P R w0 s N x (addM x.mat m t.at_)) := by
  have hP0 := h0.lt
  have hz0 := h.2.size
  have hNl := hm.lt
  have H0 := Lib.hid h0
  have HMS := Lib.hid hms
  clear hms h0
  go_enter Tryz.func173, Tryz.ntmps173
  go_wp2_with fail
  generalize hW : World.alloc _ _ = W0
  have bM : Blk W0 w.heap.size 37 (matC m) := by rw [← hW]; exact (Blk.new w _ (matC m)).alloc _
  have bT : Blk W0 (w.heap.size + 1) 67 (tokC t) := by
    rw [← hW]
    have := Blk.new (w.alloc (.cells #[.int .i64 m.kind, .string m.name, .string m.val] 37)) 67 (tokC t)
    rw [World.size_alloc] at this
    exact this
  have hb0 : Below w.heap.size w W0 := by rw [← hW]; exact ((Below.refl _ _).alloc (Nat.le_refl _) _).alloc (by simp) _
  clear hW
  have h1 := h.below hb0
  have hm1 := hm.belowAll hb0
  obtain ⟨Am, cm, bN, hO⟩ := hm1
  have hne := own_ne_blk hO bN (by decide)
  have hneM : some w.heap.size ≠ Am.map Addr.block := fun e => by
    obtain ⟨Am', cm', b1, o1⟩ := hm
    have h3 := bN.cell (j := 3) rfl
    have h3' := (b1.below hb0 b1.lt).cell (j := 3) rfl
    rw [h3] at h3'
    injection h3' with h3'
    injection h3' with e1
    subst e1
    have := o1.block e.symm
    omega
  have hneT : some (w.heap.size + 1) ≠ Am.map Addr.block := own_ne_blk hO bT (by decide)
  have hX : Rd ((W0.drew).alloc (.cells #[.int .i64 m.kind, .string m.name, .string m.val] 37)) (W0.heap.size + 1) 3 (some ⟨W0.heap.size, 0, none⟩) (matsC [m]) := Rd.new W0.drew (matsC_sz [m]) _ rfl
  have HO := Lib.hid hO
  have HX := Lib.hid hX
  have H1 := Lib.hid h1
  have bMl := bM.lt
  have bTl := bT.lt
  have bNl := bN.lt
  have hzW := hb0.size
  clear hO hX h hm h1 hb0
  have n3 := bN.cell (j := 3) rfl
  have fN := bN.frozen
  have m0 := bM.cell (j := 0) rfl
  have m1 := bM.cell (j := 1) rfl
  have m2 := bM.cell (j := 2) rfl
  go_region_law ((refine step_append_rd _ (by rfl) _ _ _ (by rfl) eiMat (by rfl) (HO.out.drew.alloc _) (m := 1) (by rfl) HX.out rfl (one_mats [m]) (by simp only [maxLen]; omega) (by omega) (by simp; omega) ?_; intro A' c' w3 ho3 hg3 hat3 hb3; have bN3 := ((bN.drewN 1).alloc _).grown hg3 hne; have fN3 := bN3.frozen; have nn3 := bN3.cell (j := 3) rfl))
  all_goals
    have hb1 : Below W0.heap.size W0 (W0.drew.alloc (.cells #[.int .i64 m.kind, .string m.name, .string m.val] 37)) := ((Below.refl _ _).drew).alloc (Nat.le_refl _) _
    have hS3 := (H1.out.below hb1).grownX H0.out hout (HO.out.drew.alloc _) hg3 (by decide)
    have HS5 := Lib.hid (hS3.setN H0.out hout hN 3 (.slice A' (x.mat.length + 1) c'))
    have hml : (x.mat ++ [m]).length = x.mat.length + 1 := by simp
    have hmc : matsC x.mat ++ matsC [m] = matsC (x.mat ++ [m]) := by simp [matsC]
    rw [hmc] at ho3
    have hO5 := ho3.setOther (own_ne_blk ho3 bN3 (by decide)) 3 (.slice A' (x.mat.length + 1) c')
    have bN5 := bN3.set 3 (.slice A' (x.mat.length + 1) c')
    have bT5 := (((bT.drewN 1).alloc (.cells #[.int .i64 m.kind, .string m.name, .string m.val] 37)).grown hg3 hneT).other (a := ⟨N, 3, none⟩) (show w.heap.size + 1 ≠ N by omega) (.slice A' (x.mat.length + 1) c')
    have HMN : Hid (MatN (w3.setCell ⟨N, 3, none⟩ (.slice A' (x.mat.length + 1) c')) w0.heap.size N { x with mat := x.mat ++ [m] }) := by
      refine ⟨A', c', ?_, ?_⟩
      · have e : nodC { x with mat := x.mat ++ [m] } A' c' none 0 = (nodC x Am cm none 0).set 3 (.slice A' (x.mat.length + 1) c') := by simp [nodC]
        rw [e]
        exact bN5
      · rw [hml]; exact hO5
    have HC := Lib.hid (matCheck_any (x.mat ++ [m]) A' (x.mat.length + 1) c' _ _ hO5.rd hml (Nat.le_refl _) (by simp only [maxLen]; omega) HMS.out)
    clear hb1 hS3 hO5 ho3 hg3 hat3 hb3 bN3 fN3 nn3 bM bN bT m0 m1 m2 n3 fN hne hneM hneT hmc hml
    generalize w3.setCell ⟨N, 3, none⟩ (.slice A' (x.mat.length + 1) c') = W5 at *
    have n35 := bN5.cell (j := 3) rfl
    have t0 := bT5.cell (j := 0) rfl
    have t1 := bT5.cell (j := 1) rfl
    have t2 := bT5.cell (j := 2) rfl
    have t3 := bT5.cell (j := 3) rfl
    have bTl5 := bT5.lt
    go_wp2_with fail
    refine (HC.out).mono ?_
    rintro e w6 ⟨rfl, hb6⟩
    have H6 := Lib.hid (HS5.out.below hb6)
    have HM6 := Lib.hid (HMN.out.belowAll hb6)
    have bT6 := bT5.below hb6 bTl5
    clear t0 t1 t2 t3 hb6 HC bT5
    have t0 := bT6.cell (j := 0) rfl
    have t1 := bT6.cell (j := 1) rfl
    have t2 := bT6.cell (j := 2) rfl
    have t3 := bT6.cell (j := 3) rfl
    by_cases hcode : matCode (x.mat ++ [m]) = 0
    · have HT : Hid (addM x.mat m t.at_ = .ok (x.mat ++ [m])) := by show _ = _; rw [addM, if_pos hcode]
      rw [hcode]
      clear hcode
      go_wp2_with fail
      first | go_end0 | refine bodyPost_ret (results_none rfl _ _ _) rfl ?_
      rw [HT.out]
      exact ⟨rfl, H6.out, HM6.out⟩
    · have HT : Hid (addM x.mat m t.at_ = .error (183, (t.at_ : Int))) := by show _ = _; rw [addM, if_neg hcode]
      have hcb : (matCode (x.mat ++ [m]) != 0) = true := by rw [bne_iff_ne]; exact hcode
      have HF := Lib.hid (fail_st H6.out 183 t)
      clear hcode
      go_wp2_with fail
      refine (HF.out).mono ?_
      rintro e w7 ⟨rfl, hf⟩
      go_wp2_with fail
      refine ⟨rfl, ?_⟩
      rw [HT.out]
      exact ⟨rfl, hf⟩
end
section
/-! ## ParR -/
open Go.RowKit
attribute [local go_sem ↓] Go.wp_at_zero Go.wp_at_succ tok_f0 tok_f2 tok_f3

def ResM (P : Nat) (R : Option Addr × Nat) (w0 : World) (N : Nat) (x : Nod) : Rp (PS × List Mat) → Ending → World → Prop
  | .ok (s', ms), e, w' => e = .returned (.tuple #[]) ∧ StQ P R w0 s' w' ∧ MatN w' w0.heap.size N { x with mat := ms }
  | .error y, e, w' => e = .panicked (stopV y) ∧ Fr P none w0 w'
/-- Matchers that are being read. -/
def MtAt (P : Nat) (R : Option Addr × Nat) (s0 : PS) (w0 : World) (N : Nat) (x : Nod) (r : Rp (PS × List Mat)) (M : Nat) (first : Bool) (w : World) : Prop :=
  ∃ s ms m, StQ P R w0 s w ∧ MatN w w0.heap.size N { x with mat := ms } ∧ PGood M s ∧ s.toks.length ≤ m ∧ s.out = s0.out ∧ ms.length ≤ 8 ∧ (∀ y ∈ ms, y.name.size ≤ maxLen) ∧ matchersF m first s ms = r
theorem addM_len {ms l : List Mat} {m : Mat} {a : Int} (h : addM ms m a = .ok l) : l.length ≤ 8 := by
  obtain ⟨rfl, h2⟩ := addM_ok h
  unfold matCode at h2
  split at h2
  · cases h2
  · omega
set_option maxRecDepth 100000 in
set_option maxHeartbeats 8000000 in
theorem pmatchers_any {P M N : Nat} {R : Option Addr × Nat} {w0 w : World} {s s0 : PS} (hM : M ≤ 1000000) (hg : PGood M s) (h : StQ P R w0 s w) (h0 : PAt w0 P R s0) (hout : s.out = s0.out) (hN : w0.heap.size ≤ N) (x : Nod) (hx : x.mat.length ≤ 8) (hxn : x.names = []) (hms : ∀ y ∈ x.mat, y.name.size ≤ maxLen) (hm : MatN w w0.heap.size N x) :
    Calls Tryz.prog 174 #[.pointer (some ⟨P, 0, none⟩), .pointer (some ⟨N, 0, none⟩)] w (ResM P R w0 N x (s.matchers x.mat)) := by
  have H0 := Lib.hid h0
  have hP0 := h0.lt
  have HI : Hid (MtAt P R s0 w0 N x (s.matchers x.mat) M true w) := ⟨s, x.mat, s.toks.length, h, hm, hg, Nat.le_refl _, hout, hx, hms, rfl⟩
  generalize s.matchers x.mat = r at HI ⊢
  clear h0 h hg hout hms hm
  go_enter Tryz.func174, Tryz.ntmps174
  go_wp2_with fail
  go_loopw [4] (fun v wr => ∃ first : Bool, v = .bool first ∧ Hid (MtAt P R s0 w0 N x r M first wr)) (fun _ wr => lenAt P wr)
  case atStart => exact ⟨true, rfl, HI⟩
  case round =>
    clear HI
    obtain ⟨first, rfl, hrel⟩ := hrel
    obtain ⟨s2, ms, m, h2, hO, hg2, hm, ho2, hl8, hmz, hr⟩ := hrel.out
    have hpos := hg2.pos
    obtain ⟨m, rfl⟩ : ∃ m', m = m' + 1 := ⟨m - 1, by omega⟩
    have HLen := Lib.hid h2.1.lenAt
    have HIs := Lib.hid (is_st hg2 (StQ.start h2.1) 5 sUncurl)
    have HH := Lib.hid h2
    have HO := Lib.hid hO
    have HR := Lib.hid hr
    have Ho2 := Lib.hid ho2
    have HMZ := Lib.hid hmz
    clear hO hr ho2 hmz hrel
    cases hi : s2.is 5 sUncurl with
    | true =>
      have HT : Hid (r = .ok (s2.on, ms)) := by show _ = _; rw [← HR.out, matchersF, if_pos hi]
      have hk : s2.hd.kind ≠ 0 := by rw [is_kind hi]; decide
      rw [hi] at HIs
      clear hi h2
      go_wp2_with fail
      refine (HIs.out).mono ?_
      rintro e w3 ⟨rfl, k3⟩
      have HO3 := Lib.hid (HO.out.fr HH.out.1 k3.2 (by omega))
      have H3 := Lib.hid (HH.out.next k3)
      have HOn := Lib.hid (on_st hg2 (StQ.start k3.1) hk)
      clear k3
      go_wp2_with fail
      refine (HOn.out).mono ?_
      rintro e w4 ⟨rfl, k4⟩
      have hO4 := HO3.out.fr H3.out.1 k4.2 (by omega)
      have h4 := H3.out.next k4
      go_wp2_with fail
      first | go_end0 | refine bodyPost_ret (results_none rfl _ _ _) rfl ?_
      rw [HT.out]
      exact ⟨rfl, h4, hO4⟩
    | false =>
      rw [hi] at HIs
      have HI := Lib.hid hi
      clear hi h2
      go_wp2_with fail
      refine (HIs.out).mono ?_
      rintro e w3 ⟨rfl, k3⟩
      have HO3 := Lib.hid (HO.out.fr HH.out.1 k3.2 (by omega))
      have H3 := Lib.hid (HH.out.next k3)
      clear k3 HIs HO HH
      cases first with
      | true =>
        have HC : Hid ((match s2.name with
            | .error e => .error e
            | .ok (s2, nm) => if s2.hd.kind ≠ 5 ∨ numW matsL s2.hd.text = 0 then .error s2.stuck
              else if s2.on.hd.kind ≠ 4 then .error s2.on.stuck
              else match addM ms ⟨numW matsL s2.hd.text, nm, s2.on.hd.text⟩ s2.on.hd.at_ with
                | .error e => .error e
                | .ok ms2 => matchersF m false s2.on.on ms2) = r) := by
          show _ = _
          rw [← HR.out, matchersF, if_neg (by rw [HI.out]; decide)]
          rfl
        clear HR HI
        go_wp2_with fail
        refine (pname_any hg2 (StQ.start H3.out.1)).mono ?_
        intro e w6 hres
        cases hnm : s2.name with
        | error z =>
          have HT : Hid (r = .error z) := by show _ = _; rw [← HC.out, hnm]
          rw [hnm] at hres
          obtain ⟨rfl, hf⟩ := hres
          have hf2 := H3.out.2.transN hf
          clear hnm
          go_wp2_with fail
          refine ⟨rfl, ?_⟩
          rw [HT.out]
          exact ⟨rfl, hf2⟩
        | ok q =>
          obtain ⟨s6, nm⟩ := q
          have HR6 : Hid ((if s6.hd.kind ≠ 5 ∨ numW matsL s6.hd.text = 0 then .error s6.stuck
                  else if s6.on.hd.kind ≠ 4 then .error s6.on.stuck
                  else match addM ms ⟨numW matsL s6.hd.text, nm, s6.on.hd.text⟩ s6.on.hd.at_ with
                    | .error e => .error e
                    | .ok ms2 => matchersF m false s6.on.on ms2) = r) := by show _ = _; rw [← HC.out, hnm]
          rw [hnm] at hres
          obtain ⟨rfl, k6⟩ := hres
          have hstp := name_step hnm
          have hst := hstp.2.2.2.2
          have hg6 := (hst.good M hg2).more (M' := M) (by omega)
          have hl6 := hst.len M hg2
          have ho6 := hst.out.trans Ho2.out
          have hnmz : nm.size ≤ maxLen := by rw [hstp.2.1]; have := (hg2).hd_text; simp only [maxLen]; omega
          have HM6 := Lib.hid (HO3.out.fr H3.out.1 k6.2 (by omega))
          have H6 := Lib.hid (H3.out.next k6)
          have hP6 := H6.out.1.lt
          have hz6 := H6.out.2.size
          clear hnm hst hstp k6 HC
          go_wp2_with fail
          generalize hW : World.alloc _ _ = W7
          have bM7 : Blk W7 w6.heap.size 37 [.int .i64 0, .string nm, .string ByteArray.empty] := by rw [← hW]; exact (Blk.new w6 _ [.int .i64 0, .string nm, .string ByteArray.empty]).alloc _
          have hL7 : Rd W7 (w6.heap.size + 2) 1 (some ⟨w6.heap.size + 1, 0, none⟩) (textsC matsL) := by
            rw [← hW]
            have := Rd.new (e := 9) (w6.alloc (.cells #[.int .i64 0, .string nm, .string ByteArray.empty] 37)) (textsC_sz matsL) #[.string ByteArray.empty, .string ⟨#[61]⟩, .string ⟨#[33, 61]⟩, .string ⟨#[61, 126]⟩, .string ⟨#[33, 126]⟩] rfl
            rw [World.size_alloc] at this
            exact this
          have hb7 : Below w6.heap.size w6 W7 := by rw [← hW]; exact ((Below.refl _ _).alloc (Nat.le_refl _) _).alloc (by simp) _
          have hL7l : w6.heap.size + 2 ≤ W7.heap.size := by rw [← hW]; simp
          clear hW
          have K7 := Lib.hid ((StQ.start H6.out.1).below hb7)
          have hP7 := bM7.lt
          clear hb7
          refine (now_any P R s6 M W7 hg6 K7.out.1).mono ?_
          rintro e w8 ⟨rfl, hb8⟩
          have K8 := Lib.hid (K7.out.below hb8)
          have bM8 := bM7.below hb8 hP7
          have HNum := Lib.hid (number_any_p matsL s6.hd.text (some ⟨w6.heap.size + 1, 0, none⟩) 5 5 (w6.heap.size + 2) w8 (hL7.below (hb8.mono hL7l)) rfl (by simp [maxLen]))
          clear hb8 hL7 bM7 K7 hL7l hP7
          have hmb0 := bM8.cell (j := 0) rfl
          have hmf := bM8.frozen
          have hlt8 := bM8.lt
          go_wp2_with fail
          refine (HNum.out).mono ?_
          rintro e w8' ⟨rfl, rfl⟩
          generalize numW matsL s6.hd.text = kk at *
          have K9 := Lib.hid (K8.out.setN (N := w6.heap.size) H6.out.1 rfl (Nat.le_refl _) 0 (.int .i64 kk))
          have bM9 := bM8.set 0 (.int .i64 kk)
          clear HNum
          go_wp2_with fail
          clear hmb0 hmf hlt8 bM8 K8
          refine (now_any P R s6 M _ hg6 K9.out.1).mono ?_
          rintro e w10 ⟨rfl, hb10⟩
          have K10 := Lib.hid (K9.out.below hb10)
          have bM10 := bM9.below hb10 bM9.lt
          have m0 := bM10.cell (j := 0) rfl
          clear hb10 bM9 K9
          by_cases hk5 : s6.hd.kind = 5
          · have hk5b : (s6.hd.kind != 5) = false := by rw [hk5]; rfl
            by_cases hz : kk = 0
            · have hzb : (kk == 0) = true := by rw [beq_iff_eq]; exact hz
              have HT : Hid (r = .error s6.stuck) := by show _ = _; rw [← HR6.out, if_pos (.inr hz)]
              have HSt := Lib.hid (stuck_st hg6 K10.out)
              clear hz hk5
              go_wp2_with fail
              refine (HSt.out).mono ?_
              rintro e w11 ⟨rfl, hf⟩
              go_wp2_with fail
              refine ⟨rfl, ?_⟩
              rw [HT.out]
              exact ⟨rfl, H6.out.2.transN hf⟩
            · have hzb : (kk == 0) = false := by rw [beq_eq_false_iff_ne]; exact hz
              have HR7 : Hid ((if s6.on.hd.kind ≠ 4 then .error s6.on.stuck
                  else match addM ms ⟨kk, nm, s6.on.hd.text⟩ s6.on.hd.at_ with
                    | .error e => .error e
                    | .ok ms2 => matchersF m false s6.on.on ms2) = r) := by show _ = _; rw [← HR6.out, if_neg (show ¬(s6.hd.kind ≠ 5 ∨ kk = 0) from fun h => h.elim (fun h => h hk5) hz)]
              have HOn := Lib.hid (on_any P R s6 M w10 hg6 K10.out.1 (by rw [hk5]; decide))
              have hg7 := hg6.on (by rw [hk5]; decide)
              have hl7 := hg6.on_len
              clear hz HR6 hk5
              go_wp2_with fail
              refine (HOn.out).mono ?_
              rintro e w11 ⟨rfl, p11, f11⟩
              have K11 := Lib.hid (K10.out.next ⟨p11, f11⟩)
              have bM11 := bM10.fr f11 (by omega)
              clear m0 bM10 K10 HOn p11 f11
              go_wp2_with fail
              refine (now_any P R s6.on M _ hg7 K11.out.1).mono ?_
              rintro e w12 ⟨rfl, hb12⟩
              have K12 := Lib.hid (K11.out.below hb12)
              have bM12 := bM11.below hb12 bM11.lt
              clear bM11 K11 hb12
              by_cases hk4 : s6.on.hd.kind = 4
              · have hk4b : (s6.on.hd.kind != 4) = false := by rw [hk4]; rfl
                have HR8 : Hid ((match addM ms ⟨kk, nm, s6.on.hd.text⟩ s6.on.hd.at_ with
                    | .error e => .error e
                    | .ok ms2 => matchersF m false s6.on.on ms2) = r) := by show _ = _; rw [← HR7.out, if_neg (fun h => h hk4)]
                have HOn := Lib.hid (on_any P R s6.on M w12 hg7 K12.out.1 (by rw [hk4]; decide))
                have hg8 := hg7.on (by rw [hk4]; decide)
                have hl8 := hg7.on_len
                clear HR7 hk4
                go_wp2_with fail
                refine (HOn.out).mono ?_
                rintro e w13 ⟨rfl, p13, f13⟩
                have K13 := Lib.hid (K12.out.next ⟨p13, f13⟩)
                have bM13 := bM12.fr f13 (by omega)
                clear bM12 K12 HOn p13 f13
                have K13b := Lib.hid (K13.out.setN (N := w6.heap.size) H6.out.1 rfl (Nat.le_refl _) 2 (.string s6.on.hd.text))
                have K14 := Lib.hid (K13b.out.below ((Below.refl _ _).alloc (Nat.le_refl _) (.cells #[.int .i64 s6.on.hd.kind, .int .i64 s6.on.hd.at_, .string s6.on.hd.text, .int .i64 s6.on.hd.span] 67)))
                have hm13 := bM13.cell (j := 2) rfl
                have hmm0 := bM13.cell (j := 0) rfl
                have hmm1 := bM13.cell (j := 1) rfl
                have hmf := bM13.frozen
                have hml := bM13.lt
                have HA := Lib.hid (padd_any (H6.out.next K14.out) H0.out ho6 hN { x with mat := ms } (by show ms.length ≤ 100; omega) hxn (HM6.out.fr H6.out.1 K14.out.2 (by omega)) ⟨kk, nm, s6.on.hd.text⟩ (by
                  intro y hy
                  rcases List.mem_append.1 hy with hy | hy
                  · exact HMZ.out y hy
                  · simp at hy; subst hy; exact hnmz) s6.on.hd)
                go_wp2_with fail
                refine (HA.out).mono ?_
                intro e w15 hres
                cases ha : addM ms ⟨kk, nm, s6.on.hd.text⟩ s6.on.hd.at_ with
                | error z =>
                  have HT : Hid (r = .error z) := by show _ = _; rw [← HR8.out, ha]
                  rw [ha] at hres
                  obtain ⟨rfl, hf⟩ := hres
                  clear ha
                  go_wp2_with fail
                  refine ⟨rfl, ?_⟩
                  rw [HT.out]
                  exact ⟨rfl, hf⟩
                | ok ms2 =>
                  have hl8' := addM_len ha
                  have hms2 := addM_ok ha
                  have HR9 := HR8.out
                  rw [ha] at HR9
                  rw [ha] at hres
                  obtain ⟨rfl, k15, hm15⟩ := hres
                  clear ha
                  have hlen := k15.1.lenAt
                  go_wp2_with fail
                  have hL := HLen.out
                  refine ⟨⟨false, rfl, _, ms2, m, k15, hm15, hg8, by omega, ho6, hl8', ?_, HR9⟩, by omega⟩
                  intro y hy
                  rw [hms2.1] at hy
                  rcases List.mem_append.1 hy with hy | hy
                  · exact HMZ.out y hy
                  · simp at hy; subst hy; exact hnmz
              · have hk4b : (s6.on.hd.kind != 4) = true := by rw [bne_iff_ne]; exact hk4
                have HT : Hid (r = .error s6.on.stuck) := by show _ = _; rw [← HR7.out, if_pos hk4]
                have HSt := Lib.hid (stuck_st hg7 K12.out)
                clear HR7 hk4
                go_wp2_with fail
                refine (HSt.out).mono ?_
                rintro e w11 ⟨rfl, hf⟩
                go_wp2_with fail
                refine ⟨rfl, ?_⟩
                rw [HT.out]
                exact ⟨rfl, H6.out.2.transN hf⟩
          · have hk5b : (s6.hd.kind != 5) = true := by rw [bne_iff_ne]; exact hk5
            have HT : Hid (r = .error s6.stuck) := by show _ = _; rw [← HR6.out, if_pos (.inl hk5)]
            have HSt := Lib.hid (stuck_st hg6 K10.out)
            clear HR6 hk5
            go_wp2_with fail
            refine (HSt.out).mono ?_
            rintro e w11 ⟨rfl, hf⟩
            go_wp2_with fail
            refine ⟨rfl, ?_⟩
            rw [HT.out]
            exact ⟨rfl, H6.out.2.transN hf⟩
      | false =>
        have HC0 : Hid ((match s2.sign sComma with | .error e => .error e | .ok s1 => match s1.name with
            | .error e => .error e
            | .ok (s2, nm) => if s2.hd.kind ≠ 5 ∨ numW matsL s2.hd.text = 0 then .error s2.stuck
              else if s2.on.hd.kind ≠ 4 then .error s2.on.stuck
              else match addM ms ⟨numW matsL s2.hd.text, nm, s2.on.hd.text⟩ s2.on.hd.at_ with
                | .error e => .error e
                | .ok ms2 => matchersF m false s2.on.on ms2) = r) := by
          show _ = _
          rw [← HR.out, matchersF, if_neg (by rw [HI.out]; decide)]
          rfl
        have HSg := Lib.hid (psign_st hg2 (StQ.start H3.out.1) sComma)
        clear HR HI
        go_wp2_with fail
        refine (HSg.out).mono ?_
        intro e w5 hres
        cases hsg : s2.sign sComma with
        | error x =>
          have HT : Hid (r = .error x) := by show _ = _; rw [← HC0.out, hsg]
          rw [hsg] at hres
          obtain ⟨rfl, hf⟩ := hres
          have hf2 := H3.out.2.transN hf
          clear hsg
          go_wp2_with fail
          refine ⟨rfl, ?_⟩
          rw [HT.out]
          exact ⟨rfl, hf2⟩
        | ok s5 =>
          have HC : Hid ((match s5.name with
            | .error e => .error e
            | .ok (s2, nm) => if s2.hd.kind ≠ 5 ∨ numW matsL s2.hd.text = 0 then .error s2.stuck
              else if s2.on.hd.kind ≠ 4 then .error s2.on.stuck
              else match addM ms ⟨numW matsL s2.hd.text, nm, s2.on.hd.text⟩ s2.on.hd.at_ with
                | .error e => .error e
                | .ok ms2 => matchersF m false s2.on.on ms2) = r) := by show _ = _; rw [← HC0.out, hsg]
          rw [hsg] at hres
          obtain ⟨rfl, k5⟩ := hres
          have hst := (sign_step hsg).2.2
          have hg5 := (hst.good M hg2).more (M' := M) (by omega)
          have hl5 := hst.len M hg2
          have Ho5 := Lib.hid hst.out
          have HO5 := Lib.hid (HO3.out.fr H3.out.1 k5.2 (by omega))
          have H5 := Lib.hid (H3.out.next k5)
          clear hsg hst k5 HSg HC0
          go_wp2_with fail
          refine (pname_any hg5 (StQ.start H5.out.1)).mono ?_
          intro e w6 hres
          cases hnm : s5.name with
          | error z =>
            have HT : Hid (r = .error z) := by show _ = _; rw [← HC.out, hnm]
            rw [hnm] at hres
            obtain ⟨rfl, hf⟩ := hres
            have hf2 := H5.out.2.transN hf
            clear hnm
            go_wp2_with fail
            refine ⟨rfl, ?_⟩
            rw [HT.out]
            exact ⟨rfl, hf2⟩
          | ok q =>
            obtain ⟨s6, nm⟩ := q
            have HR6 : Hid ((if s6.hd.kind ≠ 5 ∨ numW matsL s6.hd.text = 0 then .error s6.stuck
                    else if s6.on.hd.kind ≠ 4 then .error s6.on.stuck
                    else match addM ms ⟨numW matsL s6.hd.text, nm, s6.on.hd.text⟩ s6.on.hd.at_ with
                      | .error e => .error e
                      | .ok ms2 => matchersF m false s6.on.on ms2) = r) := by show _ = _; rw [← HC.out, hnm]
            rw [hnm] at hres
            obtain ⟨rfl, k6⟩ := hres
            have hstp := name_step hnm
            have hst := hstp.2.2.2.2
            have hg6 := (hst.good M hg5).more (M' := M) (by omega)
            have hl6 := hst.len M hg5
            have ho6 := hst.out.trans (Ho5.out.trans Ho2.out)
            have hnmz : nm.size ≤ maxLen := by rw [hstp.2.1]; have := (hg5).hd_text; simp only [maxLen]; omega
            have HM6 := Lib.hid (HO5.out.fr H5.out.1 k6.2 (by omega))
            have H6 := Lib.hid (H5.out.next k6)
            have hP6 := H6.out.1.lt
            have hz6 := H6.out.2.size
            clear hnm hst hstp k6 HC
            go_wp2_with fail
            generalize hW : World.alloc _ _ = W7
            have bM7 : Blk W7 w6.heap.size 37 [.int .i64 0, .string nm, .string ByteArray.empty] := by rw [← hW]; exact (Blk.new w6 _ [.int .i64 0, .string nm, .string ByteArray.empty]).alloc _
            have hL7 : Rd W7 (w6.heap.size + 2) 1 (some ⟨w6.heap.size + 1, 0, none⟩) (textsC matsL) := by
              rw [← hW]
              have := Rd.new (e := 9) (w6.alloc (.cells #[.int .i64 0, .string nm, .string ByteArray.empty] 37)) (textsC_sz matsL) #[.string ByteArray.empty, .string ⟨#[61]⟩, .string ⟨#[33, 61]⟩, .string ⟨#[61, 126]⟩, .string ⟨#[33, 126]⟩] rfl
              rw [World.size_alloc] at this
              exact this
            have hb7 : Below w6.heap.size w6 W7 := by rw [← hW]; exact ((Below.refl _ _).alloc (Nat.le_refl _) _).alloc (by simp) _
            have hL7l : w6.heap.size + 2 ≤ W7.heap.size := by rw [← hW]; simp
            clear hW
            have K7 := Lib.hid ((StQ.start H6.out.1).below hb7)
            have hP7 := bM7.lt
            clear hb7
            refine (now_any P R s6 M W7 hg6 K7.out.1).mono ?_
            rintro e w8 ⟨rfl, hb8⟩
            have K8 := Lib.hid (K7.out.below hb8)
            have bM8 := bM7.below hb8 hP7
            have HNum := Lib.hid (number_any_p matsL s6.hd.text (some ⟨w6.heap.size + 1, 0, none⟩) 5 5 (w6.heap.size + 2) w8 (hL7.below (hb8.mono hL7l)) rfl (by simp [maxLen]))
            clear hb8 hL7 bM7 K7 hL7l hP7
            have hmb0 := bM8.cell (j := 0) rfl
            have hmf := bM8.frozen
            have hlt8 := bM8.lt
            go_wp2_with fail
            refine (HNum.out).mono ?_
            rintro e w8' ⟨rfl, rfl⟩
            generalize numW matsL s6.hd.text = kk at *
            have K9 := Lib.hid (K8.out.setN (N := w6.heap.size) H6.out.1 rfl (Nat.le_refl _) 0 (.int .i64 kk))
            have bM9 := bM8.set 0 (.int .i64 kk)
            clear HNum
            go_wp2_with fail
            clear hmb0 hmf hlt8 bM8 K8
            refine (now_any P R s6 M _ hg6 K9.out.1).mono ?_
            rintro e w10 ⟨rfl, hb10⟩
            have K10 := Lib.hid (K9.out.below hb10)
            have bM10 := bM9.below hb10 bM9.lt
            have m0 := bM10.cell (j := 0) rfl
            clear hb10 bM9 K9
            by_cases hk5 : s6.hd.kind = 5
            · have hk5b : (s6.hd.kind != 5) = false := by rw [hk5]; rfl
              by_cases hz : kk = 0
              · have hzb : (kk == 0) = true := by rw [beq_iff_eq]; exact hz
                have HT : Hid (r = .error s6.stuck) := by show _ = _; rw [← HR6.out, if_pos (.inr hz)]
                have HSt := Lib.hid (stuck_st hg6 K10.out)
                clear hz hk5
                go_wp2_with fail
                refine (HSt.out).mono ?_
                rintro e w11 ⟨rfl, hf⟩
                go_wp2_with fail
                refine ⟨rfl, ?_⟩
                rw [HT.out]
                exact ⟨rfl, H6.out.2.transN hf⟩
              · have hzb : (kk == 0) = false := by rw [beq_eq_false_iff_ne]; exact hz
                have HR7 : Hid ((if s6.on.hd.kind ≠ 4 then .error s6.on.stuck
                    else match addM ms ⟨kk, nm, s6.on.hd.text⟩ s6.on.hd.at_ with
                      | .error e => .error e
                      | .ok ms2 => matchersF m false s6.on.on ms2) = r) := by show _ = _; rw [← HR6.out, if_neg (show ¬(s6.hd.kind ≠ 5 ∨ kk = 0) from fun h => h.elim (fun h => h hk5) hz)]
                have HOn := Lib.hid (on_any P R s6 M w10 hg6 K10.out.1 (by rw [hk5]; decide))
                have hg7 := hg6.on (by rw [hk5]; decide)
                have hl7 := hg6.on_len
                clear hz HR6 hk5
                go_wp2_with fail
                refine (HOn.out).mono ?_
                rintro e w11 ⟨rfl, p11, f11⟩
                have K11 := Lib.hid (K10.out.next ⟨p11, f11⟩)
                have bM11 := bM10.fr f11 (by omega)
                clear m0 bM10 K10 HOn p11 f11
                go_wp2_with fail
                refine (now_any P R s6.on M _ hg7 K11.out.1).mono ?_
                rintro e w12 ⟨rfl, hb12⟩
                have K12 := Lib.hid (K11.out.below hb12)
                have bM12 := bM11.below hb12 bM11.lt
                clear bM11 K11 hb12
                by_cases hk4 : s6.on.hd.kind = 4
                · have hk4b : (s6.on.hd.kind != 4) = false := by rw [hk4]; rfl
                  have HR8 : Hid ((match addM ms ⟨kk, nm, s6.on.hd.text⟩ s6.on.hd.at_ with
                      | .error e => .error e
                      | .ok ms2 => matchersF m false s6.on.on ms2) = r) := by show _ = _; rw [← HR7.out, if_neg (fun h => h hk4)]
                  have HOn := Lib.hid (on_any P R s6.on M w12 hg7 K12.out.1 (by rw [hk4]; decide))
                  have hg8 := hg7.on (by rw [hk4]; decide)
                  have hl8 := hg7.on_len
                  clear HR7 hk4
                  go_wp2_with fail
                  refine (HOn.out).mono ?_
                  rintro e w13 ⟨rfl, p13, f13⟩
                  have K13 := Lib.hid (K12.out.next ⟨p13, f13⟩)
                  have bM13 := bM12.fr f13 (by omega)
                  clear bM12 K12 HOn p13 f13
                  have K13b := Lib.hid (K13.out.setN (N := w6.heap.size) H6.out.1 rfl (Nat.le_refl _) 2 (.string s6.on.hd.text))
                  have K14 := Lib.hid (K13b.out.below ((Below.refl _ _).alloc (Nat.le_refl _) (.cells #[.int .i64 s6.on.hd.kind, .int .i64 s6.on.hd.at_, .string s6.on.hd.text, .int .i64 s6.on.hd.span] 67)))
                  have hm13 := bM13.cell (j := 2) rfl
                  have hmm0 := bM13.cell (j := 0) rfl
                  have hmm1 := bM13.cell (j := 1) rfl
                  have hmf := bM13.frozen
                  have hml := bM13.lt
                  have HA := Lib.hid (padd_any (H6.out.next K14.out) H0.out ho6 hN { x with mat := ms } (by show ms.length ≤ 100; omega) hxn (HM6.out.fr H6.out.1 K14.out.2 (by omega)) ⟨kk, nm, s6.on.hd.text⟩ (by
                    intro y hy
                    rcases List.mem_append.1 hy with hy | hy
                    · exact HMZ.out y hy
                    · simp at hy; subst hy; exact hnmz) s6.on.hd)
                  go_wp2_with fail
                  refine (HA.out).mono ?_
                  intro e w15 hres
                  cases ha : addM ms ⟨kk, nm, s6.on.hd.text⟩ s6.on.hd.at_ with
                  | error z =>
                    have HT : Hid (r = .error z) := by show _ = _; rw [← HR8.out, ha]
                    rw [ha] at hres
                    obtain ⟨rfl, hf⟩ := hres
                    clear ha
                    go_wp2_with fail
                    refine ⟨rfl, ?_⟩
                    rw [HT.out]
                    exact ⟨rfl, hf⟩
                  | ok ms2 =>
                    have hl8' := addM_len ha
                    have hms2 := addM_ok ha
                    have HR9 := HR8.out
                    rw [ha] at HR9
                    rw [ha] at hres
                    obtain ⟨rfl, k15, hm15⟩ := hres
                    clear ha
                    have hlen := k15.1.lenAt
                    go_wp2_with fail
                    have hL := HLen.out
                    refine ⟨⟨false, rfl, _, ms2, m, k15, hm15, hg8, by omega, ho6, hl8', ?_, HR9⟩, by omega⟩
                    intro y hy
                    rw [hms2.1] at hy
                    rcases List.mem_append.1 hy with hy | hy
                    · exact HMZ.out y hy
                    · simp at hy; subst hy; exact hnmz
                · have hk4b : (s6.on.hd.kind != 4) = true := by rw [bne_iff_ne]; exact hk4
                  have HT : Hid (r = .error s6.on.stuck) := by show _ = _; rw [← HR7.out, if_pos hk4]
                  have HSt := Lib.hid (stuck_st hg7 K12.out)
                  clear HR7 hk4
                  go_wp2_with fail
                  refine (HSt.out).mono ?_
                  rintro e w11 ⟨rfl, hf⟩
                  go_wp2_with fail
                  refine ⟨rfl, ?_⟩
                  rw [HT.out]
                  exact ⟨rfl, H6.out.2.transN hf⟩
            · have hk5b : (s6.hd.kind != 5) = true := by rw [bne_iff_ne]; exact hk5
              have HT : Hid (r = .error s6.stuck) := by show _ = _; rw [← HR6.out, if_pos (.inl hk5)]
              have HSt := Lib.hid (stuck_st hg6 K10.out)
              clear HR6 hk5
              go_wp2_with fail
              refine (HSt.out).mono ?_
              rintro e w11 ⟨rfl, hf⟩
              go_wp2_with fail
              refine ⟨rfl, ?_⟩
              rw [HT.out]
              exact ⟨rfl, H6.out.2.transN hf⟩
end
section
/-! ## ParT -/
open Go.RowKit
attribute [local go_sem ↓] Go.wp_at_zero Go.wp_at_succ tok_f0 tok_f2 tok_f3

/-- A select that is being read: the reader, and the node in its box. -/
def SelAt (P M N : Nat) (R : Option Addr × Nat) (w0 : World) (s0 s : PS) (x : Nod) (w : World) : Prop :=
  StQ P R w0 s w ∧ MatN w w0.heap.size N x ∧ PGood M s ∧ s.out = s0.out
theorem sNameN_sz : sNameN.size = 8 := rfl
theorem sel1_in {s s1 : PS} {ms : List Mat} (h : s.sel1 = .ok (s1, ms)) : ms.length ≤ 8 ∧ ∀ y ∈ ms, y.name.size ≤ maxLen := by
  unfold PS.sel1 at h
  split at h
  · split at h
    · cases h
    · rename_i ms' ha
      injection h with h
      injection h with h1 h2
      subst h2
      refine ⟨addM_len ha, ?_⟩
      rw [(addM_ok ha).1]
      intro y hy
      simp at hy
      subst hy
      simp [maxLen, sNameN_sz]
  · injection h with h
    injection h with h1 h2
    subst h2
    exact ⟨by simp, by simp⟩
theorem choose_e2 {s s1 : PS} {m1 : List Mat} {x : Int × Int} (h1 : s.sel1 = .ok (s1, m1)) (h2 : s1.sel2 s.wordB m1 = .error x) : chooseP s = .error x := by
  rw [chooseP, h1]; dsimp only; rw [h2]
theorem choose_e3 {s s1 s2 : PS} {m1 m2 : List Mat} {x : Int × Int} (h1 : s.sel1 = .ok (s1, m1)) (h2 : s1.sel2 s.wordB m1 = .ok (s2, m2)) (h3 : s2.sel3 = .error x) : chooseP s = .error x := by
  rw [chooseP, h1]; dsimp only; rw [h2]; dsimp only; rw [h3]
theorem choose_e4 {s s1 s2 s3 : PS} {m1 m2 : List Mat} {k b : Int} {x : Int × Int} (h1 : s.sel1 = .ok (s1, m1)) (h2 : s1.sel2 s.wordB m1 = .ok (s2, m2)) (h3 : s2.sel3 = .ok (s3, k, b)) (h4 : s3.sel4 = .error x) : chooseP s = .error x := by
  rw [chooseP, h1]; dsimp only; rw [h2]; dsimp only; rw [h3]; dsimp only; rw [h4]
theorem choose_ok {s s1 s2 s3 s4 : PS} {m1 m2 : List Mat} {k b c : Int} (h1 : s.sel1 = .ok (s1, m1)) (h2 : s1.sel2 s.wordB m1 = .ok (s2, m2)) (h3 : s2.sel3 = .ok (s3, k, b)) (h4 : s3.sel4 = .ok (s4, c)) : chooseP s = .ok (s4.lay (selN k m2 b c)) := by
  rw [chooseP, h1]; dsimp only; rw [h2]; dsimp only; rw [h3]; dsimp only; rw [h4]
theorem MatN.setF {w : World} {base N : Nat} {x y : Nod} {j : Nat} {u : Value} (h : MatN w base N x) (hm : y.mat = x.mat) (hj : ∀ Am cm, (nodC x Am cm none 0).set j u = nodC y Am cm none 0) : MatN (w.setCell ⟨N, j, none⟩ u) base N y := by
  obtain ⟨Am, cm, h1, h2⟩ := h
  refine ⟨Am, cm, ?_, ?_⟩
  · rw [← hj]; exact h1.set j u
  · rw [hm]; exact h2.setOther (own_ne_blk h2 h1 (by decide)) j u
set_option maxRecDepth 100000 in
set_option maxHeartbeats 8000000 in
theorem choose_any {P M : Nat} {R : Option Addr × Nat} {w : World} {s : PS} (hM : M ≤ 1000000) (hg : PGood M s) (h : PAt w P R s) :
    Calls Tryz.prog 165 #[.pointer (some ⟨P, 0, none⟩)] w (ResS P R w (chooseP s)) := by
  have H0 := Lib.hid h
  have HG := Lib.hid hg
  have hP0 := h.lt
  have bN0 : Blk (w.alloc (.cells #[.int .i64 2, .int .i64 0, .string ⟨#[]⟩, .slice none 0 0, .int .i64 0, .int .i64 0, .int .i64 0, .slice none 0 0, .bool false, .int .i64 0] 41)) w.heap.size 41 (nodC (selN 2 [] 0 0) none 0 none 0) := Blk.new w _ _
  have K0 := Lib.hid ((StQ.start h).below ((Below.refl _ _).alloc (Nat.le_refl _) (.cells #[.int .i64 2, .int .i64 0, .string ⟨#[]⟩, .slice none 0 0, .int .i64 0, .int .i64 0, .int .i64 0, .slice none 0 0, .bool false, .int .i64 0] 41)))
  clear h
  go_enter Tryz.func165, Tryz.ntmps165
  go_upto_region 2 with fail
  refine (now_any P R s M _ HG.out K0.out.1).mono ?_
  rintro e w1 ⟨rfl, hb1⟩
  have K1 := Lib.hid (K0.out.below hb1)
  have bN1 := Lib.hid (bN0.below hb1 bN0.lt)
  have hN1 : w.heap.size < w1.heap.size := (bN0.below hb1 bN0.lt).lt
  clear hb1 bN0 K0
  go_upto_region 2 with fail
  have bT1 : Blk (w1.alloc (.cells #[.int .i64 s.hd.kind, .int .i64 s.hd.at_, .string s.hd.text, .int .i64 s.hd.span] 67)) w1.heap.size 67 (tokC s.hd) := Blk.new w1 _ _
  have hbT : Below w1.heap.size w1 (w1.alloc (.cells #[.int .i64 s.hd.kind, .int .i64 s.hd.at_, .string s.hd.text, .int .i64 s.hd.span] 67)) := (Below.refl _ _).alloc (Nat.le_refl _) _
  have K2 := Lib.hid (K1.out.below hbT)
  have bN2 := Lib.hid (bN1.out.below hbT hN1)
  clear hbT K1 bN1
  go_cut [4] (fun v wx => v = .bool s.wordB ∧ StQ P R w s wx ∧ Blk wx w.heap.size 41 (nodC (selN 2 [] 0 0) none 0 none 0) ∧ Blk wx w1.heap.size 67 (tokC s.hd))
  case first =>
    have t0 := bT1.cell (j := 0) rfl
    have t2 := bT1.cell (j := 2) rfl
    by_cases hk : s.hd.kind = 3
    · have hkb : (s.hd.kind == 3) = true := by rw [hk]; rfl
      have HW : Hid (s.wordB = !keptB s.hd.text) := by show _ = _; simp [PS.wordB, hk]
      have BT := Lib.hid bT1
      clear hk bT1
      go_wp2_with fail
      refine (kept_any s.hd.text _).mono ?_
      rintro e w2 ⟨rfl, hb2⟩
      have K3 := K2.out.below hb2
      have bN3 := bN2.out.below hb2 bN2.out.lt
      have bT3 := BT.out.below hb2 BT.out.lt
      clear hb2
      go_wp2_with fail
      go_meet
      exact ⟨by rw [HW.out], K3, bN3, bT3⟩
    · have hkb : (s.hd.kind == 3) = false := by rw [beq_eq_false_iff_ne]; exact hk
      have HW : Hid (s.wordB = false) := by show _ = _; simp [PS.wordB, hk]
      have BT := Lib.hid bT1
      clear hk bT1
      go_wp2_with fail
      go_meet
      exact ⟨by rw [HW.out], K2.out, bN2.out, BT.out⟩
  case rest =>
    clear bT1 K2 bN2
    obtain ⟨rfl, k3, n3, t3⟩ := hcut
    have K3 := Lib.hid k3
    have N3 := Lib.hid n3
    have T3 := Lib.hid t3
    have hPT : w1.heap.size ≠ P := by omega
    have hPN : w.heap.size ≠ P := by omega
    clear k3 n3 t3
    generalize hwd : s.wordB = wd at *
    have HW := Lib.hid hwd
    clear hwd
    go_upto_if 17 with fail
    go_cut [18] (fun _ wx => Hid (∃ s1 m1, s.sel1 = .ok (s1, m1) ∧ SelAt P M w.heap.size R w s s1 (selN 2 m1 0 0) wx))
    case first =>
      cases wd with
      | true =>
        have hw := HW.out
        have hk : s.hd.kind ≠ 0 := by
          simp only [PS.wordB, Bool.and_eq_true, decide_eq_true_eq] at hw
          rw [hw.1]; decide
        have HOn := Lib.hid (on_st HG.out (StQ.start K3.out.1) hk)
        have hg1 := HG.out.on hk
        clear hk hw
        go_wp2_with fail
        refine (HOn.out).mono ?_
        rintro e w4 ⟨rfl, k4⟩
        have HT4 := T3.out.fr k4.2 hPT
        have HN4 := N3.out.fr k4.2 hPN
        have K4 := K3.out.next k4
        have HA := Lib.hid (padd_any K4 H0.out rfl (Nat.le_refl _) (selN 2 [] 0 0) (by simp [selN]) rfl ⟨none, 0, HN4, Own.nil_ (by decide)⟩ ⟨1, sNameN, s.hd.text⟩ (by
          intro y hy
          simp [selN] at hy
          subst hy
          simp [maxLen, sNameN_sz]) s.hd)
        have t0 := HT4.cell (j := 0) rfl
        have t1 := HT4.cell (j := 1) rfl
        have t2 := HT4.cell (j := 2) rfl
        have t3 := HT4.cell (j := 3) rfl
        have htl := HT4.lt
        clear HN4 HT4 k4 K4
        go_wp2_with fail
        refine (HA.out).mono ?_
        intro e w5 hres
        cases ha : addM [] ⟨1, sNameN, s.hd.text⟩ s.hd.at_ with
        | error z =>
          have HT : Hid (chooseP s = .error z) := by show _ = _; rw [chooseP, PS.sel1, if_pos HW.out, ha]
          rw [show (selN 2 [] 0 0).mat = [] from rfl, ha] at hres
          obtain ⟨rfl, hf⟩ := hres
          clear ha
          go_wp2_with fail
          refine ⟨rfl, ?_⟩
          rw [HT.out]
          exact ⟨rfl, hf.weak⟩
        | ok ms =>
          have HT : Hid (s.sel1 = .ok (s.on, ms)) := by show _ = _; rw [PS.sel1, if_pos HW.out, ha]
          rw [show (selN 2 [] 0 0).mat = [] from rfl, ha] at hres
          obtain ⟨rfl, k5, hm5⟩ := hres
          clear ha
          go_wp2_with fail
          go_meet
          exact ⟨_, _, HT.out, k5, hm5, hg1, rfl⟩
      | false =>
        have HS : Hid (s.sel1 = .ok (s, [])) := by show _ = _; rw [PS.sel1, if_neg (by rw [HW.out]; decide)]
        go_wp2_with fail
        go_meet
        exact ⟨s, [], HS.out, K3.out, ⟨none, 0, N3.out, Own.nil_ (by decide)⟩, HG.out, rfl⟩
    case rest =>
      clear K3 N3 T3
      obtain ⟨s1, m1, hs1, k4, mn4, hg1, ho1⟩ := hcut.out
      obtain ⟨hm1, hz1⟩ := sel1_in hs1
      have HS1 := Lib.hid hs1
      have HZ1 := Lib.hid hz1
      have HO1 := Lib.hid ho1
      have HIs := Lib.hid (is_st hg1 (StQ.start k4.1) 5 sCurl)
      have K4 := Lib.hid k4
      have M4 := Lib.hid mn4
      clear hcut hs1 hz1 ho1 k4 mn4
      go_upto_if 27 with fail
      refine (HIs.out).mono ?_
      rintro e w5 ⟨rfl, k5⟩
      have M5 := Lib.hid (M4.out.fr K4.out.1 k5.2 (by omega))
      have K5 := Lib.hid (K4.out.next k5)
      clear k5 HIs K4 M4
      generalize hib : s1.is 5 sCurl = ib at *
      have HI := Lib.hid hib
      clear hib
      go_upto_if 27 with fail
      go_cut [28] (fun _ wx => Hid (∃ s2 m2, s1.sel2 s.wordB m1 = .ok (s2, m2) ∧ SelAt P M w.heap.size R w s s2 (selN 2 m2 0 0) wx))
      case first =>
        cases ib with
        | true =>
          have hk : s1.hd.kind ≠ 0 := by rw [is_kind HI.out]; decide
          have HOn := Lib.hid (on_st hg1 (StQ.start K5.out.1) hk)
          have hg2 := hg1.on hk
          clear hk
          go_wp2_with fail
          refine (HOn.out).mono ?_
          rintro e w6 ⟨rfl, k6⟩
          have HA := Lib.hid (pmatchers_any hM hg2 (K5.out.next k6) H0.out HO1.out (Nat.le_refl _) (selN 2 m1 0 0) hm1 rfl HZ1.out (M5.out.fr K5.out.1 k6.2 (by omega)))
          clear k6 HOn
          go_wp2_with fail
          refine (HA.out).mono ?_
          intro e w7 hres
          cases hms : s1.on.matchers m1 with
          | error z =>
            have HT : Hid (chooseP s = .error z) := choose_e2 HS1.out (by rw [PS.sel2, if_pos HI.out, hms])
            rw [show (selN 2 m1 0 0).mat = m1 from rfl, hms] at hres
            obtain ⟨rfl, hf⟩ := hres
            clear hms
            go_wp2_with fail
            refine ⟨rfl, ?_⟩
            rw [HT.out]
            exact ⟨rfl, hf.weak⟩
          | ok q =>
            obtain ⟨s2, m2⟩ := q
            have HT : Hid (s1.sel2 s.wordB m1 = .ok (s2, m2)) := by show _ = _; rw [PS.sel2, if_pos HI.out, hms]
            have hst := matchersF_step _ _ _ _ _ _ hms
            have hg3 := (hst.good M hg2).more (M' := M) (by omega)
            have ho3 := hst.out.trans HO1.out
            rw [show (selN 2 m1 0 0).mat = m1 from rfl, hms] at hres
            obtain ⟨rfl, k7, hm7⟩ := hres
            clear hms hst
            have HO3 := Lib.hid ho3
            clear ho3
            go_wp2_with fail
            go_meet
            exact ⟨_, _, HT.out, k7, hm7, hg3, HO3.out⟩
        | false =>
          have HSt := Lib.hid (stuck_st hg1 K5.out)
          cases wd with
          | true =>
            have HT : Hid (s1.sel2 s.wordB m1 = .ok (s1, m1)) := by show _ = _; rw [PS.sel2, if_neg (by rw [HI.out]; decide), if_pos HW.out]
            go_wp2_with fail
            go_meet
            exact ⟨_, _, HT.out, K5.out, M5.out, hg1, HO1.out⟩
          | false =>
            have HT : Hid (chooseP s = .error s1.stuck) := choose_e2 HS1.out (by rw [PS.sel2, if_neg (by rw [HI.out]; decide), if_neg (by rw [HW.out]; decide)])
            go_wp2_with fail
            refine (HSt.out).mono ?_
            rintro e w11 ⟨rfl, hf⟩
            go_wp2_with fail
            refine ⟨rfl, ?_⟩
            rw [HT.out]
            exact ⟨rfl, hf.weak⟩
      case rest =>
        clear K5 M5 HI HO1 HZ1 hg1
        obtain ⟨s2, m2, hs2, k6, mn6, hg2, ho2⟩ := hcut.out
        have HS2 := Lib.hid hs2
        have HO2 := Lib.hid ho2
        have HIs := Lib.hid (is_st hg2 (StQ.start k6.1) 5 sSq)
        have K6 := Lib.hid k6
        have M6 := Lib.hid mn6
        clear hcut hs2 ho2 k6 mn6
        go_upto_if 37 with fail
        refine (HIs.out).mono ?_
        rintro e w7 ⟨rfl, k7⟩
        have M7 := Lib.hid (M6.out.fr K6.out.1 k7.2 (by omega))
        have K7 := Lib.hid (K6.out.next k7)
        clear k7 HIs K6 M6
        generalize hib : s2.is 5 sSq = ib2 at *
        have HI := Lib.hid hib
        clear hib
        go_upto_if 37 with fail
        go_cut [38] (fun _ wx => Hid (∃ s3 k3 b3, s2.sel3 = .ok (s3, k3, b3) ∧ SelAt P M w.heap.size R w s s3 (selN k3 m2 b3 0) wx))
        case first =>
          cases ib2 with
          | true =>
            have hk : s2.hd.kind ≠ 0 := by rw [is_kind HI.out]; decide
            have HOn := Lib.hid (on_st hg2 (StQ.start K7.out.1) hk)
            have hg3 := hg2.on hk
            clear hk
            go_wp2_with fail
            refine (HOn.out).mono ?_
            rintro e w8 ⟨rfl, k8⟩
            have M8 := Lib.hid (M7.out.fr K7.out.1 k8.2 (by omega))
            have K8 := Lib.hid (K7.out.next k8)
            have HSp := Lib.hid (pspan_any hg3 (StQ.start k8.1))
            clear k8 HOn M7 K7
            go_wp2_with fail
            refine (HSp.out).mono ?_
            intro e w9 hres
            cases hsp : s2.on.span with
            | error z =>
              have HT : Hid (chooseP s = .error z) := choose_e3 HS1.out HS2.out (by rw [PS.sel3, if_pos HI.out, hsp])
              rw [hsp] at hres
              obtain ⟨rfl, hf⟩ := hres
              have hf2 := K8.out.2.transN hf
              clear hsp
              go_wp2_with fail
              refine ⟨rfl, ?_⟩
              rw [HT.out]
              exact ⟨rfl, hf2.weak⟩
            | ok q =>
              obtain ⟨s4, b3⟩ := q
              rw [hsp] at hres
              obtain ⟨rfl, k9⟩ := hres
              have hst := span_step hsp
              have HSP := Lib.hid hsp
              have hg4 := (hst.good M hg3).more (M' := M) (by omega)
              have HO4 := Lib.hid (hst.out.trans HO2.out)
              have M9 := Lib.hid (M8.out.fr K8.out.1 k9.2 (by omega))
              have K9 := Lib.hid (K8.out.next k9)
              clear k9 M8 K8 hst hsp HSp
              obtain ⟨Am, cm, b9, _⟩ := M9.out
              have c0 := b9.cell (j := 0) rfl
              have c4 := b9.cell (j := 4) rfl
              have cf := b9.frozen
              have cl := b9.lt
              have K10 := Lib.hid ((K9.out.setN (N := w.heap.size) H0.out HO4.out (Nat.le_refl _) 0 (.int .i64 3)).setN (N := w.heap.size) H0.out HO4.out (Nat.le_refl _) 4 (.int .i64 b3))
              have M10 := Lib.hid ((M9.out.setF (y := selN 3 m2 0 0) (j := 0) (u := .int .i64 3) rfl (fun _ _ => rfl)).setF (y := selN 3 m2 b3 0) (j := 4) (u := .int .i64 b3) rfl (fun _ _ => rfl))
              have HSg := Lib.hid (psign_st hg4 (StQ.start K10.out.1) sUnsq)
              clear b9 M9 K9
              go_wp2_with fail
              refine (HSg.out).mono ?_
              intro e w11 hres
              cases hsg : s4.sign sUnsq with
              | error z =>
                have HT : Hid (chooseP s = .error z) := choose_e3 HS1.out HS2.out (by rw [PS.sel3, if_pos HI.out, HSP.out]; dsimp only; rw [hsg])
                rw [hsg] at hres
                obtain ⟨rfl, hf⟩ := hres
                have hf2 := K10.out.2.transN hf
                clear hsg
                go_wp2_with fail
                refine ⟨rfl, ?_⟩
                rw [HT.out]
                exact ⟨rfl, hf2.weak⟩
              | ok s5 =>
                have HT : Hid (s2.sel3 = .ok (s5, 3, b3)) := by show _ = _; rw [PS.sel3, if_pos HI.out, HSP.out]; dsimp only; rw [hsg]
                rw [hsg] at hres
                obtain ⟨rfl, k11⟩ := hres
                have hst := (sign_step hsg).2.2
                have hg5 := (hst.good M hg4).more (M' := M) (by omega)
                have HO5 := Lib.hid (hst.out.trans HO4.out)
                have M11 := Lib.hid (M10.out.fr K10.out.1 k11.2 (by omega))
                have K11 := Lib.hid (K10.out.next k11)
                clear k11 hst hsg
                go_wp2_with fail
                go_meet
                exact ⟨_, _, _, HT.out, K11.out, M11.out, hg5, HO5.out⟩
          | false =>
            have HT : Hid (s2.sel3 = .ok (s2, 2, 0)) := by show _ = _; rw [PS.sel3, if_neg (by rw [HI.out]; decide)]
            go_wp2_with fail
            go_meet
            exact ⟨_, _, _, HT.out, K7.out, M7.out, hg2, HO2.out⟩
        case rest =>
          clear M7 K7 HI HO2 hg2
          obtain ⟨s3, k3, b3, hs3, k8, mn8, hg3, ho3⟩ := hcut.out
          have HS3 := Lib.hid hs3
          have HO3 := Lib.hid ho3
          have HIs := Lib.hid (is_st hg3 (StQ.start k8.1) 3 sOffset)
          have K8 := Lib.hid k8
          have M8 := Lib.hid mn8
          clear hcut hs3 ho3 k8 mn8
          go_upto_if 47 with fail
          refine (HIs.out).mono ?_
          rintro e w9 ⟨rfl, k9⟩
          have M9 := Lib.hid (M8.out.fr K8.out.1 k9.2 (by omega))
          have K9 := Lib.hid (K8.out.next k9)
          clear k9 HIs K8 M8
          generalize hib : s3.is 3 sOffset = ib3 at *
          have HI := Lib.hid hib
          clear hib
          go_upto_if 47 with fail
          go_cut [48] (fun _ wx => Hid (∃ s4 c, s3.sel4 = .ok (s4, c) ∧ SelAt P M w.heap.size R w s s4 (selN k3 m2 b3 c) wx))
          case first =>
            cases ib3 with
            | true =>
              have hk : s3.hd.kind ≠ 0 := by rw [is_kind HI.out]; decide
              have HOn := Lib.hid (on_st hg3 (StQ.start K9.out.1) hk)
              have hg4 := hg3.on hk
              clear hk
              go_wp2_with fail
              refine (HOn.out).mono ?_
              rintro e w10 ⟨rfl, k10⟩
              have M10 := Lib.hid (M9.out.fr K9.out.1 k10.2 (by omega))
              have K10 := Lib.hid (K9.out.next k10)
              have HSp := Lib.hid (pspan_any hg4 (StQ.start k10.1))
              clear k10 HOn M9 K9
              go_wp2_with fail
              refine (HSp.out).mono ?_
              intro e w11 hres
              cases hsp : s3.on.span with
              | error z =>
                have HT : Hid (chooseP s = .error z) := choose_e4 HS1.out HS2.out HS3.out (by rw [PS.sel4, if_pos HI.out, hsp])
                rw [hsp] at hres
                obtain ⟨rfl, hf⟩ := hres
                have hf2 := K10.out.2.transN hf
                clear hsp
                go_wp2_with fail
                refine ⟨rfl, ?_⟩
                rw [HT.out]
                exact ⟨rfl, hf2.weak⟩
              | ok q =>
                obtain ⟨s4, c⟩ := q
                have HT : Hid (s3.sel4 = .ok (s4, c)) := by show _ = _; rw [PS.sel4, if_pos HI.out, hsp]
                rw [hsp] at hres
                obtain ⟨rfl, k11⟩ := hres
                have hst := span_step hsp
                have hg5 := (hst.good M hg4).more (M' := M) (by omega)
                have HO4 := Lib.hid (hst.out.trans HO3.out)
                have M11 := Lib.hid (M10.out.fr K10.out.1 k11.2 (by omega))
                have K11 := Lib.hid (K10.out.next k11)
                clear k11 M10 K10 hst hsp HSp
                obtain ⟨Am, cm, b11, _⟩ := M11.out
                have c5 := b11.cell (j := 5) rfl
                have cf := b11.frozen
                have cl := b11.lt
                have K12 := Lib.hid (K11.out.setN (N := w.heap.size) H0.out HO4.out (Nat.le_refl _) 5 (.int .i64 c))
                have M12 := Lib.hid (M11.out.setF (y := selN k3 m2 b3 c) (j := 5) (u := .int .i64 c) rfl (fun _ _ => rfl))
                clear b11 M11 K11
                go_wp2_with fail
                go_meet
                exact ⟨_, _, HT.out, K12.out, M12.out, hg5, HO4.out⟩
            | false =>
              have HT : Hid (s3.sel4 = .ok (s3, 0)) := by show _ = _; rw [PS.sel4, if_neg (by rw [HI.out]; decide)]
              go_wp2_with fail
              go_meet
              exact ⟨_, _, HT.out, K9.out, M9.out, hg3, HO3.out⟩
          case rest =>
            clear M9 K9 HI HO3 hg3
            obtain ⟨s4, c, hs4, k12, mn12, hg4, ho4⟩ := hcut.out
            have HT : Hid (chooseP s = .ok (s4.lay (selN k3 m2 b3 c))) := choose_ok HS1.out HS2.out HS3.out hs4
            obtain ⟨Am, cm, b12, o12⟩ := mn12
            have HN := Lib.hid (pnode_any P R s4 wc k12.1 (selN k3 m2 b3 c) Am none cm 0 (o12.lower (by omega)) (Own.nil_ (by decide)) (by have := hg4.room; omega))
            have K12 := Lib.hid k12
            have c0 := b12.cell (j := 0) rfl
            have c1 := b12.cell (j := 1) rfl
            have c2 := b12.cell (j := 2) rfl
            have c3 := b12.cell (j := 3) rfl
            have c4 := b12.cell (j := 4) rfl
            have c5 := b12.cell (j := 5) rfl
            have c6 := b12.cell (j := 6) rfl
            have c7 := b12.cell (j := 7) rfl
            have c8 := b12.cell (j := 8) rfl
            have c9 := b12.cell (j := 9) rfl
            have cl := b12.lt
            clear hcut hs4 k12 o12 b12 ho4 HS1 HS2 HS3
            go_wp2_with fail
            refine (HN.out).mono ?_
            rintro e w13 ⟨rfl, R', hS⟩
            go_wp2_with fail
            first | go_end0 | refine bodyPost_ret (results_none rfl _ _ _) rfl ?_
            rw [HT.out]
            exact ⟨rfl, R', K12.out.st.next hS⟩
end
section
/-! ## ParU -/
open Go.RowKit
attribute [local go_sem ↓] Go.wp_at_zero Go.wp_at_succ tok_f0 tok_f2 tok_f3

def PS.dip (s : PS) (d : Nat) : PS := ⟨s.toks, d, s.out⟩
theorem PAt.dip {w : World} {P : Nat} {R : Option Addr × Nat} {s : PS} (h : PAt w P R s) (d : Nat) : PAt (w.setCell ⟨P, 1, none⟩ (.int .i64 d)) P R (s.dip d) := by
  obtain ⟨b, o, ct, h1, h2, h3, h4, h5⟩ := h
  refine ⟨b, o, ct, h1.set 1 (.int .i64 d), ?_, h3, h4, h5.setLow (by simp) _⟩
  exact h2.keep fun q oq hq => by
    have hne : q ≠ P := by omega
    exact World.cell?_of_block (Below.heap_setCell w ⟨P, 1, none⟩ _ q hne)
theorem openP_down {p : PS → Rp PS} {s s1 : PS} (hd : ¬ s.deep = 64) (h : p ⟨s.toks.tail, s.deep + 1, s.out⟩ = .ok s1) : openP p s = .ok (s1.dip (s1.deep - 1)) := by
  rw [openP, if_neg hd, h]; rfl
theorem openP_err {p : PS → Rp PS} {s : PS} {x : Int × Int} (hd : ¬ s.deep = 64) (h : p ⟨s.toks.tail, s.deep + 1, s.out⟩ = .error x) : openP p s = .error x := by
  rw [openP, if_neg hd, h]
set_option maxRecDepth 100000 in
set_option maxHeartbeats 4000000 in
theorem openU_any {P M : Nat} {R : Option Addr × Nat} {w : World} {s : PS} {p : PS → Rp PS} (hg : PGood M s) (h : PAt w P R s) (hk : s.hd.kind ≠ 0) (hok : PartOk p)
    (hp : s.deep < 64 → ∀ w', PAt w' P R ⟨s.toks.tail, s.deep + 1, s.out⟩ → Fr P none w w' → Calls Tryz.prog 145 #[.pointer (some ⟨P, 0, none⟩)] w' (ResS P R w' (p ⟨s.toks.tail, s.deep + 1, s.out⟩))) :
    Calls Tryz.prog 155 #[.pointer (some ⟨P, 0, none⟩), .func (.func 145) #[.pointer (some ⟨P, 0, none⟩)] #[]] w (ResS P R w (openP p s)) := by
  have hP0 := h.lt
  have hd64 := hg.deep
  obtain ⟨_, _, _, _, _, _, _, _, _, _, d1, _, _, _, hfz⟩ := h.head hg
  have H0 := Lib.hid h
  have HP := Lib.hid hp
  by_cases hd : s.deep = 64
  · have HT : Hid (openP p s = .error (182, (s.hd.at_ : Int))) := by show _ = _; rw [openP, if_pos hd]
    have HN := Lib.hid (now_st hg (StQ.start h))
    have hdI : ((s.deep : Int) == 64) = true := by rw [beq_iff_eq]; omega
    clear hd hp h
    go_enter Tryz.func155, Tryz.ntmps155
    go_wp2_with fail
    refine (HN.out).mono ?_
    rintro e w1 ⟨rfl, k1⟩
    have HF := Lib.hid (fail_st k1 182 s.hd)
    clear k1
    go_wp2_with fail
    refine (HF.out).mono ?_
    rintro e w2 ⟨rfl, hf⟩
    go_wp2_with fail
    refine ⟨rfl, ?_⟩
    rw [HT.out]
    exact ⟨rfl, hf.weak⟩
  · have HD := Lib.hid hd
    have hlt : s.deep < 64 := by omega
    have hdI : ((s.deep : Int) == 64) = false := by rw [beq_eq_false_iff_ne]; omega
    have K1 := Lib.hid (show StQ P R w (s.dip (s.deep + 1)) (w.setCell ⟨P, 1, none⟩ (.int .i64 (s.deep + 1))) from ⟨h.dip (s.deep + 1), (Fr.refl P none w).setP 1 _⟩)
    have hg1 : PGood M (s.dip (s.deep + 1)) := ⟨hg.ends, hg.room, by show s.deep + 1 ≤ 64; omega, hg.text⟩
    have HOn := Lib.hid (on_st hg1 (StQ.start K1.out.1) hk)
    clear hd hp h
    go_enter Tryz.func155, Tryz.ntmps155
    go_wp2_with fail
    refine (HOn.out).mono ?_
    rintro e w2 ⟨rfl, k2⟩
    have K2 := Lib.hid (K1.out.next k2)
    clear k2 HOn K1
    go_wp2_with fail
    refine (HP.out hlt w2 K2.out.1 K2.out.2).mono ?_
    intro e w3 hres
    cases hpp : p ⟨s.toks.tail, s.deep + 1, s.out⟩ with
    | error z =>
      have HT := Lib.hid (openP_err HD.out hpp)
      rw [hpp] at hres
      obtain ⟨rfl, hf⟩ := hres
      have hf2 := K2.out.st.fail hf
      clear hpp
      go_wp2_with fail
      refine ⟨rfl, ?_⟩
      rw [HT.out]
      exact ⟨rfl, hf2⟩
    | ok s1 =>
      have HT := Lib.hid (openP_down HD.out hpp)
      have hdp : s1.deep = s.deep + 1 := (hok _ _ hpp).1
      have hdl : s1.deep ≤ 64 := by omega
      have hd1 : 1 ≤ s1.deep := by omega
      rw [hpp] at hres
      obtain ⟨rfl, R', hS⟩ := hres
      have hS2 := K2.out.st.next hS
      clear hpp hdp hS
      obtain ⟨b, o, ct, b1, _⟩ := hS2.1
      have e1 := b1.cell (j := 1) rfl
      have ef := b1.frozen
      have el := b1.lt
      have ew : ((s1.deep : Int) - 1) = ((s1.deep - 1 : Nat) : Int) := by omega
      have HS2 := Lib.hid hS2
      have EW := Lib.hid ew
      clear b1 hS2 ew
      go_wp2_with fail
      first | go_end0 | refine bodyPost_ret (results_none rfl _ _ _) rfl ?_
      rw [HT.out, EW.out]
      exact ⟨rfl, R', HS2.out.1.dip _, HS2.out.2.1.setP 1 _, HS2.out.2.2⟩
set_option maxRecDepth 100000 in
set_option maxHeartbeats 4000000 in
theorem openB_any {P M X : Nat} {R : Option Addr × Nat} {w : World} {s : PS} {p : PS → Rp PS} (hg : PGood M s) (h : PAt w P R s) (hk : s.hd.kind ≠ 0) (hok : PartOk p)
    (hp : s.deep < 64 → ∀ w', PAt w' P R ⟨s.toks.tail, s.deep + 1, s.out⟩ → Fr P none w w' → Calls Tryz.prog 172 #[.pointer (some ⟨X, 0, none⟩)] w' (ResS P R w' (p ⟨s.toks.tail, s.deep + 1, s.out⟩))) :
    Calls Tryz.prog 155 #[.pointer (some ⟨P, 0, none⟩), .func (.func 172) #[] #[.pointer (some ⟨X, 0, none⟩)]] w (ResS P R w (openP p s)) := by
  have hP0 := h.lt
  have hd64 := hg.deep
  obtain ⟨_, _, _, _, _, _, _, _, _, _, d1, _, _, _, hfz⟩ := h.head hg
  have H0 := Lib.hid h
  have HP := Lib.hid hp
  by_cases hd : s.deep = 64
  · have HT : Hid (openP p s = .error (182, (s.hd.at_ : Int))) := by show _ = _; rw [openP, if_pos hd]
    have HN := Lib.hid (now_st hg (StQ.start h))
    have hdI : ((s.deep : Int) == 64) = true := by rw [beq_iff_eq]; omega
    clear hd hp h
    go_enter Tryz.func155, Tryz.ntmps155
    go_wp2_with fail
    refine (HN.out).mono ?_
    rintro e w1 ⟨rfl, k1⟩
    have HF := Lib.hid (fail_st k1 182 s.hd)
    clear k1
    go_wp2_with fail
    refine (HF.out).mono ?_
    rintro e w2 ⟨rfl, hf⟩
    go_wp2_with fail
    refine ⟨rfl, ?_⟩
    rw [HT.out]
    exact ⟨rfl, hf.weak⟩
  · have HD := Lib.hid hd
    have hlt : s.deep < 64 := by omega
    have hdI : ((s.deep : Int) == 64) = false := by rw [beq_eq_false_iff_ne]; omega
    have K1 := Lib.hid (show StQ P R w (s.dip (s.deep + 1)) (w.setCell ⟨P, 1, none⟩ (.int .i64 (s.deep + 1))) from ⟨h.dip (s.deep + 1), (Fr.refl P none w).setP 1 _⟩)
    have hg1 : PGood M (s.dip (s.deep + 1)) := ⟨hg.ends, hg.room, by show s.deep + 1 ≤ 64; omega, hg.text⟩
    have HOn := Lib.hid (on_st hg1 (StQ.start K1.out.1) hk)
    clear hd hp h
    go_enter Tryz.func155, Tryz.ntmps155
    go_wp2_with fail
    refine (HOn.out).mono ?_
    rintro e w2 ⟨rfl, k2⟩
    have K2 := Lib.hid (K1.out.next k2)
    clear k2 HOn K1
    go_wp2_with fail
    refine (HP.out hlt w2 K2.out.1 K2.out.2).mono ?_
    intro e w3 hres
    cases hpp : p ⟨s.toks.tail, s.deep + 1, s.out⟩ with
    | error z =>
      have HT := Lib.hid (openP_err HD.out hpp)
      rw [hpp] at hres
      obtain ⟨rfl, hf⟩ := hres
      have hf2 := K2.out.st.fail hf
      clear hpp
      go_wp2_with fail
      refine ⟨rfl, ?_⟩
      rw [HT.out]
      exact ⟨rfl, hf2⟩
    | ok s1 =>
      have HT := Lib.hid (openP_down HD.out hpp)
      have hdp : s1.deep = s.deep + 1 := (hok _ _ hpp).1
      have hdl : s1.deep ≤ 64 := by omega
      have hd1 : 1 ≤ s1.deep := by omega
      rw [hpp] at hres
      obtain ⟨rfl, R', hS⟩ := hres
      have hS2 := K2.out.st.next hS
      clear hpp hdp hS
      obtain ⟨b, o, ct, b1, _⟩ := hS2.1
      have e1 := b1.cell (j := 1) rfl
      have ef := b1.frozen
      have el := b1.lt
      have ew : ((s1.deep : Int) - 1) = ((s1.deep - 1 : Nat) : Int) := by omega
      have HS2 := Lib.hid hS2
      have EW := Lib.hid ew
      clear b1 hS2 ew
      go_wp2_with fail
      first | go_end0 | refine bodyPost_ret (results_none rfl _ _ _) rfl ?_
      rw [HT.out, EW.out]
      exact ⟨rfl, R', HS2.out.1.dip _, HS2.out.2.1.setP 1 _, HS2.out.2.2⟩
end
section
/-! ## ParV -/
open Go.RowKit
attribute [local go_sem ↓] Go.wp_at_zero Go.wp_at_succ tok_f0 tok_f2 tok_f3

theorem PAt.notP {w : World} {P X : Nat} {R : Option Addr × Nat} {s : PS} {e : TypeId} {cs : List Value} (h : PAt w P R s) (b : Blk w X e cs) (he : e ≠ 41) : some X ≠ R.1.map Addr.block := by
  obtain ⟨_, _, _, _, _, _, _, cs', h5, _⟩ := h
  exact own_ne_blk h5 b (Ne.symm he)
theorem Blk.frA {w w' : World} {P N : Nat} {A : Option Addr} {e : TypeId} {cs : List Value} (h : Blk w N e cs) (hf : Fr P A w w') (hne : N ≠ P) (hA : some N ≠ A.map Addr.block) : Blk w' N e cs := h.keep (hf.block N h.lt hne (Ne.symm hA))
set_option maxRecDepth 100000 in
set_option maxHeartbeats 4000000 in
theorem inner_any {P M n M' X : Nat} {R : Option Addr × Nat} {w : World} {s : PS} {e : PS → Rp PS} (hM : M' ≤ M) (hor : PartC P M 28 #[.pointer (some ⟨P, 0, none⟩)] e (fun s => s.toks.length ≤ n)) (hok : PartOk e) (hg : PGood M' s) (hl : s.toks.length ≤ n) (h : PAt w P R s) (bX : Blk w X 60 [.pointer (some ⟨P, 0, none⟩)]) (hXP : X ≠ P) :
    Calls Tryz.prog 172 #[.pointer (some ⟨X, 0, none⟩)] w (ResS P R w (innerP e s)) := by
  have hXR := h.notP bX (by decide)
  have HO := Lib.hid (hor M' R s w hM hg hl h)
  have x0 := bX.cell (j := 0) rfl
  have BX := Lib.hid bX
  have HG := Lib.hid hg
  clear hor bX hl h hg
  go_enter Tryz.func172, Tryz.ntmps172
  go_wp2_with fail
  refine (HO.out).mono ?_
  intro e' w1 hres
  cases hp : e s with
  | error z =>
    have HT : Hid (innerP e s = .error z) := by show _ = _; rw [innerP, hp]
    rw [hp] at hres
    obtain ⟨rfl, hf⟩ := hres
    clear hp
    go_wp2_with fail
    refine ⟨rfl, ?_⟩
    rw [HT.out]
    exact ⟨rfl, hf⟩
  | ok s1 =>
    have HT : Hid (innerP e s = s1.sign sC) := by show _ = _; rw [innerP, hp]
    rw [hp] at hres
    obtain ⟨rfl, R', hS⟩ := hres
    have hg1 := ((hok _ _ hp).2 M' HG.out).1
    have b1 := BX.out.frA hS.2.1 hXP hXR
    clear x0
    have x1 := b1.cell (j := 0) rfl
    have HS := Lib.hid hS
    have HSg := Lib.hid (psign_st hg1 (StQ.start hS.1) sC)
    clear hp hS b1
    go_wp2_with fail
    refine (HSg.out).mono ?_
    intro e'' w2 hres
    cases hsg : s1.sign sC with
    | error z =>
      have HT2 : Hid (innerP e s = .error z) := by show _ = _; rw [HT.out, hsg]
      rw [hsg] at hres
      obtain ⟨rfl, hf⟩ := hres
      have hf2 := HS.out.failQ hf
      clear hsg
      go_wp2_with fail
      refine ⟨rfl, ?_⟩
      rw [HT2.out]
      exact ⟨rfl, hf2⟩
    | ok s2 =>
      have HT2 : Hid (innerP e s = .ok s2) := by show _ = _; rw [HT.out, hsg]
      rw [hsg] at hres
      obtain ⟨rfl, k2⟩ := hres
      have K2 := Lib.hid (HS.out.quiet k2)
      clear hsg k2
      go_wp2_with fail
      first | go_end0 | refine bodyPost_ret (results_none rfl _ _ _) rfl ?_
      rw [HT2.out]
      exact ⟨rfl, R', K2.out⟩
set_option maxRecDepth 100000 in
set_option maxHeartbeats 4000000 in
theorem bracket_any {P M n : Nat} {e : PS → Rp PS} (hor : PartC P M 28 #[.pointer (some ⟨P, 0, none⟩)] e (fun s => s.toks.length ≤ n)) (hok : PartOk e) :
    PartC P M 164 #[.pointer (some ⟨P, 0, none⟩)] (bracketP e) (fun s => s.toks.length ≤ n + 1) := by
  intro M' R s w hM hg hl h
  have hmf : ∀ (fn : Fn) (first cap : Array Value) (w : World), (Instr.makeFunc fn first cap).run Tryz.prog w = .ok (.func fn first cap) w := fun _ _ _ _ => rfl
  have bX : Blk (w.alloc (.cells #[.pointer (some ⟨P, 0, none⟩)] 60)) w.heap.size 60 [.pointer (some ⟨P, 0, none⟩)] := Blk.new w _ _
  have K1 := Lib.hid ((StQ.start h).below ((Below.refl _ _).alloc (Nat.le_refl _) (.cells #[.pointer (some ⟨P, 0, none⟩)] 60)))
  have hP0 := h.lt
  have HIs := Lib.hid (is_st hg (StQ.start K1.out.1) 5 sO)
  have BX := Lib.hid bX
  have HOR := Lib.hid hor
  clear h bX hor
  cases hi : s.is 5 sO with
  | false =>
    have HT : Hid (bracketP e s = .error s.stuck) := by show _ = _; rw [bracketP, if_neg (by rw [hi]; decide)]
    rw [hi] at HIs
    clear hi
    go_enter Tryz.func164, Tryz.ntmps164
    go_wp2_with fail
    refine (HIs.out).mono ?_
    rintro e' w1 ⟨rfl, k1⟩
    have b1 := BX.out.fr k1.2 (by omega)
    have x1 := b1.cell (j := 0) rfl
    have HSt := Lib.hid (stuck_st hg (K1.out.next k1))
    clear k1 b1
    go_wp2_with fail
    refine (HSt.out).mono ?_
    rintro e' w2 ⟨rfl, hf⟩
    go_wp2_with fail
    refine ⟨rfl, ?_⟩
    rw [HT.out]
    exact ⟨rfl, hf.weak⟩
  | true =>
    have HT : Hid (bracketP e s = openP (innerP e) s) := by show _ = _; rw [bracketP, if_pos hi]
    have hk : s.hd.kind ≠ 0 := by rw [is_kind hi]; decide
    rw [hi] at HIs
    clear hi
    go_enter Tryz.func164, Tryz.ntmps164
    go_wp2_with fail
    refine (HIs.out).mono ?_
    rintro e' w1 ⟨rfl, k1⟩
    have b1 := Lib.hid (BX.out.fr k1.2 (by omega))
    have x1 := b1.out.cell (j := 0) rfl
    have K2 := Lib.hid (K1.out.next k1)
    have HX := Lib.hid hok
    clear k1 HIs K1
    go_wp2_with fail
    have hl1 := hg.on_len
    refine (openB_any (p := innerP e) hg K2.out.1 hk (innerP_ok HX.out) ?_).mono ?_
    · intro hlt w' hP' hf'
      have hg' : PGood M' ⟨s.toks.tail, s.deep + 1, s.out⟩ := by
        have g := hg.on hk
        exact ⟨g.ends, g.room, by show s.deep + 1 ≤ 64; omega, g.text⟩
      exact inner_any hM HOR.out HX.out hg' (by show s.toks.tail.length ≤ n; have : s.on.toks.length = s.toks.tail.length := rfl; omega) hP' (b1.out.fr hf' (by omega)) (by omega)
    · intro e' w2 hres
      have hres2 := ResS.st K2.out.st hres
      rw [← HT.out] at hres2
      cases hb : bracketP e s with
      | error z =>
        rw [hb] at hres2
        obtain ⟨rfl, hf⟩ := hres2
        clear hb hres
        go_wp2_with fail
        exact ⟨rfl, rfl, hf⟩
      | ok s2 =>
        rw [hb] at hres2
        obtain ⟨rfl, R', hS⟩ := hres2
        have HB := Lib.hid hb
        clear hb hres
        go_wp2_with fail
        first | go_end0 | refine bodyPost_ret (results_none rfl _ _ _) rfl ?_
        rw [HB.out]
        exact ⟨rfl, R', hS⟩
end
end Go.Proofs.YtakfnojiaakfpaaGreatDoor
