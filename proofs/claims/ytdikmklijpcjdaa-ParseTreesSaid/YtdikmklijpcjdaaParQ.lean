/- How a query is read: a matcher more. -/
import Derived.Test.YtdikmklijpcjdaaParP
namespace Go.Proofs.Ytdikmklijpcjdaa
open Go.RowKit
attribute [local go_sem ↓] Go.wp_at_zero Go.wp_at_succ tok_f0 tok_f2 tok_f3

/-- A node that is being made, with matchers. -/
def MatN (w : World) (base N : Nat) (x : Nod) : Prop := ∃ Am cm, Blk w N 37 (nodC x Am cm none 0) ∧ Own w base 45 3 Am x.mat.length cm (matsC x.mat)
theorem MatN.fr {w w' : World} {P N base : Nat} {R : Option Addr × Nat} {s : PS} {x : Nod} (h : MatN w base N x) (hP : PAt w P R s) (hf : Fr P none w w') (hne : N ≠ P) : MatN w' base N x := by
  obtain ⟨Am, cm, h1, h2⟩ := h
  exact ⟨Am, cm, h1.fr hf hne, h2.fr hP hf (by decide)⟩
theorem MatN.belowAll {w w' : World} {N base : Nat} {x : Nod} (h : MatN w base N x) (hb : Below w.heap.size w w') : MatN w' base N x := by
  obtain ⟨Am, cm, h1, h2⟩ := h
  exact ⟨Am, cm, h1.below hb h1.lt, h2.belowAll hb⟩
theorem MatN.lt {w : World} {N base : Nat} {x : Nod} (h : MatN w base N x) : N < w.heap.size := by
  obtain ⟨Am, cm, h1, h2⟩ := h
  exact h1.lt
def ResA (P : Nat) (R : Option Addr × Nat) (w0 : World) (s : PS) (N : Nat) (x : Nod) : Rp (List Mat) → Ending → World → Prop
  | .ok ms, e, w' => e = .returned (.tuple #[]) ∧ StQ P R w0 s w' ∧ MatN w' w0.heap.size N { x with mat := ms }
  | .error y, e, w' => e = .panicked (stopV y) ∧ Fr P none w0 w'
set_option maxRecDepth 100000 in
set_option maxHeartbeats 4000000 in
theorem padd_any {P N : Nat} {R : Option Addr × Nat} {w0 w : World} {s s0 : PS} (h : StQ P R w0 s w) (h0 : PAt w0 P R s0) (hout : s.out = s0.out) (hN : w0.heap.size ≤ N) (x : Nod) (hx : x.mat.length ≤ 100) (_hxn : x.names = []) (hm : MatN w w0.heap.size N x) (m : Mat) (hms : ∀ y ∈ x.mat ++ [m], y.name.size ≤ maxLen) (t : Tok) :
    Calls Try.prog 102 #[.pointer (some ⟨P, 0, none⟩), .pointer (some ⟨N, 0, none⟩), .agg #[.int .i64 m.kind, .string m.name, .string m.val], .agg #[.int .i64 t.kind, .int .i64 t.at_, .string t.text, .int .i64 t.span]] w (ResA P R w0 s N x (addM x.mat m t.at_)) := by
  have hP0 := h0.lt
  have hz0 := h.2.size
  have hNl := hm.lt
  have H0 := Lib.hid h0
  have HMS := Lib.hid hms
  clear hms h0
  go_enter Try.func102, Try.ntmps102
  go_wp2_with fail
  generalize hW : World.alloc _ _ = W0
  have bM : Blk W0 w.heap.size 45 (matC m) := by rw [← hW]; exact (Blk.new w _ (matC m)).alloc _
  have bT : Blk W0 (w.heap.size + 1) 52 (tokC t) := by
    rw [← hW]
    have := Blk.new (w.alloc (.cells #[.int .i64 m.kind, .string m.name, .string m.val] 45)) 52 (tokC t)
    rw [World.size_alloc] at this
    exact this
  have hb0 : Below w.heap.size w W0 := by rw [← hW]; exact ((Below.refl _ _).alloc (Nat.le_refl _) _).alloc (by simp) _
  clear hW
  have h1 := h.below hb0
  have hm1 := hm.belowAll hb0
  obtain ⟨Am, cm, bN, hO⟩ := hm1
  have hne := own_ne_blk hO bN (by decide)
  have hneM : some w.heap.size ≠ Am.map Addr.block := fun e => by
    obtain ⟨Am', cm', b1, o1⟩ := hm
    have h3 := bN.cell (j := 3) rfl
    have h3' := (b1.below hb0 b1.lt).cell (j := 3) rfl
    rw [h3] at h3'
    injection h3' with h3'
    injection h3' with e1
    subst e1
    have := o1.block e.symm
    omega
  have hneT : some (w.heap.size + 1) ≠ Am.map Addr.block := own_ne_blk hO bT (by decide)
  have hX : Rd ((W0.drew).alloc (.cells #[.int .i64 m.kind, .string m.name, .string m.val] 45)) (W0.heap.size + 1) 3 (some ⟨W0.heap.size, 0, none⟩) (matsC [m]) := Rd.new W0.drew (matsC_sz [m]) _ rfl
  have HO := Lib.hid hO
  have HX := Lib.hid hX
  have H1 := Lib.hid h1
  have bMl := bM.lt
  have bTl := bT.lt
  have bNl := bN.lt
  have hzW := hb0.size
  clear hO hX h hm h1 hb0
  have n3 := bN.cell (j := 3) rfl
  have fN := bN.frozen
  have m0 := bM.cell (j := 0) rfl
  have m1 := bM.cell (j := 1) rfl
  have m2 := bM.cell (j := 2) rfl
  go_region_law ((refine step_append_rd _ (by rfl) _ _ _ (by rfl) eiMat (by rfl) (HO.out.drew.alloc _) (m := 1) (by rfl) HX.out rfl (one_mats [m]) (by simp only [maxLen]; omega) (by omega) (by simp; omega) ?_; intro A' c' w3 ho3 hg3 hat3 hb3; have bN3 := ((bN.drewN 1).alloc _).grown hg3 hne; have fN3 := bN3.frozen; have nn3 := bN3.cell (j := 3) rfl))
  all_goals
    have hb1 : Below W0.heap.size W0 (W0.drew.alloc (.cells #[.int .i64 m.kind, .string m.name, .string m.val] 45)) := ((Below.refl _ _).drew).alloc (Nat.le_refl _) _
    have hS3 := (H1.out.below hb1).grownX H0.out hout (HO.out.drew.alloc _) hg3 (by decide)
    have HS5 := Lib.hid (hS3.setN H0.out hout hN 3 (.slice A' (x.mat.length + 1) c'))
    have hml : (x.mat ++ [m]).length = x.mat.length + 1 := by simp
    have hmc : matsC x.mat ++ matsC [m] = matsC (x.mat ++ [m]) := by simp [matsC]
    rw [hmc] at ho3
    have hO5 := ho3.setOther (own_ne_blk ho3 bN3 (by decide)) 3 (.slice A' (x.mat.length + 1) c')
    have bN5 := bN3.set 3 (.slice A' (x.mat.length + 1) c')
    have bT5 := (((bT.drewN 1).alloc (.cells #[.int .i64 m.kind, .string m.name, .string m.val] 45)).grown hg3 hneT).other (a := ⟨N, 3, none⟩) (show w.heap.size + 1 ≠ N by omega) (.slice A' (x.mat.length + 1) c')
    have HMN : Hid (MatN (w3.setCell ⟨N, 3, none⟩ (.slice A' (x.mat.length + 1) c')) w0.heap.size N { x with mat := x.mat ++ [m] }) := by
      refine ⟨A', c', ?_, ?_⟩
      · have e : nodC { x with mat := x.mat ++ [m] } A' c' none 0 = (nodC x Am cm none 0).set 3 (.slice A' (x.mat.length + 1) c') := by simp [nodC]
        rw [e]
        exact bN5
      · rw [hml]; exact hO5
    have HC := Lib.hid (matCheck_any (x.mat ++ [m]) A' (x.mat.length + 1) c' _ _ hO5.rd hml (Nat.le_refl _) (by simp only [maxLen]; omega) HMS.out)
    clear hb1 hS3 hO5 ho3 hg3 hat3 hb3 bN3 fN3 nn3 bM bN bT m0 m1 m2 n3 fN hne hneM hneT hmc hml
    generalize w3.setCell ⟨N, 3, none⟩ (.slice A' (x.mat.length + 1) c') = W5 at *
    have n35 := bN5.cell (j := 3) rfl
    have t0 := bT5.cell (j := 0) rfl
    have t1 := bT5.cell (j := 1) rfl
    have t2 := bT5.cell (j := 2) rfl
    have t3 := bT5.cell (j := 3) rfl
    have bTl5 := bT5.lt
    go_wp2_with fail
    refine (HC.out).mono ?_
    rintro e w6 ⟨rfl, hb6⟩
    have H6 := Lib.hid (HS5.out.below hb6)
    have HM6 := Lib.hid (HMN.out.belowAll hb6)
    have bT6 := bT5.below hb6 bTl5
    clear t0 t1 t2 t3 hb6 HC bT5
    have t0 := bT6.cell (j := 0) rfl
    have t1 := bT6.cell (j := 1) rfl
    have t2 := bT6.cell (j := 2) rfl
    have t3 := bT6.cell (j := 3) rfl
    by_cases hcode : matCode (x.mat ++ [m]) = 0
    · have HT : Hid (addM x.mat m t.at_ = .ok (x.mat ++ [m])) := by show _ = _; rw [addM, if_pos hcode]
      rw [hcode]
      clear hcode
      go_wp2_with fail
      first | go_end0 | refine bodyPost_ret (results_none rfl _ _ _) rfl ?_
      rw [HT.out]
      exact ⟨rfl, H6.out, HM6.out⟩
    · have HT : Hid (addM x.mat m t.at_ = .error (183, (t.at_ : Int))) := by show _ = _; rw [addM, if_neg hcode]
      have hcb : (matCode (x.mat ++ [m]) != 0) = true := by rw [bne_iff_ne]; exact hcode
      have HF := Lib.hid (fail_st H6.out 183 t)
      clear hcode
      go_wp2_with fail
      refine (HF.out).mono ?_
      rintro e w7 ⟨rfl, hf⟩
      go_wp2_with fail
      refine ⟨rfl, ?_⟩
      rw [HT.out]
      exact ⟨rfl, hf⟩
end Go.Proofs.Ytdikmklijpcjdaa
