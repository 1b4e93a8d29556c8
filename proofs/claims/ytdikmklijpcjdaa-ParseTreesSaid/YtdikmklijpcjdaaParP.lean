/- How a query is read: by which labels is grouped. -/
import Derived.Test.YtdikmklijpcjdaaParO
namespace Go.Proofs.Ytdikmklijpcjdaa
open Go.RowKit
attribute [local go_sem ↓] Go.wp_at_zero Go.wp_at_succ tok_f0 tok_f2 tok_f3

theorem str2_i0 (a b : Value) (w : World) : (Instr.index 87 (.agg #[a, b]) (.int .i64 0)).run Try.prog w = .ok a w := by kernel_rfl
theorem str2_i1 (a b : Value) (w : World) : (Instr.index 87 (.agg #[a, b]) (.int .i64 1)).run Try.prog w = .ok b w := by kernel_rfl
attribute [local go_sem ↓] str2_i0 str2_i1
/-- How the reading of a group ends: the node in block N is told of it. -/
def ResG (P : Nat) (R : Option Addr × Nat) (w0 : World) (N : Nat) (x : Nod) : Rp (PS × Int × List ByteArray) → Ending → World → Prop
  | .ok (s', g, l), e, w' => e = .returned (.tuple #[]) ∧ StQ P R w0 s' w' ∧ ∃ An cn, Blk w' N 37 (nodC { x with grp := g, names := l } none 0 An cn) ∧ Own w' w0.heap.size 9 1 An l.length cn (textsC l)
  | .error x, e, w' => e = .panicked (stopV x) ∧ Fr P none w0 w'
theorem StQ.setN {P N : Nat} {R : Option Addr × Nat} {w0 w : World} {s s0 : PS} (h : StQ P R w0 s w) (h0 : PAt w0 P R s0) (hout : s.out = s0.out) (hN : w0.heap.size ≤ N) (j : Nat) (u : Value) : StQ P R w0 s (w.setCell ⟨N, j, none⟩ u) := by
  have hP := h0.lt
  have hf : Fr P none w0 (w.setCell ⟨N, j, none⟩ u) := ⟨h.2.os, h.2.tape, h.2.output, by simpa using h.2.size, fun b hb h1 h2 => (Below.heap_setCell w ⟨N, j, none⟩ u b (show b ≠ N by omega)).trans (h.2.block b hb h1 h2)⟩
  exact ⟨h0.re h.1 hout h.2 hf (Below.heap_setCell w ⟨N, j, none⟩ u P (show P ≠ N by omega)), hf⟩
theorem Fr.undrew {P : Nat} {A : Option Addr} {w w' : World} (h : Fr P A w.drew w') : Fr P A w w' := ⟨h.os, h.tape, h.output, h.size, h.block⟩
theorem Blk.fr {w w' : World} {P N : Nat} {e : TypeId} {cs : List Value} (h : Blk w N e cs) (hf : Fr P none w w') (hne : N ≠ P) : Blk w' N e cs := h.keep (hf.block N h.lt hne (by simp))
set_option maxRecDepth 100000 in
set_option maxHeartbeats 4000000 in
theorem pgroup_any {P M N : Nat} {R : Option Addr × Nat} {w0 w : World} {s s0 : PS} (hM : M ≤ 1000000) (hg : PGood M s) (h : StQ P R w0 s w) (h0 : PAt w0 P R s0) (hout : s.out = s0.out) (hN : w0.heap.size ≤ N) (x : Nod) (hx : x.mat = [] ∧ x.names = [] ∧ x.grp = 0) (bN : Blk w N 37 (nodC x none 0 none 0)) (s1 s2 : ByteArray) (k1 k2 : Int) :
    Calls Try.prog 72 #[.pointer (some ⟨P, 0, none⟩), .pointer (some ⟨N, 0, none⟩), .agg #[.string s1, .string s2], .agg #[.int .i64 k1, .int .i64 k2]] w (ResG P R w0 N x (s.group s1 s2 k1 k2)) := by
  have hP0 := h0.lt
  have hz0 := h.2.size
  have hNl := bN.lt
  have H0 := Lib.hid h0
  go_enter Try.func72, Try.ntmps72
  go_wp2_with fail
  generalize hW : World.alloc _ _ = W0
  have bK : Blk W0 (w.heap.size + 1) 88 [.int .i64 k1, .int .i64 k2] := by
    rw [← hW]
    have := Blk.new (w.alloc (.cells #[.string s1, .string s2] 87)) 88 [.int .i64 k1, .int .i64 k2]
    rw [World.size_alloc] at this
    exact this
  have hb0 : Below w.heap.size w W0 := by rw [← hW]; exact ((Below.refl _ _).alloc (Nat.le_refl _) _).alloc (by simp) _
  clear hW
  have h1 := h.below hb0
  have bN1 := bN.below hb0 hNl
  clear h bN hb0
  have HI1 := fun (W : World) (h : StQ P R w0 s W) (t : ByteArray) => Lib.hid (is_st hg (StQ.start h.1) 3 t)
  refine wp_loop_rounds 3 ?_
  rw [rounds_succ]
  go_wp2_with fail
  refine ((HI1 _ h1 s1).out).mono ?_
  rintro e w3 ⟨rfl, k3⟩
  have h3 := h1.next k3
  have bN3 := bN1.fr k3.2 (by omega)
  have bK3 := bK.fr k3.2 (by omega)
  clear k3 h1 bN1 bK
  cases hi : s.is 3 s1 with
  | true =>
    have hk : s.hd.kind ≠ 0 := by rw [is_kind hi]; decide
    have HG : Hid (s.group s1 s2 k1 k2 = match s.on.names with | .error e => .error e | .ok (s1, l) => .ok (s1, k1, l)) := by show _ = _; rw [PS.group, if_pos hi]; rfl
    clear hi
    have HOn := Lib.hid (on_st hg (StQ.start h3.1) hk)
    go_wp2_with fail
    refine (HOn.out).mono ?_
    rintro e w4 ⟨rfl, k4⟩
    have h4 := h3.next k4
    have bN4 := bN3.fr k4.2 (by omega)
    have bK4 := bK3.fr k4.2 (by omega)
    have hg4 := hg.on hk
    have HNm := Lib.hid (pnames_any hM hg4 (show PAt w4.drew P R s.on from h4.1))
    have hz4 := h4.2.size
    clear k4 h3 bN3 bK3 HOn
    cases hnm : s.on.names with
    | error x =>
      have HT : Hid (s.group s1 s2 k1 k2 = .error x) := by show _ = _; rw [HG.out, hnm]
      rw [hnm] at HNm
      clear hnm HG
      have c0 := bK4.cell (j := 0) rfl
      have c1 := bK4.cell (j := 1) rfl
      have hK4 := bK4.lt
      have hN4 := bN4.lt
      go_wp2_with fail
      refine wp_region_any (by kernel_rfl) ?_
      try (change wpAny _ _ _ _ _ _ _ (World.drew _))
      (refine wpAny_take (i := 0) (v := ?_) rfl (by kernel_rfl) (by kernel_rfl) (by kernel_rfl) (fun _ _ _ h => h) (Or.inl ⟨by rfl, ?_⟩) ?_; rotate_left; focus ((intro w; go_simp); (try with_reducible rfl)))
      (refine wpAny_take (i := 1) (v := ?_) rfl (by kernel_rfl) (by kernel_rfl) (by kernel_rfl) (fun _ _ _ h => h) (Or.inl ⟨by rfl, ?_⟩) ?_; rotate_left; focus ((intro w; go_simp); (try with_reducible rfl)))
      (refine wpAny_take (i := 2) (v := ?_) rfl (by kernel_rfl) (by kernel_rfl) (by kernel_rfl) (fun _ _ _ h => h) (Or.inl ⟨by rfl, ?_⟩) ?_; rotate_left; focus ((intro w; go_simp); (try with_reducible rfl)))
      (refine wpAny_take (i := 3) (v := ?_) rfl (by kernel_rfl) (by kernel_rfl) (by kernel_rfl) (fun _ _ _ h => h) (Or.inl ⟨by rfl, ?_⟩) ?_; rotate_left; focus ((intro w; go_simp); (try with_reducible rfl)))
      (refine wpAny_take (i := 5) (v := ?_) rfl (by kernel_rfl) (by kernel_rfl) (by kernel_rfl) (fun _ _ _ h => h) (Or.inl ⟨by rfl, ?_⟩) ?_; rotate_left; focus ((intro w; go_simp); (try with_reducible rfl)))
      refine wpAny_ready (rs := [4, 6]) (by kernel_rfl) (by simp) ?_
      refine AllReady.cons rfl (fun K hK => ?_) ?_
      · go_simp
        (refine hK _ _ ?_; clear hK K)
        refine wpAny_ready (rs := [6]) (by kernel_rfl) (by simp) ?_
        refine AllReady.cons rfl (fun K hK => ?_) AllReady.nil
        go_simp
        go_at_call 80
        refine (HNm.out).mono ?_
        rintro e w5 ⟨rfl, k5⟩
        exact ⟨rfl, by rw [HT.out]; exact ⟨rfl, h4.2.transN k5.undrew⟩⟩
      · refine AllReady.cons rfl (fun K hK => ?_) AllReady.nil
        go_simp
        go_at_call 80
        refine (HNm.out).mono ?_
        rintro e w5 ⟨rfl, k5⟩
        exact ⟨rfl, by rw [HT.out]; exact ⟨rfl, h4.2.transN k5.undrew⟩⟩
    | ok q =>
      obtain ⟨s5, l⟩ := q
      have HT : Hid (s.group s1 s2 k1 k2 = .ok (s5, k1, l)) := by show _ = _; rw [HG.out, hnm]
      have hout5 : s5.out = s.out := (names_step' hnm).1.out
      rw [hnm] at HNm
      clear hnm HG
      have c0 := bK4.cell (j := 0) rfl
      have c1 := bK4.cell (j := 1) rfl
      have hK4 := bK4.lt
      have hN4 := bN4.lt
      have hKN : w.heap.size + 1 ≠ N := by omega
      go_wp2_with fail
      go_region_held3 (fun w' => w'.cell? ⟨w.heap.size + 1, 0, none⟩ = some (.int .i64 k1) ∧ w'.cell? ⟨w.heap.size + 1, 1, none⟩ = some (.int .i64 k2))
        (first | exact ⟨bK5.cell rfl, bK5.cell rfl⟩ | exact ⟨c0, c1⟩ | exact ⟨(bK5.other hKN _).cell rfl, (bK5.other hKN _).cell rfl⟩ | exact ⟨((bK5.other hKN _).other hKN _).cell rfl, ((bK5.other hKN _).other hKN _).cell rfl⟩ | go_keep)
        ((go_at_call 80; refine (HNm.out).mono ?_; rintro e w5 ⟨X5, c5, rfl, hO5, k5⟩; have bK5 := bK4.fr k5.2.undrew (by omega); have bN5 := bN4.fr k5.2.undrew (by omega); have fN5 := bN5.frozen; have n6 := bN5.cell (j := 6) rfl; have n7 := bN5.cell (j := 7) rfl))
      all_goals
        have HE : Hid (StQ P R w0 s5 w5) := h4.next ⟨k5.1, k5.2.undrew⟩
        have hO5' : Own w5 w0.heap.size 9 1 X5 l.length c5 (textsC l) := hO5.lower (by have : w4.drew.heap.size = w4.heap.size := rfl; omega)
        have HO5 := Lib.hid hO5'
        have HN5 := Lib.hid bN5
        clear hO5 hO5' bN5 fN5 n6 n7 bK5 k5 c0 c1
        go_wp2_with fail
        first | go_end0 | refine bodyPost_ret (results_none rfl _ _ _) rfl ?_
        rw [HT.out]
        have hne := own_ne_blk HO5.out HN5.out (by decide)
        have hoo := hout5.trans hout
        refine ⟨rfl, (HE.out.setN H0.out hoo hN _ _).setN H0.out hoo hN _ _, X5, c5, ?_, (HO5.out.setOther hne _ _).setOther hne _ _⟩
        first
          | exact (HN5.out.set 6 (.int .i64 k1)).set 7 (.slice X5 l.length c5)
          | exact (HN5.out.set 7 (.slice X5 l.length c5)).set 6 (.int .i64 k1)
  | false =>
    have HI := Lib.hid hi
    clear hi
    go_wp2_with fail
    rw [rounds_succ]
    go_wp2_with fail
    refine ((HI1 _ h3 s2).out).mono ?_
    rintro e w3' ⟨rfl, k3⟩
    have h3' := h3.next k3
    have bN3' := bN3.fr k3.2 (by omega)
    have bK3' := bK3.fr k3.2 (by omega)
    clear k3 h3 bN3 bK3
    have h3 := h3'
    have bN3 := bN3'
    have bK3 := bK3'
    clear h3' bN3' bK3'
    cases hi : s.is 3 s2 with
    | true =>
      have hk : s.hd.kind ≠ 0 := by rw [is_kind hi]; decide
      have HG : Hid (s.group s1 s2 k1 k2 = match s.on.names with | .error e => .error e | .ok (s1, l) => .ok (s1, k2, l)) := by show _ = _; rw [PS.group, if_neg (by rw [HI.out]; decide), if_pos hi]; rfl
      clear hi
      have HOn := Lib.hid (on_st hg (StQ.start h3.1) hk)
      go_wp2_with fail
      refine (HOn.out).mono ?_
      rintro e w4 ⟨rfl, k4⟩
      have h4 := h3.next k4
      have bN4 := bN3.fr k4.2 (by omega)
      have bK4 := bK3.fr k4.2 (by omega)
      have hg4 := hg.on hk
      have HNm := Lib.hid (pnames_any hM hg4 (show PAt w4.drew P R s.on from h4.1))
      have hz4 := h4.2.size
      clear k4 h3 bN3 bK3 HOn
      cases hnm : s.on.names with
      | error x =>
        have HT : Hid (s.group s1 s2 k1 k2 = .error x) := by show _ = _; rw [HG.out, hnm]
        rw [hnm] at HNm
        clear hnm HG
        have c0 := bK4.cell (j := 0) rfl
        have c1 := bK4.cell (j := 1) rfl
        have hK4 := bK4.lt
        have hN4 := bN4.lt
        go_wp2_with fail
        refine wp_region_any (by kernel_rfl) ?_
        try (change wpAny _ _ _ _ _ _ _ (World.drew _))
        (refine wpAny_take (i := 0) (v := ?_) rfl (by kernel_rfl) (by kernel_rfl) (by kernel_rfl) (fun _ _ _ h => h) (Or.inl ⟨by rfl, ?_⟩) ?_; rotate_left; focus ((intro w; go_simp); (try with_reducible rfl)))
        (refine wpAny_take (i := 1) (v := ?_) rfl (by kernel_rfl) (by kernel_rfl) (by kernel_rfl) (fun _ _ _ h => h) (Or.inl ⟨by rfl, ?_⟩) ?_; rotate_left; focus ((intro w; go_simp); (try with_reducible rfl)))
        (refine wpAny_take (i := 2) (v := ?_) rfl (by kernel_rfl) (by kernel_rfl) (by kernel_rfl) (fun _ _ _ h => h) (Or.inl ⟨by rfl, ?_⟩) ?_; rotate_left; focus ((intro w; go_simp); (try with_reducible rfl)))
        (refine wpAny_take (i := 3) (v := ?_) rfl (by kernel_rfl) (by kernel_rfl) (by kernel_rfl) (fun _ _ _ h => h) (Or.inl ⟨by rfl, ?_⟩) ?_; rotate_left; focus ((intro w; go_simp); (try with_reducible rfl)))
        (refine wpAny_take (i := 5) (v := ?_) rfl (by kernel_rfl) (by kernel_rfl) (by kernel_rfl) (fun _ _ _ h => h) (Or.inl ⟨by rfl, ?_⟩) ?_; rotate_left; focus ((intro w; go_simp); (try with_reducible rfl)))
        refine wpAny_ready (rs := [4, 6]) (by kernel_rfl) (by simp) ?_
        refine AllReady.cons rfl (fun K hK => ?_) ?_
        · go_simp
          (refine hK _ _ ?_; clear hK K)
          refine wpAny_ready (rs := [6]) (by kernel_rfl) (by simp) ?_
          refine AllReady.cons rfl (fun K hK => ?_) AllReady.nil
          go_simp
          go_at_call 80
          refine (HNm.out).mono ?_
          rintro e w5 ⟨rfl, k5⟩
          exact ⟨rfl, by rw [HT.out]; exact ⟨rfl, h4.2.transN k5.undrew⟩⟩
        · refine AllReady.cons rfl (fun K hK => ?_) AllReady.nil
          go_simp
          go_at_call 80
          refine (HNm.out).mono ?_
          rintro e w5 ⟨rfl, k5⟩
          exact ⟨rfl, by rw [HT.out]; exact ⟨rfl, h4.2.transN k5.undrew⟩⟩
      | ok q =>
        obtain ⟨s5, l⟩ := q
        have HT : Hid (s.group s1 s2 k1 k2 = .ok (s5, k2, l)) := by show _ = _; rw [HG.out, hnm]
        have hout5 : s5.out = s.out := (names_step' hnm).1.out
        rw [hnm] at HNm
        clear hnm HG
        have c0 := bK4.cell (j := 0) rfl
        have c1 := bK4.cell (j := 1) rfl
        have hK4 := bK4.lt
        have hN4 := bN4.lt
        have hKN : w.heap.size + 1 ≠ N := by omega
        go_wp2_with fail
        go_region_held3 (fun w' => w'.cell? ⟨w.heap.size + 1, 0, none⟩ = some (.int .i64 k1) ∧ w'.cell? ⟨w.heap.size + 1, 1, none⟩ = some (.int .i64 k2))
          (first | exact ⟨bK5.cell rfl, bK5.cell rfl⟩ | exact ⟨c0, c1⟩ | exact ⟨(bK5.other hKN _).cell rfl, (bK5.other hKN _).cell rfl⟩ | exact ⟨((bK5.other hKN _).other hKN _).cell rfl, ((bK5.other hKN _).other hKN _).cell rfl⟩ | go_keep)
          ((go_at_call 80; refine (HNm.out).mono ?_; rintro e w5 ⟨X5, c5, rfl, hO5, k5⟩; have bK5 := bK4.fr k5.2.undrew (by omega); have bN5 := bN4.fr k5.2.undrew (by omega); have fN5 := bN5.frozen; have n6 := bN5.cell (j := 6) rfl; have n7 := bN5.cell (j := 7) rfl))
        all_goals
          have HE : Hid (StQ P R w0 s5 w5) := h4.next ⟨k5.1, k5.2.undrew⟩
          have hO5' : Own w5 w0.heap.size 9 1 X5 l.length c5 (textsC l) := hO5.lower (by have : w4.drew.heap.size = w4.heap.size := rfl; omega)
          have HO5 := Lib.hid hO5'
          have HN5 := Lib.hid bN5
          clear hO5 hO5' bN5 fN5 n6 n7 bK5 k5 c0 c1
          go_wp2_with fail
          first | go_end0 | refine bodyPost_ret (results_none rfl _ _ _) rfl ?_
          rw [HT.out]
          have hne := own_ne_blk HO5.out HN5.out (by decide)
          have hoo := hout5.trans hout
          refine ⟨rfl, (HE.out.setN H0.out hoo hN _ _).setN H0.out hoo hN _ _, X5, c5, ?_, (HO5.out.setOther hne _ _).setOther hne _ _⟩
          first
            | exact (HN5.out.set 6 (.int .i64 k2)).set 7 (.slice X5 l.length c5)
            | exact (HN5.out.set 7 (.slice X5 l.length c5)).set 6 (.int .i64 k2)
    | false =>
      have HT : Hid (s.group s1 s2 k1 k2 = .ok (s, 0, [])) := by show _ = _; rw [PS.group, if_neg (by rw [HI.out]; decide), if_neg (by rw [hi]; decide)]
      clear hi
      go_wp2_with fail
      rw [rounds_succ]
      go_wp2_with fail
      first | go_end0 | refine bodyPost_ret (results_none rfl _ _ _) rfl ?_
      rw [HT.out]
      obtain ⟨hx1, hx2, hx3⟩ := hx
      refine ⟨rfl, h3, none, 0, ?_, Own.nil_ (by omega)⟩
      have e : ({ x with grp := 0, names := [] } : Nod) = x := by
        cases x
        simp only at hx2 hx3
        subst hx2 hx3
        rfl
      rw [e]
      exact bN3
end Go.Proofs.Ytdikmklijpcjdaa
