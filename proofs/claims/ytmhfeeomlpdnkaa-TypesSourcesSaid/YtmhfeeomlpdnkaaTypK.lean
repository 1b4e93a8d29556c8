/- Types of trees: a node is gone through. -/
import Derived.Test.YtmhfeeomlpdnkaaTypM
namespace Go.Proofs.Ytmhfeeomlpdnkaa
open Go.RowKit

theorem Own.cut {w : World} {base sz n c : Nat} {e : TypeId} {A : Option Addr} {xs : List (List Value)} (h : Own w base e sz A n c xs) {k : Nat} (hk : k ≤ n) : Own w base e sz A k c (xs.take k) := by
  have hl := h.len
  have hfl : ∀ x ∈ xs.take k, x.length = sz := fun x hx => h.2.1 x (List.mem_of_mem_take hx)
  have hlen : (xs.take k).length = k := by rw [List.length_take]; omega
  have htk : (xs.take k).flatten = xs.flatten.take (k * sz) := by
    have h2 : xs.flatten = (xs.take k).flatten ++ (xs.drop k).flatten := by rw [← List.flatten_append, List.take_append_drop]
    have h3 : (xs.take k).flatten.length = k * sz := by rw [flat_len _ sz hfl, hlen]
    rw [h2, ← h3, List.take_left]
  refine ⟨h.1, hfl, hlen, by rw [flat_len _ sz hfl, hlen], ?_⟩
  rcases h.2.2.2.2 with ⟨hv, h0⟩ | ⟨g, cap, cur, hv, hbg, hg, hnc, hcm, hcs, htake⟩
  · injection hv with e1 e2 e3
    subst e1 e3
    obtain rfl : k = 0 := by omega
    have : xs = [] := List.eq_nil_of_length_eq_zero (by omega)
    subst this
    exact .inl ⟨rfl, rfl⟩
  · injection hv with e1 e2 e3
    subst e1 e3
    refine .inr ⟨g, c, cur, rfl, hbg, hg, by omega, hcm, hcs, ?_⟩
    rw [htk, ← htake, List.take_take]
    rw [Nat.min_eq_left (Nat.mul_le_mul_right _ hk)]
theorem eiTyped : EI Try.prog 47 52 1 8 := EI.mk' Try.underlying47 (z := .agg #[.int .i64 0]) (by kernel_rfl) rfl (by omega)
/-- The walk's stack. -/
def StkW (w : World) (P base : Nat) (A : Option Addr) (c : Nat) (st : List Int) : Prop := Blk w P 49 [.slice A st.length c] ∧ Own w base 52 1 A st.length c (intsC st) ∧ base ≤ P
theorem StkW.belowAll {w w' : World} {P base : Nat} {A : Option Addr} {c : Nat} {st : List Int} (h : StkW w P base A c st) (hb : Below w.heap.size w w') : StkW w' P base A c st :=
  ⟨h.1.below hb h.1.lt, h.2.1.belowAll hb, h.2.2⟩
/-- A new value is laid upon what is left of the stack. -/
theorem StkW.laid {w w' : World} {P base n : Nat} {A A' : Option Addr} {c c' : Nat} {st : List Int} {q : Nat} {k : Int} (hP : Blk w P 49 [.slice A n c]) (hbP : base ≤ P) (hO : Own w base 52 1 A q c ((intsC st).take q))
    (hq : q ≤ st.length) (hn : Own w' base 52 1 A' (q + 1) c' ((intsC st).take q ++ [[.int .i64 k]])) (hg : w.grownBy w' (A.map Addr.block)) :
    StkW (w'.setCell ⟨P, 0, none⟩ (.slice A' (q + 1) c')) P base A' c' (st.take q ++ [k]) := by
  have hP' := hP.grown hg (own_ne_blk hO hP (by decide))
  have hl : (st.take q ++ [k]).length = q + 1 := by simp; omega
  have hi : intsC (st.take q ++ [k]) = (intsC st).take q ++ [[.int .i64 k]] := by simp [intsC, List.map_take]
  refine ⟨?_, ?_, hbP⟩
  · rw [hl]; exact hP'.set 0 _
  · rw [hl, hi]; exact hn.setOther (own_ne_blk hn hP' (by decide)) 0 _
/-- The map of what each kind does, as far as it is filled. -/
def leafV (L : Nat) : Value := .func (.func 56) #[] #[.pointer (some ⟨L, 0, none⟩)]
def LeafsAt (M : Nat) (w : World) (es : List (Int × Value)) : Prop := ∀ p ∈ es, ∀ L, p.2 = .func (.func 56) #[] #[.pointer (some ⟨L, 0, none⟩)] → L < w.heap.size ∧ M < L ∧ w.cell? ⟨L, 0, none⟩ = some (.int .i64 p.1)
def LitM (M : Nat) (w2 w : World) (es : List (Int × Value)) : Prop :=
  IntMap w M es ∧ Below M w2 w ∧ M < w.heap.size ∧ ∀ p ∈ es, ∀ L, p.2 = .func (.func 56) #[] #[.pointer (some ⟨L, 0, none⟩)] → L < w.heap.size ∧ M < L ∧ w.cell? ⟨L, 0, none⟩ = some (.int .i64 p.1)
theorem cell_new1 {w : World} {L : Nat} {v : Value} {t : TypeId} (_ : True) (h : L = w.heap.size) : (w.alloc (.cells #[v] t)).cell? ⟨L, 0, none⟩ = some v := by
  subst h
  exact (Blk.new w t [v]).cell rfl
theorem LitM.new {M : Nat} (w2 : World) (h : w2.heap.size = M) : LitM M w2 (w2.alloc (.map #[] 0)) [] := by
  subst h
  exact ⟨IntMap.new w2, (Below.refl _ _).alloc (Nat.le_refl _) _, by simp, by simp⟩
theorem LitM.alloc {M : Nat} {w2 w : World} {es : List (Int × Value)} (h : LitM M w2 w es) (o : Obj) : LitM M w2 (w.alloc o) es := by
  obtain ⟨h1, h2, h3, h4⟩ := h
  refine ⟨h1.alloc o, h2.alloc (by omega) o, by simp; omega, fun p hp L hL => ?_⟩
  obtain ⟨g1, g2, g3⟩ := h4 p hp L hL
  exact ⟨by simp; omega, g2, (World.cell?_alloc_lt w o _ g1).trans g3⟩
theorem LitM.insert {M : Nat} {w2 w w' : World} {es : List (Int × Value)} (h : LitM M w2 w es) {k : Int} {v : Value} (h1 : IntMap w' M (es ++ [(k, v)])) (hg : w.grownBy w' (some M)) (hz : w'.heap.size = w.heap.size)
    (hv : ∀ L, v = .func (.func 56) #[] #[.pointer (some ⟨L, 0, none⟩)] → L < w.heap.size ∧ M < L ∧ w.cell? ⟨L, 0, none⟩ = some (.int .i64 k)) : LitM M w2 w' (es ++ [(k, v)]) := by
  obtain ⟨_, h2, h3, h4⟩ := h
  refine ⟨h1, h2.trans (below_of_grown hg (by omega) (fun g e => by injection e with e; omega)), by omega, fun p hp L hL => ?_⟩
  have key : L < w.heap.size ∧ M < L ∧ w.cell? ⟨L, 0, none⟩ = some (.int .i64 p.1) := by
    rcases List.mem_append.1 hp with hp | hp
    · exact h4 p hp L hL
    · simp at hp
      subst hp
      exact hv L hL
  obtain ⟨g1, g2, g3⟩ := key
  exact ⟨by omega, g2, (World.cell?_of_block (hg.block L g1 (by intro e; injection e with e; omega))).trans g3⟩
theorem wpList_insert_leaf {P : Program} {w2 w : World} {es : List (Int × Value)} {ops : Array Oper} {rest : List Oper} {a : Act} {Q : Exit → Act → World → Prop} {m k x : Operand} {t ty t2 : TypeId} {pos : String} {after : Array Edge} {kt et : TypeId} {key : Int} {L : Nat}
    (ht : P.underlying t = some (.map kt et)) (hk : P.underlying kt = some (.int .i64)) (hm : a.eval m = .map (some w2.heap.size)) (hkey : a.eval k = .int .i64 key) (hv : a.eval x = .func (.func 56) #[] #[.pointer (some ⟨L, 0, none⟩)])
    (hM : LitM w2.heap.size w2 w es) (hL : L = w.heap.size) (hn : es.lookup key = none)
    (h : ∀ w', LitM w2.heap.size w2 w' (es ++ [(key, .func (.func 56) #[] #[.pointer (some ⟨L, 0, none⟩)])]) → wpList P ops Q rest a w') : wpList P ops Q (⟨none, .insert t m k x, ty, pos, after, none⟩ :: rest) a (w.alloc (.cells #[.int .i64 key] t2)) :=
  wpList_insert_int rfl m k x t rfl ht hk hm (hM.alloc _).1 key hkey _ hv hn fun w' h1 h2 h3 => h w' ((hM.alloc _).insert h1 h2 h3 fun L' e => by
    have e2 : L' = L := by simpa using e.symm
    subst e2 hL
    exact ⟨by simp, hM.2.2.1, (Blk.new w t2 [.int .i64 key]).cell rfl⟩)
theorem wpList_insert_fn {P : Program} {w2 w : World} {es : List (Int × Value)} {ops : Array Oper} {rest : List Oper} {a : Act} {Q : Exit → Act → World → Prop} {m k x : Operand} {t ty : TypeId} {pos : String} {after : Array Edge} {kt et : TypeId} {key : Int} {f : FuncId} {fs cs : Array Value}
    (ht : P.underlying t = some (.map kt et)) (hk : P.underlying kt = some (.int .i64)) (hm : a.eval m = .map (some w2.heap.size)) (hkey : a.eval k = .int .i64 key) (hv : a.eval x = .func (.func f) fs cs) (hf : f ≠ 56)
    (hM : LitM w2.heap.size w2 w es) (hn : es.lookup key = none)
    (h : ∀ w', LitM w2.heap.size w2 w' (es ++ [(key, .func (.func f) fs cs)]) → wpList P ops Q rest a w') : wpList P ops Q (⟨none, .insert t m k x, ty, pos, after, none⟩ :: rest) a w :=
  wpList_insert_int rfl m k x t rfl ht hk hm hM.1 key hkey _ hv hn fun w' h1 h2 h3 => h w' (hM.insert h1 h2 h3 fun L' e => absurd (by simpa using congrArg (fun v => match v with | Value.func (.func g) _ _ => g | _ => 0) e) hf)
theorem formB_op {n : Nod} (h : formB n = true) (hk : n.kind = 6) : n.op ≤ 13 := by
  simp only [formB, Bool.and_eq_true] at h
  have h4 := h.2
  rw [kindOk_6 hk] at h4
  simp [inB] at h4
  omega
def NodeRes (base P : Nat) (st : List Int) (x : Nod) (w : World) (e : Ending) (w' : World) : Prop := e = .returned (.int .i64 (stepN st x).1) ∧ Below base w w' ∧ ∃ A c, StkW w' P base A c (stepN st x).2
theorem stepN_bad {st : List Int} {x : Nod} (h : formB x = false) : stepN st x = (190, st) := by simp [stepN, h]
theorem stepN_few {st : List Int} {x : Nod} (h : (st.length : Int) < x.parts) : stepN st x = (190, st) := by simp [stepN, h]
theorem stepN_mat {st : List Int} {x : Nod} (hf : formB x = true) (h : ¬ (st.length : Int) < x.parts) (hm : matCode x.mat ≠ 0) : stepN st x = (193, st) := by simp [stepN, h, hf, hm]
theorem stepN_go {st : List Int} {x : Nod} (hf : formB x = true) (h : ¬ (st.length : Int) < x.parts) (hm : matCode x.mat = 0) :
    stepN st x = ((ofN x (st.drop (st.length - x.parts.toNat))).2, st.take (st.length - x.parts.toNat) ++ [(ofN x (st.drop (st.length - x.parts.toNat))).1]) := by simp [stepN, h, hf, hm]

set_option maxRecDepth 100000 in
set_option maxHeartbeats 8000000 in
theorem tnode_any (x : Nod) (Am An : Option Addr) (cm cn B P base : Nat) (A : Option Addr) (c : Nat) (st : List Int) (w : World) (hrm : Rd w B 3 Am (matsC x.mat)) (hr : Rd w B 1 An (textsC x.names)) (hB : B ≤ base) (hbs : base ≤ w.heap.size) (hok : okNodT x) (hst : StkW w P base A c st) (hml : st.length * 8 + 8 ≤ 140737488355328) :
    Calls Try.prog 20 #[.pointer (some ⟨P, 0, none⟩), .agg #[.int .i64 x.kind, .int .i64 x.op, .string x.text, .slice Am x.mat.length cm, .int .i64 x.width, .int .i64 x.back, .int .i64 x.grp, .slice An x.names.length cn, .bool x.cmp, .int .i64 x.parts]] w (NodeRes base P st x w) := by
  have HOK := Lib.hid hok
  obtain ⟨o1, o2, o3, o4, o5⟩ := hok
  have hcap := hst.2.1.cap
  unfold maxLen at o2 o3 hcap
  have HST := Lib.hid hst
  have hmm := @run_makeMap_plain Try.prog
  have hmf : ∀ (fn : Fn) (first cap : Array Value) (w : World), (Instr.makeFunc fn first cap).run Try.prog w = .ok (.func fn first cap) w := fun _ _ _ _ => rfl
  go_enter Try.func20, Try.ntmps20
  go_wp2
  generalize hW : World.alloc _ _ = W0
  have hX : Blk W0 w.heap.size 34 (nodC x Am cm An cn) := by rw [← hW]; exact Blk.new w _ _
  have hb0 : Below w.heap.size w W0 := by rw [← hW]; exact (Below.refl _ _).alloc (Nat.le_refl _) _
  clear hW
  have hP := hst.1.below hb0 hst.1.lt
  have hsz0 := hb0.size
  clear hst
  have c0 := later_cell hX (j := 0) rfl
  have c1 := later_cell hX (j := 1) rfl
  have c2 := later_cell hX (j := 2) rfl
  have c3 := later_cell hX (j := 3) rfl
  have c4 := later_cell hX (j := 4) rfl
  have c5 := later_cell hX (j := 5) rfl
  have c6 := later_cell hX (j := 6) rfl
  have c7 := later_cell hX (j := 7) rfl
  have c8 := later_cell hX (j := 8) rfl
  have c9 := later_cell hX (j := 9) rfl
  have d0 := later_cell hP (j := 0) rfl
  have HF := fun (z : Later W0) => Lib.hid (tform_any x Am An cm cn B (later W0 z) (later_rd (hr.below (hb0.mono (Nat.le_trans hB hbs))) (Nat.le_trans hB (Nat.le_trans hbs hsz0)) z) (Nat.le_trans hB (Nat.le_trans hbs (Nat.le_trans hsz0 (later_size z)))) HOK.out)
  refine wp_region_later (by kernel_rfl) (by kernel_rfl) ?_
  repeat (any_goals (first | go_big_quiet_step ((go_at_call 32; exact later_call (HF _).out)) | quiet_step ((go_at_call 32; exact later_call (HF _).out)) | (refine wpQuiet_step (fun K hK => ?_); go_simp; split <;> (refine hK _ ?_; clear hK K))))
  all_goals
    refine wpQuiet_nil ?_
    intro _ hw'
    obtain ⟨z, rfl⟩ := hw'
    have hW := hb0.trans ((later_below z).mono hsz0)
    have HM := Lib.hid (matCheck_any x.mat Am x.mat.length cm B (later W0 z) (later_rd (hrm.below (hb0.mono (Nat.le_trans hB hbs))) (Nat.le_trans hB (Nat.le_trans hbs hsz0)) z) rfl (Nat.le_trans hB (Nat.le_trans hbs (Nat.le_trans hsz0 (later_size z)))) o3 o4)
    go_wp2_with (go_at_call 33; refine (HM.out).mono ?_; rintro e w2 ⟨rfl, hb2⟩)
  · go_ret
    exact ⟨ret_int (by rw [stepN_few ‹_›]), hW.mono hbs, A, c, by rw [stepN_few ‹_›]; exact HST.out.belowAll hW⟩
  · have hW2 := hW.trans (hb2.mono hW.size)
    have hf := ‹formB x = true›
    have hp : ¬ (st.length : Int) < x.parts := by omega
    have hm := bne_p ‹(matCode x.mat != 0) = true›
    go_ret
    exact ⟨ret_int (by rw [stepN_mat hf hp hm]), hW2.mono hbs, A, c, by rw [stepN_mat hf hp hm]; exact HST.out.belowAll hW2⟩
  · have hW2 := hW.trans (hb2.mono hW.size)
    have hX2 := (later_blk hX z).below hb2 (later_blk hX z).lt
    have hP2 := (later_blk hP z).below hb2 (later_blk hP z).lt
    have hf := ‹formB x = true›
    have hp : ¬ (st.length : Int) < x.parts := by omega
    have hm := bne_n ‹(matCode x.mat != 0) = false›
    have HG := Lib.hid (stepN_go hf hp hm)
    have HFm := Lib.hid hf
    have hO2 := HST.out.2.1.belowAll hW2
    clear hm hf HM HF
    obtain ⟨hp1, hp2, hp3, hp4⟩ := formB_parts HFm.out
    have HP1 := Lib.hid hp1
    clear hp1 c0 c1 c2 c3 c4 c5 c6 c7 c8 c9 d0
    have hsz2 := hW2.size
    have HL := LitM.new w2 rfl
    go_wp2_with (first
      | (go_at_call 34; refine (tleaf_any _ _).mono ?_; rintro e w' ⟨rfl, rfl⟩)
      | (apply wpList_insert_leaf (w2 := w2) Try.underlying73 Try.underlying3; rfl; rfl; rfl; exact HL; simp; rfl; intro wI HL2; clear HL; have HL := HL2; clear HL2)
      | (apply wpList_insert_fn (w2 := w2) Try.underlying73 Try.underlying3; rfl; rfl; rfl; decide; exact HL; rfl; intro wI HL2; clear HL; have HL := HL2; clear HL2))
    have hPI := hP2.below HL.2.1 hP2.lt
    have hXI := hX2.below HL.2.1 hX2.lt
    have hOI := hO2.belowAll HL.2.1
    have hWI := hW2.trans (HL.2.1.mono hsz2)
    have HM2 := HL.1
    have HC : LeafsAt w2.heap.size wI _ := HL.2.2.2
    have hszI := hWI.size
    clear HL hmm hmf
    obtain ⟨q, hq⟩ : ∃ q, st.length - x.parts.toNat = q := ⟨_, rfl⟩
    rw [hq] at HG
    have hfrom : IntKind.i64.wrap ((st.length : Int) - x.parts) = (q : Int) := by rw [IntKind.wrap_i64]; omega
    have hql : q ≤ st.length := by omega
    have hq0 : (0 : Int) ≤ q := by omega
    have hqI : (q : Int) ≤ st.length := by omega
    have hqp : st.length - q = x.parts.toNat := by omega
    have c9 := hXI.cell (j := 9) rfl
    have d0 := hPI.cell (j := 0) rfl
    have HQP := Lib.hid hqp
    clear hq hqp
    go_quiet (fail)
    go_wp2_with fail
    have hM3 : IntMap (wI.drewN nq) w2.heap.size _ := HM2
    have hP3 : Blk (wI.drewN nq) P _ _ := hPI
    have hX3 : Blk (wI.drewN nq) w.heap.size _ _ := hXI
    have hO3 : Own (wI.drewN nq) base _ 1 A st.length c (intsC st) := hOI
    have hW3 := below_drewN hWI nq
    have hs3 : w.heap.size ≤ (wI.drewN nq).heap.size := hszI
    have HC4 : LeafsAt w2.heap.size (wI.drewN nq) _ := HC
    clear HC hPI hXI hOI hWI hszI HM2 c9 d0 hP2 hX2 hO2 hW2 hsz2
    generalize wI.drewN nq = W3 at *
    have c0 := later_cell hX3 (j := 0) rfl
    have c1 := later_cell hX3 (j := 1) rfl
    have c2 := later_cell hX3 (j := 2) rfl
    have c3 := later_cell hX3 (j := 3) rfl
    have c4 := later_cell hX3 (j := 4) rfl
    have c5 := later_cell hX3 (j := 5) rfl
    have c6 := later_cell hX3 (j := 6) rfl
    have c7 := later_cell hX3 (j := 7) rfl
    have c8 := later_cell hX3 (j := 8) rfl
    have c9 := later_cell hX3 (j := 9) rfl
    have d0 := later_cell hP3 (j := 0) rfl
    simp only [List.nil_append, List.cons_append] at HC4 hM3
    have key : ∀ k : Int, x.kind = k → partsN k = x.parts := fun k e => by rw [← e]; exact HP1.out
    by_cases k1 : x.kind = 1
    · have HOf := Lib.hid (ofN_1 (p := st.drop q) k1)
      have hlk := fun z => run_lookup_int (w := later W3 z) Try.underlying73 Try.underlying3 (hM3.later z) x.kind (by rw [k1]; rfl)
      obtain ⟨l1, l2, l3⟩ := HC4 _ (List.mem_cons_self) _ rfl
      have l4 := later_at l1 l3
      have l5 := fun z : Later W3 => Nat.lt_of_lt_of_le l1 (later_size z)
      clear k1 HC4 hM3 key l1 l2 l3
      rcases hO3.form with ⟨rfl, h0, rfl⟩ | ⟨g, rfl, _, hg⟩
      · obtain rfl : st = [] := List.eq_nil_of_length_eq_zero h0
        obtain rfl : q = 0 := by simpa using hql
        clear h0
        refine wp_region_later (by kernel_rfl) (by kernel_rfl) ?_
        repeat (go_big_quiet_step ((go_at_call 56; exact later_call (tleaf1_any 1 _ _ _ _ rfl _ (l4 _) (l5 _)))))
        refine wpQuiet_nil ?_
        intro _ hw'
        obtain ⟨z, rfl⟩ := hw'
        have hP4 := later_blk hP3 z
        have hO4 := hO3.belowAll (later_below z)
        have hW4 := hW3.trans ((later_below z).mono hs3)
        have hs4 := hW4.size
        clear c0 c1 c2 c3 c4 c5 c6 c7 c8 c9 d0 hlk l4 l5 hP3 hX3 hO3 hW3 hs3
        generalize later W3 z = W4 at *
        have d0 := hP4.cell (j := 0) rfl
        go_wp2_with (at_builtin; refine wpList_append_rd (ys := [[.int .i64 1]]) _ rfl (.tmp 68) (.tmp 71) _ rfl eiTyped rfl ((hO4.cut hql).alloc _) rfl (Rd.new W4 (xs := [[.int .i64 1]]) (by simp) _ rfl) rfl (by intro y hy u hu; simp at hy; subst hy; simp at hu; subst hu; rfl) (by simp only [maxLen]; omega) (by omega) (by simp; omega) ?_; intro A' c' w5 ho hg hat hb5; have hP5 := (hP4.alloc _).grown hg (own_ne_blk (hO4.cut hql) hP4 (by decide)); have d5 := hP5.cell (j := 0) rfl; have f5 := hP5.frozen 0)
        all_goals
          go_ret
          have hE := HG.out
          rw [HOf.out] at hE
          refine ⟨ret_int (by rw [hE]), ?_, A', c', ?_⟩
          · exact (((hW4.mono hbs).alloc (by omega) _).trans hb5).setCell (p := ⟨P, 0, none⟩) HST.out.2.2 _
          · rw [hE]; exact StkW.laid (hP4.alloc _) HST.out.2.2 ((hO4.cut hql).alloc _) hql ho hg
      · clear hg
        refine wp_region_later (by kernel_rfl) (by kernel_rfl) ?_
        repeat (go_big_quiet_step ((go_at_call 56; exact later_call (tleaf1_any 1 _ _ _ _ rfl _ (l4 _) (l5 _)))))
        refine wpQuiet_nil ?_
        intro _ hw'
        obtain ⟨z, rfl⟩ := hw'
        have hP4 := later_blk hP3 z
        have hO4 := hO3.belowAll (later_below z)
        have hW4 := hW3.trans ((later_below z).mono hs3)
        have hs4 := hW4.size
        clear c0 c1 c2 c3 c4 c5 c6 c7 c8 c9 d0 hlk l4 l5 hP3 hX3 hO3 hW3 hs3
        generalize later W3 z = W4 at *
        have d0 := hP4.cell (j := 0) rfl
        go_wp2_with (at_builtin; refine wpList_append_rd (ys := [[.int .i64 1]]) _ rfl (.tmp 68) (.tmp 71) _ rfl eiTyped rfl ((hO4.cut hql).alloc _) rfl (Rd.new W4 (xs := [[.int .i64 1]]) (by simp) _ rfl) rfl (by intro y hy u hu; simp at hy; subst hy; simp at hu; subst hu; rfl) (by simp only [maxLen]; omega) (by omega) (by simp; omega) ?_; intro A' c' w5 ho hg hat hb5; have hP5 := (hP4.alloc _).grown hg (own_ne_blk (hO4.cut hql) hP4 (by decide)); have d5 := hP5.cell (j := 0) rfl; have f5 := hP5.frozen 0)
        all_goals
          go_ret
          have hE := HG.out
          rw [HOf.out] at hE
          refine ⟨ret_int (by rw [hE]), ?_, A', c', ?_⟩
          · exact (((hW4.mono hbs).alloc (by omega) _).trans hb5).setCell (p := ⟨P, 0, none⟩) HST.out.2.2 _
          · rw [hE]; exact StkW.laid (hP4.alloc _) HST.out.2.2 ((hO4.cut hql).alloc _) hql ho hg
    by_cases k2 : x.kind = 2
    · have HOf := Lib.hid (ofN_2 (p := st.drop q) k2)
      have hlk := fun z => run_lookup_int (w := later W3 z) Try.underlying73 Try.underlying3 (hM3.later z) x.kind (by rw [k2]; rfl)
      obtain ⟨l1, l2, l3⟩ := HC4 _ (List.mem_cons_of_mem _ List.mem_cons_self) _ rfl
      have l4 := later_at l1 l3
      have l5 := fun z : Later W3 => Nat.lt_of_lt_of_le l1 (later_size z)
      clear k2 HC4 hM3 key l1 l2 l3
      rcases hO3.form with ⟨rfl, h0, rfl⟩ | ⟨g, rfl, _, hg⟩
      · obtain rfl : st = [] := List.eq_nil_of_length_eq_zero h0
        obtain rfl : q = 0 := by simpa using hql
        clear h0
        refine wp_region_later (by kernel_rfl) (by kernel_rfl) ?_
        repeat (go_big_quiet_step ((go_at_call 56; exact later_call (tleaf1_any 2 _ _ _ _ rfl _ (l4 _) (l5 _)))))
        refine wpQuiet_nil ?_
        intro _ hw'
        obtain ⟨z, rfl⟩ := hw'
        have hP4 := later_blk hP3 z
        have hO4 := hO3.belowAll (later_below z)
        have hW4 := hW3.trans ((later_below z).mono hs3)
        have hs4 := hW4.size
        clear c0 c1 c2 c3 c4 c5 c6 c7 c8 c9 d0 hlk l4 l5 hP3 hX3 hO3 hW3 hs3
        generalize later W3 z = W4 at *
        have d0 := hP4.cell (j := 0) rfl
        go_wp2_with (at_builtin; refine wpList_append_rd (ys := [[.int .i64 2]]) _ rfl (.tmp 68) (.tmp 71) _ rfl eiTyped rfl ((hO4.cut hql).alloc _) rfl (Rd.new W4 (xs := [[.int .i64 2]]) (by simp) _ rfl) rfl (by intro y hy u hu; simp at hy; subst hy; simp at hu; subst hu; rfl) (by simp only [maxLen]; omega) (by omega) (by simp; omega) ?_; intro A' c' w5 ho hg hat hb5; have hP5 := (hP4.alloc _).grown hg (own_ne_blk (hO4.cut hql) hP4 (by decide)); have d5 := hP5.cell (j := 0) rfl; have f5 := hP5.frozen 0)
        all_goals
          go_ret
          have hE := HG.out
          rw [HOf.out] at hE
          refine ⟨ret_int (by rw [hE]), ?_, A', c', ?_⟩
          · exact (((hW4.mono hbs).alloc (by omega) _).trans hb5).setCell (p := ⟨P, 0, none⟩) HST.out.2.2 _
          · rw [hE]; exact StkW.laid (hP4.alloc _) HST.out.2.2 ((hO4.cut hql).alloc _) hql ho hg
      · clear hg
        refine wp_region_later (by kernel_rfl) (by kernel_rfl) ?_
        repeat (go_big_quiet_step ((go_at_call 56; exact later_call (tleaf1_any 2 _ _ _ _ rfl _ (l4 _) (l5 _)))))
        refine wpQuiet_nil ?_
        intro _ hw'
        obtain ⟨z, rfl⟩ := hw'
        have hP4 := later_blk hP3 z
        have hO4 := hO3.belowAll (later_below z)
        have hW4 := hW3.trans ((later_below z).mono hs3)
        have hs4 := hW4.size
        clear c0 c1 c2 c3 c4 c5 c6 c7 c8 c9 d0 hlk l4 l5 hP3 hX3 hO3 hW3 hs3
        generalize later W3 z = W4 at *
        have d0 := hP4.cell (j := 0) rfl
        go_wp2_with (at_builtin; refine wpList_append_rd (ys := [[.int .i64 2]]) _ rfl (.tmp 68) (.tmp 71) _ rfl eiTyped rfl ((hO4.cut hql).alloc _) rfl (Rd.new W4 (xs := [[.int .i64 2]]) (by simp) _ rfl) rfl (by intro y hy u hu; simp at hy; subst hy; simp at hu; subst hu; rfl) (by simp only [maxLen]; omega) (by omega) (by simp; omega) ?_; intro A' c' w5 ho hg hat hb5; have hP5 := (hP4.alloc _).grown hg (own_ne_blk (hO4.cut hql) hP4 (by decide)); have d5 := hP5.cell (j := 0) rfl; have f5 := hP5.frozen 0)
        all_goals
          go_ret
          have hE := HG.out
          rw [HOf.out] at hE
          refine ⟨ret_int (by rw [hE]), ?_, A', c', ?_⟩
          · exact (((hW4.mono hbs).alloc (by omega) _).trans hb5).setCell (p := ⟨P, 0, none⟩) HST.out.2.2 _
          · rw [hE]; exact StkW.laid (hP4.alloc _) HST.out.2.2 ((hO4.cut hql).alloc _) hql ho hg
    by_cases k3 : x.kind = 3
    · have HOf := Lib.hid (ofN_3 (p := st.drop q) k3)
      have hlk := fun z => run_lookup_int (w := later W3 z) Try.underlying73 Try.underlying3 (hM3.later z) x.kind (by rw [k3]; rfl)
      obtain ⟨l1, l2, l3⟩ := HC4 _ (List.mem_cons_of_mem _ (List.mem_cons_of_mem _ List.mem_cons_self)) _ rfl
      have l4 := later_at l1 l3
      have l5 := fun z : Later W3 => Nat.lt_of_lt_of_le l1 (later_size z)
      clear k3 HC4 hM3 key l1 l2 l3
      rcases hO3.form with ⟨rfl, h0, rfl⟩ | ⟨g, rfl, _, hg⟩
      · obtain rfl : st = [] := List.eq_nil_of_length_eq_zero h0
        obtain rfl : q = 0 := by simpa using hql
        clear h0
        refine wp_region_later (by kernel_rfl) (by kernel_rfl) ?_
        repeat (go_big_quiet_step ((go_at_call 56; exact later_call (tleaf1_any 3 _ _ _ _ rfl _ (l4 _) (l5 _)))))
        refine wpQuiet_nil ?_
        intro _ hw'
        obtain ⟨z, rfl⟩ := hw'
        have hP4 := later_blk hP3 z
        have hO4 := hO3.belowAll (later_below z)
        have hW4 := hW3.trans ((later_below z).mono hs3)
        have hs4 := hW4.size
        clear c0 c1 c2 c3 c4 c5 c6 c7 c8 c9 d0 hlk l4 l5 hP3 hX3 hO3 hW3 hs3
        generalize later W3 z = W4 at *
        have d0 := hP4.cell (j := 0) rfl
        go_wp2_with (at_builtin; refine wpList_append_rd (ys := [[.int .i64 3]]) _ rfl (.tmp 68) (.tmp 71) _ rfl eiTyped rfl ((hO4.cut hql).alloc _) rfl (Rd.new W4 (xs := [[.int .i64 3]]) (by simp) _ rfl) rfl (by intro y hy u hu; simp at hy; subst hy; simp at hu; subst hu; rfl) (by simp only [maxLen]; omega) (by omega) (by simp; omega) ?_; intro A' c' w5 ho hg hat hb5; have hP5 := (hP4.alloc _).grown hg (own_ne_blk (hO4.cut hql) hP4 (by decide)); have d5 := hP5.cell (j := 0) rfl; have f5 := hP5.frozen 0)
        all_goals
          go_ret
          have hE := HG.out
          rw [HOf.out] at hE
          refine ⟨ret_int (by rw [hE]), ?_, A', c', ?_⟩
          · exact (((hW4.mono hbs).alloc (by omega) _).trans hb5).setCell (p := ⟨P, 0, none⟩) HST.out.2.2 _
          · rw [hE]; exact StkW.laid (hP4.alloc _) HST.out.2.2 ((hO4.cut hql).alloc _) hql ho hg
      · clear hg
        refine wp_region_later (by kernel_rfl) (by kernel_rfl) ?_
        repeat (go_big_quiet_step ((go_at_call 56; exact later_call (tleaf1_any 3 _ _ _ _ rfl _ (l4 _) (l5 _)))))
        refine wpQuiet_nil ?_
        intro _ hw'
        obtain ⟨z, rfl⟩ := hw'
        have hP4 := later_blk hP3 z
        have hO4 := hO3.belowAll (later_below z)
        have hW4 := hW3.trans ((later_below z).mono hs3)
        have hs4 := hW4.size
        clear c0 c1 c2 c3 c4 c5 c6 c7 c8 c9 d0 hlk l4 l5 hP3 hX3 hO3 hW3 hs3
        generalize later W3 z = W4 at *
        have d0 := hP4.cell (j := 0) rfl
        go_wp2_with (at_builtin; refine wpList_append_rd (ys := [[.int .i64 3]]) _ rfl (.tmp 68) (.tmp 71) _ rfl eiTyped rfl ((hO4.cut hql).alloc _) rfl (Rd.new W4 (xs := [[.int .i64 3]]) (by simp) _ rfl) rfl (by intro y hy u hu; simp at hy; subst hy; simp at hu; subst hu; rfl) (by simp only [maxLen]; omega) (by omega) (by simp; omega) ?_; intro A' c' w5 ho hg hat hb5; have hP5 := (hP4.alloc _).grown hg (own_ne_blk (hO4.cut hql) hP4 (by decide)); have d5 := hP5.cell (j := 0) rfl; have f5 := hP5.frozen 0)
        all_goals
          go_ret
          have hE := HG.out
          rw [HOf.out] at hE
          refine ⟨ret_int (by rw [hE]), ?_, A', c', ?_⟩
          · exact (((hW4.mono hbs).alloc (by omega) _).trans hb5).setCell (p := ⟨P, 0, none⟩) HST.out.2.2 _
          · rw [hE]; exact StkW.laid (hP4.alloc _) HST.out.2.2 ((hO4.cut hql).alloc _) hql ho hg
    by_cases k4 : x.kind = 4
    · have hpt := key 4 k4
      have hp1 : x.parts = 1 := by rw [← hpt]; rfl
      have hlen : (st.drop q).length = 1 := by rw [List.length_drop, HQP.out, hp1]; rfl
      obtain ⟨p0, hp0⟩ : ∃ p0, st.drop q = [p0] := by
        match st.drop q, hlen with
        | [p0], _ => exact ⟨p0, rfl⟩
      rw [hp0] at HG
      have hlk := fun z => run_lookup_int (w := later W3 z) Try.underlying73 Try.underlying3 (hM3.later z) x.kind (by rw [k4]; rfl)
      have hq1 : q + 1 = st.length := by rw [List.length_drop] at hlen; omega
      have hat0 : (intsC st)[q]? = some [.int .i64 p0] := intsC_at (by have := congrArg (fun l => l[0]?) hp0; simpa using this)
      rcases hO3.form with ⟨_, h0, _⟩ | ⟨g, rfl, _, hg⟩
      · omega
      have q0 := hO3.rd.at1 hat0
      obtain ⟨b, o, e, _, hc⟩ := q0
      injection e with e
      injection e with e1 e2
      subst e1 e2
      have l4 := later_at hg hc
      have l5 := fun z : Later W3 => Nat.lt_of_lt_of_le hg (later_size z)
      have hcap3 := hO3.cap
      have hcq : ¬ c = q := by omega
      have hnq : st.length - q = 1 := by omega
      have HK := Lib.hid k4
      clear k4 HC4 hM3 key hpt hp1 hlen hp0 hat0 hc hg hq1
      refine wp_region_later (by kernel_rfl) (by kernel_rfl) ?_
      repeat (go_big_quiet_step ((go_at_call 35; exact later_call (tcall_any x Am An cm cn _ p0 _ _ _ _ (by simpa using l4 _) (l5 _) HK.out))))
      refine wpQuiet_nil ?_
      intro _ hw'
      obtain ⟨z, rfl⟩ := hw'
      have hP4 := later_blk hP3 z
      have hO4 := hO3.belowAll (later_below z)
      have hW4 := hW3.trans ((later_below z).mono hs3)
      have hs4 := hW4.size
      clear c0 c1 c2 c3 c4 c5 c6 c7 c8 c9 d0 hlk l4 l5 hP3 hX3 hO3 hW3 hs3
      generalize later W3 z = W4 at *
      have d0 := hP4.cell (j := 0) rfl
      go_wp2_with (at_builtin; refine wpList_append_rd (ys := [[.int .i64 (ofN x [p0]).1]]) _ rfl (.tmp 68) (.tmp 71) _ rfl eiTyped rfl ((hO4.cut hql).alloc _) rfl (Rd.new W4 (xs := [[.int .i64 (ofN x [p0]).1]]) (by simp) _ rfl) rfl (by intro y hy u hu; simp at hy; subst hy; simp at hu; subst hu; rfl) (by simp only [maxLen]; omega) (by omega) (by simp; omega) ?_; intro A' c' w5 ho hg hat hb5; have hP5 := (hP4.alloc _).grown hg (own_ne_blk (hO4.cut hql) hP4 (by decide)); have d5 := hP5.cell (j := 0) rfl; have f5 := hP5.frozen 0)
      all_goals
        go_ret
        have hE := HG.out
        refine ⟨ret_int (by rw [hE]), ?_, A', c', ?_⟩
        · exact (((hW4.mono hbs).alloc (by omega) _).trans hb5).setCell (p := ⟨P, 0, none⟩) HST.out.2.2 _
        · rw [hE]; exact StkW.laid (hP4.alloc _) HST.out.2.2 ((hO4.cut hql).alloc _) hql ho hg
    by_cases k5 : x.kind = 5
    · have hpt := key 5 k5
      have hp1 : x.parts = 1 := by rw [← hpt]; rfl
      have hlen : (st.drop q).length = 1 := by rw [List.length_drop, HQP.out, hp1]; rfl
      obtain ⟨p0, hp0⟩ : ∃ p0, st.drop q = [p0] := by
        match st.drop q, hlen with
        | [p0], _ => exact ⟨p0, rfl⟩
      rw [hp0] at HG
      have hlk := fun z => run_lookup_int (w := later W3 z) Try.underlying73 Try.underlying3 (hM3.later z) x.kind (by rw [k5]; rfl)
      have hq1 : q + 1 = st.length := by rw [List.length_drop] at hlen; omega
      have hat0 : (intsC st)[q]? = some [.int .i64 p0] := intsC_at (by have := congrArg (fun l => l[0]?) hp0; simpa using this)
      rcases hO3.form with ⟨_, h0, _⟩ | ⟨g, rfl, _, hg⟩
      · omega
      have q0 := hO3.rd.at1 hat0
      obtain ⟨b, o, e, _, hc⟩ := q0
      injection e with e
      injection e with e1 e2
      subst e1 e2
      have l4 := later_at hg hc
      have l5 := fun z : Later W3 => Nat.lt_of_lt_of_le hg (later_size z)
      have hcap3 := hO3.cap
      have hcq : ¬ c = q := by omega
      have hnq : st.length - q = 1 := by omega
      have HK := Lib.hid k5
      clear k5 HC4 hM3 key hpt hp1 hlen hp0 hat0 hc hg hq1
      refine wp_region_later (by kernel_rfl) (by kernel_rfl) ?_
      repeat (go_big_quiet_step ((go_at_call 36; exact later_call (tagg_any x Am An cm cn _ p0 _ _ _ _ (by simpa using l4 _) (l5 _) HK.out))))
      refine wpQuiet_nil ?_
      intro _ hw'
      obtain ⟨z, rfl⟩ := hw'
      have hP4 := later_blk hP3 z
      have hO4 := hO3.belowAll (later_below z)
      have hW4 := hW3.trans ((later_below z).mono hs3)
      have hs4 := hW4.size
      clear c0 c1 c2 c3 c4 c5 c6 c7 c8 c9 d0 hlk l4 l5 hP3 hX3 hO3 hW3 hs3
      generalize later W3 z = W4 at *
      have d0 := hP4.cell (j := 0) rfl
      go_wp2_with (at_builtin; refine wpList_append_rd (ys := [[.int .i64 (ofN x [p0]).1]]) _ rfl (.tmp 68) (.tmp 71) _ rfl eiTyped rfl ((hO4.cut hql).alloc _) rfl (Rd.new W4 (xs := [[.int .i64 (ofN x [p0]).1]]) (by simp) _ rfl) rfl (by intro y hy u hu; simp at hy; subst hy; simp at hu; subst hu; rfl) (by simp only [maxLen]; omega) (by omega) (by simp; omega) ?_; intro A' c' w5 ho hg hat hb5; have hP5 := (hP4.alloc _).grown hg (own_ne_blk (hO4.cut hql) hP4 (by decide)); have d5 := hP5.cell (j := 0) rfl; have f5 := hP5.frozen 0)
      all_goals
        go_ret
        have hE := HG.out
        refine ⟨ret_int (by rw [hE]), ?_, A', c', ?_⟩
        · exact (((hW4.mono hbs).alloc (by omega) _).trans hb5).setCell (p := ⟨P, 0, none⟩) HST.out.2.2 _
        · rw [hE]; exact StkW.laid (hP4.alloc _) HST.out.2.2 ((hO4.cut hql).alloc _) hql ho hg
    by_cases k7 : x.kind = 7
    · have hpt := key 7 k7
      have hp1 : x.parts = 1 := by rw [← hpt]; rfl
      have hlen : (st.drop q).length = 1 := by rw [List.length_drop, HQP.out, hp1]; rfl
      obtain ⟨p0, hp0⟩ : ∃ p0, st.drop q = [p0] := by
        match st.drop q, hlen with
        | [p0], _ => exact ⟨p0, rfl⟩
      rw [hp0] at HG
      have hlk := fun z => run_lookup_int (w := later W3 z) Try.underlying73 Try.underlying3 (hM3.later z) x.kind (by rw [k7]; rfl)
      have hq1 : q + 1 = st.length := by rw [List.length_drop] at hlen; omega
      have hat0 : (intsC st)[q]? = some [.int .i64 p0] := intsC_at (by have := congrArg (fun l => l[0]?) hp0; simpa using this)
      rcases hO3.form with ⟨_, h0, _⟩ | ⟨g, rfl, _, hg⟩
      · omega
      have q0 := hO3.rd.at1 hat0
      obtain ⟨b, o, e, _, hc⟩ := q0
      injection e with e
      injection e with e1 e2
      subst e1 e2
      have l4 := later_at hg hc
      have l5 := fun z : Later W3 => Nat.lt_of_lt_of_le hg (later_size z)
      have hcap3 := hO3.cap
      have hcq : ¬ c = q := by omega
      have hnq : st.length - q = 1 := by omega
      have HK := Lib.hid k7
      clear k7 HC4 hM3 key hpt hp1 hlen hp0 hat0 hc hg hq1
      refine wp_region_later (by kernel_rfl) (by kernel_rfl) ?_
      repeat (go_big_quiet_step ((go_at_call 38; exact later_call (tneg_any x Am An cm cn _ p0 _ _ _ _ (by simpa using l4 _) (l5 _) HK.out))))
      refine wpQuiet_nil ?_
      intro _ hw'
      obtain ⟨z, rfl⟩ := hw'
      have hP4 := later_blk hP3 z
      have hO4 := hO3.belowAll (later_below z)
      have hW4 := hW3.trans ((later_below z).mono hs3)
      have hs4 := hW4.size
      clear c0 c1 c2 c3 c4 c5 c6 c7 c8 c9 d0 hlk l4 l5 hP3 hX3 hO3 hW3 hs3
      generalize later W3 z = W4 at *
      have d0 := hP4.cell (j := 0) rfl
      go_wp2_with (at_builtin; refine wpList_append_rd (ys := [[.int .i64 (ofN x [p0]).1]]) _ rfl (.tmp 68) (.tmp 71) _ rfl eiTyped rfl ((hO4.cut hql).alloc _) rfl (Rd.new W4 (xs := [[.int .i64 (ofN x [p0]).1]]) (by simp) _ rfl) rfl (by intro y hy u hu; simp at hy; subst hy; simp at hu; subst hu; rfl) (by simp only [maxLen]; omega) (by omega) (by simp; omega) ?_; intro A' c' w5 ho hg hat hb5; have hP5 := (hP4.alloc _).grown hg (own_ne_blk (hO4.cut hql) hP4 (by decide)); have d5 := hP5.cell (j := 0) rfl; have f5 := hP5.frozen 0)
      all_goals
        go_ret
        have hE := HG.out
        refine ⟨ret_int (by rw [hE]), ?_, A', c', ?_⟩
        · exact (((hW4.mono hbs).alloc (by omega) _).trans hb5).setCell (p := ⟨P, 0, none⟩) HST.out.2.2 _
        · rw [hE]; exact StkW.laid (hP4.alloc _) HST.out.2.2 ((hO4.cut hql).alloc _) hql ho hg
    have hk : x.kind = 6 := by omega
    have hpt := key 6 hk
    have hp1 : x.parts = 2 := by rw [← hpt]; rfl
    have hlen : (st.drop q).length = 2 := by rw [List.length_drop, HQP.out, hp1]; rfl
    obtain ⟨p0, p1, hp0⟩ : ∃ p0 p1, st.drop q = [p0, p1] := by
      match st.drop q, hlen with
      | [p0, p1], _ => exact ⟨p0, p1, rfl⟩
    rw [hp0] at HG
    have hlk := fun z => run_lookup_int (w := later W3 z) Try.underlying73 Try.underlying3 (hM3.later z) x.kind (by rw [hk]; rfl)
    have hq1 : q + 2 = st.length := by rw [List.length_drop] at hlen; omega
    have hat0 : (intsC st)[q]? = some [.int .i64 p0] := intsC_at (by have := congrArg (fun l => l[0]?) hp0; simpa using this)
    have hat1 : (intsC st)[q + 1]? = some [.int .i64 p1] := intsC_at (by have := congrArg (fun l => l[1]?) hp0; simpa using this)
    rcases hO3.form with ⟨_, h0, _⟩ | ⟨g, rfl, _, hg⟩
    · omega
    obtain ⟨b, o, e, _, hc⟩ := hO3.rd.at1 hat0
    injection e with e
    injection e with e1 e2
    subst e1 e2
    obtain ⟨b, o, e, _, hc1⟩ := hO3.rd.at1 hat1
    injection e with e
    injection e with e1 e2
    subst e1 e2
    have l4 := later_at hg hc
    have l6 := later_at hg hc1
    have l5 := fun z : Later W3 => Nat.lt_of_lt_of_le hg (later_size z)
    have hcap3 := hO3.cap
    have hcq : ¬ c = q := by omega
    have hnq : st.length - q = 2 := by omega
    have HK := Lib.hid hk
    have hop : x.op ≤ 13 := formB_op HFm.out hk
    clear k1 k2 k3 k4 k5 k7 hk HC4 hM3 key hpt hp1 hlen hp0 hat0 hat1 hc hc1 hg hq1
    refine wp_region_later (by kernel_rfl) (by kernel_rfl) ?_
    repeat (go_big_quiet_step ((go_at_call 37; exact later_call (tbin_any x Am An cm cn _ p0 p1 _ _ _ _ (by simpa using l4 _) (by simpa [Nat.add_assoc] using l6 _) (l5 _) HK.out hop))))
    refine wpQuiet_nil ?_
    intro _ hw'
    obtain ⟨z, rfl⟩ := hw'
    have hP4 := later_blk hP3 z
    have hO4 := hO3.belowAll (later_below z)
    have hW4 := hW3.trans ((later_below z).mono hs3)
    have hs4 := hW4.size
    clear c0 c1 c2 c3 c4 c5 c6 c7 c8 c9 d0 hlk l4 l5 l6 hP3 hX3 hO3 hW3 hs3
    generalize later W3 z = W4 at *
    have d0 := hP4.cell (j := 0) rfl
    go_wp2_with (at_builtin; refine wpList_append_rd (ys := [[.int .i64 (ofN x [p0, p1]).1]]) _ rfl (.tmp 68) (.tmp 71) _ rfl eiTyped rfl ((hO4.cut hql).alloc _) rfl (Rd.new W4 (xs := [[.int .i64 (ofN x [p0, p1]).1]]) (by simp) _ rfl) rfl (by intro y hy u hu; simp at hy; subst hy; simp at hu; subst hu; rfl) (by simp only [maxLen]; omega) (by omega) (by simp; omega) ?_; intro A' c' w5 ho hg hat hb5; have hP5 := (hP4.alloc _).grown hg (own_ne_blk (hO4.cut hql) hP4 (by decide)); have d5 := hP5.cell (j := 0) rfl; have f5 := hP5.frozen 0)
    all_goals
      go_ret
      have hE := HG.out
      refine ⟨ret_int (by rw [hE]), ?_, A', c', ?_⟩
      · exact (((hW4.mono hbs).alloc (by omega) _).trans hb5).setCell (p := ⟨P, 0, none⟩) HST.out.2.2 _
      · rw [hE]; exact StkW.laid (hP4.alloc _) HST.out.2.2 ((hO4.cut hql).alloc _) hql ho hg
  · have hf : formB x = false := by simpa using ‹¬ formB x = true›
    go_ret
    exact ⟨ret_int (by rw [stepN_bad hf]), hW.mono hbs, A, c, by rw [stepN_bad hf]; exact HST.out.belowAll hW⟩
end Go.Proofs.Ytmhfeeomlpdnkaa
