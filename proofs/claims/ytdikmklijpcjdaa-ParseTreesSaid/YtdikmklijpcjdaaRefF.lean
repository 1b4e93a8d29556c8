/- How the document reads a query: one part of it. -/
import Derived.Test.YtdikmklijpcjdaaRefE
import Derived.Deep.CutBlock
namespace Go.Proofs.Ytdikmklijpcjdaa
open Go.RowKit
attribute [local go_sem ↓] Go.wp_at_zero Go.wp_at_succ tok_f0 tok_f2 tok_f3

section
variable {e : PS → Rp PS} {s : PS}
theorem oneQ_num (hk : s.hd.kind = 1) : oneP e s = onR (layR (.ok s) (numN s.hd.text)) := by
  rw [oneP, if_pos hk]; rfl
theorem one_open (hk : s.hd.kind ≠ 1) (hi : s.is 5 sO = true) : oneP e s = bracketP e s := by
  rw [oneP, if_neg hk, if_pos hi]
theorem one_func (hk : s.hd.kind = 3) (hf : 0 < numW funcsL s.hd.text) : oneP e s = layR (bindR (.ok s.on) (bracketP e)) (callN (numW funcsL s.hd.text)) := by
  rw [oneP, if_neg (by omega), if_neg (fun h => by have := is_kind h; omega), if_pos ⟨hk, hf⟩]
  show _ = layR (bracketP e s.on) _
  cases bracketP e s.on with
  | error x => rfl
  | ok s1 => rfl
def aggR (e : PS → Rp PS) (a : Int) (q : Rp (PS × Int × List ByteArray)) : Rp PS := match q with
  | .error x => .error x
  | .ok (s1, g, l) => layR (bracketP e s1) (aggN a g l)
theorem one_agg (hk : s.hd.kind = 3) (hf : ¬ 0 < numW funcsL s.hd.text) (ha : 0 < numW aggsL s.hd.text) : oneP e s = aggR e (numW aggsL s.hd.text) (s.on.group sBy sWithout 1 2) := by
  rw [oneP, if_neg (by omega), if_neg (fun h => by have := is_kind h; omega), if_neg (fun h => hf h.2), if_pos ⟨hk, ha⟩]
  cases s.on.group sBy sWithout 1 2 with
  | error x => rfl
  | ok q =>
    obtain ⟨s1, g, l⟩ := q
    show (match bracketP e s1 with | .error x => .error x | .ok s2 => .ok (s2.lay (aggN (numW aggsL s.hd.text) g l))) = layR (bracketP e s1) (aggN (numW aggsL s.hd.text) g l)
    cases bracketP e s1 with
    | error x => rfl
    | ok s2 => rfl
theorem one_sel (hk : s.hd.kind ≠ 1) (hi : s.is 5 sO = false) (hf : ¬ (s.hd.kind = 3 ∧ 0 < numW funcsL s.hd.text)) (ha : ¬ (s.hd.kind = 3 ∧ 0 < numW aggsL s.hd.text)) : oneP e s = chooseP s := by
  rw [oneP, if_neg hk, if_neg (by rw [hi]; decide), if_neg hf, if_neg ha]
theorem choose_fail (hw : s.wordB = false) (hc : s.is 5 sCurl = false) : chooseP s = failR (.ok s) 181 := by
  rw [choose_eq, PS.sel1, if_neg (by rw [hw]; decide)]
  dsimp only
  rw [hw, sel2P, PS.sel2, if_neg (by rw [hc]; decide), if_neg (by decide)]
  rfl
theorem curl_sel (hi : s.is 5 sCurl = true) : oneP e s = chooseP s := by
  have hk := is_kind hi
  refine one_sel (by omega) ?_ (fun h => by omega) (fun h => by omega)
  simp only [PS.is, Bool.and_eq_true, decide_eq_true_eq] at hi
  simp only [PS.is, hi.2]
  rw [decide_eq_false (by decide : ¬ sCurl = sO), Bool.and_false]
end
theorem TAt.ne_blk {P : Nat} {T : List Tok} {R : Option Addr × Nat} {O : List Nod} {w : World} {r : Rp PS} {N : Nat} {e : TypeId} {cs : List Value} (h : TAt w P T R O r) (hb : Blk w N e cs) (he : 37 ≠ e) : some N ≠ R.1.map Addr.block := by
  obtain ⟨q, ⟨_, _, _, _, _, _, _, _, cs, h5, _⟩, _⟩ := h
  exact own_ne_blk h5 hb he
set_option maxHeartbeats 1000000 in
theorem rAggs2_any (w : World) : Calls Try.prog 42 #[] w fun e w' => WordsOut aggsR 5 w e w' ∧ w.heap.size < w'.heap.size := by
  go_enter Try.func42, Try.ntmps42
  go_wp2_with fail
  go_ret
  exact ⟨⟨rfl, Rd.new w (textsC_sz _) _ rfl, (Below.refl _ _).alloc (Nat.le_refl _) _⟩, by simp⟩
theorem rindex2_any {n : Nat} (l : List ByteArray) (wd : ByteArray) (A : Option Addr) (w : World) (hn : l.length = n) (hm : n ≤ maxLen) (hr : ∃ B, Rd w B 1 A (textsC l)) :
    Calls Try.prog 40 #[.slice A n n, .string wd] w fun e w' => e = .returned (.int .i64 (idxI l wd)) ∧ w = w' := by
  obtain ⟨B, hr⟩ := hr
  exact index_any l wd A n n B w hr hn hm
theorem rAggs3_any (wb : World) : Calls Try.prog 42 #[] (wb.alloc (.cells #[.int .i64 0, .int .i64 0, .string ⟨#[]⟩, .slice none 0 0, .int .i64 0, .int .i64 0, .int .i64 0, .slice none 0 0, .bool false, .int .i64 0] 37)).drew fun e w' => e = .returned (.slice (some ⟨wb.heap.size + 1, 0, none⟩) 5 5) ∧ Rd w' (wb.heap.size + 1 + 1) 1 (some ⟨wb.heap.size + 1, 0, none⟩) (textsC aggsR) ∧ Below wb.heap.size wb w' ∧ Blk w' wb.heap.size 37 [.int .i64 0, .int .i64 0, .string ByteArray.empty, .slice none 0 0, .int .i64 0, .int .i64 0, .int .i64 0, .slice none 0 0, .bool false, .int .i64 0] := by
  have hs : (wb.alloc (.cells #[.int .i64 0, .int .i64 0, .string ⟨#[]⟩, .slice none 0 0, .int .i64 0, .int .i64 0, .int .i64 0, .slice none 0 0, .bool false, .int .i64 0] 37)).drew.heap.size = wb.heap.size + 1 := by show (wb.alloc _).heap.size = _; simp
  have hb : Blk (wb.alloc (.cells #[.int .i64 0, .int .i64 0, .string ⟨#[]⟩, .slice none 0 0, .int .i64 0, .int .i64 0, .int .i64 0, .slice none 0 0, .bool false, .int .i64 0] 37)).drew wb.heap.size 37 [.int .i64 0, .int .i64 0, .string ByteArray.empty, .slice none 0 0, .int .i64 0, .int .i64 0, .int .i64 0, .slice none 0 0, .bool false, .int .i64 0] := Blk.new wb _ [.int .i64 0, .int .i64 0, .string ByteArray.empty, .slice none 0 0, .int .i64 0, .int .i64 0, .int .i64 0, .slice none 0 0, .bool false, .int .i64 0]
  have hw : Below wb.heap.size wb (wb.alloc (.cells #[.int .i64 0, .int .i64 0, .string ⟨#[]⟩, .slice none 0 0, .int .i64 0, .int .i64 0, .int .i64 0, .slice none 0 0, .bool false, .int .i64 0] 37)).drew := ((Below.refl _ _).alloc (Nat.le_refl _) _).drew
  generalize (wb.alloc (.cells #[.int .i64 0, .int .i64 0, .string ⟨#[]⟩, .slice none 0 0, .int .i64 0, .int .i64 0, .int .i64 0, .slice none 0 0, .bool false, .int .i64 0] 37)).drew = W at *
  refine (rAggs2_any W).mono ?_
  rintro e w' ⟨⟨h1, h2, h3⟩, h4⟩
  rw [hs] at h1 h2 h3
  exact ⟨h1, h2, hw.trans (h3.mono (Nat.le_succ _)), hb.below h3 (Nat.lt_succ_self _)⟩
theorem rAggs4_any (wb : World) : Calls Try.prog 42 #[] wb.drew fun e w' => e = .returned (.slice (some ⟨wb.heap.size, 0, none⟩) 5 5) ∧ Rd w' (wb.heap.size + 1) 1 (some ⟨wb.heap.size, 0, none⟩) (textsC aggsR) ∧ Below wb.heap.size wb w' ∧ wb.heap.size < w'.heap.size := by
  refine (rAggs2_any wb.drew).mono ?_
  rintro e w' ⟨⟨h1, h2, h3⟩, h4⟩
  exact ⟨h1, h2, ((Below.refl wb.heap.size wb).drew).trans h3, h4⟩
/-- By which labels an aggregate is, when its words are gone over. -/
def GR (s1 : PS) (g : Int) : Prop := (g = 0 ∧ s1.group sBy sWithout 1 2 = .ok (s1, 0, [])) ∨ (g ≠ 0 ∧ s1.hd.kind ≠ 0 ∧ s1.group sBy sWithout 1 2 = match s1.on.names with | .error x => .error x | .ok (s2, l) => .ok (s2, g, l))
theorem GR.by_ {s1 : PS} (h : s1.is 3 sBy = true) : GR s1 1 := .inr ⟨by decide, by rw [is_kind h]; decide, by rw [PS.group, if_pos h]; rfl⟩
theorem GR.wo {s1 : PS} (h0 : s1.is 3 sBy = false) (h : s1.is 3 sWithout = true) : GR s1 2 := .inr ⟨by decide, by rw [is_kind h]; decide, by rw [PS.group, if_neg (by rw [h0]; decide), if_pos h]; rfl⟩
theorem GR.no {s1 : PS} (h0 : s1.is 3 sBy = false) (h : s1.is 3 sWithout = false) : GR s1 0 := .inl ⟨rfl, by rw [PS.group, h0, h]; rfl⟩
/-- The aggregate's node, when its names are read. -/
def AgT (q : Rp (PS × Int × List ByteArray)) (a : Int) (base : Nat) (r : Rp PS) (y : Nod) (A : Option Addr) (c : Nat) (w : World) : Prop := match q with
  | .error x => r = .error x
  | .ok (s2, g, l) => r = .ok s2 ∧ y = aggN a g l ∧ Own w base 9 1 A l.length c (textsC l)
theorem AgT.lay {q : Rp (PS × Int × List ByteArray)} {a : Int} {base : Nat} {r : Rp PS} {y : Nod} {A : Option Addr} {c : Nat} {w : World} (h : AgT q a base r y A c w) (e : PS → Rp PS) : layR (bindR r (bracketP e)) y = aggR e a q := by
  cases q with
  | error x =>
    have h : r = .error x := h
    rw [h]; rfl
  | ok q =>
    obtain ⟨s2, g, l⟩ := q
    obtain ⟨h1, h2, _⟩ := h
    rw [h1, h2]; rfl
theorem AgT.ok {q : Rp (PS × Int × List ByteArray)} {a : Int} {base : Nat} {r : Rp PS} {y : Nod} {A : Option Addr} {c : Nat} {w : World} (h : AgT q a base r y A c w) {s' : PS} (hr : r = .ok s') : ∃ g l, q = .ok (s', g, l) ∧ y = aggN a g l ∧ Own w base 9 1 A l.length c (textsC l) := by
  cases q with
  | error x =>
    have h : r = .error x := h
    rw [h] at hr; cases hr
  | ok q =>
    obtain ⟨s2, g, l⟩ := q
    obtain ⟨h1, h2, h3⟩ := h
    rw [h1] at hr
    injection hr with hr
    subst hr
    exact ⟨g, l, rfl, h2, h3⟩
set_option maxRecDepth 100000 in
set_option maxHeartbeats 4000000 in
theorem rone_any {P : Nat} {T : List Tok} {M : Nat} {p : PS → Rp PS} (hM6 : M ≤ 1000000) (hin : PartQ P T M 76 #[.pointer (some ⟨P, 0, none⟩)] (bracketP p)) (hpd : PartOk p) (hE : Ends T) (hTs : ∀ t ∈ T, t.text.size ≤ 1000000) (hTl : T.length ≤ 1000000) :
    PartQ P T M 64 #[.pointer (some ⟨P, 0, none⟩)] (oneP p) := by
  intro M' R O r w hM' hg h
  have h0 := Lib.hid h
  obtain ⟨q, hq, hr, _⟩ := h
  obtain ⟨b, o, ct, tk, hT, c0, hat, hbP, hbw, t0, t1, t2, t3, c1, c2, c3, c4, c5, hct, hcm, hfz⟩ := hq.head
  unfold maxLen at hcm
  have hatI : (q.at_ : Int) < T.length := by omega
  have hat0 : (0 : Int) ≤ (q.at_ : Int) := by omega
  have hPb : P ≠ b := by omega
  cases r with
  | error x =>
    have hc : (q.code != 0) = true := by rw [bne_iff_ne, hr.1]; exact hr.2.1
    clear hr hT hq
    go_enter Try.func64, Try.ntmps64
    go_wp2_with fail
    first | go_end0 | refine bodyPost_ret (results_none rfl _ _ _) rfl ?_
    exact ⟨rfl, TSt.start h0.out⟩
  | ok s =>
    have hd := rel_hd hr hT
    subst hd
    have hc : (q.code != 0) = false := by rw [hr.1]; rfl
    have hlt := hq.lt
    have HB : Hid (∀ W : World, Below w.heap.size w W → TQ P T R O w (.ok s) W) := fun W hb => (TQ.start h0.out).below hb
    have HRb : Hid (∀ x, R.1.map Addr.block = some x → x < w.heap.size) := fun x hx => (hq.above (b := x) hx).2
    have hgs := hg s rfl
    have HG := Lib.hid hgs
    have HOl : Hid (O.length ≤ 1000000) := by
      show _ ≤ _
      have h1 := hgs.room
      rw [(h0.out.toks hE).2.2.2.2] at h1
      omega
    have hNP : w.heap.size ≠ P := by omega
    clear hr hT hq hg hgs
    have HBp := fun (R : Option Addr × Nat) (O : List Nod) (r : Rp PS) (W : World) (hg : ∀ s, r = .ok s → PGood M' s) (h : TAt W P T R O r) => Lib.hid (hin M' R O r W hM' hg h)
    have hwb := idxF_bd s.hd.text funcsR 0
    have hab := idxF_bd s.hd.text aggsR 0
    change -1 ≤ idxI funcsR s.hd.text ∧ idxI funcsR s.hd.text < ((0 + 12 : Nat) : Int) at hwb
    change -1 ≤ idxI aggsR s.hd.text ∧ idxI aggsR s.hd.text < ((0 + 5 : Nat) : Int) at hab
    have HFN := Lib.hid (funcs_num s.hd.text)
    have HAN := Lib.hid (aggs_num s.hd.text)
    by_cases k1 : s.hd.kind = 1
    · have k1b : (s.hd.kind == 1) = true := by rw [beq_iff_eq]; exact k1
      have HT : Hid (bindR (.ok s) (oneP p) = onR (layR (.ok s) (numN s.hd.text))) := oneQ_num k1
      have HL := fun (W : World) (h : TAt W P T R O (.ok s)) => Lib.hid (rlay_any h (numN s.hd.text) none none 0 0 (fun _ _ => Own.nil_ (by decide)) (fun _ _ => Own.nil_ (by decide)) (fun _ _ => HOl.out))
      have HN := fun (R : Option Addr × Nat) (O : List Nod) (W : World) (h : TAt W P T R O (layR (.ok s) (numN s.hd.text))) => Lib.hid (rnext_any h (fun s' hs => by injection hs with hs; subst hs; show s.hd.kind ≠ 0; omega) hE)
      clear k1 hin hwb hab
      go_enter Try.func64, Try.ntmps64
      go_wp2_with fail
      go_region
      generalize hW : World.drew _ = W1
      have bT : Blk W1 w.heap.size 52 (tokC s.hd) := by rw [← hW]; exact Blk.new w _ _
      have hb1 : Below w.heap.size w W1 := by rw [← hW]; exact ((Below.refl _ _).alloc (Nat.le_refl _) _).drew
      have hT1 := Lib.hid (HB.out W1 hb1)
      have e0 := bT.cell (j := 0) rfl
      have e2 := bT.cell (j := 2) rfl
      have hlt1 := bT.lt
      have BT := Lib.hid bT
      clear hW hb1 bT
      go_wp2_with fail
      refine ((HL _ hT1.out.1).out).mono ?_
      rintro e w2 ⟨rfl, R2, O2, t2, f2, m2⟩
      have F2 := Lib.hid ((hT1.out.2.weak (A := R.1)).trans (Mv.refl _ _) f2)
      have M2 := Lib.hid ((Mv.refl R.1 w).trans m2 hT1.out.2.size)
      clear f2 m2 e0 e2
      go_wp2_with fail
      refine ((HN R2 O2 _ t2).out).mono ?_
      rintro e w3 ⟨rfl, h3⟩
      have HS : Hid (TSt P T R w (onR (layR (.ok s) (numN s.hd.text))) w3) := ⟨R2, O2, h3.1, F2.out.trans M2.out h3.2.weak, M2.out⟩
      clear h3 t2
      go_wp2_with fail
      first | go_end0 | refine bodyPost_ret (results_none rfl _ _ _) rfl ?_
      rw [HT.out]
      exact ⟨rfl, HS.out⟩
    · have k1b : (s.hd.kind == 1) = false := by rw [beq_eq_false_iff_ne]; exact k1
      have HS := fun (W : World) (h : TQ P T R O w (.ok s) W) (t : ByteArray) => Lib.hid (rsign_q (TQ.start h.1) t)
      go_enter Try.func64, Try.ntmps64
      go_wp2_with fail
      go_region
      generalize hW : World.drew _ = W1
      have bT : Blk W1 w.heap.size 52 (tokC s.hd) := by rw [← hW]; exact Blk.new w _ _
      have hb1 : Below w.heap.size w W1 := by rw [← hW]; exact ((Below.refl _ _).alloc (Nat.le_refl _) _).drew
      have hT1 := Lib.hid (HB.out W1 hb1)
      have e0 := bT.cell (j := 0) rfl
      have e2 := bT.cell (j := 2) rfl
      have hlt1 := bT.lt
      have BT := Lib.hid bT
      clear hW hb1 bT
      go_wp2_with fail
      refine ((HS _ hT1.out sO).out).mono ?_
      rintro e w2 ⟨rfl, h2⟩
      have B2 := Lib.hid (BT.out.keep (h2.2.block _ BT.out.lt hNP (by simp)))
      have Q2 := Lib.hid (hT1.out.next h2)
      clear h2 hT1 BT e0 e2 hlt1
      cases hi : isR (.ok s) 5 sO with
      | true =>
        have HT : Hid (bindR (.ok s) (oneP p) = bindR (.ok s) (bracketP p)) := one_open k1 hi
        have hin2 := HBp R O (.ok s) w2 (fun s' hs => by injection hs with hs; subst hs; exact HG.out) Q2.out.1
        clear hi k1 hin hwb hab
        go_wp2_with fail
        refine (hin2.out).mono ?_
        rintro e w3 ⟨rfl, R3, O3, t3, f3, m3⟩
        have HS3 : Hid (TSt P T R w (bindR (.ok s) (bracketP p)) w3) := ⟨R3, O3, t3, (Q2.out.2.weak (A := R.1)).trans (Mv.refl _ _) f3, (Mv.refl R.1 w).trans m3 Q2.out.2.size⟩
        clear t3 f3 m3
        go_wp2_with fail
        first | go_end0 | refine bodyPost_ret (results_none rfl _ _ _) rfl ?_
        rw [HT.out]
        exact ⟨rfl, HS3.out⟩
      | false =>
        have HI1 := Lib.hid hi
        clear hi
        go_wp2_with fail
        refine ((HS _ Q2.out sCurl).out).mono ?_
        rintro e w3 ⟨rfl, h3⟩
        have B3 := Lib.hid (B2.out.keep (h3.2.block _ B2.out.lt hNP (by simp)))
        have Q3 := Lib.hid (Q2.out.next h3)
        clear h3 B2 Q2
        have HSe := fun (W : World) (h : TAt W P T R O (.ok s)) (hs : s.wordB = true ∨ s.is 5 sCurl = true) => Lib.hid (rselector_any (Nat.le_trans hM' hM6) hE hTs HG.out h hs)
        cases hi : isR (.ok s) 5 sCurl with
        | true =>
          have HT : Hid (bindR (.ok s) (oneP p) = chooseP s) := curl_sel hi
          have HX := HSe _ Q3.out.1 (.inr hi)
          clear hi k1 hin hwb hab
          go_wp2_with fail
          refine (HX.out).mono ?_
          rintro e w4 ⟨rfl, R3, O3, t3, f3, m3⟩
          have HS3 : Hid (TSt P T R w (chooseP s) w4) := ⟨R3, O3, t3, (Q3.out.2.weak (A := R.1)).trans (Mv.refl _ _) f3, (Mv.refl R.1 w).trans m3 Q3.out.2.size⟩
          clear t3 f3 m3
          go_wp2_with fail
          first | go_end0 | refine bodyPost_ret (results_none rfl _ _ _) rfl ?_
          rw [HT.out]
          exact ⟨rfl, HS3.out⟩
        | false =>
          have HI2 := Lib.hid hi
          clear hi
          have e0 := B3.out.cell (j := 0) rfl
          have e2 := B3.out.cell (j := 2) rfl
          have hlt1 := B3.out.lt
          have e02 := And.intro e0 e2
          by_cases h3 : s.hd.kind = 3
          · have k3b : (s.hd.kind == 3) = true := by rw [beq_iff_eq]; exact h3
            have hk0 : s.hd.kind ≠ 0 := by omega
            have HNx := fun (W : World) (h : TAt W P T R O (.ok s)) => Lib.hid (rnext_any h (fun s' hs => by injection hs with hs; subst hs; exact hk0) hE)
            by_cases hf : 0 ≤ idxI funcsR s.hd.text
            · have hfn : 0 < numW funcsL s.hd.text := by rw [HFN.out]; omega
              have HT : Hid (bindR (.ok s) (oneP p) = layR (bindR (.ok s.on) (bracketP p)) (callN (numW funcsL s.hd.text))) := one_func h3 hfn
              have HG5 : Hid (∀ s', (Except.ok s.on : Rp PS) = .ok s' → PGood M' s') := fun s' hs => by injection hs with hs; subst hs; exact (HG.out.on1 hk0).more (by omega)
              have HG6 : Hid (∀ s', bindR (.ok s.on) (bracketP p) = .ok s' → s'.out.length ≤ 1000000) := fun s' hs => by
                have h1 := ((bracketP_ok hpd _ _ hs).2 M' (HG5.out _ rfl)).1.room
                omega
              obtain ⟨fop, hfop⟩ : ∃ fop, fop = numW funcsL s.hd.text := ⟨_, rfl⟩
              have hop1 : idxI funcsR s.hd.text + 1 = fop := by rw [hfop, HFN.out]
              have hw1 : IntKind.i64.wrap fop = fop := by rw [IntKind.wrap_i64] <;> omega
              rw [← hfop] at HT
              clear hfop hfn hab HAN h3 k1 hin hk0 HSe HS
              go_wp2_with fail
              go_region_held3 (fun w' => w'.cell? ⟨w.heap.size, 0, none⟩ = some (.int .i64 s.hd.kind) ∧ w'.cell? ⟨w.heap.size, 2, none⟩ = some (.string s.hd.text))
                (first | exact e4 | exact e02 | go_keep)
                (first
                  | (go_at_call 41; refine (rFuncs_any _).mono ?_; rintro e3 wa ⟨rfl, hr3, hb3⟩; have e4 := And.intro ((hb3.cell (p := ⟨w.heap.size, 0, none⟩) hlt1).trans e02.1) ((hb3.cell (p := ⟨w.heap.size, 2, none⟩) hlt1).trans e02.2))
                  | (go_at_call 40; go_must (refine (index_any funcsR s.hd.text _ 12 12 _ _ (by exact hr3) rfl (by simp [maxLen])).mono ?_; rintro e5 wax ⟨rfl, rfl⟩)))
              go_upto_region 11 with fail
              have Q4 := Lib.hid (Q3.out.below (((Below.refl _ _).drew).trans hb3))
              have B4 := Lib.hid ((B3.out.below (Below.refl _ _).drew B3.out.lt).below hb3 hlt1)
              clear hr3 hb3 e4 e02
              have hNx := HNx _ Q4.out.1
              clear e0 e2 hlt1 B3 Q3
              go_wp2_with fail
              refine (hNx.out).mono ?_
              rintro e w5 ⟨rfl, h5⟩
              have B5 := Lib.hid (B4.out.keep (h5.2.block _ B4.out.lt hNP (by simp)))
              have Q5 : Hid (TQ P T R O w (.ok s.on) w5) := Q4.out.next h5
              clear h5 B4 Q4 hNx
              have hin2 := HBp R O (.ok s.on) w5 HG5.out Q5.out.1
              go_wp2_with fail
              refine (hin2.out).mono ?_
              rintro e w6 ⟨rfl, R6, O6, t6, f6, m6⟩
              have B6 := Lib.hid (B5.out.keep (f6.block _ B5.out.lt hNP (fun e => by have := HRb.out _ e; omega)))
              have F6 := Lib.hid ((Q5.out.2.weak (A := R.1)).trans (Mv.refl _ _) f6)
              have M6 := Lib.hid ((Mv.refl R.1 w).trans m6 Q5.out.2.size)
              have hlt1 := B6.out.lt
              have e2 := B6.out.cell (j := 2) rfl
              generalize hr6 : bindR (.ok s.on) (bracketP p) = r6 at *
              have HL := fun (W : World) (h : TAt W P T R6 O6 r6) => Lib.hid (rlay_any h (callN fop) none none 0 0 (fun _ _ => Own.nil_ (by decide)) (fun _ _ => Own.nil_ (by decide)) (fun s' hs => by rw [← (show TAt W P T R6 O6 (.ok s') from hs ▸ h).toks hE |>.2.2.2.2]; exact HG6.out s' hs))
              clear f6 m6 hin2 B5 Q5 hr6
              go_wp2_with fail
              go_region_held3 (fun w' => w'.cell? ⟨w.heap.size, 2, none⟩ = some (.string s.hd.text))
                (first | exact e4 | exact e2 | go_keep)
                (first
                  | (go_at_call 41; refine (rFuncs_any _).mono ?_; rintro e3 w8 ⟨rfl, hr3, hb3⟩; have e4 := (hb3.cell (p := ⟨w.heap.size, 2, none⟩) hlt1).trans e2)
                  | (go_at_call 40; go_must (refine (index_any funcsR s.hd.text _ 12 12 _ _ (by exact hr3) rfl (by simp [maxLen])).mono ?_; rintro e5 w8x ⟨rfl, rfl⟩))
                  | (go_at_call 55; go_must (refine ((HL _ (t6.below (((Below.refl _ _).drew).trans hb3))).out).mono ?_; rintro e6 w9 ⟨rfl, R9, O9, t9, f9, m9⟩; have e4 := (((B6.out.below (Below.refl _ _).drew B6.out.lt).below hb3 hlt1).keep (f9.block _ (((B6.out.below (Below.refl _ _).drew B6.out.lt).below hb3 hlt1).lt) hNP (fun e => (t6.ne_blk B6.out (by decide)) e.symm))).cell (j := 2) rfl)))
              have F8 := Lib.hid (F6.out.belowAll (((Below.refl _ _).drew).trans hb3))
              have HS9 : Hid (TSt P T R w (layR r6 (callN fop)) w9) := ⟨R9, O9, t9, F8.out.trans M6.out f9, M6.out.trans m9 F8.out.size⟩
              clear t9 f9 m9 hb3 hr3 e4 e2 t6
              go_wp2_with fail
              first | go_end0 | refine bodyPost_ret (results_none rfl _ _ _) rfl ?_
              rw [HT.out]
              exact ⟨rfl, HS9.out⟩
            · have hfn : ¬ 0 < numW funcsL s.hd.text := by rw [HFN.out]; omega
              by_cases ha : 0 ≤ idxI aggsR s.hd.text
              · have han : 0 < numW aggsL s.hd.text := by rw [HAN.out]; omega
                have HT : Hid (bindR (.ok s) (oneP p) = aggR p (numW aggsL s.hd.text) (s.on.group sBy sWithout 1 2)) := one_agg h3 hfn han
                have hg5 : PGood M' s.on := (HG.out.on1 hk0).more (by omega)
                have HG5 := Lib.hid hg5
                obtain ⟨aop, haop⟩ : ∃ aop, aop = numW aggsL s.hd.text := ⟨_, rfl⟩
                have hop1 : idxI aggsR s.hd.text + 1 = aop := by rw [haop, HAN.out]
                have hw1 : IntKind.i64.wrap aop = aop := by rw [IntKind.wrap_i64] <;> omega
                rw [← haop] at HT
                clear haop hfn han HFN h3 k1 hin hk0 HSe HS hg5
                go_wp2_with fail
                go_region_held3 (fun w' => w'.cell? ⟨w.heap.size, 0, none⟩ = some (.int .i64 s.hd.kind) ∧ w'.cell? ⟨w.heap.size, 2, none⟩ = some (.string s.hd.text))
                  (first | exact e4 | exact e02 | go_keep)
                  (first
                    | (go_at_call 41; refine (rFuncs_any _).mono ?_; rintro e3 wa ⟨rfl, hr3, hb3⟩; have e4 := And.intro ((hb3.cell (p := ⟨w.heap.size, 0, none⟩) hlt1).trans e02.1) ((hb3.cell (p := ⟨w.heap.size, 2, none⟩) hlt1).trans e02.2))
                    | (go_at_call 40; go_must (refine (index_any funcsR s.hd.text _ 12 12 _ _ (by exact hr3) rfl (by simp [maxLen])).mono ?_; rintro e5 wax ⟨rfl, rfl⟩)))
                go_upto_region 14 with fail
                have Q4 := Lib.hid (Q3.out.below (((Below.refl _ _).drew).trans hb3))
                have B4 := Lib.hid ((B3.out.below (Below.refl _ _).drew B3.out.lt).below hb3 hlt1)
                clear hr3 hb3 e4 e02
                clear e0 e2 hlt1 B3 Q3
                have hlt1 := B4.out.lt
                have e02 := And.intro (B4.out.cell (j := 0) rfl) (B4.out.cell (j := 2) rfl)
                go_region_held3 (fun w' => w'.cell? ⟨w.heap.size, 0, none⟩ = some (.int .i64 s.hd.kind) ∧ w'.cell? ⟨w.heap.size, 2, none⟩ = some (.string s.hd.text))
                  (first | exact e4 | exact e02 | go_keep)
                  (first
                    | (go_at_call 42; refine (rAggs_any _).mono ?_; rintro e3 wb ⟨rfl, hr3, hb3⟩; have e4 := And.intro ((hb3.cell (p := ⟨w.heap.size, 0, none⟩) hlt1).trans e02.1) ((hb3.cell (p := ⟨w.heap.size, 2, none⟩) hlt1).trans e02.2))
                    | (go_at_call 40; go_must (refine (index_any aggsR s.hd.text _ 5 5 _ _ (by exact hr3) rfl (by simp [maxLen])).mono ?_; rintro e5 wbx ⟨rfl, rfl⟩)))
                go_upto_region 15 with fail
                have Q5 := Lib.hid (Q4.out.below (((Below.refl _ _).drew).trans hb3))
                have B5 := Lib.hid ((B4.out.below (Below.refl _ _).drew B4.out.lt).below hb3 hlt1)
                clear hr3 hb3 e4 e02
                clear hlt1 B4 Q4
                have hlt1 := B5.out.lt
                have e2 := B5.out.cell (j := 2) rfl
                go_cut [3] (fun v3 wx => ∃ N3, v3 = .pointer (some ⟨N3, 0, none⟩) ∧ Hid (w.heap.size ≤ N3 ∧ TQ P T R O w (.ok s) wx ∧ Blk wx N3 37 (nodC (aggN aop 0 []) none 0 none 0)))
                case first =>
                  have hnw := World.new_ne wb ⟨w.heap.size, 2, none⟩ e2
                  have hnw2 : w.heap.size ≠ wb.heap.size := by omega
                  go_region_held3 (fun w' => w'.cell? ⟨w.heap.size, 2, none⟩ = some (.string s.hd.text))
                    (first | with_reducible exact e4 | with_reducible exact e2 | with_reducible assumption | go_keep)
                    (first
                      | (go_at_call 42
                         with_reducible refine Calls.mono (rAggs3_any wb) ?_
                         rintro e3 w8 ⟨rfl, hr3, hb3, bX⟩
                         have e4 := (hb3.cell (p := ⟨w.heap.size, 2, none⟩) hlt1).trans e2
                         have fX := bX.frozen
                         have x0 := bX.cell (j := 0) rfl
                         have x1 := bX.cell (j := 1) rfl
                         have x2 := bX.cell (j := 2) rfl
                         have x3 := bX.cell (j := 3) rfl
                         have x4 := bX.cell (j := 4) rfl
                         have x5 := bX.cell (j := 5) rfl
                         have x6 := bX.cell (j := 6) rfl
                         have x7 := bX.cell (j := 7) rfl
                         have x8 := bX.cell (j := 8) rfl
                         have x9 := bX.cell (j := 9) rfl)
                      | (go_at_call 42
                         refine (rAggs4_any wb).mono ?_
                         rintro e3 w8 ⟨rfl, hr3, hb3, hl3⟩
                         have e4 := (hb3.cell (p := ⟨w.heap.size, 2, none⟩) hlt1).trans e2)
                      | (go_at_call 40
                         refine (rindex2_any (n := 5) aggsR s.hd.text _ _ rfl (by simp [maxLen]) ?_).mono ?_
                         first | exact ⟨_, hr3⟩ | exact ⟨_, hr3.below ((Below.refl _ w8).alloc hl3 _)⟩
                         rintro e5 w9 ⟨rfl, rfl⟩))
                  · go_wp2_with fail
                    go_meet
                    exact ⟨w8.heap.size, rfl, by have := hb3.size; omega, (Q5.out.below (hb3.mono (Nat.le_refl _))).below ((Below.refl _ _).alloc (Nat.le_refl _) _), Blk.new w8 _ (nodC (aggN aop 0 []) none 0 none 0)⟩
                  · go_wp2_with fail
                    go_meet
                    exact ⟨w8.heap.size, rfl, by have := hb3.size; omega, (Q5.out.below (hb3.mono (Nat.le_refl _))).below ((Below.refl _ _).alloc (Nat.le_refl _) _), Blk.new w8 _ (nodC (aggN aop 0 []) none 0 none 0)⟩
                  · have hNB : w.heap.size ≤ wb.heap.size := by omega
                    have HX := Lib.hid bX
                    have Q8 := Lib.hid (Q5.out.below hb3)
                    clear x0 x1 x2 x3 x4 x5 x6 x7 x8 x9 fX bX
                    go_wp2_with fail
                    go_meet
                    exact ⟨wb.heap.size, rfl, hNB, ((((((((((Q8.out.setNew h0.out hNB 0 _).setNew h0.out hNB 1 _).setNew h0.out hNB 2 _).setNew h0.out hNB 3 _).setNew h0.out hNB 4 _).setNew h0.out hNB 5 _).setNew h0.out hNB 6 _).setNew h0.out hNB 7 _).setNew h0.out hNB 8 _).setNew h0.out hNB 9 _), ((((((((((HX.out.set 0 _).set 1 _).set 2 _).set 3 _).set 4 _).set 5 _).set 6 _).set 7 _).set 8 _).set 9 _)⟩
                case rest =>
                  obtain ⟨N3, rfl, hcut⟩ := hcut
                  obtain ⟨hN3, q6, a6⟩ := hcut.out
                  have hN3P : N3 ≠ P := by omega
                  have hNx := HNx _ q6.1
                  have Q6 := Lib.hid q6
                  have A6 := Lib.hid a6
                  have HWd := fun (W : World) (h : TAt W P T R O (.ok s.on)) (t : ByteArray) => Lib.hid (rword_q (TQ.start h) t)
                  clear q6 a6 hcut e2 hlt1 B5 Q5 HNx
                  go_wp2_with fail
                  refine (hNx.out).mono ?_
                  rintro e w7 ⟨rfl, h7⟩
                  have A7 := Lib.hid (A6.out.keep (h7.2.block _ A6.out.lt hN3P (by simp)))
                  have Q7 : Hid (TQ P T R O w (.ok s.on) w7) := Q6.out.next h7
                  clear h7 A6 Q6 hNx
                  go_upto_block 1 with fail
                  go_cut [91] (fun _ wx => Hid (∃ g, GR s.on g ∧ TQ P T R O w (.ok s.on) wx ∧ Blk wx N3 37 (nodC (aggN aop g []) none 0 none 0)))
                  case first =>
                    go_wp2_with fail
                    refine ((HWd _ Q7.out.1 sBy).out).mono ?_
                    rintro e w8 ⟨rfl, h8⟩
                    have A8 := Lib.hid (A7.out.keep (h8.2.block _ A7.out.lt hN3P (by simp)))
                    have Q8 : Hid (TQ P T R O w (.ok s.on) w8) := Q7.out.next h8
                    clear h8 A7 Q7
                    have n6 := A8.out.cell (j := 6) rfl
                    have fN := A8.out.frozen
                    cases hi : isR (.ok s.on) 3 sBy with
                    | true =>
                      have HGr := Lib.hid (GR.by_ hi)
                      clear hi
                      go_wp2_with fail
                      go_meet
                      exact ⟨1, HGr.out, Q8.out.setNew h0.out hN3 6 _, A8.out.set 6 (.int .i64 1)⟩
                    | false =>
                      have HI := Lib.hid hi
                      clear hi n6 fN
                      go_wp2_with fail
                      refine ((HWd _ Q8.out.1 sWithout).out).mono ?_
                      rintro e w9 ⟨rfl, h9⟩
                      have A9 := Lib.hid (A8.out.keep (h9.2.block _ A8.out.lt hN3P (by simp)))
                      have Q9 : Hid (TQ P T R O w (.ok s.on) w9) := Q8.out.next h9
                      clear h9 A8 Q8
                      have n6 := A9.out.cell (j := 6) rfl
                      have fN := A9.out.frozen
                      cases hi : isR (.ok s.on) 3 sWithout with
                      | true =>
                        have HGr := Lib.hid (GR.wo HI.out hi)
                        clear hi
                        go_wp2_with fail
                        go_meet
                        exact ⟨2, HGr.out, Q9.out.setNew h0.out hN3 6 _, A9.out.set 6 (.int .i64 2)⟩
                      | false =>
                        have HGr := Lib.hid (GR.no HI.out hi)
                        clear hi
                        go_wp2_with fail
                        go_meet
                        exact ⟨0, HGr.out, Q9.out, A9.out⟩
                  case rest =>
                    obtain ⟨g, hg, q10, a10⟩ := hcut.out
                    have Q10 := Lib.hid q10
                    have A10 := Lib.hid a10
                    have HGr := Lib.hid hg
                    have n6 : wc.cell? ⟨N3, 6, none⟩ = some (.int .i64 g) := a10.cell (j := 6) rfl
                    obtain ⟨gb, hgb⟩ : ∃ gb, (g != 0) = gb := ⟨_, rfl⟩
                    clear hcut q10 a10 hg Q7 A7
                    go_upto_if 94 with fail
                    go_cut [99] (fun _ wx => Hid (∃ r y An cn, TQ P T R O w r wx ∧ Blk wx N3 37 (nodC y none 0 An cn) ∧ AgT (s.on.group sBy sWithout 1 2) aop w.heap.size r y An cn wx))
                    case first =>
                      rcases HGr.out with ⟨hg0, hgq⟩ | ⟨hg0, hk, hgq⟩
                      · have HGq := Lib.hid hgq
                        have hgf : gb = false := by rw [← hgb, hg0]; rfl
                        subst hgf
                        subst hg0
                        clear hgb hgq n6
                        go_wp2_with fail
                        go_meet
                        exact ⟨.ok s.on, aggN aop 0 [], none, 0, Q10.out, A10.out, by rw [HGq.out]; exact ⟨rfl, rfl, Own.nil_ (by decide)⟩⟩
                      · have HGq := Lib.hid hgq
                        have hgf : gb = true := by rw [← hgb, bne_iff_ne]; exact hg0
                        subst hgf
                        have HN2 := Lib.hid (rnext_any Q10.out.1 (fun s' hs => by injection hs with hs; subst hs; exact hk) hE)
                        clear hgb hgq n6 hg0 hk
                        go_wp2_with fail
                        refine (HN2.out).mono ?_
                        rintro e w11 ⟨rfl, h11⟩
                        have A11 := Lib.hid (A10.out.keep (h11.2.block _ A10.out.lt hN3P (by simp)))
                        have Q11 : Hid (TQ P T R O w (.ok s.on.on) w11) := Q10.out.next h11
                        clear h11 A10 Q10 HN2
                        have HNm := Lib.hid (rnames_any Q11.out.1 hE hTs hTl)
                        go_wp2_with fail
                        refine (HNm.out).mono ?_
                        cases hnm : s.on.on.names with
                        | error z =>
                          have HGz : Hid (s.on.group sBy sWithout 1 2 = .error z) := by show _ = _; rw [HGq.out, hnm]
                          have hnq : namesQ (.ok s.on.on) = .error z := hnm
                          rw [hnq]
                          rintro e w12 ⟨A, n, c, rfl, h12⟩
                          have a12 := A11.out.keep (h12.2.block _ A11.out.lt hN3P (by simp))
                          have A12 := Lib.hid a12
                          have Q12 := Lib.hid (Q11.out.next h12)
                          have n7 := a12.cell (j := 7) rfl
                          have fN := a12.frozen
                          obtain ⟨Y8, hY8⟩ : ∃ Y : Nod, Y = setG (aggN aop g []) g (List.replicate n ByteArray.empty) := ⟨_, rfl⟩
                          have hYn : nodC Y8 none 0 A c = (nodC (aggN aop g []) none 0 none 0).set 7 (.slice A n c) := by rw [hY8]; simp [nodC, setG, aggN]
                          have HYn := Lib.hid hYn
                          clear h12 a12 hnm hnq HNm A11 Q11 hY8 hYn
                          go_wp2_with fail
                          go_meet
                          exact ⟨.error z, Y8, A, c, Q12.out.setNew h0.out hN3 7 _, by rw [HYn.out]; exact A12.out.set 7 _, by rw [HGz.out]; exact rfl⟩
                        | ok q7 =>
                          obtain ⟨s2, l⟩ := q7
                          have HGz : Hid (s.on.group sBy sWithout 1 2 = .ok (s2, g, l)) := by show _ = _; rw [HGq.out, hnm]
                          have hnq : namesQ (.ok s.on.on) = .ok (s2, l) := hnm
                          rw [hnq]
                          rintro e w12 ⟨A, c, rfl, hO12, h12⟩
                          have a12 := A11.out.keep (h12.2.block _ A11.out.lt hN3P (by simp))
                          have A12 := Lib.hid a12
                          have Q12 := Lib.hid (Q11.out.next h12)
                          have n7 := a12.cell (j := 7) rfl
                          have fN := a12.frozen
                          have HneO := own_ne_blk hO12 a12 (by decide)
                          have HO12 := Lib.hid (hO12.lower (base' := w.heap.size) Q11.out.2.size)
                          clear h12 a12 hnm hnq HNm A11 Q11 hO12
                          go_wp2_with fail
                          go_meet
                          exact ⟨.ok s2, aggN aop g l, A, c, Q12.out.setNew h0.out hN3 7 _, A12.out.set 7 (.slice A l.length c), by rw [HGz.out]; exact ⟨rfl, rfl, HO12.out.setOther HneO 7 _⟩⟩
                    case rest =>
                      obtain ⟨r13, y13, An, cn, q13, a13, hag⟩ := hcut.out
                      have HAg := Lib.hid hag
                      have hg13 : ∀ s', r13 = .ok s' → PGood M' s' := fun s' hs => by
                        obtain ⟨g', l', h1, _⟩ := hag.ok hs
                        exact ((group_step h1).1.good M' HG5.out).more (Nat.sub_le _ _)
                      have HG13 := Lib.hid hg13
                      have HB13 := HBp R O r13 wc hg13 q13.1
                      have Q13 := Lib.hid q13
                      have A13 := Lib.hid a13
                      clear hcut q13 a13 hag hg13 n6 hgb HGr A10 Q10
                      go_wp2_with fail
                      refine (HB13.out).mono ?_
                      rintro e w14 ⟨rfl, R14, O14, t14, f14, m14⟩
                      have a14 := A13.out.keep (f14.block _ A13.out.lt hN3P (fun e => by have := HRb.out _ e; omega))
                      have F14 := Lib.hid ((Q13.out.2.weak (A := R.1)).trans (Mv.refl _ _) f14)
                      have M14 := Lib.hid ((Mv.refl R.1 w).trans m14 Q13.out.2.size)
                      have hby : ∀ s', bindR r13 (bracketP p) = .ok s' → ∃ s0, r13 = .ok s0 ∧ bracketP p s0 = .ok s' := fun s' hs => by
                        cases hr : r13 with
                        | error z => rw [hr] at hs; cases hs
                        | ok s0 => rw [hr] at hs; exact ⟨s0, rfl, hs⟩
                      have HL := Lib.hid (rlay_any t14 y13 none An 0 cn (fun s' hs => by
                          obtain ⟨s0, h1, _⟩ := hby s' hs
                          obtain ⟨g', l', _, h3, _⟩ := HAg.out.ok h1
                          rw [h3]
                          exact Own.nil_ (by decide)) (fun s' hs => by
                          obtain ⟨s0, h1, _⟩ := hby s' hs
                          obtain ⟨g', l', _, h3, h4⟩ := HAg.out.ok h1
                          rw [h3]
                          exact (h4.same (fun x hx => f14.block x (h4.block hx).2 (by have := (h4.block hx).1; omega) (fun e => by have z1 := HRb.out _ e; have z2 := (h4.block hx).1; omega))).lower (by omega)) (fun s' hs => by
                          obtain ⟨s0, h1, h2⟩ := hby s' hs
                          have h6 := ((show TAt w14 P T R14 O14 (.ok s') from hs ▸ t14).toks hE).2.2.2.2
                          rw [← h6]
                          have z1 := ((bracketP_ok hpd _ _ h2).2 M' (HG13.out s0 h1)).1.room
                          omega))
                      have HAL := Lib.hid (HAg.out.lay p)
                      have n0 := a14.cell (j := 0) rfl
                      have n1 := a14.cell (j := 1) rfl
                      have n2 := a14.cell (j := 2) rfl
                      have n3 := a14.cell (j := 3) rfl
                      have n4 := a14.cell (j := 4) rfl
                      have n5 := a14.cell (j := 5) rfl
                      have n6 := a14.cell (j := 6) rfl
                      have n7 := a14.cell (j := 7) rfl
                      have n8 := a14.cell (j := 8) rfl
                      have n9 := a14.cell (j := 9) rfl
                      have fN := a14.frozen
                      clear a14 f14 m14 t14 hby HB13 A13 Q13
                      go_wp2_with fail
                      refine (HL.out).mono ?_
                      rintro e w15 ⟨rfl, R15, O15, t15, f15, m15⟩
                      rw [HAL.out] at t15
                      have HS9 : Hid (TSt P T R w (aggR p aop (s.on.group sBy sWithout 1 2)) w15) := ⟨R15, O15, t15, F14.out.trans M14.out f15, M14.out.trans m15 F14.out.size⟩
                      clear t15 f15 m15 n0 n1 n2 n3 n4 n5 n6 n7 n8 n9 fN
                      go_wp2_with fail
                      first | go_end0 | refine bodyPost_ret (results_none rfl _ _ _) rfl ?_
                      rw [HT.out]
                      exact ⟨rfl, HS9.out⟩
              · have hwn : ¬ (s.hd.kind = 3 ∧ 0 < numW aggsL s.hd.text) := by rw [HAN.out]; omega
                have hsel := one_sel (e := p) k1 HI1.out (fun h => hfn h.2) hwn
                have hkp := keptB_eq s.hd.text
                rw [decide_eq_false hf, decide_eq_false ha, Bool.false_or, Bool.false_or] at hkp
                have HKp := fun (W : World) => Lib.hid (rKept_any s.hd.text W)
                clear hwn hfn hkp hin hab hwb HFN HAN
                go_wp2_with fail
                go_region_held3 (fun w' => w'.cell? ⟨w.heap.size, 0, none⟩ = some (.int .i64 s.hd.kind) ∧ w'.cell? ⟨w.heap.size, 2, none⟩ = some (.string s.hd.text))
                  (first | exact e4 | exact e02 | go_keep)
                  (first
                    | (go_at_call 41; refine (rFuncs_any _).mono ?_; rintro e3 wa ⟨rfl, hr3, hb3⟩; have e4 := And.intro ((hb3.cell (p := ⟨w.heap.size, 0, none⟩) hlt1).trans e02.1) ((hb3.cell (p := ⟨w.heap.size, 2, none⟩) hlt1).trans e02.2))
                    | (go_at_call 40; go_must (refine (index_any funcsR s.hd.text _ 12 12 _ _ (by exact hr3) rfl (by simp [maxLen])).mono ?_; rintro e5 wax ⟨rfl, rfl⟩)))
                go_upto_region 14 with fail
                have Q4 := Lib.hid (Q3.out.below (((Below.refl _ _).drew).trans hb3))
                have B4 := Lib.hid ((B3.out.below (Below.refl _ _).drew B3.out.lt).below hb3 hlt1)
                clear hr3 hb3 e4 e02
                clear e0 e2 hlt1 B3 Q3
                have hlt1 := B4.out.lt
                have e02 := And.intro (B4.out.cell (j := 0) rfl) (B4.out.cell (j := 2) rfl)
                go_region_held3 (fun w' => w'.cell? ⟨w.heap.size, 0, none⟩ = some (.int .i64 s.hd.kind) ∧ w'.cell? ⟨w.heap.size, 2, none⟩ = some (.string s.hd.text))
                  (first | exact e4 | exact e02 | go_keep)
                  (first
                    | (go_at_call 42; refine (rAggs_any _).mono ?_; rintro e3 wb ⟨rfl, hr3, hb3⟩; have e4 := And.intro ((hb3.cell (p := ⟨w.heap.size, 0, none⟩) hlt1).trans e02.1) ((hb3.cell (p := ⟨w.heap.size, 2, none⟩) hlt1).trans e02.2))
                    | (go_at_call 40; go_must (refine (index_any aggsR s.hd.text _ 5 5 _ _ (by exact hr3) rfl (by simp [maxLen])).mono ?_; rintro e5 wbx ⟨rfl, rfl⟩)))
                go_upto_region 26 with fail
                have Q5 := Lib.hid (Q4.out.below (((Below.refl _ _).drew).trans hb3))
                have B5 := Lib.hid ((B4.out.below (Below.refl _ _).drew B4.out.lt).below hb3 hlt1)
                clear hr3 hb3 e4 e02
                clear hlt1 B4 Q4
                have e0 := B5.out.cell (j := 0) rfl
                have e2 := B5.out.cell (j := 2) rfl
                go_wp2_with fail
                refine ((HKp _).out).mono ?_
                rintro e w6 ⟨rfl, hb6⟩
                have Q6 := Lib.hid (Q5.out.below hb6)
                clear hb6 e0 e2 B5 Q5
                cases hkb : keptB s.hd.text with
                | false =>
                  have hw : s.wordB = true := by simp [PS.wordB, h3, hkb]
                  have HT : Hid (bindR (.ok s) (oneP p) = chooseP s) := hsel
                  have HX := HSe _ Q6.out.1 (.inl hw)
                  clear hkb hw h3 k1 hsel
                  go_wp2_with fail
                  refine (HX.out).mono ?_
                  rintro e w7 ⟨rfl, R3, O3, t3, f3, m3⟩
                  have HS3 : Hid (TSt P T R w (chooseP s) w7) := ⟨R3, O3, t3, (Q6.out.2.weak (A := R.1)).trans (Mv.refl _ _) f3, (Mv.refl R.1 w).trans m3 Q6.out.2.size⟩
                  clear t3 f3 m3
                  go_wp2_with fail
                  first | go_end0 | refine bodyPost_ret (results_none rfl _ _ _) rfl ?_
                  rw [HT.out]
                  exact ⟨rfl, HS3.out⟩
                | true =>
                  have hw : s.wordB = false := by simp [PS.wordB, hkb]
                  have HT : Hid (bindR (.ok s) (oneP p) = failR (.ok s) 181) := hsel.trans (choose_fail hw HI2.out)
                  have HX := Lib.hid (rfail_q Q6.out 181 (by decide))
                  clear hkb hw h3 k1 hsel
                  go_wp2_with fail
                  refine (HX.out).mono ?_
                  rintro e w7 ⟨rfl, h7⟩
                  go_wp2_with fail
                  first | go_end0 | refine bodyPost_ret (results_none rfl _ _ _) rfl ?_
                  rw [HT.out]
                  exact ⟨rfl, h7.st⟩
          · have k3b : (s.hd.kind == 3) = false := by rw [beq_eq_false_iff_ne]; exact h3
            have hw : s.wordB = false := by simp [PS.wordB, h3]
            have HT : Hid (bindR (.ok s) (oneP p) = failR (.ok s) 181) := (one_sel k1 HI1.out (fun h => h3 h.1) (fun h => h3 h.1)).trans (choose_fail hw HI2.out)
            clear hw hin hab hwb HFN HAN h3 k1 HSe HS
            go_wp2_with fail
            go_quiet (fail)
            go_wp2_with fail
            go_quiet (fail)
            have HQ5 := fun n => Lib.hid (Q3.out.below (below_drewN (Below.refl _ _) n))
            generalize hW : World.drewN _ _ = W5
            have Q5 : Hid (TQ P T R O w (.ok s) W5) := by rw [← hW]; exact ((Q3.out.below (below_drewN (Below.refl _ _) _)).below (below_drewN (Below.refl _ _) _))
            have B5 : Hid (Blk W5 w.heap.size 52 (tokC s.hd)) := by rw [← hW]; exact (B3.out.drewN _).drewN _
            clear hW HQ5 e0 e2 e02 hlt1 B3 Q3
            have e0 := B5.out.cell (j := 0) rfl
            have HX := Lib.hid (rfail_q Q5.out 181 (by decide))
            go_wp2_with fail
            refine (HX.out).mono ?_
            rintro e w7 ⟨rfl, h7⟩
            go_wp2_with fail
            first | go_end0 | refine bodyPost_ret (results_none rfl _ _ _) rfl ?_
            rw [HT.out]
            exact ⟨rfl, h7.st⟩
end Go.Proofs.Ytdikmklijpcjdaa
