/- How the document reads a query: a select. -/
import Derived.Test.YtdikmklijpcjdaaRefD
namespace Go.Proofs.Ytdikmklijpcjdaa
open Go.RowKit
attribute [local go_sem ↓] Go.wp_at_zero Go.wp_at_succ tok_f0 tok_f2 tok_f3

def vecN : Nod := selN 2 [] 0 0
def setKW (y : Nod) (k w : Int) : Nod := ⟨k, y.op, y.text, y.mat, w, y.back, y.grp, y.names, y.cmp, y.parts⟩
def setBk (y : Nod) (b : Int) : Nod := ⟨y.kind, y.op, y.text, y.mat, y.width, b, y.grp, y.names, y.cmp, y.parts⟩
def sel4P (s3 : PS) (k : Int) (ms : List Mat) (w : Int) : Rp PS := match s3.sel4 with
  | .error e => .error e
  | .ok (s4, b) => .ok (s4.lay (selN k ms w b))
def sel34P (s2 : PS) (ms : List Mat) : Rp PS := match s2.sel3 with
  | .error e => .error e
  | .ok (s3, k, w) => sel4P s3 k ms w
def sel2P (s1 : PS) (wb : Bool) (ms : List Mat) : Rp PS := match s1.sel2 wb ms with
  | .error e => .error e
  | .ok (s2, m2) => sel34P s2 m2
theorem choose_eq (s : PS) : chooseP s = match s.sel1 with
    | .error e => .error e
    | .ok (s1, m1) => sel2P s1 s.wordB m1 := by
  rw [chooseP]
  cases s.sel1 with
  | error e => rfl
  | ok p =>
    obtain ⟨s1, m1⟩ := p
    dsimp only
    rw [sel2P]
    cases s1.sel2 s.wordB m1 with
    | error e => rfl
    | ok p =>
      obtain ⟨s2, m2⟩ := p
      dsimp only
      rw [sel34P]
      cases s2.sel3 with
      | error e => rfl
      | ok p =>
        obtain ⟨s3, k, w⟩ := p
        dsimp only
        rw [sel4P]
        cases s3.sel4 with
        | error e => rfl
        | ok p => rfl
/-- What is still to come, behind a select's word, braces, span. -/
def Tl1 (wb : Bool) (r : Rp PS) (y : Nod) (tr : Rp PS) : Prop := match r with
  | .error x => tr = .error x
  | .ok s => ∃ ms, y = selN 2 ms 0 0 ∧ sel2P s wb ms = tr
def Tl2 (r : Rp PS) (y : Nod) (tr : Rp PS) : Prop := match r with
  | .error x => tr = .error x
  | .ok s => ∃ ms, y = selN 2 ms 0 0 ∧ sel34P s ms = tr
def Tl3 (r : Rp PS) (y : Nod) (tr : Rp PS) : Prop := match r with
  | .error x => tr = .error x
  | .ok s => ∃ k ms w, y = selN k ms w 0 ∧ sel4P s k ms w = tr
theorem tl1_word {s : PS} (hw : s.wordB = true) {y : Nod} (hy : ∀ s' ms, matcherQ (.ok s) [] ⟨1, sNameN, s.hd.text⟩ = .ok (s', ms) → y = setM vecN ms) : Tl1 true (stR (matcherQ (.ok s) [] ⟨1, sNameN, s.hd.text⟩)) y (chooseP s) := by
  rw [choose_eq, PS.sel1, if_pos hw, hw]
  simp only [matcherQ, addM] at hy ⊢
  by_cases hc : matCode ([] ++ [⟨1, sNameN, s.hd.text⟩]) = 0
  · rw [if_pos hc] at hy
    rw [if_pos hc, if_pos hc]
    exact ⟨_, hy _ _ rfl, rfl⟩
  · rw [if_neg hc, if_neg hc]
    exact rfl
theorem tl1_none {s : PS} (hw : s.wordB = false) : Tl1 false (.ok s) vecN (chooseP s) := by
  rw [choose_eq, PS.sel1, if_neg (by rw [hw]; decide), hw]
  exact ⟨[], rfl, rfl⟩
theorem tl2_braces {wb : Bool} {s : PS} {y : Nod} {tr : Rp PS} (h : Tl1 wb (.ok s) y tr) (hc : s.is 5 sCurl = true) {y' : Nod} (hy : ∀ s' ms, bracesQ (.ok s) y.mat = .ok (s', ms) → y' = setM y ms) : Tl2 (stR (bracesQ (.ok s) y.mat)) y' tr := by
  obtain ⟨ms, rfl, h⟩ := h
  rw [sel2P, PS.sel2, if_pos hc] at h
  have hb : bracesQ (.ok s) (selN 2 ms 0 0).mat = s.on.matchers ms := by
    show (match s.sign sCurl with | .ok s1 => s1.matchers ms | .error x => .error x) = _
    rw [PS.sign, if_pos hc]
  rw [hb] at hy ⊢
  cases hm : s.on.matchers ms with
  | error x =>
    rw [hm] at h
    exact h.symm
  | ok p =>
    obtain ⟨s2, m2⟩ := p
    rw [hm] at h
    exact ⟨m2, hy s2 m2 hm, h⟩
theorem tl2_no {r : Rp PS} {y : Nod} {tr : Rp PS} (h : Tl1 true r y tr) (hc : isR r 5 sCurl = false) : Tl2 r y tr := by
  cases r with
  | error x => exact h
  | ok s =>
    obtain ⟨ms, hy, h⟩ := h
    have hc : s.is 5 sCurl = false := hc
    rw [sel2P, PS.sel2, if_neg (by rw [hc]; decide), if_pos rfl] at h
    exact ⟨ms, hy, h⟩
theorem tl3_span {s : PS} {y : Nod} {tr : Rp PS} (h : Tl2 (.ok s) y tr) (hc : s.is 5 sSq = true) : Tl3 (wantR (spanR (onR (.ok s))) sUnsq) (setKW y 3 (spanV (onR (.ok s)))) tr := by
  obtain ⟨ms, rfl, h⟩ := h
  have e : onR (.ok s) = .ok s.on := rfl
  rw [e]
  rw [sel34P, PS.sel3, if_pos hc, PS.span] at h
  by_cases hk : s.on.hd.kind = 2
  · rw [if_pos hk] at h
    rw [spanR, if_pos hk]
    change Tl3 (s.on.on.sign sUnsq) _ _
    dsimp only at h
    cases hs : s.on.on.sign sUnsq with
    | error x =>
      rw [hs] at h
      exact h.symm
    | ok s3 =>
      rw [hs] at h
      exact ⟨3, ms, _, rfl, h⟩
  · rw [if_neg hk] at h
    rw [spanR, if_neg hk]
    exact h.symm
theorem tl3_no {r : Rp PS} {y : Nod} {tr : Rp PS} (h : Tl2 r y tr) (hc : isR r 5 sSq = false) : Tl3 r y tr := by
  cases r with
  | error x => exact h
  | ok s =>
    obtain ⟨ms, hy, h⟩ := h
    have hc : s.is 5 sSq = false := hc
    rw [sel34P, PS.sel3, if_neg (by rw [hc]; decide)] at h
    exact ⟨2, ms, 0, hy, h⟩
theorem tl4_span {s : PS} {y : Nod} {tr : Rp PS} (h : Tl3 (.ok s) y tr) (hc : s.is 3 sOffset = true) : layR (spanR (onR (.ok s))) (setBk y (spanV (onR (.ok s)))) = tr := by
  obtain ⟨k, ms, w, rfl, h⟩ := h
  have e : onR (.ok s) = .ok s.on := rfl
  rw [e]
  rw [sel4P, PS.sel4, if_pos hc, PS.span] at h
  by_cases hk : s.on.hd.kind = 2
  · rw [if_pos hk] at h
    rw [spanR, if_pos hk]
    exact h
  · rw [if_neg hk] at h
    rw [spanR, if_neg hk]
    exact h
theorem tl4_no {r : Rp PS} {y : Nod} {tr : Rp PS} (h : Tl3 r y tr) (hc : isR r 3 sOffset = false) : layR r y = tr := by
  cases r with
  | error x => exact h.symm
  | ok s =>
    obtain ⟨k, ms, w, rfl, h⟩ := h
    have hc : s.is 3 sOffset = false := hc
    rw [sel4P, PS.sel4, if_neg (by rw [hc]; decide)] at h
    exact h
/-- How a call that gives matchers ends, in one form. -/
theorem MatE.uni {P : Nat} {T : List Tok} {R : Option Addr × Nat} {O : List Nod} {w0 w w' : World} {Am : Option Addr} {x : Nod} {rc : Rp (PS × List Mat)} {e : Ending} (h : MatE P T R O w0 w Am x rc e w') :
    ∃ (y : Nod) (A : Option Addr) (c : Nat), e = .returned (nodV y A c none 0) ∧ TQ P T R O w0 (stR rc) w' ∧ Fr P Am w w' ∧ ∀ s ms, rc = .ok (s, ms) → y = setM x ms ∧ Own w' w0.heap.size 45 3 A ms.length c (matsC ms) := by
  cases rc with
  | error z =>
    obtain ⟨y, A, c, h1, h2, h3⟩ := h
    exact ⟨y, A, c, h1, h2, h3, fun s ms he => by cases he⟩
  | ok p =>
    obtain ⟨s, ms⟩ := p
    obtain ⟨A, c, h1, h2, h3, h4, _⟩ := h
    exact ⟨setM x ms, A, c, h1, h3, h4, fun s' ms' he => by injection he with he; injection he with e1 e2; subst e1 e2; exact ⟨rfl, h2⟩⟩
/-- A select that is being read. -/
def SQ (P : Nat) (T : List Tok) (R : Option Addr × Nat) (O : List Nod) (w : World) (N : Nat) (r : Rp PS) (y : Nod) (A : Option Addr) (c : Nat) (wr : World) : Prop :=
  TQ P T R O w r wr ∧ Blk wr N 37 (nodC y A c none 0) ∧ ∀ s, r = .ok s → y.names = [] ∧ Own wr w.heap.size 45 3 A y.mat.length c (matsC y.mat)
section
variable {P : Nat} {T : List Tok} {R : Option Addr × Nat} {O : List Nod} {w wr w' : World} {N : Nat} {r r' r0 : Rp PS} {y : Nod} {A : Option Addr} {c : Nat}
theorem SQ.next (h : SQ P T R O w N r y A c wr) (hN : N ≠ P) (hk : TQ P T R O wr r' w') (hr : ∀ s, r' = .ok s → ∃ s0, r = .ok s0) : SQ P T R O w N r' y A c w' := by
  obtain ⟨h1, h2, h3⟩ := h
  refine ⟨h1.next hk, h2.keep (hk.2.block _ h2.lt hN (by simp)), fun s hs => ?_⟩
  obtain ⟨s0, hs0⟩ := hr s hs
  obtain ⟨a1, a2⟩ := h3 s0 hs0
  exact ⟨a1, a2.frQ h1.1 hk.2 (by decide)⟩
theorem SQ.set (h : SQ P T R O w N r y A c wr) (h0 : TAt w P T R O r0) (hN0 : w.heap.size ≤ N) (j : Nat) (v : Value) (y' : Nod) (e1 : nodC y' A c none 0 = (nodC y A c none 0).set j v) (e2 : y'.names = y.names) (e3 : y'.mat = y.mat) : SQ P T R O w N r y' A c (wr.setCell ⟨N, j, none⟩ v) := by
  obtain ⟨h1, h2, h3⟩ := h
  refine ⟨h1.setNew h0 hN0 j v, by rw [e1]; exact h2.set j v, fun s hs => ?_⟩
  obtain ⟨a1, a2⟩ := h3 s hs
  rw [e2, e3]
  exact ⟨a1, a2.setOther (own_ne_blk a2 h2 (by decide)) j v⟩
theorem want_ok {t : ByteArray} : ∀ s, wantR r t = .ok s → ∃ s0, r = .ok s0 := by
  intro s hs
  cases r with
  | error x => cases hs
  | ok s0 => exact ⟨s0, rfl⟩
end
set_option maxRecDepth 100000 in
set_option maxHeartbeats 4000000 in
theorem rselector_any {P : Nat} {T : List Tok} {M : Nat} {R : Option Addr × Nat} {O : List Nod} {w : World} {s : PS} (hM6 : M ≤ 1000000) (hE : Ends T) (hTs : ∀ t ∈ T, t.text.size ≤ 1000000) (hg : PGood M s) (h : TAt w P T R O (.ok s)) (hsel : s.wordB = true ∨ s.is 5 sCurl = true) :
    Calls Try.prog 77 #[.pointer (some ⟨P, 0, none⟩)] w fun e w' => e = .returned (.tuple #[]) ∧ TSt P T R w (chooseP s) w' := by
  have hP := h.lt
  have H0 := Lib.hid h
  have hNP : w.heap.size ≠ P := by omega
  have hN0 : w.heap.size ≤ w.heap.size := Nat.le_refl _
  have HOl : Hid (O.length ≤ 1000000) := by
    show _ ≤ _
    have h1 := hg.room
    rw [(h.toks hE).2.2.2.2] at h1
    omega
  have HW1 : Hid (s.hd.kind = 3 → Tl1 true (stR (matcherQ (.ok s) [] ⟨1, sNameN, s.hd.text⟩)) = Tl1 true (stR (matcherQ (.ok s) [] ⟨1, sNameN, s.hd.text⟩))) := fun _ => rfl
  clear HW1
  obtain ⟨tr, htr⟩ : ∃ tr, chooseP s = tr := ⟨_, rfl⟩
  have HTR := Lib.hid htr
  clear htr
  go_enter Try.func77, Try.ntmps77
  go_upto_region 1 with fail
  generalize hW : World.alloc _ _ = W0
  have hN2 : Blk W0 w.heap.size 37 (nodC vecN none 0 none 0) ∧ Below w.heap.size w W0 := by
    rw [← hW]
    exact ⟨Blk.new w 37 (nodC vecN none 0 none 0), (Below.refl w.heap.size w).alloc (Nat.le_refl _) _⟩
  obtain ⟨bN, hb2⟩ := hN2
  have q2 := (TQ.start h).below hb2
  have Q2 := Lib.hid q2
  have BN2 := Lib.hid bN
  obtain ⟨⟨q, hq, hr, ho⟩, _⟩ := q2
  obtain ⟨b, o, ct, tk, hT, c0, hat, hbP, hbw, t0, t1, t2, t3, c1, c2, c3, c4, c5, hct, hcm, hfz⟩ := hq.head
  unfold maxLen at hcm
  have hatI : (q.at_ : Int) < T.length := by omega
  have hat0 : (0 : Int) ≤ (q.at_ : Int) := by omega
  have hPb : P ≠ b := by omega
  have hPW := hq.lt
  have hd := rel_hd hr hT
  subst hd
  clear hW hr hT hq ho bN hb2 h
  go_wp2_with fail
  go_region
  generalize hW : World.drew _ = W1
  have hT1 : Blk W1 W0.heap.size 52 (tokC s.hd) ∧ Below W0.heap.size W0 W1 := by
    rw [← hW]
    exact ⟨Blk.new W0 _ _, ((Below.refl _ _).alloc (Nat.le_refl _) _).drew⟩
  obtain ⟨bT, hb1⟩ := hT1
  have S1 : Hid (SQ P T R O w w.heap.size (.ok s) vecN none 0 W1) := ⟨Q2.out.below hb1, BN2.out.below hb1 BN2.out.lt, fun _ _ => ⟨rfl, Own.nil_ (by decide)⟩⟩
  have e0 := bT.cell (j := 0) rfl
  have e2 := bT.cell (j := 2) rfl
  clear hW hb1 bT Q2 BN2 c0 c1 c2 c3 c4 c5 t0 t1 t2 t3 hfz
  go_upto_if 17 with fail
  go_cut [31] (fun _ wx => Hid (∃ r y A c, SQ P T R O w w.heap.size r y A c wx ∧ Tl2 r y tr))
  case first =>
    obtain ⟨S1q, S1b, _⟩ := S1.out
    have n0 := S1b.cell (j := 0) rfl
    have n1 := S1b.cell (j := 1) rfl
    have n2 := S1b.cell (j := 2) rfl
    have n3 := S1b.cell (j := 3) rfl
    have n4 := S1b.cell (j := 4) rfl
    have n5 := S1b.cell (j := 5) rfl
    have n6 := S1b.cell (j := 6) rfl
    have n7 := S1b.cell (j := 7) rfl
    have n8 := S1b.cell (j := 8) rfl
    have n9 := S1b.cell (j := 9) rfl
    have fN := S1b.frozen
    by_cases hk : s.hd.kind = 3
    · have hkb : (s.hd.kind == 3) = true := by rw [beq_iff_eq]; exact hk
      have hw : s.wordB = true := hsel.resolve_right (fun h => by rw [is_kind h] at hk; cases hk)
      have hk0 : s.hd.kind ≠ 0 := by rw [hk]; decide
      have HM := Lib.hid (rmatcher_any H0.out S1q (fun s' hs => by injection hs with hs; subst hs; exact hk0) hE vecN rfl none 0 (fun _ _ => Own.nil_ (by decide)) (by decide) ⟨1, sNameN, s.hd.text⟩ (fun z hz => by
        rw [List.mem_singleton.1 hz]; show sNameN.size ≤ maxLen; decide))
      rw [show matcherQ (.ok s) vecN.mat ⟨1, sNameN, s.hd.text⟩ = matcherQ (.ok s) [] ⟨1, sNameN, s.hd.text⟩ from rfl] at HM
      have HT1 : Hid (∀ y, (∀ s' ms, matcherQ (.ok s) [] ⟨1, sNameN, s.hd.text⟩ = .ok (s', ms) → y = setM vecN ms) → Tl1 true (stR (matcherQ (.ok s) [] ⟨1, sNameN, s.hd.text⟩)) y tr) := fun y hy => by rw [← HTR.out]; exact tl1_word hw hy
      have HMl : Hid (∀ s' ms, matcherQ (.ok s) [] ⟨1, sNameN, s.hd.text⟩ = .ok (s', ms) → ms.length ≤ 8 ∧ ∀ z ∈ ms, z.name.size ≤ maxLen) := by
        intro s' ms he
        simp only [matcherQ] at he
        split at he
        · injection he with he
          injection he with e1 e2
          subst e2
          refine ⟨Nat.le_add_left 1 7, fun z hz => ?_⟩
          rw [List.mem_singleton.1 hz]
          show sNameN.size ≤ maxLen
          decide
        · cases he
      generalize hrc : matcherQ (.ok s) [] ⟨1, sNameN, s.hd.text⟩ = rc at *
      clear hrc hk hw hk0
      have hne : some w.heap.size ≠ (none : Option Addr).map Addr.block := by simp
      dsimp only [nodC, vecN, selN] at n0 n1 n2 n3 n4 n5 n6 n7 n8 n9
      go_wp2_with fail
      refine (HM.out).mono ?_
      intro e w15 he15
      obtain ⟨y, A, c, rfl, q15, f15, o15⟩ := MatE.uni he15
      have B15 := Lib.hid (S1b.keep (f15.block _ S1b.lt hNP (fun e => hne e.symm)))
      have Q15 := Lib.hid q15
      have HO15 := Lib.hid o15
      have k0 := B15.out.cell (j := 0) rfl
      have k1 := B15.out.cell (j := 1) rfl
      have k2 := B15.out.cell (j := 2) rfl
      have k3 := B15.out.cell (j := 3) rfl
      have k4 := B15.out.cell (j := 4) rfl
      have k5 := B15.out.cell (j := 5) rfl
      have k6 := B15.out.cell (j := 6) rfl
      have k7 := B15.out.cell (j := 7) rfl
      have k8 := B15.out.cell (j := 8) rfl
      have k9 := B15.out.cell (j := 9) rfl
      have fK := B15.out.frozen
      clear f15 q15 o15 n0 n1 n2 n3 n4 n5 n6 n7 n8 n9 fN he15
      dsimp only [nodV, nodC]
      go_wp2_with fail
      generalize hW : World.setCell _ _ _ = W16
      have hb16 : Blk W16 w.heap.size 37 (nodC y A c none 0) ∧ TQ P T R O w (stR (rc)) W16 ∧ ∀ s' ms, rc = .ok (s', ms) → y = setM vecN ms ∧ Own W16 w.heap.size 45 3 A ms.length c (matsC ms) := by
        rw [← hW]
        refine ⟨((((((((((B15.out.set 0 _).set 1 _).set 2 _).set 3 _).set 4 _).set 5 _).set 6 _).set 7 _).set 8 _).set 9 _), ((((((((((Q15.out.setNew H0.out hN0 0 _).setNew H0.out hN0 1 _).setNew H0.out hN0 2 _).setNew H0.out hN0 3 _).setNew H0.out hN0 4 _).setNew H0.out hN0 5 _).setNew H0.out hN0 6 _).setNew H0.out hN0 7 _).setNew H0.out hN0 8 _).setNew H0.out hN0 9 _), fun s' ms he => ?_⟩
        obtain ⟨a1, a2⟩ := HO15.out s' ms he
        have hne15 := own_ne_blk a2 B15.out (by decide)
        exact ⟨a1, ((((((((((a2.setOther hne15 0 _).setOther hne15 1 _).setOther hne15 2 _).setOther hne15 3 _).setOther hne15 4 _).setOther hne15 5 _).setOther hne15 6 _).setOther hne15 7 _).setOther hne15 8 _).setOther hne15 9 _)⟩
      obtain ⟨b16, q16, o16⟩ := hb16
      have B6 := Lib.hid b16
      have Q6 := Lib.hid q16
      have O6 := Lib.hid o16
      clear hW B15 Q15 HO15 k0 k1 k2 k3 k4 k5 k6 k7 k8 k9 fK b16 q16 o16
      have HT2 : Hid (Tl1 true (stR rc) y tr) := HT1.out y (fun s' ms he => (O6.out s' ms he).1)
      have HS := Lib.hid (rsign_q (TQ.start Q6.out.1) sCurl)
      have S6 : Hid (SQ P T R O w w.heap.size (stR rc) y A c W16 ∧ ∀ s', stR rc = .ok s' → y.mat.length ≤ 8 ∧ ∀ z ∈ y.mat, z.name.size ≤ maxLen) := by
        refine ⟨⟨Q6.out, B6.out, fun s' hs => ?_⟩, fun s' hs => ?_⟩
        · cases rc with
          | error z => cases hs
          | ok p =>
            obtain ⟨a1, a2⟩ := O6.out p.1 p.2 rfl
            rw [a1]
            exact ⟨rfl, a2⟩
        · cases rc with
          | error z => cases hs
          | ok p =>
            obtain ⟨a1, a2⟩ := O6.out p.1 p.2 rfl
            rw [a1]
            exact HMl.out p.1 p.2 rfl
      clear B6 Q6 O6 HMl HT1 HM
      generalize stR rc = r1 at *
      refine (HS.out).mono ?_
      rintro e w17 ⟨rfl, h17⟩
      have S7 : Hid (SQ P T R O w w.heap.size r1 y A c w17) := S6.out.1.next hNP h17 (fun s' hs => ⟨s', hs⟩)
      have S7l := Lib.hid S6.out.2
      clear h17 S6 HS
      cases hi : isR r1 5 sCurl with
      | false =>
        have HT3 := Lib.hid (tl2_no HT2.out hi)
        clear hi
        go_wp2_with fail
        go_meet
        exact ⟨r1, y, A, c, S7.out, HT3.out⟩
      | true =>
        cases r1 with
        | error z => cases hi
        | ok s1 =>
          obtain ⟨S7q, S7b, S7o⟩ := S7.out
          obtain ⟨a1, a2⟩ := S7o s1 rfl
          obtain ⟨a3, a4⟩ := S7l.out s1 rfl
          have hne7 := own_ne_blk a2 S7b (by decide)
          have HB := Lib.hid (rbraces_any H0.out S7q hE hTs y a1 A c (fun _ _ => a2) a3 a4)
          have HT3 : Hid (∀ y', (∀ s' ms, bracesQ (.ok s1) y.mat = .ok (s', ms) → y' = setM y ms) → Tl2 (stR (bracesQ (.ok s1) y.mat)) y' tr) := fun y' hy => tl2_braces HT2.out hi hy
          have A1 := Lib.hid a1
          generalize hrc2 : bracesQ (.ok s1) y.mat = rc2 at *
          clear hrc2 hi S7 S7l S7o a2 a3 a4 a1
          have n0 := S7b.cell (j := 0) rfl
          have n1 := S7b.cell (j := 1) rfl
          have n2 := S7b.cell (j := 2) rfl
          have n3 := S7b.cell (j := 3) rfl
          have n4 := S7b.cell (j := 4) rfl
          have n5 := S7b.cell (j := 5) rfl
          have n6 := S7b.cell (j := 6) rfl
          have n7 := S7b.cell (j := 7) rfl
          have n8 := S7b.cell (j := 8) rfl
          have n9 := S7b.cell (j := 9) rfl
          have fN := S7b.frozen
          go_wp2_with fail
          refine (HB.out).mono ?_
          intro e w15 he15
          obtain ⟨y2, A2, c2, rfl, q15, f15, o15⟩ := MatE.uni he15
          have B15 := Lib.hid (S7b.keep (f15.block _ S7b.lt hNP (fun e => hne7 e.symm)))
          have Q15 := Lib.hid q15
          have HO15 := Lib.hid o15
          have k0 := B15.out.cell (j := 0) rfl
          have k1 := B15.out.cell (j := 1) rfl
          have k2 := B15.out.cell (j := 2) rfl
          have k3 := B15.out.cell (j := 3) rfl
          have k4 := B15.out.cell (j := 4) rfl
          have k5 := B15.out.cell (j := 5) rfl
          have k6 := B15.out.cell (j := 6) rfl
          have k7 := B15.out.cell (j := 7) rfl
          have k8 := B15.out.cell (j := 8) rfl
          have k9 := B15.out.cell (j := 9) rfl
          have fK := B15.out.frozen
          clear f15 q15 o15 n0 n1 n2 n3 n4 n5 n6 n7 n8 n9 fN he15
          dsimp only [nodV, nodC]
          go_wp2_with fail
          generalize hW : World.setCell _ _ _ = W16
          have hb16 : Blk W16 w.heap.size 37 (nodC y2 A2 c2 none 0) ∧ TQ P T R O w (stR (rc2)) W16 ∧ ∀ s' ms, rc2 = .ok (s', ms) → y2 = setM y ms ∧ Own W16 w.heap.size 45 3 A2 ms.length c2 (matsC ms) := by
            rw [← hW]
            refine ⟨((((((((((B15.out.set 0 _).set 1 _).set 2 _).set 3 _).set 4 _).set 5 _).set 6 _).set 7 _).set 8 _).set 9 _), ((((((((((Q15.out.setNew H0.out hN0 0 _).setNew H0.out hN0 1 _).setNew H0.out hN0 2 _).setNew H0.out hN0 3 _).setNew H0.out hN0 4 _).setNew H0.out hN0 5 _).setNew H0.out hN0 6 _).setNew H0.out hN0 7 _).setNew H0.out hN0 8 _).setNew H0.out hN0 9 _), fun s' ms he => ?_⟩
            obtain ⟨a1, a2⟩ := HO15.out s' ms he
            have hne15 := own_ne_blk a2 B15.out (by decide)
            exact ⟨a1, ((((((((((a2.setOther hne15 0 _).setOther hne15 1 _).setOther hne15 2 _).setOther hne15 3 _).setOther hne15 4 _).setOther hne15 5 _).setOther hne15 6 _).setOther hne15 7 _).setOther hne15 8 _).setOther hne15 9 _)⟩
          obtain ⟨b16, q16, o16⟩ := hb16
          have B8 := Lib.hid b16
          have Q8 := Lib.hid q16
          have O8 := Lib.hid o16
          clear hW B15 Q15 HO15 k0 k1 k2 k3 k4 k5 k6 k7 k8 k9 fK b16 q16 o16
          go_meet
          refine ⟨stR rc2, y2, A2, c2, ⟨Q8.out, B8.out, fun s' hs => ?_⟩, HT3.out y2 (fun s' ms he => (O8.out s' ms he).1)⟩
          cases rc2 with
          | error z => cases hs
          | ok p =>
            obtain ⟨z1, z2⟩ := O8.out p.1 p.2 rfl
            rw [z1]
            exact ⟨A1.out, z2⟩
    · have hkb : (s.hd.kind == 3) = false := by rw [beq_eq_false_iff_ne]; exact hk
      have hw : s.wordB = false := by simp [PS.wordB, hk]
      have hc : s.is 5 sCurl = true := hsel.resolve_left (fun h => by rw [hw] at h; cases h)
      have hne7 : some w.heap.size ≠ (none : Option Addr).map Addr.block := by simp
      have HB := Lib.hid (rbraces_any H0.out S1q hE hTs vecN rfl none 0 (fun _ _ => Own.nil_ (by decide)) (by decide) (fun z hz => by cases hz))
      have HT3 : Hid (∀ y', (∀ s' ms, bracesQ (.ok s) vecN.mat = .ok (s', ms) → y' = setM vecN ms) → Tl2 (stR (bracesQ (.ok s) vecN.mat)) y' tr) := fun y' hy => tl2_braces (by rw [← HTR.out]; exact tl1_none hw) hc hy
      generalize hrc2 : bracesQ (.ok s) vecN.mat = rc2 at *
      clear hrc2 hk hw hc
      dsimp only [nodC, vecN, selN] at n0 n1 n2 n3 n4 n5 n6 n7 n8 n9
      go_wp2_with fail
      refine (HB.out).mono ?_
      intro e w15 he15
      obtain ⟨y2, A2, c2, rfl, q15, f15, o15⟩ := MatE.uni he15
      have B15 := Lib.hid (S1b.keep (f15.block _ S1b.lt hNP (fun e => hne7 e.symm)))
      have Q15 := Lib.hid q15
      have HO15 := Lib.hid o15
      have k0 := B15.out.cell (j := 0) rfl
      have k1 := B15.out.cell (j := 1) rfl
      have k2 := B15.out.cell (j := 2) rfl
      have k3 := B15.out.cell (j := 3) rfl
      have k4 := B15.out.cell (j := 4) rfl
      have k5 := B15.out.cell (j := 5) rfl
      have k6 := B15.out.cell (j := 6) rfl
      have k7 := B15.out.cell (j := 7) rfl
      have k8 := B15.out.cell (j := 8) rfl
      have k9 := B15.out.cell (j := 9) rfl
      have fK := B15.out.frozen
      clear f15 q15 o15 n0 n1 n2 n3 n4 n5 n6 n7 n8 n9 fN he15
      dsimp only [nodV, nodC]
      go_wp2_with fail
      generalize hW : World.setCell _ _ _ = W16
      have hb16 : Blk W16 w.heap.size 37 (nodC y2 A2 c2 none 0) ∧ TQ P T R O w (stR (rc2)) W16 ∧ ∀ s' ms, rc2 = .ok (s', ms) → y2 = setM vecN ms ∧ Own W16 w.heap.size 45 3 A2 ms.length c2 (matsC ms) := by
        rw [← hW]
        refine ⟨((((((((((B15.out.set 0 _).set 1 _).set 2 _).set 3 _).set 4 _).set 5 _).set 6 _).set 7 _).set 8 _).set 9 _), ((((((((((Q15.out.setNew H0.out hN0 0 _).setNew H0.out hN0 1 _).setNew H0.out hN0 2 _).setNew H0.out hN0 3 _).setNew H0.out hN0 4 _).setNew H0.out hN0 5 _).setNew H0.out hN0 6 _).setNew H0.out hN0 7 _).setNew H0.out hN0 8 _).setNew H0.out hN0 9 _), fun s' ms he => ?_⟩
        obtain ⟨a1, a2⟩ := HO15.out s' ms he
        have hne15 := own_ne_blk a2 B15.out (by decide)
        exact ⟨a1, ((((((((((a2.setOther hne15 0 _).setOther hne15 1 _).setOther hne15 2 _).setOther hne15 3 _).setOther hne15 4 _).setOther hne15 5 _).setOther hne15 6 _).setOther hne15 7 _).setOther hne15 8 _).setOther hne15 9 _)⟩
      obtain ⟨b16, q16, o16⟩ := hb16
      have B8 := Lib.hid b16
      have Q8 := Lib.hid q16
      have O8 := Lib.hid o16
      clear hW B15 Q15 HO15 k0 k1 k2 k3 k4 k5 k6 k7 k8 k9 fK b16 q16 o16
      go_meet
      refine ⟨stR rc2, y2, A2, c2, ⟨Q8.out, B8.out, fun s' hs => ?_⟩, HT3.out y2 (fun s' ms he => (O8.out s' ms he).1)⟩
      cases rc2 with
      | error z => cases hs
      | ok p =>
        obtain ⟨z1, z2⟩ := O8.out p.1 p.2 rfl
        rw [z1]
        exact ⟨rfl, z2⟩
  case rest =>
    obtain ⟨r2, y2, A2, c2, hs2, ht2⟩ := hcut.out
    have HS := Lib.hid (rsign_q (TQ.start hs2.1.1) sSq)
    have S2 := Lib.hid hs2
    have HT2 := Lib.hid ht2
    clear hs2 ht2 hcut S1 e0 e2
    go_wp2_with fail
    refine (HS.out).mono ?_
    rintro e w3 ⟨rfl, h3⟩
    have S3 : Hid (SQ P T R O w w.heap.size r2 y2 A2 c2 w3) := S2.out.next hNP h3 (fun s' hs => ⟨s', hs⟩)
    clear h3 HS S2
    go_upto_if 33 with fail
    go_cut [41] (fun _ wx => Hid (∃ r y A c, SQ P T R O w w.heap.size r y A c wx ∧ Tl3 r y tr))
    case first =>
      cases hi : isR r2 5 sSq with
      | false =>
        have HT3 := Lib.hid (tl3_no HT2.out hi)
        clear hi
        go_wp2_with fail
        go_meet
        exact ⟨r2, y2, A2, c2, S3.out, HT3.out⟩
      | true =>
        cases r2 with
        | error z => cases hi
        | ok s2 =>
          have hi' : s2.is 5 sSq = true := hi
          have HT3 := Lib.hid (tl3_span HT2.out hi')
          have hk : s2.hd.kind ≠ 0 := by rw [is_kind hi']; decide
          have HN := Lib.hid (rnext_any S3.out.1.1 (fun s' hs => by injection hs with hs; subst hs; exact hk) hE)
          clear hi hi' hk
          go_wp2_with fail
          refine (HN.out).mono ?_
          rintro e w4 ⟨rfl, h4⟩
          have S4 : Hid (SQ P T R O w w.heap.size (onR (.ok s2)) y2 A2 c2 w4) := S3.out.next hNP h4 (fun s' hs => ⟨s2, rfl⟩)
          have fN := S4.out.2.1.frozen
          have n0 := S4.out.2.1.cell (j := 0) rfl
          have S5 : Hid (SQ P T R O w w.heap.size (onR (.ok s2)) (setKW y2 3 y2.width) A2 c2 (w4.setCell ⟨w.heap.size, 0, none⟩ (.int .i64 3))) := S4.out.set H0.out hN0 0 _ _ rfl rfl rfl
          have HX := Lib.hid (rspan_any S5.out.1.1 hE)
          clear h4 S3 S4 HN
          go_wp2_with fail
          refine (HX.out).mono ?_
          rintro e w6 ⟨rfl, h6⟩
          have S6 : Hid (SQ P T R O w w.heap.size (spanR (onR (.ok s2))) (setKW y2 3 y2.width) A2 c2 w6) := S5.out.next hNP h6 (fun s' hs => ⟨s2.on, rfl⟩)
          have fN6 := S6.out.2.1.frozen
          have n4 := S6.out.2.1.cell (j := 4) rfl
          have S7 : Hid (SQ P T R O w w.heap.size (spanR (onR (.ok s2))) (setKW y2 3 (spanV (onR (.ok s2)))) A2 c2 (w6.setCell ⟨w.heap.size, 4, none⟩ (.int .i64 (spanV (onR (.ok s2)))))) := S6.out.set H0.out hN0 4 _ _ rfl rfl rfl
          have HY := Lib.hid (rwant_q (TQ.start S7.out.1.1) sUnsq hE)
          clear h6 S5 S6 HX
          go_wp2_with fail
          refine (HY.out).mono ?_
          rintro e w8 ⟨rfl, h8⟩
          have S8 : Hid (SQ P T R O w w.heap.size (wantR (spanR (onR (.ok s2))) sUnsq) (setKW y2 3 (spanV (onR (.ok s2)))) A2 c2 w8) := S7.out.next hNP h8 want_ok
          clear h8 S7 HY
          go_wp2_with fail
          go_meet
          exact ⟨_, _, _, _, S8.out, HT3.out⟩
    case rest =>
      obtain ⟨r3, y3, A3, c3, hs3, ht3⟩ := hcut.out
      have HS := Lib.hid (rword_q (TQ.start hs3.1.1) sOffset)
      have S3' := Lib.hid hs3
      have HT3 := Lib.hid ht3
      clear hs3 ht3 hcut S3 HT2
      go_wp2_with fail
      refine (HS.out).mono ?_
      rintro e w4 ⟨rfl, h4⟩
      have S4 : Hid (SQ P T R O w w.heap.size r3 y3 A3 c3 w4) := S3'.out.next hNP h4 (fun s' hs => ⟨s', hs⟩)
      clear h4 HS S3'
      go_upto_if 43 with fail
      go_cut [48] (fun _ wx => Hid (∃ r y A c, SQ P T R O w w.heap.size r y A c wx ∧ layR r y = tr))
      case first =>
        cases hi : isR r3 3 sOffset with
        | false =>
          have HT4 := Lib.hid (tl4_no HT3.out hi)
          clear hi
          go_wp2_with fail
          go_meet
          exact ⟨r3, y3, A3, c3, S4.out, HT4.out⟩
        | true =>
          cases r3 with
          | error z => cases hi
          | ok s3 =>
            have hi' : s3.is 3 sOffset = true := hi
            have HT4 := Lib.hid (tl4_span HT3.out hi')
            have hk : s3.hd.kind ≠ 0 := by rw [is_kind hi']; decide
            have HN := Lib.hid (rnext_any S4.out.1.1 (fun s' hs => by injection hs with hs; subst hs; exact hk) hE)
            clear hi hi' hk
            go_wp2_with fail
            refine (HN.out).mono ?_
            rintro e w5 ⟨rfl, h5⟩
            have S5 : Hid (SQ P T R O w w.heap.size (onR (.ok s3)) y3 A3 c3 w5) := S4.out.next hNP h5 (fun s' hs => ⟨s3, rfl⟩)
            have HX := Lib.hid (rspan_any S5.out.1.1 hE)
            clear h5 S4 HN
            go_wp2_with fail
            refine (HX.out).mono ?_
            rintro e w6 ⟨rfl, h6⟩
            have S6 : Hid (SQ P T R O w w.heap.size (spanR (onR (.ok s3))) y3 A3 c3 w6) := S5.out.next hNP h6 (fun s' hs => ⟨s3.on, rfl⟩)
            have fN6 := S6.out.2.1.frozen
            have n5 := S6.out.2.1.cell (j := 5) rfl
            have S7 : Hid (SQ P T R O w w.heap.size (spanR (onR (.ok s3))) (setBk y3 (spanV (onR (.ok s3)))) A3 c3 (w6.setCell ⟨w.heap.size, 5, none⟩ (.int .i64 (spanV (onR (.ok s3)))))) := S6.out.set H0.out hN0 5 _ _ rfl rfl rfl
            clear h6 S5 S6 HX
            go_wp2_with fail
            go_meet
            exact ⟨_, _, _, _, S7.out, HT4.out⟩
      case rest =>
        obtain ⟨r4, y4, A4, c4, ⟨q4, b4, o4⟩, ht4⟩ := hcut.out
        have HL := Lib.hid (rlay_any q4.1 y4 A4 none c4 0 (fun s' hs => (o4 s' hs).2.lower (by omega)) (fun s' hs => by rw [(o4 s' hs).1]; exact Own.nil_ (by decide)) (fun _ _ => HOl.out))
        have HT4 := Lib.hid ht4
        have Q4 := Lib.hid q4
        clear hcut ht4 q4 o4 S4 HT3
        have n0 := b4.cell (j := 0) rfl
        have n1 := b4.cell (j := 1) rfl
        have n2 := b4.cell (j := 2) rfl
        have n3 := b4.cell (j := 3) rfl
        have n4 := b4.cell (j := 4) rfl
        have n5 := b4.cell (j := 5) rfl
        have n6 := b4.cell (j := 6) rfl
        have n7 := b4.cell (j := 7) rfl
        have n8 := b4.cell (j := 8) rfl
        have n9 := b4.cell (j := 9) rfl
        have fN := b4.frozen
        go_wp2_with fail
        refine (HL.out).mono ?_
        rintro e w9 ⟨rfl, R5, O5, t5, f5, m5⟩
        rw [HT4.out] at t5
        have HS9 : Hid (TSt P T R w tr w9) := ⟨R5, O5, t5, (Q4.out.2.weak (A := R.1)).trans (Mv.refl _ _) f5, (Mv.refl R.1 w).trans m5 Q4.out.2.size⟩
        clear t5 f5 m5 n0 n1 n2 n3 n4 n5 n6 n7 n8 n9 fN b4
        go_wp2_with fail
        first | go_end0 | refine bodyPost_ret (results_none rfl _ _ _) rfl ?_
        rw [HTR.out]
        exact ⟨rfl, HS9.out⟩
end Go.Proofs.Ytdikmklijpcjdaa
