/- How the document reads a query: matchers in braces. -/
import Derived.Test.YtdikmklijpcjdaaRefI
import Derived.Test.YtdikmklijpcjdaaRefR
namespace Go.Proofs.Ytdikmklijpcjdaa
section
/-! ## RefC -/
open Go.RowKit

def sgn (i : Nat) : ByteArray := matsL.getD (i + 1) ByteArray.empty
/-- The last of the first i signs that is reached. -/
def kU (r : Rp PS) : Nat → Int
  | 0 => 0
  | i + 1 => if isR r 5 (sgn i) = true then ((i + 1 : Nat) : Int) else kU r i
def kindQ (r : Rp PS) : Rp PS := if kU r 4 = 0 then failR r 181 else r
def textQ (r : Rp PS) : Rp PS := match r with
  | .ok s => if s.hd.kind ≠ 4 then failR (.ok s) 181 else .ok s
  | .error x => .error x
def txtV (r : Rp PS) : ByteArray := match r with
  | .ok s => s.hd.text
  | .error _ => ByteArray.empty
def commaR (s : PS) (fst : Bool) : Rp PS := if fst = true then .ok s else wantR (.ok s) sComma
/-- One matcher more. -/
def stepC (s : PS) (acc : List Mat) (fst : Bool) : Rp (PS × List Mat) :=
  matcherQ (textQ (onR (kindQ (nameR (commaR s fst))))) acc ⟨kU (nameR (commaR s fst)) 4, nameV (commaR s fst), txtV (textQ (onR (kindQ (nameR (commaR s fst)))))⟩
theorem kU_err (x : Int × Int) : ∀ i, kU (.error x) i = 0
  | 0 => rfl
  | i + 1 => by rw [kU, if_neg (show ¬ isR (.error x) 5 (sgn i) = true from fun h => Bool.noConfusion h)]; exact kU_err x i
theorem kU_ok (s : PS) : kU (.ok s) 4 = if s.hd.kind = 5 then numW matsL s.hd.text else 0 := by
  by_cases hk : s.hd.kind = 5
  · rw [if_pos hk]
    have hi : ∀ t, isR (.ok s) 5 t = decide (s.hd.text = t) := fun t => by show s.is 5 t = _; simp [PS.is, hk]
    simp only [kU, hi, decide_eq_true_eq]
    generalize s.hd.text = t
    show _ = numF 0 matsL t
    simp only [numF, matsL]
    have e0 : sgn 0 = ⟨#[61]⟩ := rfl
    have e1 : sgn 1 = ⟨#[33, 61]⟩ := rfl
    have e2 : sgn 2 = ⟨#[61, 126]⟩ := rfl
    have e3 : sgn 3 = ⟨#[33, 126]⟩ := rfl
    rw [e0, e1, e2, e3]
    by_cases h3 : t = ⟨#[33, 126]⟩
    · subst h3; decide
    by_cases h2 : t = ⟨#[61, 126]⟩
    · subst h2; decide
    by_cases h1 : t = ⟨#[33, 61]⟩
    · subst h1; decide
    by_cases h0 : t = ⟨#[61]⟩
    · subst h0; decide
    rw [if_neg h3, if_neg h2, if_neg h1, if_neg h0, if_neg (fun h => h.2 h.1.symm), if_neg (fun h => h0 h.1.symm), if_neg (fun h => h1 h.1.symm), if_neg (fun h => h2 h.1.symm), if_neg (fun h => h3 h.1.symm)]
  · rw [if_neg hk]
    have hi : ∀ t, ¬ isR (.ok s) 5 t = true := fun t => by show ¬ s.is 5 t = true; simp [PS.is, hk]
    rw [kU, if_neg (hi _), kU, if_neg (hi _), kU, if_neg (hi _), kU, if_neg (hi _), kU]
theorem kindQ_kind {r : Rp PS} {s : PS} (h : kindQ r = .ok s) : s.hd.kind = 5 := by
  cases r with
  | error x => rw [kindQ, kU_err] at h; cases h
  | ok s0 =>
    unfold kindQ at h
    split at h
    · rename_i hz
      simp only [failR] at h
      cases h
    · rename_i hz
      injection h with h
      subst h
      rw [kU_ok] at hz
      split at hz
      · assumption
      · exact absurd rfl hz
def needF (r : Rp PS) : Bool := match r with
  | .ok s => decide (s.hd.kind ≠ 4)
  | .error _ => false
theorem textQ_ok {r : Rp PS} {s : PS} (h : textQ r = .ok s) : s.hd.kind = 4 := by
  cases r with
  | error x => cases h
  | ok s0 =>
    unfold textQ at h
    dsimp only at h
    split at h
    · simp only [failR] at h
      cases h
    · rename_i hz
      injection h with h
      subst h
      exact Classical.byContradiction fun h => hz h
theorem textQ_need {r : Rp PS} : textQ r = if needF r = true then failR r 181 else r := by
  cases r with
  | error x => rfl
  | ok s0 =>
    unfold textQ needF
    by_cases hk : s0.hd.kind ≠ 4
    · simp [hk]
    · simp [hk]
def tailC (rc : Rp (PS × List Mat)) (fst : Bool) (tr : Rp (PS × List Mat)) : Prop := match rc with
  | .ok (s, acc) => ∃ m, s.toks.length ≤ m ∧ matchersF m fst s acc = tr
  | .error x => tr = .error x
theorem tailC_end {s : PS} {acc : List Mat} {fst : Bool} {tr : Rp (PS × List Mat)} (hl : 1 ≤ s.toks.length) (hi : s.is 5 sUncurl = true) (h : tailC (.ok (s, acc)) fst tr) : tr = .ok (s.on, acc) := by
  obtain ⟨m, hm, hn⟩ := h
  obtain ⟨m, rfl⟩ : ∃ k, m = k + 1 := ⟨m - 1, by omega⟩
  rw [matchersF, if_pos hi] at hn
  exact hn.symm
theorem on_less {s : PS} (hk : s.hd.kind ≠ 0) : s.on.toks.length < s.toks.length := by
  cases h : s.toks with
  | nil => exact absurd (by simp [PS.hd, h, tok0]) hk
  | cons t r => simp [PS.on, h]
theorem comma_len {s s1 : PS} {fst : Bool} (h : commaR s fst = .ok s1) : s1.toks.length ≤ s.toks.length := by
  unfold commaR at h
  split at h
  · injection h with h; rw [h]; exact Nat.le_refl _
  · rw [(sign_step (s := s) h).1]; simp [PS.on]
theorem tailC_step {s : PS} {acc : List Mat} {fst : Bool} {tr : Rp (PS × List Mat)} (hl : 1 ≤ s.toks.length) (hi : s.is 5 sUncurl = false) (h : tailC (.ok (s, acc)) fst tr) :
    tailC (stepC s acc fst) false tr ∧ ∀ s' ms, stepC s acc fst = .ok (s', ms) → s'.toks.length < s.toks.length ∧ ms.length ≤ 8 ∧ ms = acc ++ [⟨kU (nameR (commaR s fst)) 4, nameV (commaR s fst), txtV (textQ (onR (kindQ (nameR (commaR s fst)))))⟩] := by
  obtain ⟨m, hm, hn⟩ := h
  obtain ⟨m, rfl⟩ : ∃ k, m = k + 1 := ⟨m - 1, by omega⟩
  rw [matchersF, if_neg (by rw [hi]; decide)] at hn
  have hc : s.comma fst = commaR s fst := rfl
  rw [hc] at hn
  unfold stepC
  cases hr : commaR s fst with
  | error x =>
    rw [hr] at hn
    have hk : kindQ (nameR (.error x)) = .error x := by rw [nameR, kindQ, kU_err]; rfl
    rw [hk]
    exact ⟨hn.symm, fun s' ms he => by cases he⟩
  | ok s1 =>
    have hl1 := comma_len hr
    rw [hr] at hn
    dsimp only at hn
    by_cases hk : s1.hd.kind = 3 ∧ nameB s1.hd.text = true
    · have hnr : nameR (.ok s1) = .ok s1.on := by rw [nameR, if_pos hk]
      have hnv : nameV (.ok s1) = s1.hd.text := by rw [nameV, if_pos hk]
      have hlo := on_less (s := s1) (by rw [hk.1]; decide)
      rw [PS.name, if_pos hk] at hn
      dsimp only at hn
      rw [hnr, hnv, kU_ok]
      by_cases h5 : s1.on.hd.kind ≠ 5 ∨ numW matsL s1.on.hd.text = 0
      · rw [if_pos h5] at hn
        have hz : kU (.ok s1.on) 4 = 0 := by
          rw [kU_ok]
          split
          · rename_i h; exact h5.resolve_left (fun h' => h' h)
          · rfl
        have hq : kindQ (.ok s1.on) = .error s1.on.stuck := by rw [kindQ, if_pos hz]; rfl
        rw [hq]
        exact ⟨hn.symm, fun s' ms he => by cases he⟩
      · rw [if_neg h5] at hn
        have h50 : s1.on.hd.kind = 5 := Classical.byContradiction fun h => h5 (.inl h)
        have hz : ¬ kU (.ok s1.on) 4 = 0 := by
          rw [kU_ok, if_pos h50]
          exact fun h => h5 (.inr h)
        have hq : kindQ (.ok s1.on) = .ok s1.on := by rw [kindQ, if_neg hz]
        rw [hq, if_pos h50]
        have hlo2 := on_less (s := s1.on) (by rw [h50]; decide)
        have hon : onR (.ok s1.on) = .ok s1.on.on := rfl
        rw [hon]
        by_cases h4 : s1.on.on.hd.kind ≠ 4
        · rw [if_pos h4] at hn
          have ht : textQ (.ok s1.on.on) = .error s1.on.on.stuck := by rw [textQ, if_pos h4]; rfl
          rw [ht]
          exact ⟨hn.symm, fun s' ms he => by cases he⟩
        · rw [if_neg h4] at hn
          have ht : textQ (.ok s1.on.on) = .ok s1.on.on := by rw [textQ, if_neg h4]
          have h40 : s1.on.on.hd.kind = 4 := Classical.byContradiction fun h => h4 h
          have hlo3 := on_less (s := s1.on.on) (by rw [h40]; decide)
          rw [ht]
          have htx : txtV (.ok s1.on.on) = s1.on.on.hd.text := rfl
          rw [htx]
          generalize (⟨numW matsL s1.on.hd.text, s1.hd.text, s1.on.on.hd.text⟩ : Mat) = mm at *
          by_cases hm0 : matCode (acc ++ [mm]) = 0
          · rw [addM, if_pos hm0] at hn
            rw [matcherQ, if_pos hm0]
            refine ⟨⟨m, by omega, hn⟩, fun s' ms he => ?_⟩
            injection he with he
            injection he with e1 e2
            subst e1 e2
            refine ⟨by omega, ?_, rfl⟩
            unfold matCode at hm0
            split at hm0
            · cases hm0
            · omega
          · rw [addM, if_neg hm0] at hn
            rw [matcherQ, if_neg hm0]
            exact ⟨hn.symm, fun s' ms he => by cases he⟩
    · rw [PS.name, if_neg hk] at hn
      have hq : kindQ (nameR (.ok s1)) = .error s1.stuck := by rw [nameR, if_neg hk, kindQ, kU_err]; rfl
      rw [hq]
      exact ⟨hn.symm, fun s' ms he => by cases he⟩
end
section
/-! ## RefD -/
open Go.RowKit
attribute [local go_sem ↓] Go.wp_at_zero Go.wp_at_succ tok_f0 tok_f2 tok_f3

def codeW (P : Nat) (w : World) : Int := match w.cell? ⟨P, 4, none⟩ with
  | some (.int _ n) => n
  | _ => 0
section
variable {P : Nat} {T : List Tok} {R : Option Addr × Nat} {O : List Nod} {w : World}
theorem TAt.code0 {s : PS} (h : TAt w P T R O (.ok s)) : codeW P w = 0 := by
  obtain ⟨q, ⟨b, o, ct, h1, _⟩, ⟨h2, _⟩, _⟩ := h
  have := h1.cell (j := 4) rfl
  simp [codeW, this, h2]
theorem TAt.code1 {x : Int × Int} (h : TAt w P T R O (.error x)) : codeW P w ≠ 0 := by
  obtain ⟨q, ⟨b, o, ct, h1, _⟩, ⟨h2, h3, _⟩, _⟩ := h
  have := h1.cell (j := 4) rfl
  simp [codeW, this, h2, h3]
end
def okB (r : Rp PS) : Bool := match r with
  | .ok _ => true
  | .error _ => false
def bracesQ (r : Rp PS) (ms : List Mat) : Rp (PS × List Mat) := match r with
  | .ok s => match s.sign sCurl with
    | .ok s1 => s1.matchers ms
    | .error x => .error x
  | .error x => .error x
def stR (rc : Rp (PS × List Mat)) : Rp PS := match rc with
  | .ok (s, _) => .ok s
  | .error x => .error x
def pairR (r : Rp PS) (ms : List Mat) : Rp (PS × List Mat) := match r with
  | .ok s => .ok (s, ms)
  | .error x => .error x
theorem tailC_start (r : Rp PS) (ms : List Mat) : tailC (pairR (wantR r sCurl) ms) true (bracesQ r ms) := by
  cases r with
  | error x => exact (rfl : (Except.error x : Rp (PS × List Mat)) = Except.error x)
  | ok s =>
    show tailC (pairR (s.sign sCurl) ms) true (match s.sign sCurl with | .ok s1 => s1.matchers ms | .error x => .error x)
    cases s.sign sCurl with
    | error x => exact (rfl : (Except.error x : Rp (PS × List Mat)) = Except.error x)
    | ok s1 => exact ⟨s1.toks.length, Nat.le_refl _, rfl⟩
theorem stR_pair (r : Rp PS) (ms : List Mat) : stR (pairR r ms) = r := by cases r <;> rfl
/-- Matchers that are being read. -/
def MQ (P : Nat) (T : List Tok) (R : Option Addr × Nat) (O : List Nod) (w0 w : World) (Am : Option Addr) (x : Nod) (N : Nat) (rc : Rp (PS × List Mat)) (y : Nod) (A : Option Addr) (c : Nat) (wr : World) : Prop :=
  TQ P T R O w0 (stR rc) wr ∧ Blk wr N 37 (nodC y A c none 0) ∧ Blk wr (N + 1) 37 [.int .i64 0, .int .i64 0, .string ByteArray.empty, .slice none 0 0, .int .i64 0, .int .i64 0, .int .i64 0, .slice none 0 0, .bool false, .int .i64 0] ∧ Fr P Am w wr ∧
    ∀ s acc, rc = .ok (s, acc) → y = setM x acc ∧ Own wr w0.heap.size 45 3 A acc.length c (matsC acc) ∧ Mv Am A w ∧ acc.length ≤ 8 ∧ ∀ z ∈ acc, z.name.size ≤ maxLen
section
variable {P : Nat} {T : List Tok} {R : Option Addr × Nat} {O : List Nod} {w w0 : World} {r r0 : Rp PS}
set_option maxRecDepth 100000 in
set_option maxHeartbeats 4000000 in
theorem rbraces_any (h0 : TAt w0 P T R O r0) (h : TQ P T R O w0 r w) (hE : Ends T) (hTs : ∀ t ∈ T, t.text.size ≤ 1000000) (x : Nod) (hxn : x.names = []) (Am : Option Addr) (cm : Nat) (hm : ∀ s, r = .ok s → Own w w0.heap.size 45 3 Am x.mat.length cm (matsC x.mat)) (hl : x.mat.length ≤ 8) (hms : ∀ y ∈ x.mat, y.name.size ≤ maxLen) :
    Calls Try.prog 84 #[.pointer (some ⟨P, 0, none⟩), .agg #[.int .i64 x.kind, .int .i64 x.op, .string x.text, .slice Am x.mat.length cm, .int .i64 x.width, .int .i64 x.back, .int .i64 x.grp, .slice none x.names.length 0, .bool x.cmp, .int .i64 x.parts]] w (MatE P T R O w0 w Am x (bracesQ r x.mat)) := by
  have hP := h.1.lt
  have H0 := Lib.hid h0
  have HXN := Lib.hid hxn
  have hNP : w.heap.size ≠ P := by omega
  have hMP : w.heap.size + 1 ≠ P := by omega
  have hw0 := h.2.size
  have HTl := Lib.hid (tailC_start r x.mat)
  have HWt := fun (W : World) (h : TAt W P T R O r) => Lib.hid (rwant_q (TQ.start h) sCurl hE)
  clear hxn h0
  go_enter Try.func84, Try.ntmps84
  go_upto_region 1 with fail
  generalize hW : World.alloc _ _ = W2
  have hN2 : Blk W2 w.heap.size 37 (nodC x Am cm none 0) ∧ Blk W2 (w.heap.size + 1) 37 [.int .i64 0, .int .i64 0, .string ByteArray.empty, .slice none 0 0, .int .i64 0, .int .i64 0, .int .i64 0, .slice none 0 0, .bool false, .int .i64 0] ∧ Below w.heap.size w W2 := by
    rw [← hW]
    have h1 := (Blk.new w 37 (nodC x Am cm none 0)).alloc (.cells #[.int .i64 0, .int .i64 0, .string ByteArray.empty, .slice none 0 0, .int .i64 0, .int .i64 0, .int .i64 0, .slice none 0 0, .bool false, .int .i64 0] 37)
    have h3 := Blk.new (w.alloc (.cells (nodC x Am cm none 0).toArray 37)) 37 [.int .i64 0, .int .i64 0, .string ByteArray.empty, .slice none 0 0, .int .i64 0, .int .i64 0, .int .i64 0, .slice none 0 0, .bool false, .int .i64 0]
    rw [World.size_alloc] at h3
    exact ⟨h1, h3, ((Below.refl w.heap.size w).alloc (Nat.le_refl _) _).alloc (by simp) _⟩
  obtain ⟨bN, bR, hb2⟩ := hN2
  have q2 := h.below hb2
  have hm2 := fun s hs => (hm s hs).belowAll hb2
  have HF2 : Hid (Fr P Am w W2) := Fr.of_below hb2
  have hWt2 := HWt W2 q2.1
  clear hW hm h HWt
  go_wp2_with fail
  refine (hWt2.out).mono ?_
  rintro e w3 ⟨rfl, h3⟩
  have HM : Hid (MQ P T R O w0 w Am x w.heap.size (pairR (wantR r sCurl) x.mat) x Am cm w3) := by
    refine ⟨by rw [stR_pair]; exact q2.next h3, bN.keep (h3.2.block _ bN.lt hNP (by simp)), bR.keep (h3.2.block _ bR.lt hMP (by simp)), HF2.out.trans (Mv.refl _ _) h3.2.weak, fun s acc he => ?_⟩
    cases r with
    | error z => cases he
    | ok s0 =>
      have hmm := hm2 s0 rfl
      cases hs : wantR (.ok s0) sCurl with
      | error z => rw [hs] at he; cases he
      | ok s1 =>
        rw [hs] at he
        injection he with he
        injection he with e1 e2
        subst e2
        exact ⟨rfl, hmm.frQ q2.1 h3.2 (by decide), Mv.refl _ _, hl, hms⟩
  generalize pairR (wantR r sCurl) x.mat = rc0 at *
  generalize bracesQ r x.mat = tr at *
  clear q2 hm2 HF2 hWt2 h3 bN bR hb2 hms hl
  go_wp2_with fail
  go_loopw [5] (fun v5 wr => ∃ (rc : Rp (PS × List Mat)) (fst : Bool) (y : Nod) (A : Option Addr) (c : Nat), v5 = .bool fst ∧ MQ P T R O w0 w Am x w.heap.size rc y A c wr ∧ Hid (tailC rc fst tr)) (fun _ wr => if codeW P wr = 0 then T.length - atW P wr + 1 else 0)
  case atStart => exact ⟨rc0, true, x, Am, cm, rfl, HM.out, HTl⟩
  case round =>
    clear HTl HM
    obtain ⟨rc, fst, y, A, c, rfl, ⟨hq, bN, bR, hf, hok⟩, HN⟩ := hrel
    cases rc with
    | error z =>
      have hq : TQ P T R O w0 (.error z) wr := hq
      have HX := Lib.hid (rwant_q (TQ.start hq.1) sUncurl hE)
      have HQ := Lib.hid hq
      obtain ⟨⟨q, hq1, hr1, _⟩, _⟩ := hq
      obtain ⟨b, o, ct, tk, hT, c0, hat, hbP, hbw, t0, t1, t2, t3, c1, c2, c3, c4, c5, hct, hcm, hfz⟩ := hq1.head
      have hc : (q.code == 0) = false := by rw [beq_eq_false_iff_ne, hr1.1]; exact hr1.2.1
      have HN2 : Hid (tr = .error z) := HN.out
      clear hr1 hq1 hT t0 t1 t2 t3 c0 c1 c2 c3 c5 hfz hok HN
      go_wp2_with fail
      refine (HX.out).mono ?_
      rintro e w6 ⟨rfl, h6⟩
      have bN6 := bN.keep (h6.2.block _ bN.lt hNP (by simp))
      have bR6 := bR.keep (h6.2.block _ bR.lt hMP (by simp))
      have Q6 : Hid (TQ P T R O w0 (.error z) w6) := HQ.out.next h6
      have F6 := Lib.hid (hf.trans (Mv.refl _ _) h6.2.weak)
      have O6 : Hid (Own w6 w0.heap.size 45 3 none 0 0 []) := Own.nil_ (by decide)
      have hneR6 : some (w.heap.size + 1) ≠ (none : Option Addr).map Addr.block := by simp
      clear h6 bN bR hf HX HQ
      have e0 := bN6.cell (j := 0) rfl
      have e1 := bN6.cell (j := 1) rfl
      have e2 := bN6.cell (j := 2) rfl
      have e3 := bN6.cell (j := 3) rfl
      have e4 := bN6.cell (j := 4) rfl
      have e5 := bN6.cell (j := 5) rfl
      have e6 := bN6.cell (j := 6) rfl
      have e7 := bN6.cell (j := 7) rfl
      have e8 := bN6.cell (j := 8) rfl
      have e9 := bN6.cell (j := 9) rfl
      have z0 := bR6.cell (j := 0) rfl
      have z1 := bR6.cell (j := 1) rfl
      have z2 := bR6.cell (j := 2) rfl
      have z3 := bR6.cell (j := 3) rfl
      have z4 := bR6.cell (j := 4) rfl
      have z5 := bR6.cell (j := 5) rfl
      have z6 := bR6.cell (j := 6) rfl
      have z7 := bR6.cell (j := 7) rfl
      have z8 := bR6.cell (j := 8) rfl
      have z9 := bR6.cell (j := 9) rfl
      have fR := bR6.frozen
      have HR6 := Lib.hid bR6
      have hR0 : w0.heap.size ≤ w.heap.size + 1 := by omega
      clear bN6 bR6
      go_wp2_with fail
      generalize hW9 : World.setCell _ _ _ = W9
      have hb9 : Blk W9 (w.heap.size + 1) 37 (nodC y A c none 0) ∧ TQ P T R O w0 (.error z) W9 ∧ Fr P Am w W9 ∧ (Own W9 w0.heap.size 45 3 none 0 0 []) := by
        rw [← hW9]
        exact ⟨by rw [(show nodC y A c none 0 = nodC y A c none 0 from rfl)]; exact ((((((((((HR6.out.set 0 _).set 1 _).set 2 _).set 3 _).set 4 _).set 5 _).set 6 _).set 7 _).set 8 _).set 9 _), ((((((((((Q6.out.setNew H0.out hR0 0 _).setNew H0.out hR0 1 _).setNew H0.out hR0 2 _).setNew H0.out hR0 3 _).setNew H0.out hR0 4 _).setNew H0.out hR0 5 _).setNew H0.out hR0 6 _).setNew H0.out hR0 7 _).setNew H0.out hR0 8 _).setNew H0.out hR0 9 _), ((((((((((F6.out.setNewB (show w.heap.size ≤ w.heap.size + 1 by omega) 0 _).setNewB (show w.heap.size ≤ w.heap.size + 1 by omega) 1 _).setNewB (show w.heap.size ≤ w.heap.size + 1 by omega) 2 _).setNewB (show w.heap.size ≤ w.heap.size + 1 by omega) 3 _).setNewB (show w.heap.size ≤ w.heap.size + 1 by omega) 4 _).setNewB (show w.heap.size ≤ w.heap.size + 1 by omega) 5 _).setNewB (show w.heap.size ≤ w.heap.size + 1 by omega) 6 _).setNewB (show w.heap.size ≤ w.heap.size + 1 by omega) 7 _).setNewB (show w.heap.size ≤ w.heap.size + 1 by omega) 8 _).setNewB (show w.heap.size ≤ w.heap.size + 1 by omega) 9 _), ((((((((((O6.out.setOther hneR6 0 _).setOther hneR6 1 _).setOther hneR6 2 _).setOther hneR6 3 _).setOther hneR6 4 _).setOther hneR6 5 _).setOther hneR6 6 _).setOther hneR6 7 _).setOther hneR6 8 _).setOther hneR6 9 _)⟩
      obtain ⟨b9, q9, f9, o9⟩ := hb9
      have d0 := b9.cell (j := 0) rfl
      have d1 := b9.cell (j := 1) rfl
      have d2 := b9.cell (j := 2) rfl
      have d3 := b9.cell (j := 3) rfl
      have d4 := b9.cell (j := 4) rfl
      have d5 := b9.cell (j := 5) rfl
      have d6 := b9.cell (j := 6) rfl
      have d7 := b9.cell (j := 7) rfl
      have d8 := b9.cell (j := 8) rfl
      have d9 := b9.cell (j := 9) rfl
      have Q9 := Lib.hid q9
      have F9 := Lib.hid f9
      have O9 := Lib.hid o9
      clear hW9 b9 q9 f9 o9 e0 z0 e1 z1 e2 z2 e3 z3 e4 z4 e5 z5 e6 z6 e7 z7 e8 z8 e9 z9 fR Q6 F6 HR6 O6
      refine bodyPost_ret (v := nodV y A c none 0) (by simp [results, Try.results84, go_sem, nodV, nodC, d0, d1, d2, d3, d4, d5, d6, d7, d8, d9]; try rfl) rfl ?_
      rw [HN2.out]
      exact ⟨y, A, c, rfl, Q9.out, F9.out⟩
    | ok rs =>
      obtain ⟨s, acc⟩ := rs
      obtain ⟨hmem, hl1, hl2, hEs, hout⟩ := hq.1.toks hE
      have hq : TQ P T R O w0 (.ok s) wr := hq
      have HS := Lib.hid (rsign_q (TQ.start hq.1) sUncurl)
      have HQ := Lib.hid hq
      obtain ⟨rfl, hO, hMv, ha8, haz⟩ := hok s acc rfl
      have HO := Lib.hid hO
      have HMv := Lib.hid hMv
      have hatl := Lib.hid hq.1.atW
      have hcw := Lib.hid hq.1.code0
      obtain ⟨⟨q, hq1, hr1, _⟩, _⟩ := hq
      obtain ⟨b, o, ct, tk, hT, c0, hat, hbP, hbw, t0, t1, t2, t3, c1, c2, c3, c4, c5, hct, hcm, hfz⟩ := hq1.head
      have hc : (q.code == 0) = true := by rw [beq_iff_eq]; exact hr1.1
      clear hr1 hq1 hT t0 t1 t2 t3 c0 c1 c2 c3 c5 hfz hok hO hMv hq
      cases hi : s.is 5 sUncurl with
      | true =>
        have hi' : isR (.ok s) 5 sUncurl = true := hi
        rw [hi'] at HS
        have HE := Lib.hid (tailC_end hl1 hi HN.out)
        have HW : Hid (wantR (.ok s) sUncurl = .ok s.on) := by show _ = _; rw [wantR, PS.sign, if_pos hi]
        have HX := fun (W : World) (h : TAt W P T R O (.ok s)) => Lib.hid (rwant_q (TQ.start h) sUncurl hE)
        clear hi hi' HN
        go_wp2_with fail
        refine (HS.out).mono ?_
        rintro e w5 ⟨rfl, h5⟩
        go_wp2_with fail
        refine ((HX _ h5.1).out).mono ?_
        rintro e w6 ⟨rfl, h6⟩
        rw [HW.out] at h6
        have hf6 := h5.2.transN h6.2
        have bN6 := bN.keep (hf6.block _ bN.lt hNP (by simp))
        have bR6 := bR.keep (hf6.block _ bR.lt hMP (by simp))
        have Q6 : Hid (TQ P T R O w0 (.ok s.on) w6) := (HQ.out.next h5).next h6
        have F6 := Lib.hid (hf.trans (Mv.refl _ _) hf6.weak)
        have O6 := Lib.hid (HO.out.frQ HQ.out.1 hf6 (by decide))
        have hneR6 := own_ne_blk O6.out bR6 (by decide)
        clear h5 h6 bN bR hf HX HQ HS HO HW hf6
        have e0 := bN6.cell (j := 0) rfl
        have e1 := bN6.cell (j := 1) rfl
        have e2 := bN6.cell (j := 2) rfl
        have e3 := bN6.cell (j := 3) rfl
        have e4 := bN6.cell (j := 4) rfl
        have e5 := bN6.cell (j := 5) rfl
        have e6 := bN6.cell (j := 6) rfl
        have e7 := bN6.cell (j := 7) rfl
        have e8 := bN6.cell (j := 8) rfl
        have e9 := bN6.cell (j := 9) rfl
        have z0 := bR6.cell (j := 0) rfl
        have z1 := bR6.cell (j := 1) rfl
        have z2 := bR6.cell (j := 2) rfl
        have z3 := bR6.cell (j := 3) rfl
        have z4 := bR6.cell (j := 4) rfl
        have z5 := bR6.cell (j := 5) rfl
        have z6 := bR6.cell (j := 6) rfl
        have z7 := bR6.cell (j := 7) rfl
        have z8 := bR6.cell (j := 8) rfl
        have z9 := bR6.cell (j := 9) rfl
        have fR := bR6.frozen
        have HR6 := Lib.hid bR6
        have hR0 : w0.heap.size ≤ w.heap.size + 1 := by omega
        clear bN6 bR6
        go_wp2_with fail
        generalize hW9 : World.setCell _ _ _ = W9
        have hb9 : Blk W9 (w.heap.size + 1) 37 (nodC (setM x acc) A c none 0) ∧ TQ P T R O w0 (.ok s.on) W9 ∧ Fr P Am w W9 ∧ (Own W9 w0.heap.size 45 3 A acc.length c (matsC acc)) := by
          rw [← hW9]
          exact ⟨by rw [(show nodC (setM x acc) A c none 0 = nodC (setM x acc) A c none 0 from rfl)]; exact ((((((((((HR6.out.set 0 _).set 1 _).set 2 _).set 3 _).set 4 _).set 5 _).set 6 _).set 7 _).set 8 _).set 9 _), ((((((((((Q6.out.setNew H0.out hR0 0 _).setNew H0.out hR0 1 _).setNew H0.out hR0 2 _).setNew H0.out hR0 3 _).setNew H0.out hR0 4 _).setNew H0.out hR0 5 _).setNew H0.out hR0 6 _).setNew H0.out hR0 7 _).setNew H0.out hR0 8 _).setNew H0.out hR0 9 _), ((((((((((F6.out.setNewB (show w.heap.size ≤ w.heap.size + 1 by omega) 0 _).setNewB (show w.heap.size ≤ w.heap.size + 1 by omega) 1 _).setNewB (show w.heap.size ≤ w.heap.size + 1 by omega) 2 _).setNewB (show w.heap.size ≤ w.heap.size + 1 by omega) 3 _).setNewB (show w.heap.size ≤ w.heap.size + 1 by omega) 4 _).setNewB (show w.heap.size ≤ w.heap.size + 1 by omega) 5 _).setNewB (show w.heap.size ≤ w.heap.size + 1 by omega) 6 _).setNewB (show w.heap.size ≤ w.heap.size + 1 by omega) 7 _).setNewB (show w.heap.size ≤ w.heap.size + 1 by omega) 8 _).setNewB (show w.heap.size ≤ w.heap.size + 1 by omega) 9 _), ((((((((((O6.out.setOther hneR6 0 _).setOther hneR6 1 _).setOther hneR6 2 _).setOther hneR6 3 _).setOther hneR6 4 _).setOther hneR6 5 _).setOther hneR6 6 _).setOther hneR6 7 _).setOther hneR6 8 _).setOther hneR6 9 _)⟩
        obtain ⟨b9, q9, f9, o9⟩ := hb9
        have d0 := b9.cell (j := 0) rfl
        have d1 := b9.cell (j := 1) rfl
        have d2 := b9.cell (j := 2) rfl
        have d3 := b9.cell (j := 3) rfl
        have d4 := b9.cell (j := 4) rfl
        have d5 := b9.cell (j := 5) rfl
        have d6 := b9.cell (j := 6) rfl
        have d7 := b9.cell (j := 7) rfl
        have d8 := b9.cell (j := 8) rfl
        have d9 := b9.cell (j := 9) rfl
        have Q9 := Lib.hid q9
        have F9 := Lib.hid f9
        have O9 := Lib.hid o9
        clear hW9 b9 q9 f9 o9 e0 z0 e1 z1 e2 z2 e3 z3 e4 z4 e5 z5 e6 z6 e7 z7 e8 z8 e9 z9 fR Q6 F6 HR6 O6
        refine bodyPost_ret (v := nodV (setM x acc) A c none 0) (by simp [results, Try.results84, go_sem, nodV, nodC, d0, d1, d2, d3, d4, d5, d6, d7, d8, d9]; try rfl) rfl ?_
        rw [HE.out]
        exact ⟨A, c, rfl, O9.out, Q9.out, F9.out, HMv.out⟩
      | false =>
        have hi' : isR (.ok s) 5 sUncurl = false := hi
        rw [hi'] at HS
        obtain ⟨hs1, hs2⟩ := tailC_step hl1 hi HN.out
        unfold stepC at hs1 hs2
        have HT2 := Lib.hid hs1
        have HT3 := Lib.hid hs2
        clear hi hi' HN hs1 hs2
        go_wp2_with fail
        refine (HS.out).mono ?_
        rintro e w5 ⟨rfl, h5⟩
        go_upto_if 21 with fail
        go_cut [22, 23] (fun _ _ wx => Hid (TQ P T R O wr (commaR s fst) wx))
        case first =>
          cases fst with
          | true =>
            go_wp2_with fail
            go_meet
            exact h5
          | false =>
            have HC := Lib.hid (rwant_q h5 sComma hE)
            go_wp2_with fail
            refine (HC.out).mono ?_
            rintro e w6 ⟨rfl, h6⟩
            go_wp2_with fail
            go_meet
            exact h6
        case rest =>
          clear h5 HS
          generalize hr1 : commaR s fst = r1 at *
          have HNm := Lib.hid (rname_any hcut.out.1 hE (fun s' hs => hTs _ ((show TAt wc P T R O (.ok s') from hs ▸ hcut.out.1).toks hE).1))
          have hnz : (nameV r1).size ≤ 1000000 := by
            cases r1 with
            | error z => show ByteArray.empty.size ≤ _; decide
            | ok s' =>
              have := hTs _ (hcut.out.1.toks hE).1
              rw [nameV]
              split
              · exact this
              · decide
          go_wp2_with fail
          refine (HNm.out).mono ?_
          rintro e w7 ⟨rfl, h7⟩
          have Q7 := hcut.out.next h7
          clear h7 hcut HNm
          go_upto_region 8 with fail
          generalize hW : World.alloc _ _ = W8
          have bB : Blk W8 w7.heap.size 45 [.int .i64 0, .string (nameV r1), .string ByteArray.empty] := by rw [← hW]; exact Blk.new w7 _ [.int .i64 0, .string (nameV r1), .string ByteArray.empty]
          have q8 : TQ P T R O wr (nameR r1) W8 := by rw [← hW]; exact Q7.below ((Below.refl _ _).alloc (Nat.le_refl _) _)
          have hB0 : wr.heap.size ≤ w7.heap.size := Q7.2.size
          have hBP : w7.heap.size ≠ P := by have := HQ.out.1.lt; omega
          have BB := Lib.hid bB
          have Q8 := Lib.hid q8
          generalize hr2 : nameR r1 = r2 at *
          generalize hnm : nameV r1 = nm at *
          clear hW Q7 bB q8
          obtain ⟨wo, hwo⟩ : ∃ wo, wo = wr := ⟨_, rfl⟩
          subst hwo
          go_wp2_with fail
          go_loopw [7] (fun v7 wx => ∃ i : Nat, v7 = .int .i64 (i : Int) ∧ i ≤ 4 ∧ TQ P T R O wo r2 wx ∧ Blk wx w7.heap.size 45 [.int .i64 (kU r2 i), .string nm, .string ByteArray.empty]) (fun v7 _ => (4 - intOf v7).toNat)
          case atStart => exact ⟨0, rfl, by decide, Q8.out, BB.out⟩
          case round =>
            clear BB Q8
            obtain ⟨i, rfl, hi4, hq9, bB⟩ := hrel
            by_cases hi : i = 4
            · subst hi
              have BB := Lib.hid bB
              have Q9 := Lib.hid hq9
              have d0 := bB.cell (j := 0) rfl
              have fB := bB.frozen
              clear bB hq9 hi4
              go_upto_if 42 with fail
              go_cut [43, 44] (fun _ _ wx => Hid (TQ P T R O wo (kindQ r2) wx ∧ Blk wx w7.heap.size 45 [.int .i64 (kU r2 4), .string nm, .string ByteArray.empty]))
              case first =>
                by_cases hz : kU r2 4 = 0
                · have hzb : (kU r2 4 == 0) = true := by rw [beq_iff_eq]; exact hz
                  have HK : Hid (kindQ r2 = failR r2 181) := by show _ = _; rw [kindQ, if_pos hz]
                  have HF := Lib.hid (rfail_q (TQ.start Q9.out.1) 181 (by decide))
                  clear hz d0 fB
                  go_wp2_with fail
                  refine (HF.out).mono ?_
                  rintro e w11 ⟨rfl, h11⟩
                  have b11 := BB.out.keep (h11.2.block _ BB.out.lt hBP (by simp))
                  have Q11 := Lib.hid (Q9.out.next h11)
                  have B11 := Lib.hid b11
                  clear h11 b11
                  go_wp2_with fail
                  go_meet
                  exact ⟨by rw [HK.out]; exact Q11.out, B11.out⟩
                · have hzb : (kU r2 4 == 0) = false := by rw [beq_eq_false_iff_ne]; exact hz
                  have HK : Hid (kindQ r2 = r2) := by show _ = _; rw [kindQ, if_neg hz]
                  clear hz d0 fB
                  go_wp2_with fail
                  go_meet
                  exact ⟨by rw [HK.out]; exact Q9.out, BB.out⟩
              case rest =>
                obtain ⟨q10, b10⟩ := hcut.out
                have HNx := Lib.hid (rnext_any q10.1 (fun s' h' => by rw [kindQ_kind h']; decide) hE)
                have Q10 := Lib.hid q10
                have B10 := Lib.hid b10
                clear q10 b10 hcut d0 fB BB Q9
                generalize kindQ r2 = r3 at *
                go_wp2_with fail
                refine (HNx.out).mono ?_
                rintro e w11 ⟨rfl, h11⟩
                have b11 := B10.out.keep (h11.2.block _ B10.out.lt hBP (by simp))
                have Q11 := Lib.hid (Q10.out.next h11)
                have B11 := Lib.hid b11
                clear h11 b11 B10 Q10 HNx
                generalize onR r3 = r4 at *
                go_upto_region 16 with fail
                go_cut [65] (fun v wx => v = .bool (needF r4) ∧ Hid (TQ P T R O wo r4 wx ∧ Blk wx w7.heap.size 45 [.int .i64 (kU r2 4), .string nm, .string ByteArray.empty]))
                case first =>
                  obtain ⟨q, hq1, hr1, _⟩ := Q11.out.1
                  obtain ⟨b, o, ct, tk, hT, c0, hat, hbP, hbw, t0, t1, t2, t3, c1, c2, c3, c4, c5, hct, hcm, hfz⟩ := hq1.head
                  unfold maxLen at hcm
                  have hatI : (q.at_ : Int) < T.length := by omega
                  have hat0 : (0 : Int) ≤ (q.at_ : Int) := by omega
                  have hPb : P ≠ b := by omega
                  cases r4 with
                  | error z =>
                    have hc : (q.code == 0) = false := by rw [beq_eq_false_iff_ne, hr1.1]; exact hr1.2.1
                    clear hr1 hT hq1
                    go_wp2_with fail
                    go_quiet (fail)
                    go_wp2_with fail
                    go_meet
                    exact ⟨rfl, Q11.out.below (below_drewN (Below.refl _ _) _), B11.out⟩
                  | ok s4 =>
                    have hc : (q.code == 0) = true := by rw [beq_iff_eq]; exact hr1.1
                    have hd := rel_hd hr1 hT
                    subst hd
                    clear hr1 hT hq1
                    have hk4 : (s4.hd.kind != 4) = needF (.ok s4) := by show _ = decide _; by_cases h : s4.hd.kind = 4 <;> simp [h]
                    go_wp2_with fail
                    go_quiet (fail)
                    go_wp2_with fail
                    go_meet
                    exact ⟨rfl, Q11.out.below (below_drewN (Below.refl _ _) _), B11.out⟩
                case rest =>
                  obtain ⟨rfl, hcut⟩ := hcut
                  obtain ⟨q12, b12⟩ := hcut.out
                  have Q12 := Lib.hid q12
                  have B12 := Lib.hid b12
                  clear q12 b12 hcut Q11 B11
                  go_upto_if 65 with fail
                  go_cut [66, 67] (fun _ _ wx => Hid (TQ P T R O wo (textQ r4) wx ∧ Blk wx w7.heap.size 45 [.int .i64 (kU r2 4), .string nm, .string ByteArray.empty]))
                  case first =>
                    have hTx := textQ_need (r := r4)
                    cases hn4 : needF r4 with
                    | true =>
                      rw [hn4, if_pos rfl] at hTx
                      have HTx := Lib.hid hTx
                      have HF := Lib.hid (rfail_q (TQ.start Q12.out.1) 181 (by decide))
                      clear hn4 hTx
                      go_wp2_with fail
                      refine (HF.out).mono ?_
                      rintro e w13 ⟨rfl, h13⟩
                      have b13 := B12.out.keep (h13.2.block _ B12.out.lt hBP (by simp))
                      have Q13 := Lib.hid (Q12.out.next h13)
                      have B13 := Lib.hid b13
                      clear h13 b13
                      go_wp2_with fail
                      go_meet
                      exact ⟨by rw [HTx.out]; exact Q13.out, B13.out⟩
                    | false =>
                      rw [hn4, if_neg (by decide)] at hTx
                      have HTx := Lib.hid hTx
                      clear hn4 hTx
                      go_wp2_with fail
                      go_meet
                      exact ⟨by rw [HTx.out]; exact Q12.out, B12.out⟩
                  case rest =>
                    obtain ⟨q13, b13⟩ := hcut.out
                    have Q13 := Lib.hid q13
                    have B13 := Lib.hid b13
                    have HK4 : Hid (∀ s', textQ r4 = .ok s' → s'.hd.kind ≠ 0) := fun s' hs => by rw [textQ_ok hs]; decide
                    clear q13 b13 hcut Q12 B12
                    generalize textQ r4 = r5 at *
                    go_upto_region 18 with fail
                    go_cut [72] (fun v wx => v = .bool (okB r5) ∧ Hid (TQ P T R O wo r5 wx ∧ Blk wx w7.heap.size 45 [.int .i64 (kU r2 4), .string nm, .string ByteArray.empty]))
                    case first =>
                      obtain ⟨q, hq1, hr1, _⟩ := Q13.out.1
                      obtain ⟨b, o, ct, tk, hT, c0, hat, hbP, hbw, t0, t1, t2, t3, c1, c2, c3, c4, c5, hct, hcm, hfz⟩ := hq1.head
                      cases r5 with
                      | error z =>
                        have hc : (q.code == 0) = false := by rw [beq_eq_false_iff_ne, hr1.1]; exact hr1.2.1
                        clear hr1 hT hq1
                        go_wp2_with fail
                        go_meet
                        exact ⟨rfl, Q13.out, B13.out⟩
                      | ok s5 =>
                        have hc : (q.code == 0) = true := by rw [beq_iff_eq]; exact hr1.1
                        clear hr1 hT hq1
                        go_wp2_with fail
                        go_meet
                        exact ⟨rfl, Q13.out, B13.out⟩
                    case rest =>
                    obtain ⟨rfl, hcut⟩ := hcut
                    obtain ⟨q12, b12⟩ := hcut.out
                    clear Q13 B13
                    have Q13 := Lib.hid q12
                    have B13 := Lib.hid b12
                    clear q12 b12 hcut
                    go_upto_if 72 with fail
                    go_cut [83] (fun _ wx => Hid (TQ P T R O wo r5 wx ∧ Blk wx w7.heap.size 45 [.int .i64 (kU r2 4), .string nm, .string (txtV r5)]))
                    case first =>
                      cases r5 with
                      | error z =>
                        go_wp2_with fail
                        go_meet
                        exact ⟨Q13.out, B13.out⟩
                      | ok s5 =>
                        obtain ⟨q, hq1, hr1, _⟩ := Q13.out.1
                        obtain ⟨b, o, ct, tk, hT, c0, hat, hbP, hbw, t0, t1, t2, t3, c1, c2, c3, c4, c5, hct, hcm, hfz⟩ := hq1.head
                        unfold maxLen at hcm
                        have hatI : (q.at_ : Int) < T.length := by omega
                        have hat0 : (0 : Int) ≤ (q.at_ : Int) := by omega
                        have hPb : P ≠ b := by omega
                        have hd := rel_hd hr1 hT
                        subst hd
                        clear hr1 hT hq1
                        have d2 := B13.out.cell (j := 2) rfl
                        have fB := B13.out.frozen
                        go_wp2_with fail
                        go_region
                        go_wp2_with fail
                        go_meet
                        exact ⟨(Q13.out.below ((Below.refl _ _).drew)).setNew HQ.out.1 hB0 2 (.string s5.hd.text), (B13.out.below ((Below.refl _ _).drew) B13.out.lt).set 2 (.string s5.hd.text)⟩
                    case rest =>
                      obtain ⟨q14, b14⟩ := hcut.out
                      have bN14 := bN.keep (q14.2.block _ bN.lt hNP (by simp))
                      have bR14 := bR.keep (q14.2.block _ bR.lt hMP (by simp))
                      have o14 := HO.out.frQ HQ.out.1 q14.2 (by decide)
                      have hne14 := own_ne_blk o14 bN14 (by decide)
                      have hneR14 := own_ne_blk o14 bR14 (by decide)
                      have hms : ∀ y ∈ acc ++ [⟨kU r2 4, nm, txtV r5⟩], y.name.size ≤ maxLen := by
                        intro y hy
                        rcases List.mem_append.1 hy with h | h
                        · exact haz y h
                        · rw [List.mem_singleton.1 h]
                          exact Nat.le_trans hnz (by unfold maxLen; omega)
                      have HMt := Lib.hid (rmatcher_any H0.out (HQ.out.next q14) HK4.out hE (setM x acc) HXN.out A c (fun _ _ => o14) (show acc.length ≤ 1000 by omega) ⟨kU r2 4, nm, txtV r5⟩ hms)
                      have F14 := Lib.hid (hf.trans (Mv.refl _ _) q14.2.weak)
                      have n0 := bN14.cell (j := 0) rfl
                      have n1 := bN14.cell (j := 1) rfl
                      have n2 := bN14.cell (j := 2) rfl
                      have n3 := bN14.cell (j := 3) rfl
                      have n4 := bN14.cell (j := 4) rfl
                      have n5 := bN14.cell (j := 5) rfl
                      have n6 := bN14.cell (j := 6) rfl
                      have n7 := bN14.cell (j := 7) rfl
                      have n8 := bN14.cell (j := 8) rfl
                      have n9 := bN14.cell (j := 9) rfl
                      have d0 := b14.cell (j := 0) rfl
                      have d1 := b14.cell (j := 1) rfl
                      have d2 := b14.cell (j := 2) rfl
                      have fN := bN14.frozen
                      have BN14 := Lib.hid bN14
                      have BR14 := Lib.hid bR14
                      have HMS := Lib.hid hms
                      have hN0 : w0.heap.size ≤ w.heap.size := hw0
                      clear q14 b14 hcut Q13 B13 bN14 bR14 o14 hms bN bR hf HO HQ
                      generalize kU r2 4 = kk at *
                      generalize txtV r5 = tv at *
                      go_wp2_with fail
                      rw [show matcherQ r5 (setM x acc).mat ⟨kk, nm, tv⟩ = matcherQ r5 acc ⟨kk, nm, tv⟩ from rfl] at HMt
                      refine (HMt.out).mono ?_
                      cases hmq : matcherQ r5 acc ⟨kk, nm, tv⟩ with
                      | error z =>
                        rintro e w15 ⟨y, A', c', rfl, q15, f15⟩
                        have HN3 : Hid (tailC (.error z) false tr) := by rw [← hmq]; exact HT2
                        have ho15 : Hid (Own w15 w0.heap.size 45 3 none 0 0 []) := Own.nil_ (by decide)
                        have hne15 : some w.heap.size ≠ (none : Option Addr).map Addr.block := by simp
                        have B15 := Lib.hid (BN14.out.keep (f15.block _ BN14.out.lt hNP (fun e => hne14 e.symm)))
                        have R15 := Lib.hid (BR14.out.keep (f15.block _ BR14.out.lt hMP (fun e => hneR14 e.symm)))
                        have F15 := Lib.hid (F14.out.trans HMv.out f15)
                        have M16 : Hid (Mv Am A w) := Mv.trans HMv.out (Mv.refl _ _) F14.out.size
                        have Q15 := Lib.hid q15
                        have k0 := B15.out.cell (j := 0) rfl
                        have k1 := B15.out.cell (j := 1) rfl
                        have k2 := B15.out.cell (j := 2) rfl
                        have k3 := B15.out.cell (j := 3) rfl
                        have k4 := B15.out.cell (j := 4) rfl
                        have k5 := B15.out.cell (j := 5) rfl
                        have k6 := B15.out.cell (j := 6) rfl
                        have k7 := B15.out.cell (j := 7) rfl
                        have k8 := B15.out.cell (j := 8) rfl
                        have k9 := B15.out.cell (j := 9) rfl
                        have fK := B15.out.frozen
                        clear f15 q15 HMt n0 n1 n2 n3 n4 n5 n6 n7 n8 n9 d0 d1 d2 fN hmq
                        dsimp only [nodV, nodC]
                        go_wp2_with fail
                        generalize hW : World.setCell _ _ _ = W16
                        have hb16 : Blk W16 w.heap.size 37 (nodC y A' c' none 0) ∧ TQ P T R O w0 (.error z) W16 ∧ Blk W16 (w.heap.size + 1) 37 [.int .i64 0, .int .i64 0, .string ByteArray.empty, .slice none 0 0, .int .i64 0, .int .i64 0, .int .i64 0, .slice none 0 0, .bool false, .int .i64 0] ∧ Fr P Am w W16 ∧ Own W16 w0.heap.size 45 3 none 0 0 [] := by
                          rw [← hW]
                          exact ⟨((((((((((B15.out.set 0 _).set 1 _).set 2 _).set 3 _).set 4 _).set 5 _).set 6 _).set 7 _).set 8 _).set 9 _), ((((((((((Q15.out.setNew H0.out hN0 0 _).setNew H0.out hN0 1 _).setNew H0.out hN0 2 _).setNew H0.out hN0 3 _).setNew H0.out hN0 4 _).setNew H0.out hN0 5 _).setNew H0.out hN0 6 _).setNew H0.out hN0 7 _).setNew H0.out hN0 8 _).setNew H0.out hN0 9 _), ((((((((((R15.out.other (by simp) _).other (by simp) _).other (by simp) _).other (by simp) _).other (by simp) _).other (by simp) _).other (by simp) _).other (by simp) _).other (by simp) _).other (by simp) _), ((((((((((F15.out.setNewB (Nat.le_refl _) 0 _).setNewB (Nat.le_refl _) 1 _).setNewB (Nat.le_refl _) 2 _).setNewB (Nat.le_refl _) 3 _).setNewB (Nat.le_refl _) 4 _).setNewB (Nat.le_refl _) 5 _).setNewB (Nat.le_refl _) 6 _).setNewB (Nat.le_refl _) 7 _).setNewB (Nat.le_refl _) 8 _).setNewB (Nat.le_refl _) 9 _), ((((((((((ho15.out.setOther hne15 0 _).setOther hne15 1 _).setOther hne15 2 _).setOther hne15 3 _).setOther hne15 4 _).setOther hne15 5 _).setOther hne15 6 _).setOther hne15 7 _).setOther hne15 8 _).setOther hne15 9 _)⟩
                        obtain ⟨B16, Q16, R16, F16, O16⟩ := hb16
                        have HQ16 := Lib.hid Q16
                        have HB16 := Lib.hid B16
                        have HR16 := Lib.hid R16
                        have HF16 := Lib.hid F16
                        have HO16 := Lib.hid O16
                        clear hW B15 R15 F15 Q15 ho15 k0 k1 k2 k3 k4 k5 k6 k7 k8 k9 fK B16 Q16 R16 F16 O16 hne15
                        go_wp2_with fail
                        go_roundw
                        case rel => exact ⟨.error z, false, y, A', c', rfl, ⟨HQ16.out, HB16.out, HR16.out, HF16.out, fun s' acc' he => by cases he⟩, HN3⟩
                        case measure =>
                          rw [if_pos hcw.out, if_neg (TAt.code1 HQ16.out.1)]
                          omega
                      | ok p15 =>
                        obtain ⟨s1, ms⟩ := p15
                        rintro e w15 ⟨A', c', rfl, o15, q15, f15, m15⟩
                        have HN3 : Hid (tailC (.ok (s1, ms)) false tr) := by rw [← hmq]; exact HT2
                        have HT4 := Lib.hid (HT3.out s1 ms hmq)
                        have ho15 := Lib.hid o15
                        have hne15 := own_ne_blk o15 (BN14.out.keep (f15.block _ BN14.out.lt hNP (fun e => hne14 e.symm))) (by decide)
                        clear o15
                        have B15 := Lib.hid (BN14.out.keep (f15.block _ BN14.out.lt hNP (fun e => hne14 e.symm)))
                        have R15 := Lib.hid (BR14.out.keep (f15.block _ BR14.out.lt hMP (fun e => hneR14 e.symm)))
                        have F15 := Lib.hid (F14.out.trans HMv.out f15)
                        have M16 : Hid (Mv Am A' w) := Mv.trans HMv.out m15 F14.out.size
                        have Q15 := Lib.hid q15
                        have k0 := B15.out.cell (j := 0) rfl
                        have k1 := B15.out.cell (j := 1) rfl
                        have k2 := B15.out.cell (j := 2) rfl
                        have k3 := B15.out.cell (j := 3) rfl
                        have k4 := B15.out.cell (j := 4) rfl
                        have k5 := B15.out.cell (j := 5) rfl
                        have k6 := B15.out.cell (j := 6) rfl
                        have k7 := B15.out.cell (j := 7) rfl
                        have k8 := B15.out.cell (j := 8) rfl
                        have k9 := B15.out.cell (j := 9) rfl
                        have fK := B15.out.frozen
                        clear f15 q15 HMt n0 n1 n2 n3 n4 n5 n6 n7 n8 n9 d0 d1 d2 fN hmq
                        dsimp only [nodV, nodC]
                        go_wp2_with fail
                        generalize hW : World.setCell _ _ _ = W16
                        have hb16 : Blk W16 w.heap.size 37 (nodC (setM x ms) A' c' none 0) ∧ TQ P T R O w0 (.ok s1) W16 ∧ Blk W16 (w.heap.size + 1) 37 [.int .i64 0, .int .i64 0, .string ByteArray.empty, .slice none 0 0, .int .i64 0, .int .i64 0, .int .i64 0, .slice none 0 0, .bool false, .int .i64 0] ∧ Fr P Am w W16 ∧ Own W16 w0.heap.size 45 3 A' ms.length c' (matsC ms) := by
                          rw [← hW]
                          exact ⟨((((((((((B15.out.set 0 _).set 1 _).set 2 _).set 3 _).set 4 _).set 5 _).set 6 _).set 7 _).set 8 _).set 9 _), ((((((((((Q15.out.setNew H0.out hN0 0 _).setNew H0.out hN0 1 _).setNew H0.out hN0 2 _).setNew H0.out hN0 3 _).setNew H0.out hN0 4 _).setNew H0.out hN0 5 _).setNew H0.out hN0 6 _).setNew H0.out hN0 7 _).setNew H0.out hN0 8 _).setNew H0.out hN0 9 _), ((((((((((R15.out.other (by simp) _).other (by simp) _).other (by simp) _).other (by simp) _).other (by simp) _).other (by simp) _).other (by simp) _).other (by simp) _).other (by simp) _).other (by simp) _), ((((((((((F15.out.setNewB (Nat.le_refl _) 0 _).setNewB (Nat.le_refl _) 1 _).setNewB (Nat.le_refl _) 2 _).setNewB (Nat.le_refl _) 3 _).setNewB (Nat.le_refl _) 4 _).setNewB (Nat.le_refl _) 5 _).setNewB (Nat.le_refl _) 6 _).setNewB (Nat.le_refl _) 7 _).setNewB (Nat.le_refl _) 8 _).setNewB (Nat.le_refl _) 9 _), ((((((((((ho15.out.setOther hne15 0 _).setOther hne15 1 _).setOther hne15 2 _).setOther hne15 3 _).setOther hne15 4 _).setOther hne15 5 _).setOther hne15 6 _).setOther hne15 7 _).setOther hne15 8 _).setOther hne15 9 _)⟩
                        obtain ⟨B16, Q16, R16, F16, O16⟩ := hb16
                        have HQ16 := Lib.hid Q16
                        have HB16 := Lib.hid B16
                        have HR16 := Lib.hid R16
                        have HF16 := Lib.hid F16
                        have HO16 := Lib.hid O16
                        clear hW B15 R15 F15 Q15 ho15 k0 k1 k2 k3 k4 k5 k6 k7 k8 k9 fK B16 Q16 R16 F16 O16 hne15
                        go_wp2_with fail
                        go_roundw
                        case rel =>
                          refine ⟨.ok (s1, ms), false, setM x ms, A', c', rfl, ⟨HQ16.out, HB16.out, HR16.out, HF16.out, fun s' acc' he => ?_⟩, HN3⟩
                          injection he with he
                          injection he with e1 e2
                          subst e1 e2
                          exact ⟨rfl, HO16.out, M16.out, HT4.out.2.1, fun z hz => HMS.out z (by rw [← HT4.out.2.2]; exact hz)⟩
                        case measure =>
                          rw [if_pos hcw.out, if_pos (TAt.code0 HQ16.out.1), (TAt.atW HQ16.out.1)]
                          have := HT4.out.1
                          have := hatl.out
                          omega
            · have HSi := fun (W : World) (h : TAt W P T R O r2) => Lib.hid (rsign_q (TQ.start h) (sgn i))
              have hk9 : Hid (kU r2 (i + 1) = if isR r2 5 (sgn i) = true then ((i + 1 : Nat) : Int) else kU r2 i) := rfl
              have BB := Lib.hid bB
              have Q9 := Lib.hid hq9
              clear bB hq9
              obtain rfl | rfl | rfl | rfl : i = 0 ∨ i = 1 ∨ i = 2 ∨ i = 3 := by omega
              · skip
                go_wp2_with fail
                have q10 := Q9.out.below ((Below.refl _ _).alloc (Nat.le_refl _) (.cells #[.string ⟨#[61]⟩, .string ⟨#[33, 61]⟩, .string ⟨#[61, 126]⟩, .string ⟨#[33, 126]⟩] 9))
                have b10 := BB.out.alloc (.cells #[.string ⟨#[61]⟩, .string ⟨#[33, 61]⟩, .string ⟨#[61, 126]⟩, .string ⟨#[33, 126]⟩] 9)
                refine ((HSi _ q10.1).out).mono ?_
                rintro e w10 ⟨rfl, h10⟩
                have b11 := b10.keep (h10.2.block _ b10.lt hBP (by simp))
                have q11 := q10.next h10
                clear q10 b10 h10 BB Q9 HSi
                cases hb : isR r2 5 (sgn 0) with
                | true =>
                  rw [hb, if_pos rfl] at hk9
                  have d0 := b11.cell (j := 0) rfl
                  have fB := b11.frozen
                  have q12 := q11.setNew HQ.out.1 hB0 0 (.int .i64 ((0 : Int) + 1))
                  have b12 := b11.set 0 (.int .i64 ((0 : Int) + 1))
                  have Q12 := Lib.hid q12
                  have B12 := Lib.hid b12
                  clear hb q11 b11 q12 b12
                  go_wp2_with fail
                  go_roundw
                  case rel => exact ⟨0 + 1, rfl, by omega, Q12.out, by rw [hk9.out]; exact B12.out⟩
                  case measure => simp [intOf]
                | false =>
                  rw [hb, if_neg (by decide)] at hk9
                  have Q12 := Lib.hid q11
                  have B12 := Lib.hid b11
                  clear hb q11 b11
                  go_wp2_with fail
                  go_roundw
                  case rel => exact ⟨0 + 1, rfl, by omega, Q12.out, by rw [hk9.out]; exact B12.out⟩
                  case measure => simp [intOf]
              · skip
                go_wp2_with fail
                have q10 := Q9.out.below ((Below.refl _ _).alloc (Nat.le_refl _) (.cells #[.string ⟨#[61]⟩, .string ⟨#[33, 61]⟩, .string ⟨#[61, 126]⟩, .string ⟨#[33, 126]⟩] 9))
                have b10 := BB.out.alloc (.cells #[.string ⟨#[61]⟩, .string ⟨#[33, 61]⟩, .string ⟨#[61, 126]⟩, .string ⟨#[33, 126]⟩] 9)
                refine ((HSi _ q10.1).out).mono ?_
                rintro e w10 ⟨rfl, h10⟩
                have b11 := b10.keep (h10.2.block _ b10.lt hBP (by simp))
                have q11 := q10.next h10
                clear q10 b10 h10 BB Q9 HSi
                cases hb : isR r2 5 (sgn 1) with
                | true =>
                  rw [hb, if_pos rfl] at hk9
                  have d0 := b11.cell (j := 0) rfl
                  have fB := b11.frozen
                  have q12 := q11.setNew HQ.out.1 hB0 0 (.int .i64 ((1 : Int) + 1))
                  have b12 := b11.set 0 (.int .i64 ((1 : Int) + 1))
                  have Q12 := Lib.hid q12
                  have B12 := Lib.hid b12
                  clear hb q11 b11 q12 b12
                  go_wp2_with fail
                  go_roundw
                  case rel => exact ⟨1 + 1, rfl, by omega, Q12.out, by rw [hk9.out]; exact B12.out⟩
                  case measure => simp [intOf]
                | false =>
                  rw [hb, if_neg (by decide)] at hk9
                  have Q12 := Lib.hid q11
                  have B12 := Lib.hid b11
                  clear hb q11 b11
                  go_wp2_with fail
                  go_roundw
                  case rel => exact ⟨1 + 1, rfl, by omega, Q12.out, by rw [hk9.out]; exact B12.out⟩
                  case measure => simp [intOf]
              · skip
                go_wp2_with fail
                have q10 := Q9.out.below ((Below.refl _ _).alloc (Nat.le_refl _) (.cells #[.string ⟨#[61]⟩, .string ⟨#[33, 61]⟩, .string ⟨#[61, 126]⟩, .string ⟨#[33, 126]⟩] 9))
                have b10 := BB.out.alloc (.cells #[.string ⟨#[61]⟩, .string ⟨#[33, 61]⟩, .string ⟨#[61, 126]⟩, .string ⟨#[33, 126]⟩] 9)
                refine ((HSi _ q10.1).out).mono ?_
                rintro e w10 ⟨rfl, h10⟩
                have b11 := b10.keep (h10.2.block _ b10.lt hBP (by simp))
                have q11 := q10.next h10
                clear q10 b10 h10 BB Q9 HSi
                cases hb : isR r2 5 (sgn 2) with
                | true =>
                  rw [hb, if_pos rfl] at hk9
                  have d0 := b11.cell (j := 0) rfl
                  have fB := b11.frozen
                  have q12 := q11.setNew HQ.out.1 hB0 0 (.int .i64 ((2 : Int) + 1))
                  have b12 := b11.set 0 (.int .i64 ((2 : Int) + 1))
                  have Q12 := Lib.hid q12
                  have B12 := Lib.hid b12
                  clear hb q11 b11 q12 b12
                  go_wp2_with fail
                  go_roundw
                  case rel => exact ⟨2 + 1, rfl, by omega, Q12.out, by rw [hk9.out]; exact B12.out⟩
                  case measure => simp [intOf]
                | false =>
                  rw [hb, if_neg (by decide)] at hk9
                  have Q12 := Lib.hid q11
                  have B12 := Lib.hid b11
                  clear hb q11 b11
                  go_wp2_with fail
                  go_roundw
                  case rel => exact ⟨2 + 1, rfl, by omega, Q12.out, by rw [hk9.out]; exact B12.out⟩
                  case measure => simp [intOf]
              · skip
                go_wp2_with fail
                have q10 := Q9.out.below ((Below.refl _ _).alloc (Nat.le_refl _) (.cells #[.string ⟨#[61]⟩, .string ⟨#[33, 61]⟩, .string ⟨#[61, 126]⟩, .string ⟨#[33, 126]⟩] 9))
                have b10 := BB.out.alloc (.cells #[.string ⟨#[61]⟩, .string ⟨#[33, 61]⟩, .string ⟨#[61, 126]⟩, .string ⟨#[33, 126]⟩] 9)
                refine ((HSi _ q10.1).out).mono ?_
                rintro e w10 ⟨rfl, h10⟩
                have b11 := b10.keep (h10.2.block _ b10.lt hBP (by simp))
                have q11 := q10.next h10
                clear q10 b10 h10 BB Q9 HSi
                cases hb : isR r2 5 (sgn 3) with
                | true =>
                  rw [hb, if_pos rfl] at hk9
                  have d0 := b11.cell (j := 0) rfl
                  have fB := b11.frozen
                  have q12 := q11.setNew HQ.out.1 hB0 0 (.int .i64 ((3 : Int) + 1))
                  have b12 := b11.set 0 (.int .i64 ((3 : Int) + 1))
                  have Q12 := Lib.hid q12
                  have B12 := Lib.hid b12
                  clear hb q11 b11 q12 b12
                  go_wp2_with fail
                  go_roundw
                  case rel => exact ⟨3 + 1, rfl, by omega, Q12.out, by rw [hk9.out]; exact B12.out⟩
                  case measure => simp [intOf]
                | false =>
                  rw [hb, if_neg (by decide)] at hk9
                  have Q12 := Lib.hid q11
                  have B12 := Lib.hid b11
                  clear hb q11 b11
                  go_wp2_with fail
                  go_roundw
                  case rel => exact ⟨3 + 1, rfl, by omega, Q12.out, by rw [hk9.out]; exact B12.out⟩
                  case measure => simp [intOf]
end
end
end Go.Proofs.Ytdikmklijpcjdaa
