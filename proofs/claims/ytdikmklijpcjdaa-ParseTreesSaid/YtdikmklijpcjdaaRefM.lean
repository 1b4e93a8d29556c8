/- How the document reads a query: a list of names; nodes laid. -/
import Derived.Test.YtdikmklijpcjdaaRefN
namespace Go.Proofs.Ytdikmklijpcjdaa
open Go.RowKit
attribute [local go_sem ↓] Go.wp_at_zero Go.wp_at_succ tok_f0 tok_f2 tok_f3

section
variable {P : Nat} {T : List Tok} {R : Option Addr × Nat} {O : List Nod} {w w' w0 : World} {r : Rp PS}
theorem TAt.toks {s : PS} (h : TAt w P T R O (.ok s)) (hE : Ends T) : s.hd ∈ T ∧ 1 ≤ s.toks.length ∧ s.toks.length ≤ T.length ∧ Ends s.toks ∧ s.out = O := by
  obtain ⟨q, ⟨_, _, _, _, _, _, _, hat, _⟩, ⟨_, h2, h3, _⟩, ho⟩ := h
  have hl : 1 ≤ s.toks.length := by rw [h2, List.length_drop]; omega
  refine ⟨?_, hl, by rw [h2, List.length_drop]; omega, ?_, by rw [← h3, ho]⟩
  · rw [PS.hd, h2, List.drop_eq_getElem_cons hat]
    exact List.getElem_mem hat
  · obtain ⟨e, he, hk⟩ := hE
    refine ⟨e, ?_, hk⟩
    rw [h2, List.getLast?_drop, if_neg (by omega)]
    exact he
/-- A row of the call's own grows, or other new memory: the reader stays. -/
theorem QAt.re {q q0 : RS} (h0 : QAt w0 P T R q0) (hw : QAt w P T R q) (hout : q.out = q0.out) (hf : Fr P none w0 w) (hf' : Fr P none w0 w') (hblk : w'.heap[P]? = w.heap[P]?) : QAt w' P T R q := by
  obtain ⟨b0, o0, ct0, g1, g2, g3, g4, g5, g6⟩ := h0
  obtain ⟨b, o, ct, h1, h2, h3, h4, h5, h6⟩ := hw
  refine ⟨b, o, ct, h1.keep hblk, ?_, h3, h4, h5, ?_⟩
  · exact h2.keep fun x ox hx => by
      have hlt := g1.lt
      have e1 := hf.block x (by omega) (by omega) (by simp)
      have e2 := hf'.block x (by omega) (by omega) (by simp)
      exact World.cell?_of_block (e2.trans e1.symm)
  · rw [hout]
    obtain ⟨cs, k1, k2, k3⟩ := g6
    have key : ∀ {base sz n c : Nat} {e : TypeId} {A : Option Addr} {xs : List (List Value)}, Own w0 base e sz A n c xs → e ≠ 49 → Own w' base e sz A n c xs := fun ho he => ho.same fun b hb => hf'.block b (ho.block hb).2 (fun e => own_ne_blk ho g1 he (by rw [← e]; exact hb.symm)) (by simp)
    refine ⟨cs, key k1 (by decide), k2, fun k x hx => ?_⟩
    obtain ⟨Am, cm, An, cn, hy, ho, hp⟩ := k3 k x hx
    exact ⟨Am, cm, An, cn, hy, key ho (by decide), key hp (by decide)⟩
theorem TQ.grownX {X : Option Addr} {sz n c : Nat} {e : TypeId} {xs : List (List Value)} {r0 : Rp PS} (h : TQ P T R O w0 r w) (h0 : TAt w0 P T R O r0) (hO : Own w w0.heap.size e sz X n c xs) (hg : w.grownBy w' (X.map Addr.block)) (h1 : e ≠ 49) : TQ P T R O w0 r w' := by
  obtain ⟨⟨q, hq, hr, ho⟩, hf⟩ := h
  obtain ⟨q0, hq0, _, ho0⟩ := h0
  have hbP : ∃ cs, Blk w P 49 cs := by obtain ⟨b, o, ct, b1, _⟩ := hq; exact ⟨_, b1⟩
  obtain ⟨cs, bP⟩ := hbP
  have hne := own_ne_blk hO bP h1
  have hf' : Fr P none w0 w' := ⟨hg.os.trans hf.os, hg.tape.trans hf.tape, hg.output.trans hf.output, Nat.le_trans hf.size hg.size, fun b hlt h1 h2 =>
    (hg.block b (Nat.lt_of_lt_of_le hlt hf.size) (fun e => by have := (hO.block e.symm).1; omega)).trans (hf.block b hlt h1 h2)⟩
  exact ⟨⟨q, hq0.re hq (ho.trans ho0.symm) hf hf' (hg.block P hq.lt hne), hr, ho⟩, hf'⟩
theorem Own.frQ {X : Option Addr} {base sz n c : Nat} {e : TypeId} {xs : List (List Value)} (h : Own w base e sz X n c xs) (hT : TAt w P T R O r) (hf : Fr P none w w') (h1 : e ≠ 49) : Own w' base e sz X n c xs := by
  obtain ⟨q, ⟨b, o, ct, bP, _⟩, _⟩ := hT
  exact h.same fun b hb => hf.block b (h.block hb).2 (fun e => own_ne_blk h bP h1 (by rw [← e]; exact hb.symm)) (by simp)
end
def namesQ (r : Rp PS) : Rp (PS × List ByteArray) := match r with
  | .ok s => s.names
  | .error x => .error x
def lenS : Value → Nat
  | .slice _ n _ => n
  | _ => 0
/-- How 'names' ends. -/
def NamesE (P : Nat) (T : List Tok) (R : Option Addr × Nat) (O : List Nod) (w0 : World) : Rp (PS × List ByteArray) → Ending → World → Prop
  | .ok (s1, l), e, w' => ∃ A c, e = .returned (.slice A l.length c) ∧ Own w' w0.heap.size 9 1 A l.length c (textsC l) ∧ TQ P T R O w0 (.ok s1) w'
  | .error x, e, w' => ∃ A n c, e = .returned (.slice A n c) ∧ TQ P T R O w0 (.error x) w'
/-- What the loop still comes to. -/
def tailN (rc : Rp PS) (acc : List ByteArray) (fst : Bool) (tr : Rp (PS × List ByteArray)) (N : Nat) : Prop := match rc with
  | .ok sc => (∃ m, sc.toks.length ≤ m ∧ namesF m sc acc = tr) ∧ fst = acc.isEmpty ∧ acc.length + sc.toks.length ≤ N
  | .error x => tr = .error x
def stepN2 (sc : PS) (fst : Bool) : Rp PS := nameR (if fst = true then .ok sc else wantR (.ok sc) sComma)
def valN2 (sc : PS) (fst : Bool) : ByteArray := nameV (if fst = true then .ok sc else wantR (.ok sc) sComma)
theorem tail_step {sc : PS} {acc : List ByteArray} {fst : Bool} {tr : Rp (PS × List ByteArray)} {N : Nat} (hl : 1 ≤ sc.toks.length) (hi : sc.is 5 sC = false) (h : tailN (.ok sc) acc fst tr N) : tailN (stepN2 sc fst) (acc ++ [valN2 sc fst]) false tr N := by
  obtain ⟨⟨m, hm, hn⟩, hf, hN⟩ := h
  obtain ⟨m, rfl⟩ : ∃ k, m = k + 1 := ⟨m - 1, by omega⟩
  rw [namesF, if_neg (by rw [hi]; decide)] at hn
  have hc : sc.comma acc.isEmpty = if fst = true then .ok sc else wantR (.ok sc) sComma := by rw [PS.comma, ← hf]; rfl
  rw [hc] at hn
  unfold stepN2 valN2
  cases hr : (if fst = true then Except.ok sc else wantR (.ok sc) sComma) with
  | error x =>
    rw [hr] at hn
    exact hn.symm
  | ok s1 =>
    rw [hr] at hn
    have hl1 : s1.toks.length ≤ sc.toks.length := by
      split at hr
      · injection hr with hr; rw [hr]; exact Nat.le_refl _
      · rw [(sign_step (s := sc) hr).1]; simp [PS.on]
    dsimp only at hn
    unfold nameR nameV
    by_cases hk : s1.hd.kind = 3 ∧ nameB s1.hd.text = true
    · rw [PS.name, if_pos hk] at hn
      dsimp only
      rw [if_pos hk, if_pos hk]
      refine ⟨⟨m, ?_, hn⟩, by simp, ?_⟩
      · simp only [PS.on, List.length_tail]; omega
      · simp only [PS.on, List.length_tail, List.length_append, List.length_singleton]; omega
    · rw [PS.name, if_neg hk] at hn
      dsimp only
      rw [if_neg hk]
      exact hn.symm
theorem tail_end {sc : PS} {acc : List ByteArray} {fst : Bool} {tr : Rp (PS × List ByteArray)} {N : Nat} (hl : 1 ≤ sc.toks.length) (hi : sc.is 5 sC = true) (h : tailN (.ok sc) acc fst tr N) : tr = .ok (sc.on, acc) := by
  obtain ⟨⟨m, hm, hn⟩, _⟩ := h
  obtain ⟨m, rfl⟩ : ∃ k, m = k + 1 := ⟨m - 1, by omega⟩
  rw [namesF, if_pos hi] at hn
  exact hn.symm
section
variable {P : Nat} {T : List Tok} {R : Option Addr × Nat} {O : List Nod} {w : World} {r : Rp PS}
set_option maxRecDepth 100000 in
set_option maxHeartbeats 4000000 in
theorem rnames_any (h : TAt w P T R O r) (hE : Ends T) (hTs : ∀ t ∈ T, t.text.size ≤ 1000000) (hTl : T.length ≤ 1000000) : Calls Try.prog 67 #[.pointer (some ⟨P, 0, none⟩)] w (NamesE P T R O w (namesQ r)) := by
  have H0 := Lib.hid h
  have HW1 := Lib.hid (rwant_q (TQ.start h) sO hE)
  have HI : Hid (tailN (wantR r sO) [] true (namesQ r) T.length) := by
    cases r with
    | error x => exact (rfl : (Except.error x : Rp (PS × List ByteArray)) = Except.error x)
    | ok s =>
      have hl := (h.toks hE).2.2.1
      show tailN (s.sign sO) [] true s.names T.length
      rw [PS.names]
      cases hs : s.sign sO with
      | error x => exact (rfl : (Except.error x : Rp (PS × List ByteArray)) = Except.error x)
      | ok s1 =>
        have : s1.toks.length ≤ s.toks.length := by rw [(sign_step hs).1]; simp [PS.on]
        exact ⟨⟨s1.toks.length, Nat.le_refl _, rfl⟩, rfl, by simp; omega⟩
  have hlw := h.lt
  clear h
  go_enter Try.func67, Try.ntmps67
  go_wp2_with fail
  refine (HW1.out).mono ?_
  rintro e w1 ⟨rfl, h1⟩
  generalize wantR r sO = r1 at *
  generalize namesQ r = tr at *
  go_wp2_with fail
  go_loopw [3, 4] (fun v3 v4 wr => ∃ (rc : Rp PS) (acc : List ByteArray) (fst : Bool) (A : Option Addr) (c : Nat), v3 = .slice A acc.length c ∧ v4 = .bool fst ∧ Own wr w.heap.size 9 1 A acc.length c (textsC acc) ∧ TQ P T R O w rc wr ∧ Hid (tailN rc acc fst tr T.length)) (fun v3 _ _ => T.length + 1 - lenS v3)
  case atStart => exact ⟨r1, [], true, none, 0, rfl, rfl, Own.nil_ (by decide), h1, HI⟩
  case round =>
    clear HI h1 HW1
    obtain ⟨rc, acc, fst, A, c, rfl, rfl, hO, hq, HN⟩ := hrel
    have hlr := hO.cap
    cases rc with
    | error x =>
      have HX := Lib.hid (rwant_q hq sC hE)
      obtain ⟨⟨q, hq1, hr1, _⟩, _⟩ := hq
      obtain ⟨b, o, ct, tk, hT, c0, hat, hbP, hbw, t0, t1, t2, t3, c1, c2, c3, c4, c5, hct, hcm, hfz⟩ := hq1.head
      have hc : (q.code == 0) = false := by rw [beq_eq_false_iff_ne, hr1.1]; exact hr1.2.1
      have HN2 : Hid (tr = .error x) := HN.out
      clear hr1 hq1 hT t0 t1 t2 t3 c0 c1 c2 c3 c5 hfz
      go_wp2_with fail
      refine (HX.out).mono ?_
      rintro e w2 ⟨rfl, h2⟩
      go_wp2_with fail
      go_ret
      rw [HN2.out]
      exact ⟨A, _, c, rfl, h2⟩
    | ok sc =>
      obtain ⟨hmem, hl1, hl2, hEs, hout⟩ := hq.1.toks hE
      have HS := Lib.hid (rsign_q (TQ.start hq.1) sC)
      have HQ := Lib.hid hq
      have HO := Lib.hid hO
      obtain ⟨⟨q, hq1, hr1, _⟩, _⟩ := hq
      obtain ⟨b, o, ct, tk, hT, c0, hat, hbP, hbw, t0, t1, t2, t3, c1, c2, c3, c4, c5, hct, hcm, hfz⟩ := hq1.head
      have hc : (q.code == 0) = true := by rw [beq_iff_eq]; exact hr1.1
      clear hr1 hq1 hT t0 t1 t2 t3 c0 c1 c2 c3 c5 hfz hO
      cases hi : sc.is 5 sC with
      | true =>
        have hi' : isR (.ok sc) 5 sC = true := hi
        rw [hi'] at HS
        have HE := Lib.hid (tail_end hl1 hi HN.out)
        have HW : Hid (wantR (.ok sc) sC = .ok sc.on) := by show _ = _; rw [wantR, PS.sign, if_pos hi]
        have HX := fun (W : World) (h : TAt W P T R O (.ok sc)) => Lib.hid (rwant_q (TQ.start h) sC hE)
        clear hi hi' HN
        go_wp2_with fail
        refine (HS.out).mono ?_
        rintro e w2 ⟨rfl, h2⟩
        go_wp2_with fail
        refine ((HX _ h2.1).out).mono ?_
        rintro e w3 ⟨rfl, h3⟩
        rw [HW.out] at h3
        have HF := Lib.hid ((HQ.out.next h2).next h3)
        have HO3 := Lib.hid ((HO.out.frQ HQ.out.1 h2.2 (by decide)).frQ h2.1 h3.2 (by decide))
        clear h2 h3
        go_wp2_with fail
        go_ret
        rw [HE.out]
        exact ⟨A, c, rfl, HO3.out, HF.out⟩
      | false =>
        have hi' : isR (.ok sc) 5 sC = false := hi
        rw [hi'] at HS
        have HT2 := Lib.hid (tail_step hl1 hi HN.out)
        have hNa : acc.length + sc.toks.length ≤ T.length := HN.out.2.2
        have hsz := hTs _ hmem
        clear hi hi' HN
        cases fst with
        | true =>
          have HM := fun (W : World) (h : TAt W P T R O (.ok sc)) => Lib.hid (rname_any h hE (fun s hs => by injection hs with hs; subst hs; exact hsz))
          go_wp2_with fail
          refine (HS.out).mono ?_
          rintro e w2 ⟨rfl, h2⟩
          go_wp2_with fail
          refine ((HM _ h2.1).out).mono ?_
          rintro e w3 ⟨rfl, h3⟩
          have hF := (HQ.out.next h2).next h3
          have hO3 := (HO.out.frQ HQ.out.1 h2.2 (by decide)).frQ h2.1 h3.2 (by decide)
          have hfs := hF.2.size
          have HO4 := Lib.hid (hO3.alloc (.cells #[.string (nameV (.ok sc))] 9))
          have HG := Lib.hid (hF.below ((Below.refl _ _).alloc (Nat.le_refl _) (.cells #[.string (nameV (.ok sc))] 9)))
          have HX : Hid (Rd (w3.alloc (.cells #[.string (nameV (.ok sc))] 9)) (w3.heap.size + 1) 1 (some ⟨w3.heap.size, 0, none⟩) (textsC [nameV (.ok sc)])) := Rd.new w3 (textsC_sz _) _ rfl
          clear hF hO3 h2 h3
          go_wp2_with (at_builtin; refine wpList_append_rd _ rfl (.tmp 21) (.tmp 24) _ rfl eiTexts rfl HO4.out rfl HX.out rfl (by simp [textsC, Value.oneCell']) (by simp only [maxLen]; omega) (by omega) (by simp; omega) ?_; intro A' c' w4 ho4 hg4 hat4 hb4)
          go_roundw
          case rel => exact ⟨_, acc ++ [valN2 sc true], false, A', c', by simp, rfl, by rw [show valN2 sc true = nameV (.ok sc) from rfl]; simpa [textsC] using ho4, HG.out.grownX H0.out HO4.out hg4 (by decide), HT2⟩
          case measure => simp [lenS]; omega
        | false =>
          have HC := fun (W : World) (h : TAt W P T R O (.ok sc)) => Lib.hid (rwant_q (TQ.start h) sComma hE)
          have HM := fun (W : World) (h : TAt W P T R O (wantR (.ok sc) sComma)) => Lib.hid (rname_any h hE (fun s hs => hTs _ ((show TAt W P T R O (.ok s) from hs ▸ h).toks hE).1))
          go_wp2_with fail
          refine (HS.out).mono ?_
          rintro e w2 ⟨rfl, h2⟩
          go_wp2_with fail
          refine ((HC _ h2.1).out).mono ?_
          rintro e w2b ⟨rfl, h2b⟩
          have B2 := Lib.hid (HO.out.frQ HQ.out.1 h2.2 (by decide))
          have F2 := Lib.hid ((HQ.out.next h2).next h2b)
          have B2b := Lib.hid (B2.out.frQ h2.1 h2b.2 (by decide))
          clear h2 h2b B2
          go_wp2_with fail
          refine ((HM _ F2.out.1).out).mono ?_
          rintro e w3 ⟨rfl, h3⟩
          have hF := F2.out.next h3
          have hO3 := B2b.out.frQ F2.out.1 h3.2 (by decide)
          have hfs := hF.2.size
          have HO4 := Lib.hid (hO3.alloc (.cells #[.string (nameV (wantR (.ok sc) sComma))] 9))
          have HG := Lib.hid (hF.below ((Below.refl _ _).alloc (Nat.le_refl _) (.cells #[.string (nameV (wantR (.ok sc) sComma))] 9)))
          have HX : Hid (Rd (w3.alloc (.cells #[.string (nameV (wantR (.ok sc) sComma))] 9)) (w3.heap.size + 1) 1 (some ⟨w3.heap.size, 0, none⟩) (textsC [nameV (wantR (.ok sc) sComma)])) := Rd.new w3 (textsC_sz _) _ rfl
          clear hF hO3 h3
          go_wp2_with (at_builtin; refine wpList_append_rd _ rfl (.tmp 21) (.tmp 24) _ rfl eiTexts rfl HO4.out rfl HX.out rfl (by simp [textsC, Value.oneCell']) (by simp only [maxLen]; omega) (by omega) (by simp; omega) ?_; intro A' c' w4 ho4 hg4 hat4 hb4)
          go_roundw
          case rel => exact ⟨_, acc ++ [valN2 sc false], false, A', c', by simp, rfl, by rw [show valN2 sc false = nameV (wantR (.ok sc) sComma) from rfl]; simpa [textsC] using ho4, HG.out.grownX H0.out HO4.out hg4 (by decide), HT2⟩
          case measure => simp [lenS]; omega
end
end Go.Proofs.Ytdikmklijpcjdaa
