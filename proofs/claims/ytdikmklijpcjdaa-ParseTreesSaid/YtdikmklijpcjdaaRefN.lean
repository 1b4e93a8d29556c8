/- How the document reads a query: what nests; names; spans. -/
import Derived.Test.YtdikmklijpcjdaaRefQ
import Derived.Test.YtdikmklijpcjdaaName
namespace Go.Proofs.Ytdikmklijpcjdaa
open Go.RowKit
attribute [local go_sem ↓] Go.wp_at_zero Go.wp_at_succ tok_f0 tok_f2 tok_f3

def openR (r : Rp PS) : Rp PS := match r with
  | .ok s => if s.deep = 64 then .error (182, (s.hd.at_ : Int)) else .ok ⟨s.toks.tail, s.deep + 1, s.out⟩
  | .error x => .error x
def nameV (r : Rp PS) : ByteArray := match r with
  | .ok s => if s.hd.kind = 3 ∧ nameB s.hd.text = true then s.hd.text else ByteArray.empty
  | .error _ => ByteArray.empty
def nameR (r : Rp PS) : Rp PS := match r with
  | .ok s => if s.hd.kind = 3 ∧ nameB s.hd.text = true then .ok s.on else .error s.stuck
  | .error x => .error x
def spanV (r : Rp PS) : Int := match r with
  | .ok s => s.hd.span
  | .error _ => 0
def spanR (r : Rp PS) : Rp PS := match r with
  | .ok s => if s.hd.kind = 2 then .ok s.on else .error s.stuck
  | .error x => .error x
section
variable {P : Nat} {T : List Tok} {R : Option Addr × Nat} {O : List Nod} {w w0 : World} {r : Rp PS}
set_option maxRecDepth 100000 in
set_option maxHeartbeats 2000000 in
theorem ropen_any (h : TAt w P T R O r) (hk : ∀ s, r = .ok s → s.hd.kind ≠ 0 ∧ s.deep ≤ 64) (hE : Ends T) : Calls Try.prog 65 #[.pointer (some ⟨P, 0, none⟩)] w fun e w' => e = .returned (.tuple #[]) ∧ TQ P T R O w (openR r) w' := by
  obtain ⟨q, hq, hr, ho⟩ := h
  obtain ⟨b, o, ct, tk, hT, c0, hat, hbP, hbw, t0, t1, t2, t3, c1, c2, c3, c4, c5, hct, hcm, hfz⟩ := hq.head
  unfold maxLen at hcm
  have hatI : (q.at_ : Int) < T.length := by omega
  have hat0 : (0 : Int) ≤ (q.at_ : Int) := by omega
  have hPb : P ≠ b := by omega
  have HQ := Lib.hid hq
  have HR := Lib.hid hr
  cases r with
  | error x =>
    have hc : (q.code == 0) = false := by rw [beq_eq_false_iff_ne, hr.1]; exact hr.2.1
    have k1 := fun (z : Int) => Lib.hid (hq.set 3 (.int .i64 z) ⟨q.at_, q.out, z, q.code, q.place⟩ hat rfl (fun _ _ _ => rfl))
    have HN := fun (W : World) (h : TQ P T R O w (.error x) W) => Lib.hid (rnext_q h (fun s h => by cases h) hE)
    clear hr hT hq
    go_enter Try.func65, Try.ntmps65
    go_wp2_with fail
    refine ((HN (w.setCell ⟨P, 3, none⟩ (.int .i64 (wrap64 (q.nest + 1)))) ⟨⟨_, (k1 (wrap64 (q.nest + 1))).out, ⟨HR.out.1, HR.out.2.1, HR.out.2.2⟩, ho⟩, (Fr.refl P none w).setP 3 _⟩).out).mono ?_
    rintro e w2 ⟨rfl, h2⟩
    go_wp2_with fail
    first | go_end0 | refine bodyPost_ret (results_none rfl _ _ _) rfl ?_
    exact ⟨rfl, h2⟩
  | ok s =>
    have hd := rel_hd hr hT
    subst hd
    obtain ⟨hk1, hk2⟩ := hk s rfl
    have hc : (q.code == 0) = true := by rw [beq_iff_eq]; exact hr.1
    have hn : q.nest = s.deep := hr.2.2.2
    rw [hn] at c3
    by_cases h64 : s.deep = 64
    · have HF : Hid (openR (.ok s) = .error (182, (s.hd.at_ : Int))) := by show _ = _; rw [openR, if_pos h64]
      have hge : (64 : Int) ≤ (s.deep : Int) := by omega
      clear hr hT hq hk hk1 hk2 h64 hn
      go_enter Try.func65, Try.ntmps65
      go_wp2_with fail
      go_region
      go_wp2_with fail
      first | go_end0 | refine bodyPost_ret (results_none rfl _ _ _) rfl ?_
      rw [HF.out]
      have k1 := HQ.out.set 4 (.int .i64 182) ⟨q.at_, q.out, q.nest, 182, q.place⟩ hat rfl (fun _ _ _ => rfl)
      have k2 := k1.set 5 (.int .i64 (s.hd.at_ : Int)) ⟨q.at_, q.out, q.nest, 182, (s.hd.at_ : Int)⟩ hat rfl (fun _ _ _ => rfl)
      have k3 := k2.below ((Below.refl _ _).drew)
      have f3 := (((Fr.refl P none w).setP 4 (.int .i64 182)).setP 5 (.int .i64 (s.hd.at_ : Int))).belowAll ((Below.refl _ _).drew)
      exact ⟨rfl, ⟨_, k3, ⟨rfl, by show (182 : Int) ≠ 0; decide, rfl⟩, ho⟩, f3⟩
    · have HF : Hid (openR (.ok s) = onR (.ok ⟨s.toks, s.deep + 1, s.out⟩)) := by show _ = _; rw [openR, if_neg h64]; rfl
      have hge : ¬ (64 : Int) ≤ (s.deep : Int) := by omega
      have hw : IntKind.i64.wrap ((s.deep : Int) + 1) = (s.deep : Int) + 1 := by rw [IntKind.wrap_i64] <;> omega
      have hdI : (s.deep : Int) ≤ 64 := by omega
      have k1 := Lib.hid (hq.set 3 (.int .i64 ((s.deep : Int) + 1)) ⟨q.at_, q.out, (s.deep : Int) + 1, q.code, q.place⟩ hat rfl (fun _ _ _ => rfl))
      have HN := fun (W : World) (h : TQ P T R O w (.ok ⟨s.toks, s.deep + 1, s.out⟩) W) => Lib.hid (rnext_q h (fun s' h => by injection h with h; subst h; exact hk1) hE)
      clear hr hT hq hk hk1 hk2 h64 hn
      go_enter Try.func65, Try.ntmps65
      go_wp2_with fail
      refine ((HN _ ⟨⟨_, k1.out, ⟨HR.out.1, HR.out.2.1, HR.out.2.2.1, by show (s.deep : Int) + 1 = ((s.deep + 1 : Nat) : Int); omega⟩, ho⟩, (Fr.refl P none w).setP 3 _⟩).out).mono ?_
      rintro e w2 ⟨rfl, h2⟩
      go_wp2_with fail
      first | go_end0 | refine bodyPost_ret (results_none rfl _ _ _) rfl ?_
      rw [HF.out]
      exact ⟨rfl, h2⟩
theorem ropen_q (h : TQ P T R O w0 r w) (hk : ∀ s, r = .ok s → s.hd.kind ≠ 0 ∧ s.deep ≤ 64) (hE : Ends T) : Calls Try.prog 65 #[.pointer (some ⟨P, 0, none⟩)] w fun e w' => e = .returned (.tuple #[]) ∧ TQ P T R O w0 (openR r) w' := (ropen_any h.1 hk hE).mono fun _ _ ⟨h1, h2⟩ => ⟨h1, h.next h2⟩
set_option maxRecDepth 100000 in
set_option maxHeartbeats 2000000 in
theorem rspan_any (h : TAt w P T R O r) (hE : Ends T) : Calls Try.prog 85 #[.pointer (some ⟨P, 0, none⟩)] w fun e w' => e = .returned (.int .i64 (spanV r)) ∧ TQ P T R O w (spanR r) w' := by
  have h0 := Lib.hid h
  obtain ⟨q, hq, hr, ho⟩ := h
  obtain ⟨b, o, ct, tk, hT, c0, hat, hbP, hbw, t0, t1, t2, t3, c1, c2, c3, c4, c5, hct, hcm, hfz⟩ := hq.head
  unfold maxLen at hcm
  have hatI : (q.at_ : Int) < T.length := by omega
  have hat0 : (0 : Int) ≤ (q.at_ : Int) := by omega
  have hPb : P ≠ b := by omega
  cases r with
  | error x =>
    have hc : (q.code != 0) = true := by rw [bne_iff_ne, hr.1]; exact hr.2.1
    clear hr hT hq
    go_enter Try.func85, Try.ntmps85
    go_wp2_with fail
    go_ret
    exact ⟨rfl, TQ.start h0.out⟩
  | ok s =>
    have hd := rel_hd hr hT
    subst hd
    have hc : (q.code != 0) = false := by rw [hr.1]; rfl
    have hlt := hq.lt
    have HB : Hid (∀ W : World, Below w.heap.size w W → TQ P T R O w (.ok s) W) := fun W hb => (TQ.start h0.out).below hb
    by_cases hk : s.hd.kind = 2
    · have hkb : (s.hd.kind != 2) = false := by rw [hk]; rfl
      have HF : Hid (spanR (.ok s) = onR (.ok s)) := by show _ = _; rw [spanR, if_pos hk]; rfl
      have HN := fun (W : World) (h : TAt W P T R O (.ok s)) => Lib.hid (rnext_any h (fun s' h => by injection h with h; subst h; rw [hk]; decide) hE)
      clear hr hT hq hk
      go_enter Try.func85, Try.ntmps85
      go_wp2_with fail
      go_region
      generalize hW : World.drew _ = W1
      have bT : Blk W1 w.heap.size 52 (tokC s.hd) := by rw [← hW]; exact Blk.new w _ _
      have hb1 : Below w.heap.size w W1 := by rw [← hW]; exact ((Below.refl _ _).alloc (Nat.le_refl _) _).drew
      have hT1 := HB.out W1 hb1
      have e0 := bT.cell (j := 0) rfl
      have BT := Lib.hid bT
      have hPw : P ≠ w.heap.size := by omega
      clear hW hb1 bT
      go_wp2_with fail
      refine ((HN _ hT1.1).out).mono ?_
      rintro e w2 ⟨rfl, h2⟩
      have e3 := (BT.out.keep (w' := w2) (h2.2.block w.heap.size BT.out.lt (Ne.symm hPw) (by simp))).cell (j := 3) rfl
      have H2 := Lib.hid (hT1.next h2)
      clear h2 hT1
      go_wp2_with fail
      go_ret
      rw [HF.out]
      exact ⟨rfl, H2.out⟩
    · have hkb : (s.hd.kind != 2) = true := by rw [bne_iff_ne]; exact hk
      have HF : Hid (spanR (.ok s) = onR (failR (.ok s) 181)) := by show _ = _; rw [spanR, if_neg hk]; rfl
      have HX := fun (W : World) (h : TAt W P T R O (.ok s)) => Lib.hid (rfail_any h 181 (by decide))
      have HN := fun (W : World) (h : TAt W P T R O (failR (.ok s) 181)) => Lib.hid (rnext_any h (fun s' h => absurd h (failR_err _ _ _)) hE)
      clear hr hT hq hk
      go_enter Try.func85, Try.ntmps85
      go_wp2_with fail
      go_region
      generalize hW : World.drew _ = W1
      have bT : Blk W1 w.heap.size 52 (tokC s.hd) := by rw [← hW]; exact Blk.new w _ _
      have hb1 : Below w.heap.size w W1 := by rw [← hW]; exact ((Below.refl _ _).alloc (Nat.le_refl _) _).drew
      have hT1 := HB.out W1 hb1
      have e0 := bT.cell (j := 0) rfl
      have BT := Lib.hid bT
      have hPw : P ≠ w.heap.size := by omega
      clear hW hb1 bT
      go_wp2_with fail
      refine ((HX _ hT1.1).out).mono ?_
      rintro e w2 ⟨rfl, h2⟩
      have b2 := BT.out.keep (w' := w2) (h2.2.block w.heap.size BT.out.lt (Ne.symm hPw) (by simp))
      have H2 := Lib.hid (hT1.next h2)
      have B2 := Lib.hid b2
      clear h2 hT1 b2
      go_wp2_with fail
      refine ((HN _ H2.out.1).out).mono ?_
      rintro e w3 ⟨rfl, h3⟩
      have e3 := (B2.out.keep (w' := w3) (h3.2.block w.heap.size B2.out.lt (Ne.symm hPw) (by simp))).cell (j := 3) rfl
      have H3 := Lib.hid (H2.out.next h3)
      clear h3
      go_wp2_with fail
      go_ret
      rw [HF.out]
      exact ⟨rfl, H3.out⟩
theorem rspan_q (h : TQ P T R O w0 r w) (hE : Ends T) : Calls Try.prog 85 #[.pointer (some ⟨P, 0, none⟩)] w fun e w' => e = .returned (.int .i64 (spanV r)) ∧ TQ P T R O w0 (spanR r) w' := (rspan_any h.1 hE).mono fun _ _ ⟨h1, h2⟩ => ⟨h1, h.next h2⟩
set_option maxRecDepth 100000 in
set_option maxHeartbeats 2000000 in
theorem rname_any (h : TAt w P T R O r) (hE : Ends T) (hsz : ∀ s, r = .ok s → s.hd.text.size ≤ 1000000) : Calls Try.prog 79 #[.pointer (some ⟨P, 0, none⟩)] w fun e w' => e = .returned (.string (nameV r)) ∧ TQ P T R O w (nameR r) w' := by
  have h0 := Lib.hid h
  obtain ⟨q, hq, hr, ho⟩ := h
  obtain ⟨b, o, ct, tk, hT, c0, hat, hbP, hbw, t0, t1, t2, t3, c1, c2, c3, c4, c5, hct, hcm, hfz⟩ := hq.head
  unfold maxLen at hcm
  have hatI : (q.at_ : Int) < T.length := by omega
  have hat0 : (0 : Int) ≤ (q.at_ : Int) := by omega
  have hPb : P ≠ b := by omega
  cases r with
  | error x =>
    have hc : (q.code != 0) = true := by rw [bne_iff_ne, hr.1]; exact hr.2.1
    clear hr hT hq
    go_enter Try.func79, Try.ntmps79
    go_wp2_with fail
    go_ret
    exact ⟨rfl, TQ.start h0.out⟩
  | ok s =>
    have hd := rel_hd hr hT
    subst hd
    have hsz := hsz s rfl
    have hc : (q.code != 0) = false := by rw [hr.1]; rfl
    have hlt := hq.lt
    have HB : Hid (∀ W : World, Below w.heap.size w W → TQ P T R O w (.ok s) W) := fun W hb => (TQ.start h0.out).below hb
    have HNm := fun (W : World) => Lib.hid (name2_any s.hd.text W (by unfold maxLen; omega))
    by_cases hk : s.hd.kind = 3 ∧ nameB s.hd.text = true
    · have hkb : (s.hd.kind != 3) = false := by rw [hk.1]; rfl
      have HV : Hid (nameV (.ok s) = s.hd.text) := by show _ = _; rw [nameV, if_pos hk]
      have HF : Hid (nameR (.ok s) = onR (.ok s)) := by show _ = _; rw [nameR, if_pos hk]; rfl
      have HN := fun (W : World) (h : TAt W P T R O (.ok s)) => Lib.hid (rnext_any h (fun s' h => by injection h with h; subst h; rw [hk.1]; decide) hE)
      rw [hk.2] at HNm
      clear hr hT hq hk
      go_enter Try.func79, Try.ntmps79
      go_wp2_with fail
      go_region
      generalize hW : World.drew _ = W1
      have bT : Blk W1 w.heap.size 52 (tokC s.hd) := by rw [← hW]; exact Blk.new w _ _
      have hb1 : Below w.heap.size w W1 := by rw [← hW]; exact ((Below.refl _ _).alloc (Nat.le_refl _) _).drew
      have hT1 := HB.out W1 hb1
      have e0 := bT.cell (j := 0) rfl
      have e2 := bT.cell (j := 2) rfl
      have BT := Lib.hid bT
      have hPw : P ≠ w.heap.size := by omega
      clear hW hb1 bT
      go_wp2_with fail
      refine ((HNm _).out).mono ?_
      rintro e w2 ⟨rfl, rfl⟩
      go_wp2_with fail
      refine ((HN _ hT1.1).out).mono ?_
      rintro e w3 ⟨rfl, h3⟩
      have e3 := (BT.out.keep (w' := w3) (h3.2.block w.heap.size BT.out.lt (Ne.symm hPw) (by simp))).cell (j := 2) rfl
      have H3 := Lib.hid (hT1.next h3)
      clear h3 hT1
      go_wp2_with fail
      go_ret
      rw [HF.out, HV.out]
      exact ⟨rfl, H3.out⟩
    · have HV : Hid (nameV (.ok s) = ByteArray.empty) := by show _ = _; rw [nameV, if_neg hk]
      have HF : Hid (nameR (.ok s) = failR (.ok s) 181) := by show _ = _; rw [nameR, if_neg hk]; rfl
      have HX := fun (W : World) (h : TAt W P T R O (.ok s)) => Lib.hid (rfail_any h 181 (by decide))
      by_cases hk3 : s.hd.kind = 3
      · have hkb : (s.hd.kind != 3) = false := by rw [hk3]; rfl
        have hnm : nameB s.hd.text = false := by
          cases hn : nameB s.hd.text with
          | false => rfl
          | true => exact absurd ⟨hk3, hn⟩ hk
        rw [hnm] at HNm
        clear hr hT hq hk hk3
        go_enter Try.func79, Try.ntmps79
        go_wp2_with fail
        go_region
        generalize hW : World.drew _ = W1
        have bT : Blk W1 w.heap.size 52 (tokC s.hd) := by rw [← hW]; exact Blk.new w _ _
        have hb1 : Below w.heap.size w W1 := by rw [← hW]; exact ((Below.refl _ _).alloc (Nat.le_refl _) _).drew
        have hT1 := HB.out W1 hb1
        have e0 := bT.cell (j := 0) rfl
        have e2 := bT.cell (j := 2) rfl
        clear hW hb1 bT
        go_wp2_with fail
        refine ((HNm _).out).mono ?_
        rintro e w2 ⟨rfl, rfl⟩
        go_wp2_with fail
        refine ((HX _ hT1.1).out).mono ?_
        rintro e w3 ⟨rfl, h3⟩
        have H3 := Lib.hid (hT1.next h3)
        clear h3 hT1
        go_wp2_with fail
        go_ret
        rw [HF.out, HV.out]
        exact ⟨rfl, H3.out⟩
      · have hkb : (s.hd.kind != 3) = true := by rw [bne_iff_ne]; exact hk3
        clear hr hT hq hk hk3
        go_enter Try.func79, Try.ntmps79
        go_wp2_with fail
        go_region
        generalize hW : World.drew _ = W1
        have bT : Blk W1 w.heap.size 52 (tokC s.hd) := by rw [← hW]; exact Blk.new w _ _
        have hb1 : Below w.heap.size w W1 := by rw [← hW]; exact ((Below.refl _ _).alloc (Nat.le_refl _) _).drew
        have hT1 := HB.out W1 hb1
        have e0 := bT.cell (j := 0) rfl
        clear hW hb1 bT
        go_wp2_with fail
        refine ((HX _ hT1.1).out).mono ?_
        rintro e w3 ⟨rfl, h3⟩
        have H3 := Lib.hid (hT1.next h3)
        clear h3 hT1
        go_wp2_with fail
        go_ret
        rw [HF.out, HV.out]
        exact ⟨rfl, H3.out⟩
theorem rname_q (h : TQ P T R O w0 r w) (hE : Ends T) (hsz : ∀ s, r = .ok s → s.hd.text.size ≤ 1000000) : Calls Try.prog 79 #[.pointer (some ⟨P, 0, none⟩)] w fun e w' => e = .returned (.string (nameV r)) ∧ TQ P T R O w0 (nameR r) w' := (rname_any h.1 hE hsz).mono fun _ _ ⟨h1, h2⟩ => ⟨h1, h.next h2⟩
end
end Go.Proofs.Ytdikmklijpcjdaa
