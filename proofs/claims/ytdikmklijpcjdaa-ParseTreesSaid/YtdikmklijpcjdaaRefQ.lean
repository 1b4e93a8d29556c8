/- How the document reads a query: its reader in memory; its small methods. -/
import Derived.Test.YtdikmklijpcjdaaParX
import Derived.Test.YtdikmklijpcjdaaRefK
namespace Go.Proofs.Ytdikmklijpcjdaa
open Go.RowKit
attribute [local go_sem ↓] Go.wp_at_zero Go.wp_at_succ tok_f0 tok_f2 tok_f3

/-- What the document's reader holds. -/
structure RS where
  at_ : Nat
  out : List Nod
  nest : Int
  code : Int
  place : Int
def QAt (w : World) (P : Nat) (T : List Tok) (R : Option Addr × Nat) (q : RS) : Prop :=
  ∃ b o ct, Blk w P 49 [.slice (some ⟨b, o, none⟩) T.length ct, .int .i64 q.at_, .slice R.1 q.out.length R.2, .int .i64 q.nest, .int .i64 q.code, .int .i64 q.place] ∧ Rd w P 4 (some ⟨b, o, none⟩) (toksC T) ∧ T.length ≤ ct ∧ ct ≤ maxLen ∧ q.at_ < T.length ∧ OwnNods w (P + 1) R.1 q.out.length R.2 q.out
/-- What it is read as: still reading, or given up. -/
def RelQ (T : List Tok) (q : RS) : Rp PS → Prop
  | .ok s => q.code = 0 ∧ s.toks = T.drop q.at_ ∧ q.out = s.out ∧ q.nest = s.deep
  | .error x => q.code = x.1 ∧ x.1 ≠ 0 ∧ q.place = x.2
def TAt (w : World) (P : Nat) (T : List Tok) (R : Option Addr × Nat) (O : List Nod) (r : Rp PS) : Prop := ∃ q, QAt w P T R q ∧ RelQ T q r ∧ q.out = O
section
variable {w w' w0 : World} {P : Nat} {T : List Tok} {R : Option Addr × Nat} {O : List Nod} {q : RS} {r : Rp PS}
theorem QAt.lt (h : QAt w P T R q) : P < w.heap.size := by
  obtain ⟨b, o, ct, h1, _⟩ := h
  exact h1.lt
theorem QAt.below (h : QAt w P T R q) (hb : Below w.heap.size w w') : QAt w' P T R q := by
  have hlt := h.lt
  obtain ⟨b, o, ct, h1, h2, h3, h4, h5, h6⟩ := h
  exact ⟨b, o, ct, h1.below hb h1.lt, h2.below (hb.mono (by omega)), h3, h4, h5, h6.belowAll hb⟩
theorem TAt.below (h : TAt w P T R O r) (hb : Below w.heap.size w w') : TAt w' P T R O r := let ⟨q, h1, h2⟩ := h; ⟨q, h1.below hb, h2⟩
theorem TAt.lt (h : TAt w P T R O r) : P < w.heap.size := let ⟨_, h1, _⟩ := h; h1.lt
theorem QAt.above (h : QAt w P T R q) {b : Nat} (hb : R.1.map Addr.block = some b) : P < b ∧ b < w.heap.size := by
  obtain ⟨_, _, _, _, _, _, _, _, cs, h5, _⟩ := h
  have := h5.block hb
  omega
theorem QAt.head (h : QAt w P T R q) : ∃ b o ct t, T[q.at_]? = some t ∧ w.cell? ⟨P, 0, none⟩ = some (.slice (some ⟨b, o, none⟩) T.length ct) ∧ q.at_ < T.length ∧ b < P ∧ b < w.heap.size ∧ w.cell? ⟨b, o + q.at_ * 4, none⟩ = some (.int .i64 t.kind) ∧ w.cell? ⟨b, o + q.at_ * 4 + 1, none⟩ = some (.int .i64 t.at_) ∧ w.cell? ⟨b, o + q.at_ * 4 + 2, none⟩ = some (.string t.text) ∧ w.cell? ⟨b, o + q.at_ * 4 + 3, none⟩ = some (.int .i64 t.span) ∧
    w.cell? ⟨P, 1, none⟩ = some (.int .i64 q.at_) ∧ w.cell? ⟨P, 2, none⟩ = some (.slice R.1 q.out.length R.2) ∧ w.cell? ⟨P, 3, none⟩ = some (.int .i64 q.nest) ∧ w.cell? ⟨P, 4, none⟩ = some (.int .i64 q.code) ∧ w.cell? ⟨P, 5, none⟩ = some (.int .i64 q.place) ∧ T.length ≤ ct ∧ ct ≤ maxLen ∧ (∀ j, w.frozen? ⟨P, j, none⟩ = false) := by
  have hlt := h.lt
  obtain ⟨b, o, ct, h1, h2, h3, h4, h5, _⟩ := h
  have h0 : (toksC T)[q.at_]? = some (tokC T[q.at_]) := by simp [toksC, h5]
  obtain ⟨b', o', e, hb, hcell⟩ := h2.2 (by intro e; rw [e] at h0; simp at h0)
  injection e with e
  injection e with e1 e2
  subst e1 e2
  exact ⟨b, o, ct, T[q.at_], List.getElem?_eq_getElem h5, h1.cell rfl, h5, hb, by omega, by simpa using hcell q.at_ _ 0 _ h0 rfl, by simpa using hcell q.at_ _ 1 _ h0 rfl, by simpa using hcell q.at_ _ 2 _ h0 rfl, by simpa using hcell q.at_ _ 3 _ h0 rfl, h1.cell rfl, h1.cell rfl, h1.cell rfl, h1.cell rfl, h1.cell rfl, h3, h4, h1.frozen⟩
theorem rel_hd {s : PS} {t : Tok} (h : RelQ T q (.ok s)) (ht : T[q.at_]? = some t) : s.hd = t := by
  obtain ⟨_, h2, _⟩ := h
  have hlt := (List.getElem?_eq_some_iff.1 ht).1
  rw [PS.hd, h2, List.drop_eq_getElem_cons hlt]
  exact (List.getElem?_eq_some_iff.1 ht).2
/-- A store into the reader's block that keeps what it says elsewhere. -/
theorem QAt.set (h : QAt w P T R q) (j : Nat) (u : Value) (q' : RS) (hat : q'.at_ < T.length) (hout : q'.out = q.out)
    (hv : ∀ b o ct, ([.slice (some ⟨b, o, none⟩) T.length ct, .int .i64 q.at_, .slice R.1 q.out.length R.2, .int .i64 q.nest, .int .i64 q.code, .int .i64 q.place] : List Value).set j u = [.slice (some ⟨b, o, none⟩) T.length ct, .int .i64 q'.at_, .slice R.1 q'.out.length R.2, .int .i64 q'.nest, .int .i64 q'.code, .int .i64 q'.place]) :
    QAt (w.setCell ⟨P, j, none⟩ u) P T R q' := by
  obtain ⟨b, o, ct, h1, h2, h3, h4, h5, h6⟩ := h
  refine ⟨b, o, ct, ?_, ?_, h3, h4, hat, ?_⟩
  · have := h1.set j u
    rw [hv] at this
    exact this
  · exact h2.keep fun x ox hx => World.cell?_of_block (Below.heap_setCell w ⟨P, j, none⟩ u x (show x ≠ P by omega))
  · rw [hout]
    exact h6.setLow (by simp) u
end
/-- The reader behind w0, where nothing has been laid since. -/
def TQ (P : Nat) (T : List Tok) (R : Option Addr × Nat) (O : List Nod) (w0 : World) (r : Rp PS) (w : World) : Prop := TAt w P T R O r ∧ Fr P none w0 w
section
variable {P : Nat} {T : List Tok} {R : Option Addr × Nat} {O : List Nod} {w0 w w' : World} {r r' : Rp PS}
theorem TQ.start (h : TAt w P T R O r) : TQ P T R O w r w := ⟨h, Fr.refl _ _ _⟩
theorem TQ.below (h : TQ P T R O w0 r w) (hb : Below w.heap.size w w') : TQ P T R O w0 r w' := ⟨h.1.below hb, h.2.belowAll hb⟩
theorem TQ.next (h : TQ P T R O w0 r w) (k : TQ P T R O w r' w') : TQ P T R O w0 r' w' := ⟨k.1, h.2.transN k.2⟩
end
def isR (r : Rp PS) (k : Int) (t : ByteArray) : Bool := match r with
  | .ok s => s.is k t
  | .error _ => false
def failR (r : Rp PS) (e : Int) : Rp PS := match r with
  | .ok s => .error (if s.hd.kind = 0 then 180 else e, (s.hd.at_ : Int))
  | .error x => .error x
def onR (r : Rp PS) : Rp PS := match r with
  | .ok s => .ok s.on
  | .error x => .error x
def wantR (r : Rp PS) (t : ByteArray) : Rp PS := match r with
  | .ok s => s.sign t
  | .error x => .error x
section
variable {P : Nat} {T : List Tok} {R : Option Addr × Nat} {O : List Nod} {w : World} {r : Rp PS}
set_option maxRecDepth 100000 in
set_option maxHeartbeats 2000000 in
theorem ris_any (h : TAt w P T R O r) (k : Int) (t : ByteArray) : Calls Try.prog 66 #[.pointer (some ⟨P, 0, none⟩), .int .i64 k, .string t] w fun e w' => e = .returned (.bool (isR r k t)) ∧ ∃ n, w' = w.drewN n := by
  obtain ⟨q, hq, hr, ho⟩ := h
  obtain ⟨b, o, ct, tk, hT, c0, hat, hbP, hbw, t0, t1, t2, t3, c1, c2, c3, c4, c5, hct, hcm, hfz⟩ := hq.head
  unfold maxLen at hcm
  have hatI : (q.at_ : Int) < T.length := by omega
  have hat0 : (0 : Int) ≤ (q.at_ : Int) := by omega
  have HT := Lib.hid hT
  have HR := Lib.hid hr
  cases r with
  | error x =>
    have hc : (q.code == 0) = false := by rw [beq_eq_false_iff_ne, hr.1]; exact hr.2.1
    clear hr hT
    go_enter Try.func66, Try.ntmps66
    go_wp2_with fail
    go_quiet (fail)
    go_wp2_with fail
    go_ret
    exact ⟨rfl, _, rfl⟩
  | ok s =>
    have hd := rel_hd hr hT
    have hc : (q.code == 0) = true := by rw [beq_iff_eq]; exact hr.1
    subst hd
    by_cases hk : s.hd.kind = k
    · have HE : Hid (s.is k t = decide (s.hd.text = t)) := by show _ = _; simp [PS.is, hk]
      have hkb : (s.hd.kind == k) = true := by rw [beq_iff_eq]; exact hk
      clear hr hT hk
      go_enter Try.func66, Try.ntmps66
      go_wp2_with fail
      go_quiet (fail)
      go_wp2_with fail
      go_ret
      exact ⟨by rw [isR, HE.out, ← beq_toList]; rfl, _, rfl⟩
    · have HE : Hid (s.is k t = false) := by show _ = _; simp [PS.is, hk]
      have hkb : (s.hd.kind == k) = false := by rw [beq_eq_false_iff_ne]; exact hk
      clear hr hT hk
      go_enter Try.func66, Try.ntmps66
      go_wp2_with fail
      go_quiet (fail)
      go_wp2_with fail
      go_ret
      exact ⟨by rw [isR, HE.out]; rfl, _, rfl⟩
set_option maxHeartbeats 1000000 in
theorem rnext_any (h : TAt w P T R O r) (hk : ∀ s, r = .ok s → s.hd.kind ≠ 0) (hE : Ends T) : Calls Try.prog 52 #[.pointer (some ⟨P, 0, none⟩)] w fun e w' => e = .returned (.tuple #[]) ∧ TQ P T R O w (onR r) w' := by
  have h0 := Lib.hid h
  obtain ⟨q, hq, hr, ho⟩ := h
  obtain ⟨b, o, ct, tk, hT, c0, hat, hbP, hbw, t0, t1, t2, t3, c1, c2, c3, c4, c5, hct, hcm, hfz⟩ := hq.head
  unfold maxLen at hcm
  cases r with
  | error x =>
    have hc : (q.code == 0) = false := by rw [beq_eq_false_iff_ne, hr.1]; exact hr.2.1
    clear hr hT hq
    go_enter Try.func52, Try.ntmps52
    go_wp2_with fail
    go_end0
    exact ⟨rfl, TQ.start h0.out⟩
  | ok s =>
    have hd := rel_hd hr hT
    have hk := hk s rfl
    rw [hd] at hk
    have hat2 : q.at_ + 1 < T.length := by
      obtain ⟨e, he, hek⟩ := hE
      rcases Nat.lt_or_ge (q.at_ + 1) T.length with h | h
      · exact h
      · exfalso
        rw [List.getLast?_eq_getElem?, show T.length - 1 = q.at_ from by omega, hT] at he
        injection he with he
        rw [he] at hk
        exact hk hek
    have hc : (q.code == 0) = true := by rw [beq_iff_eq]; exact hr.1
    have hw : IntKind.i64.wrap ((q.at_ : Int) + 1) = ((q.at_ + 1 : Nat) : Int) := by rw [IntKind.wrap_i64] <;> omega
    have HQ := Lib.hid hq
    have HR := Lib.hid hr
    have HA := Lib.hid hat2
    clear hr hT hq hk hd
    go_enter Try.func52, Try.ntmps52
    go_wp2_with fail
    go_end0
    refine ⟨rfl, ⟨⟨q.at_ + 1, q.out, q.nest, q.code, q.place⟩, HQ.out.set 1 (.int .i64 ((q.at_ + 1 : Nat) : Int)) ⟨q.at_ + 1, q.out, q.nest, q.code, q.place⟩ HA.out rfl (fun _ _ _ => rfl), ?_, ho⟩, (Fr.refl P none w).setP 1 _⟩
    obtain ⟨r1, r2, r3, r4⟩ := HR.out
    refine ⟨r1, ?_, r3, r4⟩
    show s.toks.tail = _
    rw [r2, List.tail_drop]
set_option maxRecDepth 100000 in
set_option maxHeartbeats 2000000 in
theorem rfail_any (h : TAt w P T R O r) (e : Int) (he : e ≠ 0) : Calls Try.prog 24 #[.pointer (some ⟨P, 0, none⟩), .int .i64 e] w fun v w' => v = .returned (.tuple #[]) ∧ TQ P T R O w (failR r e) w' := by
  have h0 := Lib.hid h
  obtain ⟨q, hq, hr, ho⟩ := h
  obtain ⟨b, o, ct, tk, hT, c0, hat, hbP, hbw, t0, t1, t2, t3, c1, c2, c3, c4, c5, hct, hcm, hfz⟩ := hq.head
  unfold maxLen at hcm
  have hatI : (q.at_ : Int) < T.length := by omega
  have hat0 : (0 : Int) ≤ (q.at_ : Int) := by omega
  have hPb : P ≠ b := by omega
  cases r with
  | error x =>
    have hc : (q.code != 0) = true := by rw [bne_iff_ne, hr.1]; exact hr.2.1
    clear hr hT hq
    go_enter Try.func24, Try.ntmps24
    go_wp2_with fail
    first | go_end0 | refine bodyPost_ret (results_none rfl _ _ _) rfl ?_
    exact ⟨rfl, TQ.start h0.out⟩
  | ok s =>
    have hd := rel_hd hr hT
    subst hd
    have hc : (q.code != 0) = false := by rw [hr.1]; rfl
    have HQ := Lib.hid hq
    have hz : Below w.heap.size w w := Below.refl _ _
    by_cases hk : s.hd.kind = 0
    · have hkb : (s.hd.kind == 0) = true := by rw [beq_iff_eq]; exact hk
      have HF : Hid (failR (.ok s) e = .error (180, (s.hd.at_ : Int))) := by show _ = _; rw [failR, if_pos hk]
      clear hr hT hq hk
      go_enter Try.func24, Try.ntmps24
      go_wp2_with fail
      go_region
      go_wp2_with fail
      go_region
      go_wp2_with fail
      first | go_end0 | refine bodyPost_ret (results_none rfl _ _ _) rfl ?_
      rw [HF.out]
      have k1 := HQ.out.set 4 (.int .i64 e) ⟨q.at_, q.out, q.nest, e, q.place⟩ hat rfl (fun _ _ _ => rfl)
      have k2 := k1.set 5 (.int .i64 (s.hd.at_ : Int)) ⟨q.at_, q.out, q.nest, e, (s.hd.at_ : Int)⟩ hat rfl (fun _ _ _ => rfl)
      have k3 := ((k2.below ((Below.refl _ _).drew)).below ((Below.refl _ _).drew)).set 4 (.int .i64 180) ⟨q.at_, q.out, q.nest, 180, (s.hd.at_ : Int)⟩ hat rfl (fun _ _ _ => rfl)
      have f3 := ((((Fr.refl P none w).setP 4 (.int .i64 e)).setP 5 (.int .i64 (s.hd.at_ : Int))).belowAll (((Below.refl _ _).drew).drew)).setP 4 (.int .i64 180)
      exact ⟨rfl, ⟨_, k3, ⟨rfl, by show (180 : Int) ≠ 0; decide, rfl⟩, ho⟩, f3⟩
    · have hkb : (s.hd.kind == 0) = false := by rw [beq_eq_false_iff_ne]; exact hk
      have HF : Hid (failR (.ok s) e = .error (e, (s.hd.at_ : Int))) := by show _ = _; rw [failR, if_neg hk]
      clear hr hT hq hk
      go_enter Try.func24, Try.ntmps24
      go_wp2_with fail
      go_region
      go_wp2_with fail
      go_region
      go_wp2_with fail
      first | go_end0 | refine bodyPost_ret (results_none rfl _ _ _) rfl ?_
      rw [HF.out]
      have k1 := HQ.out.set 4 (.int .i64 e) ⟨q.at_, q.out, q.nest, e, q.place⟩ hat rfl (fun _ _ _ => rfl)
      have k2 := k1.set 5 (.int .i64 (s.hd.at_ : Int)) ⟨q.at_, q.out, q.nest, e, (s.hd.at_ : Int)⟩ hat rfl (fun _ _ _ => rfl)
      have k3 := (k2.below ((Below.refl _ _).drew)).below ((Below.refl _ _).drew)
      have f3 := (((Fr.refl P none w).setP 4 (.int .i64 e)).setP 5 (.int .i64 (s.hd.at_ : Int))).belowAll (((Below.refl _ _).drew).drew)
      exact ⟨rfl, ⟨_, k3, ⟨rfl, he, rfl⟩, ho⟩, f3⟩
/-- A test in the reader's state. -/
theorem ris_q {w0 : World} (h : TQ P T R O w0 r w) (k : Int) (t : ByteArray) : Calls Try.prog 66 #[.pointer (some ⟨P, 0, none⟩), .int .i64 k, .string t] w fun e w' => e = .returned (.bool (isR r k t)) ∧ TQ P T R O w0 r w' := (ris_any h.1 k t).mono fun _ w' ⟨h1, n, h2⟩ => ⟨h1, by subst h2; exact h.below (below_drewN (Below.refl _ _) n)⟩
theorem rnext_q {w0 : World} (h : TQ P T R O w0 r w) (hk : ∀ s, r = .ok s → s.hd.kind ≠ 0) (hE : Ends T) : Calls Try.prog 52 #[.pointer (some ⟨P, 0, none⟩)] w fun e w' => e = .returned (.tuple #[]) ∧ TQ P T R O w0 (onR r) w' := (rnext_any h.1 hk hE).mono fun _ _ ⟨h1, h2⟩ => ⟨h1, h.next h2⟩
theorem rfail_q {w0 : World} (h : TQ P T R O w0 r w) (e : Int) (he : e ≠ 0) : Calls Try.prog 24 #[.pointer (some ⟨P, 0, none⟩), .int .i64 e] w fun v w' => v = .returned (.tuple #[]) ∧ TQ P T R O w0 (failR r e) w' := (rfail_any h.1 e he).mono fun _ _ ⟨h1, h2⟩ => ⟨h1, h.next h2⟩
set_option maxHeartbeats 1000000 in
theorem rsign_q {w0 : World} (h : TQ P T R O w0 r w) (t : ByteArray) : Calls Try.prog 63 #[.pointer (some ⟨P, 0, none⟩), .string t] w fun e w' => e = .returned (.bool (isR r 5 t)) ∧ TQ P T R O w0 r w' := by
  have H := Lib.hid (ris_q h 5 t)
  clear h
  go_enter Try.func63, Try.ntmps63
  go_wp2_with fail
  refine (H.out).mono ?_
  rintro e w1 ⟨rfl, h1⟩
  go_wp2_with fail
  go_ret
  exact ⟨rfl, h1⟩
set_option maxHeartbeats 1000000 in
theorem rword_q {w0 : World} (h : TQ P T R O w0 r w) (t : ByteArray) : Calls Try.prog 53 #[.pointer (some ⟨P, 0, none⟩), .string t] w fun e w' => e = .returned (.bool (isR r 3 t)) ∧ TQ P T R O w0 r w' := by
  have H := Lib.hid (ris_q h 3 t)
  clear h
  go_enter Try.func53, Try.ntmps53
  go_wp2_with fail
  refine (H.out).mono ?_
  rintro e w1 ⟨rfl, h1⟩
  go_wp2_with fail
  go_ret
  exact ⟨rfl, h1⟩
theorem want_eq (r : Rp PS) (t : ByteArray) : wantR r t = if isR r 5 t = true then onR r else failR r 181 := by
  cases r with
  | ok s =>
    unfold wantR isR onR failR PS.sign PS.stuck
    rfl
  | error x => rfl
theorem isR_kind {r : Rp PS} {k : Int} {t : ByteArray} (h : isR r k t = true) (hk : k ≠ 0) : ∀ s, r = .ok s → s.hd.kind ≠ 0 := by
  rintro s rfl
  have := is_kind (s := s) h
  omega
theorem failR_err (r : Rp PS) (e : Int) : ∀ s, failR r e ≠ .ok s := by
  intro s h
  cases r <;> simp [failR] at h
theorem onR_fail (r : Rp PS) (e : Int) : onR (failR r e) = failR r e := by cases r <;> rfl
set_option maxHeartbeats 1000000 in
theorem rwant_q {w0 : World} (h : TQ P T R O w0 r w) (t : ByteArray) (hE : Ends T) : Calls Try.prog 78 #[.pointer (some ⟨P, 0, none⟩), .string t] w fun e w' => e = .returned (.tuple #[]) ∧ TQ P T R O w0 (wantR r t) w' := by
  have H := Lib.hid (rsign_q h t)
  have HT := Lib.hid (want_eq r t)
  clear h
  cases hi : isR r 5 t with
  | true =>
    rw [hi] at H
    rw [hi, if_pos rfl] at HT
    have hk := Lib.hid (isR_kind hi (by decide))
    have HN := fun (W : World) (h : TQ P T R O w0 r W) => Lib.hid (rnext_q h hk.out hE)
    clear hi
    go_enter Try.func78, Try.ntmps78
    go_wp2_with fail
    refine (H.out).mono ?_
    rintro e w1 ⟨rfl, h1⟩
    go_wp2_with fail
    refine ((HN _ h1).out).mono ?_
    rintro e w2 ⟨rfl, h2⟩
    go_wp2_with fail
    first | go_end0 | refine bodyPost_ret (results_none rfl _ _ _) rfl ?_
    rw [HT.out]
    exact ⟨rfl, h2⟩
  | false =>
    rw [hi] at H
    rw [hi, if_neg (by decide)] at HT
    have HF := fun (W : World) (h : TQ P T R O w0 r W) => Lib.hid (rfail_q h 181 (by decide))
    have HN := fun (W : World) (h : TQ P T R O w0 (failR r 181) W) => Lib.hid (rnext_q h (fun s h => absurd h (failR_err r 181 s)) hE)
    clear hi
    go_enter Try.func78, Try.ntmps78
    go_wp2_with fail
    refine (H.out).mono ?_
    rintro e w1 ⟨rfl, h1⟩
    go_wp2_with fail
    refine ((HF _ h1).out).mono ?_
    rintro e w2 ⟨rfl, h2⟩
    go_wp2_with fail
    refine ((HN _ h2).out).mono ?_
    rintro e w3 ⟨rfl, h3⟩
    go_wp2_with fail
    first | go_end0 | refine bodyPost_ret (results_none rfl _ _ _) rfl ?_
    rw [HT.out]
    rw [onR_fail] at h3
    exact ⟨rfl, h3⟩
end
end Go.Proofs.Ytdikmklijpcjdaa
