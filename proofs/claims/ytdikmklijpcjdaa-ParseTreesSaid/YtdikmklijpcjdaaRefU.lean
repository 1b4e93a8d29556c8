/- How the document reads a query: whole. -/
import Derived.Test.YtdikmklijpcjdaaRefF
import Derived.Test.YtdikmklijpcjdaaRefR
import Derived.Test.YtdikmklijpcjdaaRefLexP
import Derived.Test.YtdikmklijpcjdaaPar2
namespace Go.Proofs.Ytdikmklijpcjdaa
open Go.RowKit
attribute [local go_sem ↓] Go.wp_at_zero Go.wp_at_succ tok_f0 tok_f2 tok_f3

section
variable {P : Nat} {T : List Tok} {R : Option Addr × Nat} {O : List Nod} {w : World}
set_option maxHeartbeats 1000000 in
theorem rone_err {x : Int × Int} (h : TAt w P T R O (.error x)) : Calls Try.prog 64 #[.pointer (some ⟨P, 0, none⟩)] w fun e w' => e = .returned (.tuple #[]) ∧ w = w' := by
  obtain ⟨q, hq, hr, _⟩ := h
  obtain ⟨b, o, ct, tk, hT, c0, hat, hbP, hbw, t0, t1, t2, t3, c1, c2, c3, c4, c5, hct, hcm, hfz⟩ := hq.head
  have hc : (q.code != 0) = true := by rw [bne_iff_ne, hr.1]; exact hr.2.1
  clear hr hT hq
  go_enter Try.func64, Try.ntmps64
  go_wp2_with fail
  first | go_end0 | refine bodyPost_ret (results_none rfl _ _ _) rfl ?_
  exact ⟨rfl, rfl⟩
set_option maxHeartbeats 1000000 in
theorem runary_err {x : Int × Int} (h : TAt w P T R O (.error x)) : Calls Try.prog 50 #[.pointer (some ⟨P, 0, none⟩)] w fun e w' => e = .returned (.tuple #[]) ∧ TSt P T R w (.error x) w' := by
  have HS := Lib.hid (rsign_q (TQ.start h) sMinus)
  have hi : isR (.error x) 5 sMinus = false := rfl
  rw [hi] at HS
  clear hi
  go_enter Try.func50, Try.ntmps50
  go_wp2_with fail
  refine (HS.out).mono ?_
  rintro e w1 ⟨rfl, h1⟩
  have HO := Lib.hid (rone_err h1.1)
  have H1 := Lib.hid h1
  clear h1
  go_wp2_with fail
  refine (HO.out).mono ?_
  rintro e w2 ⟨rfl, rfl⟩
  go_wp2_with fail
  first | go_end0 | refine bodyPost_ret (results_none rfl _ _ _) rfl ?_
  exact ⟨rfl, H1.out.st⟩
end
theorem PartQ.zero {P : Nat} {T : List Tok} (p : PS → Rp PS) : PartQ P T 0 50 #[.pointer (some ⟨P, 0, none⟩)] p := by
  intro M' R O r w hM' hg h
  cases r with
  | ok s => have := (hg s rfl).pos.1; omega
  | error x => exact runary_err h
theorem PartQ.less {P : Nat} {T : List Tok} {M M2 : Nat} {f : FuncId} {args : Array Value} {p : PS → Rp PS} (h : PartQ P T M f args p) (hM : M2 ≤ M) : PartQ P T M2 f args p :=
  fun M' R O r w hM' hg ht => h M' R O r w (Nat.le_trans hM' hM) hg ht
set_option maxHeartbeats 1000000 in
theorem rbin6_any {P : Nat} {T : List Tok} {M : Nat} {u : PS → Rp PS} (h : PartQ P T M 50 #[.pointer (some ⟨P, 0, none⟩)] u) : PartQ P T M 23 #[.pointer (some ⟨P, 0, none⟩), .int .i64 (5 + 1)] u := by
  intro M' R O r w hM' hg ht
  have HU := Lib.hid (h M' R O r w hM' hg ht)
  clear hg ht h
  show Calls _ _ #[.pointer (some ⟨P, 0, none⟩), .int .i64 6] _ _
  go_enter Try.func23, Try.ntmps23
  go_wp2_with fail
  refine (HU.out).mono ?_
  rintro e w2 ⟨rfl, h2⟩
  have H2 := Lib.hid h2
  clear h2
  go_wp2_with fail
  first | go_end0 | refine bodyPost_ret (results_none rfl _ _ _) rfl ?_
  exact ⟨rfl, H2.out⟩
theorem ror_any {P : Nat} {T : List Tok} {M : Nat} {u : PS → Rp PS} (hM6 : M ≤ 1000000) (h : PartQ P T M 50 #[.pointer (some ⟨P, 0, none⟩)] u) (hok : PartOk u) (hE : Ends T) (hTs : ∀ t ∈ T, t.text.size ≤ 1000000) (hTl : T.length ≤ 1000000) (hops : ∀ t ∈ T, OpTok t) :
    PartQ P T M 23 #[.pointer (some ⟨P, 0, none⟩), .int .i64 1] (orP u) := by
  have k1 : PartOk (termP u) := rowP_ok hok _ _
  have k2 : PartOk (sumP u) := rowP_ok k1 _ _
  have k3 : PartOk (cmpP u) := rowP_ok k2 _ _
  have k4 : PartOk (andP u) := rowP_ok k3 _ _
  have h5 := rrow_any hM6 (rbin6_any h) hok (.inl ⟨rfl, rfl, rfl⟩) hE hTs hTl hops
  have h4 := rrow_any (row := 4) (part := termP u) hM6 h5 k1 (.inr (.inl ⟨rfl, rfl, rfl⟩)) hE hTs hTl hops
  have h3 := rrow_any (row := 3) (part := sumP u) hM6 h4 k2 (.inr (.inr (.inl ⟨rfl, rfl, rfl⟩))) hE hTs hTl hops
  have h2 := rrow_any (row := 2) (part := cmpP u) (lo := 11) (hi := 13) hM6 h3 k3 (.inr (.inr (.inr (.inl ⟨rfl, rfl, rfl⟩)))) hE hTs hTl hops
  exact rrow_any (row := 1) (part := andP u) (lo := 12) (hi := 12) hM6 h2 k4 (.inr (.inr (.inr (.inr ⟨rfl, rfl, rfl⟩)))) hE hTs hTl hops
theorem runary_all {P : Nat} {T : List Tok} (hE : Ends T) (hTs : ∀ t ∈ T, t.text.size ≤ 1000000) (hTl : T.length ≤ 1000000) (hops : ∀ t ∈ T, OpTok t) : ∀ (n M : Nat), M ≤ n → M ≤ 1000000 → PartQ P T M 50 #[.pointer (some ⟨P, 0, none⟩)] (unaryP n)
  | 0, M, hM, _ => by
    obtain rfl : M = 0 := by omega
    exact PartQ.zero _
  | n + 1, M, hM, hM6 => by
    have hu := runary_all (P := P) hE hTs hTl hops n (M - 1) (by omega) (by omega)
    have hok := unaryP_ok n
    have hor := ror_any (by omega) hu hok hE hTs hTl hops
    have hin := rinner_any hor (orP_ok hok) hE
    exact runary_step hM6 (rone_any hM6 hin (orP_ok hok) hE hTs hTl) hu hE
theorem TAt.make {w : World} {A : Option Addr} {c base : Nat} {ts : List Tok} (ho : Own w base 52 4 A ts.length c (toksC ts)) (hne : ts ≠ []) :
    TAt (w.alloc (.cells #[.slice A ts.length c, .int .i64 0, .slice none 0 0, .int .i64 0, .int .i64 0, .int .i64 0] 49)) w.heap.size ts (none, 0) [] (.ok ⟨ts, 0, []⟩) := by
  have hr := ho.rd
  have hcap := ho.cap
  obtain ⟨b, o, e, hb, _⟩ := hr.2 (by intro h; apply hne; cases ts with | nil => rfl | cons => simp [toksC] at h)
  subst e
  have hpos : 0 < ts.length := by cases ts with | nil => exact absurd rfl hne | cons => simp
  refine ⟨⟨0, [], 0, 0, 0⟩, ⟨b, o, c, Blk.new w _ _, ?_, hcap.1, hcap.2, hpos, OwnNods.none_ _ _⟩, ⟨rfl, rfl, rfl, rfl⟩, rfl⟩
  exact hr.below ((Below.refl _ _).alloc (Nat.le_refl _) _)
def moreR (r : Rp PS) : Bool := match r with
  | .ok s => decide (s.hd.kind ≠ 0)
  | .error _ => false
/-- Where reading ends. -/
def endR (r : Rp PS) : Rp PS := match r with
  | .ok s => if s.hd.kind = 0 then .ok s else .error s.stuck
  | .error x => .error x
def outR (r : Rp PS) : List Nod × Int × Int := match r with
  | .ok s => (s.out, 0, 0)
  | .error x => ([], x.2, x.1)
set_option maxRecDepth 100000 in
set_option maxHeartbeats 4000000 in
theorem rparse_any (s : ByteArray) (w : World) (hs : s.size ≤ maxLen) :
    Calls Try.prog 9 #[.string s] w fun e w' => ParseOut w.heap.size (parseR s) e w' ∧ Below w.heap.size w w' := by
  have HL := Lib.hid (rlex_any s w hs)
  go_enter Try.func9, Try.ntmps9
  go_wp2_with fail
  refine (HL.out).mono ?_
  rintro e w1 ⟨hlx, hb1⟩
  have HB1 := Lib.hid hb1
  clear hb1 HL
  cases hlr : lexR s with
  | err p x =>
    have HT : Hid (parseR s = ([], (p : Int), x)) := by show _ = _; rw [parseR, hlr]
    have hx := lexR_err hlr
    have hxb : (x != 0) = true := by rw [bne_iff_ne]; exact hx
    rw [hlr] at hlx
    have hlx : e = .returned (.tuple #[.slice none 0 0, .int .i64 p, .int .i64 x]) := hlx
    subst hlx
    clear hlr hx
    go_wp2_with fail
    go_ret3
    rw [HT.out]
    exact ⟨⟨none, 0, rfl, OwnNods.none_ _ _⟩, HB1.out⟩
  | ok ts =>
    rw [hlr] at hlx
    obtain ⟨A, c, rfl, ho⟩ := hlx
    obtain ⟨hE, hlen, htok⟩ := lexR_toks hlr
    have hops := lexR_ops hlr
    have hTs : ∀ t ∈ ts, t.text.size ≤ 1000000 := fun t ht => by have := (htok t ht).2; omega
    have hg : PGood ts.length ⟨ts, 0, []⟩ := ⟨hE, by simp, Nat.zero_le _, hTs⟩
    obtain ⟨r, hr⟩ : ∃ r, orP (unaryP ts.length) ⟨ts, 0, []⟩ = r := ⟨_, rfl⟩
    have HP : Hid (parseR s = outR (endR r)) := by
      show _ = _
      rw [parseR, hlr]
      show (match orP (unaryP ts.length) ⟨ts, 0, []⟩ with
      | .error (why, at_) => ([], at_, why)
      | .ok st => if st.hd.kind = 0 then (st.out, 0, 0) else ([], st.stuck.2, st.stuck.1)) = _
      rw [hr]
      cases r with
      | error x => rfl
      | ok st =>
        dsimp only [endR]
        by_cases hk : st.hd.kind = 0
        · rw [if_pos hk, if_pos hk]; rfl
        · rw [if_neg hk, if_neg hk]; rfl
    have HR := fun (P : Nat) (W : World) (h : TAt W P ts (none, 0) [] (.ok ⟨ts, 0, []⟩)) => Lib.hid (ror_any (by omega) (runary_all hE hTs (by omega) hops ts.length ts.length (Nat.le_refl _) (by omega)) (unaryP_ok _) hE hTs (by omega) hops ts.length (none, 0) [] (.ok ⟨ts, 0, []⟩) W (Nat.le_refl _) (fun s' hs => by injection hs with hs; subst hs; exact hg) h)
    have hbr : bindR (.ok ⟨ts, 0, []⟩) (orP (unaryP ts.length)) = r := hr
    rw [hbr] at HR
    have K0 := TAt.make ho hE.ne
    have HEn := Lib.hid hE
    clear hlr hbr hr hg hTs hops htok ho
    go_wp2_with fail
    generalize hW : World.alloc _ _ = W3
    rw [hW] at K0
    have HB3 : Hid (Below w.heap.size w W3) := by rw [← hW]; exact HB1.out.alloc HB1.out.size _
    have hwP := HB1.out.size
    generalize w1.heap.size = P at *
    clear hW HB1
    have hR := HR P W3 K0
    have hPlt := K0.lt
    clear HR K0
    refine (hR.out).mono ?_
    rintro e w4 ⟨rfl, R4, O4, t4, f4, m4⟩
    have HB4 : Hid (Below w.heap.size w w4) := by
      refine HB3.out.trans ⟨f4.os, f4.tape, f4.output, f4.size, fun b hb => f4.block b (by omega) (by omega) (by simp)⟩
    have T4 := Lib.hid t4
    clear hR HB3 f4 m4 t4
    go_upto_region 6 with fail
    go_cut [42] (fun v wx => v = .bool (moreR r) ∧ Hid (TAt wx P ts R4 O4 r ∧ Below w.heap.size w wx))
    case first =>
      obtain ⟨q, hq1, hr1, _⟩ := T4.out
      obtain ⟨b, o, ct, tk, hT, c0, hat, hbP, hbw, t0, t1, t2, t3, c1, c2, c3, c4, c5, hct, hcm, hfz⟩ := hq1.head
      unfold maxLen at hcm
      have hatI : (q.at_ : Int) < ts.length := by omega
      have hat0 : (0 : Int) ≤ (q.at_ : Int) := by omega
      have hPb : P ≠ b := by omega
      cases r with
      | error z =>
        have hc : (q.code == 0) = false := by rw [beq_eq_false_iff_ne, hr1.1]; exact hr1.2.1
        clear hr1 hT hq1
        go_wp2_with fail
        go_quiet (fail)
        go_wp2_with fail
        go_meet
        exact ⟨rfl, T4.out.below (below_drewN (Below.refl _ _) _), below_drewN HB4.out _⟩
      | ok s4 =>
        have hc : (q.code == 0) = true := by rw [beq_iff_eq]; exact hr1.1
        have hd := rel_hd hr1 hT
        subst hd
        clear hr1 hT hq1
        have hk4 : (s4.hd.kind != 0) = moreR (.ok s4) := by show _ = decide _; by_cases h : s4.hd.kind = 0 <;> simp [h]
        go_wp2_with fail
        go_quiet (fail)
        go_wp2_with fail
        go_meet
        exact ⟨rfl, T4.out.below (below_drewN (Below.refl _ _) _), below_drewN HB4.out _⟩
    case rest =>
      obtain ⟨rfl, hcut⟩ := hcut
      obtain ⟨t5, b5⟩ := hcut.out
      have T5 := Lib.hid t5
      have B5 := Lib.hid b5
      clear t5 b5 hcut T4 HB4
      go_upto_if 42 with fail
      go_cut [43] (fun _ wx => Hid (TAt wx P ts R4 O4 (endR r) ∧ Below w.heap.size w wx))
      case first =>
        cases hm : moreR r with
        | false =>
          have HE : Hid (endR r = r) := by
            show _ = _
            cases r with
            | error x => rfl
            | ok s => rw [endR, if_pos (Classical.byContradiction fun h => by rw [moreR, decide_eq_true h] at hm; cases hm)]
          clear hm
          go_wp2_with fail
          go_meet
          exact ⟨by rw [HE.out]; exact T5.out, B5.out⟩
        | true =>
          have HE : Hid (endR r = failR r 181) := by
            show _ = _
            cases r with
            | error x => rfl
            | ok s => rw [endR, if_neg (of_decide_eq_true hm)]; rfl
          have HF := Lib.hid (rfail_q (TQ.start T5.out) 181 (by decide))
          clear hm
          go_wp2_with fail
          refine (HF.out).mono ?_
          rintro e w6 ⟨rfl, h6⟩
          have B6 : Hid (Below w.heap.size w w6) := B5.out.trans ⟨h6.2.os, h6.2.tape, h6.2.output, h6.2.size, fun b hb => h6.2.block b (by have := B5.out.size; omega) (by omega) (by simp)⟩
          have T6 := Lib.hid h6.1
          clear h6
          go_wp2_with fail
          go_meet
          exact ⟨by rw [HE.out]; exact T6.out, B6.out⟩
      case rest =>
        obtain ⟨t6, b6⟩ := hcut.out
        have B6 := Lib.hid b6
        clear b6 hcut T5 B5
        generalize endR r = r' at *
        obtain ⟨q, hq1, hr1, _⟩ := t6
        obtain ⟨b, o, ct, tk, hT, c0, hat, hbP, hbw, t0, t1, t2, t3, c1, c2, c3, c4, c5, hct, hcm, hfz⟩ := hq1.head
        cases r' with
        | error z =>
          have hc : (q.code != 0) = true := by rw [bne_iff_ne, hr1.1]; exact hr1.2.1
          have h1 := hr1.1
          have h2 := hr1.2.2
          rw [h1] at c4 hc
          rw [h2] at c5
          clear hr1 hT hq1 h1 h2
          go_wp2_with fail
          go_region
          go_wp2_with fail
          go_ret3
          rw [HP.out]
          exact ⟨⟨none, 0, rfl, OwnNods.none_ _ _⟩, B6.out.drew⟩
        | ok st =>
          have hc : (q.code != 0) = false := by rw [hr1.1]; rfl
          have h1 := hr1.2.2.1
          obtain ⟨_, _, _, _, _, _, _, _, hO⟩ := hq1
          rw [h1] at c2 hO
          have HO := Lib.hid hO
          clear hr1 hT hO
          go_wp2_with fail
          go_ret3
          rw [HP.out]
          exact ⟨⟨R4.1, R4.2, rfl, HO.out.lower (by omega)⟩, B6.out⟩
end Go.Proofs.Ytdikmklijpcjdaa
