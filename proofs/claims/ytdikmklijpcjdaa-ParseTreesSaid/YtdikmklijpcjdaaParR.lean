/- How a query is read: matchers in braces. -/
import Derived.Test.YtdikmklijpcjdaaParQ
namespace Go.Proofs.Ytdikmklijpcjdaa
open Go.RowKit
attribute [local go_sem ↓] Go.wp_at_zero Go.wp_at_succ tok_f0 tok_f2 tok_f3

def ResM (P : Nat) (R : Option Addr × Nat) (w0 : World) (N : Nat) (x : Nod) : Rp (PS × List Mat) → Ending → World → Prop
  | .ok (s', ms), e, w' => e = .returned (.tuple #[]) ∧ StQ P R w0 s' w' ∧ MatN w' w0.heap.size N { x with mat := ms }
  | .error y, e, w' => e = .panicked (stopV y) ∧ Fr P none w0 w'
/-- Matchers that are being read. -/
def MtAt (P : Nat) (R : Option Addr × Nat) (s0 : PS) (w0 : World) (N : Nat) (x : Nod) (r : Rp (PS × List Mat)) (M : Nat) (first : Bool) (w : World) : Prop :=
  ∃ s ms m, StQ P R w0 s w ∧ MatN w w0.heap.size N { x with mat := ms } ∧ PGood M s ∧ s.toks.length ≤ m ∧ s.out = s0.out ∧ ms.length ≤ 8 ∧ (∀ y ∈ ms, y.name.size ≤ maxLen) ∧ matchersF m first s ms = r
theorem addM_len {ms l : List Mat} {m : Mat} {a : Int} (h : addM ms m a = .ok l) : l.length ≤ 8 := by
  obtain ⟨rfl, h2⟩ := addM_ok h
  unfold matCode at h2
  split at h2
  · cases h2
  · omega
set_option maxRecDepth 100000 in
set_option maxHeartbeats 8000000 in
theorem pmatchers_any {P M N : Nat} {R : Option Addr × Nat} {w0 w : World} {s s0 : PS} (hM : M ≤ 1000000) (hg : PGood M s) (h : StQ P R w0 s w) (h0 : PAt w0 P R s0) (hout : s.out = s0.out) (hN : w0.heap.size ≤ N) (x : Nod) (hx : x.mat.length ≤ 8) (hxn : x.names = []) (hms : ∀ y ∈ x.mat, y.name.size ≤ maxLen) (hm : MatN w w0.heap.size N x) :
    Calls Try.prog 103 #[.pointer (some ⟨P, 0, none⟩), .pointer (some ⟨N, 0, none⟩)] w (ResM P R w0 N x (s.matchers x.mat)) := by
  have H0 := Lib.hid h0
  have hP0 := h0.lt
  have HI : Hid (MtAt P R s0 w0 N x (s.matchers x.mat) M true w) := ⟨s, x.mat, s.toks.length, h, hm, hg, Nat.le_refl _, hout, hx, hms, rfl⟩
  generalize s.matchers x.mat = r at HI ⊢
  clear h0 h hg hout hms hm
  go_enter Try.func103, Try.ntmps103
  go_wp2_with fail
  go_loopw [4] (fun v wr => ∃ first : Bool, v = .bool first ∧ Hid (MtAt P R s0 w0 N x r M first wr)) (fun _ wr => lenAt P wr)
  case atStart => exact ⟨true, rfl, HI⟩
  case round =>
    clear HI
    obtain ⟨first, rfl, hrel⟩ := hrel
    obtain ⟨s2, ms, m, h2, hO, hg2, hm, ho2, hl8, hmz, hr⟩ := hrel.out
    have hpos := hg2.pos
    obtain ⟨m, rfl⟩ : ∃ m', m = m' + 1 := ⟨m - 1, by omega⟩
    have HLen := Lib.hid h2.1.lenAt
    have HIs := Lib.hid (is_st hg2 (StQ.start h2.1) 5 sUncurl)
    have HH := Lib.hid h2
    have HO := Lib.hid hO
    have HR := Lib.hid hr
    have Ho2 := Lib.hid ho2
    have HMZ := Lib.hid hmz
    clear hO hr ho2 hmz hrel
    cases hi : s2.is 5 sUncurl with
    | true =>
      have HT : Hid (r = .ok (s2.on, ms)) := by show _ = _; rw [← HR.out, matchersF, if_pos hi]
      have hk : s2.hd.kind ≠ 0 := by rw [is_kind hi]; decide
      rw [hi] at HIs
      clear hi h2
      go_wp2_with fail
      refine (HIs.out).mono ?_
      rintro e w3 ⟨rfl, k3⟩
      have HO3 := Lib.hid (HO.out.fr HH.out.1 k3.2 (by omega))
      have H3 := Lib.hid (HH.out.next k3)
      have HOn := Lib.hid (on_st hg2 (StQ.start k3.1) hk)
      clear k3
      go_wp2_with fail
      refine (HOn.out).mono ?_
      rintro e w4 ⟨rfl, k4⟩
      have hO4 := HO3.out.fr H3.out.1 k4.2 (by omega)
      have h4 := H3.out.next k4
      go_wp2_with fail
      first | go_end0 | refine bodyPost_ret (results_none rfl _ _ _) rfl ?_
      rw [HT.out]
      exact ⟨rfl, h4, hO4⟩
    | false =>
      rw [hi] at HIs
      have HI := Lib.hid hi
      clear hi h2
      go_wp2_with fail
      refine (HIs.out).mono ?_
      rintro e w3 ⟨rfl, k3⟩
      have HO3 := Lib.hid (HO.out.fr HH.out.1 k3.2 (by omega))
      have H3 := Lib.hid (HH.out.next k3)
      clear k3 HIs HO HH
      cases first with
      | true =>
        have HC : Hid ((match s2.name with
            | .error e => .error e
            | .ok (s2, nm) => if s2.hd.kind ≠ 5 ∨ numW matsL s2.hd.text = 0 then .error s2.stuck
              else if s2.on.hd.kind ≠ 4 then .error s2.on.stuck
              else match addM ms ⟨numW matsL s2.hd.text, nm, s2.on.hd.text⟩ s2.on.hd.at_ with
                | .error e => .error e
                | .ok ms2 => matchersF m false s2.on.on ms2) = r) := by
          show _ = _
          rw [← HR.out, matchersF, if_neg (by rw [HI.out]; decide)]
          rfl
        clear HR HI
        go_wp2_with fail
        refine (pname_any hg2 (StQ.start H3.out.1)).mono ?_
        intro e w6 hres
        cases hnm : s2.name with
        | error z =>
          have HT : Hid (r = .error z) := by show _ = _; rw [← HC.out, hnm]
          rw [hnm] at hres
          obtain ⟨rfl, hf⟩ := hres
          have hf2 := H3.out.2.transN hf
          clear hnm
          go_wp2_with fail
          refine ⟨rfl, ?_⟩
          rw [HT.out]
          exact ⟨rfl, hf2⟩
        | ok q =>
          obtain ⟨s6, nm⟩ := q
          have HR6 : Hid ((if s6.hd.kind ≠ 5 ∨ numW matsL s6.hd.text = 0 then .error s6.stuck
                  else if s6.on.hd.kind ≠ 4 then .error s6.on.stuck
                  else match addM ms ⟨numW matsL s6.hd.text, nm, s6.on.hd.text⟩ s6.on.hd.at_ with
                    | .error e => .error e
                    | .ok ms2 => matchersF m false s6.on.on ms2) = r) := by show _ = _; rw [← HC.out, hnm]
          rw [hnm] at hres
          obtain ⟨rfl, k6⟩ := hres
          have hstp := name_step hnm
          have hst := hstp.2.2.2.2
          have hg6 := (hst.good M hg2).more (M' := M) (by omega)
          have hl6 := hst.len M hg2
          have ho6 := hst.out.trans Ho2.out
          have hnmz : nm.size ≤ maxLen := by rw [hstp.2.1]; have := (hg2).hd_text; simp only [maxLen]; omega
          have HM6 := Lib.hid (HO3.out.fr H3.out.1 k6.2 (by omega))
          have H6 := Lib.hid (H3.out.next k6)
          have hP6 := H6.out.1.lt
          have hz6 := H6.out.2.size
          clear hnm hst hstp k6 HC
          go_wp2_with fail
          generalize hW : World.alloc _ _ = W7
          have bM7 : Blk W7 w6.heap.size 45 [.int .i64 0, .string nm, .string ByteArray.empty] := by rw [← hW]; exact (Blk.new w6 _ [.int .i64 0, .string nm, .string ByteArray.empty]).alloc _
          have hL7 : Rd W7 (w6.heap.size + 2) 1 (some ⟨w6.heap.size + 1, 0, none⟩) (textsC matsL) := by
            rw [← hW]
            have := Rd.new (e := 9) (w6.alloc (.cells #[.int .i64 0, .string nm, .string ByteArray.empty] 45)) (textsC_sz matsL) #[.string ByteArray.empty, .string ⟨#[61]⟩, .string ⟨#[33, 61]⟩, .string ⟨#[61, 126]⟩, .string ⟨#[33, 126]⟩] rfl
            rw [World.size_alloc] at this
            exact this
          have hb7 : Below w6.heap.size w6 W7 := by rw [← hW]; exact ((Below.refl _ _).alloc (Nat.le_refl _) _).alloc (by simp) _
          have hL7l : w6.heap.size + 2 ≤ W7.heap.size := by rw [← hW]; simp
          clear hW
          have K7 := Lib.hid ((StQ.start H6.out.1).below hb7)
          have hP7 := bM7.lt
          clear hb7
          refine (now_any P R s6 M W7 hg6 K7.out.1).mono ?_
          rintro e w8 ⟨rfl, hb8⟩
          have K8 := Lib.hid (K7.out.below hb8)
          have bM8 := bM7.below hb8 hP7
          have HNum := Lib.hid (number_any_p matsL s6.hd.text (some ⟨w6.heap.size + 1, 0, none⟩) 5 5 (w6.heap.size + 2) w8 (hL7.below (hb8.mono hL7l)) rfl (by simp [maxLen]))
          clear hb8 hL7 bM7 K7 hL7l hP7
          have hmb0 := bM8.cell (j := 0) rfl
          have hmf := bM8.frozen
          have hlt8 := bM8.lt
          go_wp2_with fail
          refine (HNum.out).mono ?_
          rintro e w8' ⟨rfl, rfl⟩
          generalize numW matsL s6.hd.text = kk at *
          have K9 := Lib.hid (K8.out.setN (N := w6.heap.size) H6.out.1 rfl (Nat.le_refl _) 0 (.int .i64 kk))
          have bM9 := bM8.set 0 (.int .i64 kk)
          clear HNum
          go_wp2_with fail
          clear hmb0 hmf hlt8 bM8 K8
          refine (now_any P R s6 M _ hg6 K9.out.1).mono ?_
          rintro e w10 ⟨rfl, hb10⟩
          have K10 := Lib.hid (K9.out.below hb10)
          have bM10 := bM9.below hb10 bM9.lt
          have m0 := bM10.cell (j := 0) rfl
          clear hb10 bM9 K9
          by_cases hk5 : s6.hd.kind = 5
          · have hk5b : (s6.hd.kind != 5) = false := by rw [hk5]; rfl
            by_cases hz : kk = 0
            · have hzb : (kk == 0) = true := by rw [beq_iff_eq]; exact hz
              have HT : Hid (r = .error s6.stuck) := by show _ = _; rw [← HR6.out, if_pos (.inr hz)]
              have HSt := Lib.hid (stuck_st hg6 K10.out)
              clear hz hk5
              go_wp2_with fail
              refine (HSt.out).mono ?_
              rintro e w11 ⟨rfl, hf⟩
              go_wp2_with fail
              refine ⟨rfl, ?_⟩
              rw [HT.out]
              exact ⟨rfl, H6.out.2.transN hf⟩
            · have hzb : (kk == 0) = false := by rw [beq_eq_false_iff_ne]; exact hz
              have HR7 : Hid ((if s6.on.hd.kind ≠ 4 then .error s6.on.stuck
                  else match addM ms ⟨kk, nm, s6.on.hd.text⟩ s6.on.hd.at_ with
                    | .error e => .error e
                    | .ok ms2 => matchersF m false s6.on.on ms2) = r) := by show _ = _; rw [← HR6.out, if_neg (show ¬(s6.hd.kind ≠ 5 ∨ kk = 0) from fun h => h.elim (fun h => h hk5) hz)]
              have HOn := Lib.hid (on_any P R s6 M w10 hg6 K10.out.1 (by rw [hk5]; decide))
              have hg7 := hg6.on (by rw [hk5]; decide)
              have hl7 := hg6.on_len
              clear hz HR6 hk5
              go_wp2_with fail
              refine (HOn.out).mono ?_
              rintro e w11 ⟨rfl, p11, f11⟩
              have K11 := Lib.hid (K10.out.next ⟨p11, f11⟩)
              have bM11 := bM10.fr f11 (by omega)
              clear m0 bM10 K10 HOn p11 f11
              go_wp2_with fail
              refine (now_any P R s6.on M _ hg7 K11.out.1).mono ?_
              rintro e w12 ⟨rfl, hb12⟩
              have K12 := Lib.hid (K11.out.below hb12)
              have bM12 := bM11.below hb12 bM11.lt
              clear bM11 K11 hb12
              by_cases hk4 : s6.on.hd.kind = 4
              · have hk4b : (s6.on.hd.kind != 4) = false := by rw [hk4]; rfl
                have HR8 : Hid ((match addM ms ⟨kk, nm, s6.on.hd.text⟩ s6.on.hd.at_ with
                    | .error e => .error e
                    | .ok ms2 => matchersF m false s6.on.on ms2) = r) := by show _ = _; rw [← HR7.out, if_neg (fun h => h hk4)]
                have HOn := Lib.hid (on_any P R s6.on M w12 hg7 K12.out.1 (by rw [hk4]; decide))
                have hg8 := hg7.on (by rw [hk4]; decide)
                have hl8 := hg7.on_len
                clear HR7 hk4
                go_wp2_with fail
                refine (HOn.out).mono ?_
                rintro e w13 ⟨rfl, p13, f13⟩
                have K13 := Lib.hid (K12.out.next ⟨p13, f13⟩)
                have bM13 := bM12.fr f13 (by omega)
                clear bM12 K12 HOn p13 f13
                have K13b := Lib.hid (K13.out.setN (N := w6.heap.size) H6.out.1 rfl (Nat.le_refl _) 2 (.string s6.on.hd.text))
                have K14 := Lib.hid (K13b.out.below ((Below.refl _ _).alloc (Nat.le_refl _) (.cells #[.int .i64 s6.on.hd.kind, .int .i64 s6.on.hd.at_, .string s6.on.hd.text, .int .i64 s6.on.hd.span] 52)))
                have hm13 := bM13.cell (j := 2) rfl
                have hmm0 := bM13.cell (j := 0) rfl
                have hmm1 := bM13.cell (j := 1) rfl
                have hmf := bM13.frozen
                have hml := bM13.lt
                have HA := Lib.hid (padd_any (H6.out.next K14.out) H0.out ho6 hN { x with mat := ms } (by show ms.length ≤ 100; omega) hxn (HM6.out.fr H6.out.1 K14.out.2 (by omega)) ⟨kk, nm, s6.on.hd.text⟩ (by
                  intro y hy
                  rcases List.mem_append.1 hy with hy | hy
                  · exact HMZ.out y hy
                  · simp at hy; subst hy; exact hnmz) s6.on.hd)
                go_wp2_with fail
                refine (HA.out).mono ?_
                intro e w15 hres
                cases ha : addM ms ⟨kk, nm, s6.on.hd.text⟩ s6.on.hd.at_ with
                | error z =>
                  have HT : Hid (r = .error z) := by show _ = _; rw [← HR8.out, ha]
                  rw [ha] at hres
                  obtain ⟨rfl, hf⟩ := hres
                  clear ha
                  go_wp2_with fail
                  refine ⟨rfl, ?_⟩
                  rw [HT.out]
                  exact ⟨rfl, hf⟩
                | ok ms2 =>
                  have hl8' := addM_len ha
                  have hms2 := addM_ok ha
                  have HR9 := HR8.out
                  rw [ha] at HR9
                  rw [ha] at hres
                  obtain ⟨rfl, k15, hm15⟩ := hres
                  clear ha
                  have hlen := k15.1.lenAt
                  go_wp2_with fail
                  have hL := HLen.out
                  refine ⟨⟨false, rfl, _, ms2, m, k15, hm15, hg8, by omega, ho6, hl8', ?_, HR9⟩, by omega⟩
                  intro y hy
                  rw [hms2.1] at hy
                  rcases List.mem_append.1 hy with hy | hy
                  · exact HMZ.out y hy
                  · simp at hy; subst hy; exact hnmz
              · have hk4b : (s6.on.hd.kind != 4) = true := by rw [bne_iff_ne]; exact hk4
                have HT : Hid (r = .error s6.on.stuck) := by show _ = _; rw [← HR7.out, if_pos hk4]
                have HSt := Lib.hid (stuck_st hg7 K12.out)
                clear HR7 hk4
                go_wp2_with fail
                refine (HSt.out).mono ?_
                rintro e w11 ⟨rfl, hf⟩
                go_wp2_with fail
                refine ⟨rfl, ?_⟩
                rw [HT.out]
                exact ⟨rfl, H6.out.2.transN hf⟩
          · have hk5b : (s6.hd.kind != 5) = true := by rw [bne_iff_ne]; exact hk5
            have HT : Hid (r = .error s6.stuck) := by show _ = _; rw [← HR6.out, if_pos (.inl hk5)]
            have HSt := Lib.hid (stuck_st hg6 K10.out)
            clear HR6 hk5
            go_wp2_with fail
            refine (HSt.out).mono ?_
            rintro e w11 ⟨rfl, hf⟩
            go_wp2_with fail
            refine ⟨rfl, ?_⟩
            rw [HT.out]
            exact ⟨rfl, H6.out.2.transN hf⟩
      | false =>
        have HC0 : Hid ((match s2.sign sComma with | .error e => .error e | .ok s1 => match s1.name with
            | .error e => .error e
            | .ok (s2, nm) => if s2.hd.kind ≠ 5 ∨ numW matsL s2.hd.text = 0 then .error s2.stuck
              else if s2.on.hd.kind ≠ 4 then .error s2.on.stuck
              else match addM ms ⟨numW matsL s2.hd.text, nm, s2.on.hd.text⟩ s2.on.hd.at_ with
                | .error e => .error e
                | .ok ms2 => matchersF m false s2.on.on ms2) = r) := by
          show _ = _
          rw [← HR.out, matchersF, if_neg (by rw [HI.out]; decide)]
          rfl
        have HSg := Lib.hid (psign_st hg2 (StQ.start H3.out.1) sComma)
        clear HR HI
        go_wp2_with fail
        refine (HSg.out).mono ?_
        intro e w5 hres
        cases hsg : s2.sign sComma with
        | error x =>
          have HT : Hid (r = .error x) := by show _ = _; rw [← HC0.out, hsg]
          rw [hsg] at hres
          obtain ⟨rfl, hf⟩ := hres
          have hf2 := H3.out.2.transN hf
          clear hsg
          go_wp2_with fail
          refine ⟨rfl, ?_⟩
          rw [HT.out]
          exact ⟨rfl, hf2⟩
        | ok s5 =>
          have HC : Hid ((match s5.name with
            | .error e => .error e
            | .ok (s2, nm) => if s2.hd.kind ≠ 5 ∨ numW matsL s2.hd.text = 0 then .error s2.stuck
              else if s2.on.hd.kind ≠ 4 then .error s2.on.stuck
              else match addM ms ⟨numW matsL s2.hd.text, nm, s2.on.hd.text⟩ s2.on.hd.at_ with
                | .error e => .error e
                | .ok ms2 => matchersF m false s2.on.on ms2) = r) := by show _ = _; rw [← HC0.out, hsg]
          rw [hsg] at hres
          obtain ⟨rfl, k5⟩ := hres
          have hst := (sign_step hsg).2.2
          have hg5 := (hst.good M hg2).more (M' := M) (by omega)
          have hl5 := hst.len M hg2
          have Ho5 := Lib.hid hst.out
          have HO5 := Lib.hid (HO3.out.fr H3.out.1 k5.2 (by omega))
          have H5 := Lib.hid (H3.out.next k5)
          clear hsg hst k5 HSg HC0
          go_wp2_with fail
          refine (pname_any hg5 (StQ.start H5.out.1)).mono ?_
          intro e w6 hres
          cases hnm : s5.name with
          | error z =>
            have HT : Hid (r = .error z) := by show _ = _; rw [← HC.out, hnm]
            rw [hnm] at hres
            obtain ⟨rfl, hf⟩ := hres
            have hf2 := H5.out.2.transN hf
            clear hnm
            go_wp2_with fail
            refine ⟨rfl, ?_⟩
            rw [HT.out]
            exact ⟨rfl, hf2⟩
          | ok q =>
            obtain ⟨s6, nm⟩ := q
            have HR6 : Hid ((if s6.hd.kind ≠ 5 ∨ numW matsL s6.hd.text = 0 then .error s6.stuck
                    else if s6.on.hd.kind ≠ 4 then .error s6.on.stuck
                    else match addM ms ⟨numW matsL s6.hd.text, nm, s6.on.hd.text⟩ s6.on.hd.at_ with
                      | .error e => .error e
                      | .ok ms2 => matchersF m false s6.on.on ms2) = r) := by show _ = _; rw [← HC.out, hnm]
            rw [hnm] at hres
            obtain ⟨rfl, k6⟩ := hres
            have hstp := name_step hnm
            have hst := hstp.2.2.2.2
            have hg6 := (hst.good M hg5).more (M' := M) (by omega)
            have hl6 := hst.len M hg5
            have ho6 := hst.out.trans (Ho5.out.trans Ho2.out)
            have hnmz : nm.size ≤ maxLen := by rw [hstp.2.1]; have := (hg5).hd_text; simp only [maxLen]; omega
            have HM6 := Lib.hid (HO5.out.fr H5.out.1 k6.2 (by omega))
            have H6 := Lib.hid (H5.out.next k6)
            have hP6 := H6.out.1.lt
            have hz6 := H6.out.2.size
            clear hnm hst hstp k6 HC
            go_wp2_with fail
            generalize hW : World.alloc _ _ = W7
            have bM7 : Blk W7 w6.heap.size 45 [.int .i64 0, .string nm, .string ByteArray.empty] := by rw [← hW]; exact (Blk.new w6 _ [.int .i64 0, .string nm, .string ByteArray.empty]).alloc _
            have hL7 : Rd W7 (w6.heap.size + 2) 1 (some ⟨w6.heap.size + 1, 0, none⟩) (textsC matsL) := by
              rw [← hW]
              have := Rd.new (e := 9) (w6.alloc (.cells #[.int .i64 0, .string nm, .string ByteArray.empty] 45)) (textsC_sz matsL) #[.string ByteArray.empty, .string ⟨#[61]⟩, .string ⟨#[33, 61]⟩, .string ⟨#[61, 126]⟩, .string ⟨#[33, 126]⟩] rfl
              rw [World.size_alloc] at this
              exact this
            have hb7 : Below w6.heap.size w6 W7 := by rw [← hW]; exact ((Below.refl _ _).alloc (Nat.le_refl _) _).alloc (by simp) _
            have hL7l : w6.heap.size + 2 ≤ W7.heap.size := by rw [← hW]; simp
            clear hW
            have K7 := Lib.hid ((StQ.start H6.out.1).below hb7)
            have hP7 := bM7.lt
            clear hb7
            refine (now_any P R s6 M W7 hg6 K7.out.1).mono ?_
            rintro e w8 ⟨rfl, hb8⟩
            have K8 := Lib.hid (K7.out.below hb8)
            have bM8 := bM7.below hb8 hP7
            have HNum := Lib.hid (number_any_p matsL s6.hd.text (some ⟨w6.heap.size + 1, 0, none⟩) 5 5 (w6.heap.size + 2) w8 (hL7.below (hb8.mono hL7l)) rfl (by simp [maxLen]))
            clear hb8 hL7 bM7 K7 hL7l hP7
            have hmb0 := bM8.cell (j := 0) rfl
            have hmf := bM8.frozen
            have hlt8 := bM8.lt
            go_wp2_with fail
            refine (HNum.out).mono ?_
            rintro e w8' ⟨rfl, rfl⟩
            generalize numW matsL s6.hd.text = kk at *
            have K9 := Lib.hid (K8.out.setN (N := w6.heap.size) H6.out.1 rfl (Nat.le_refl _) 0 (.int .i64 kk))
            have bM9 := bM8.set 0 (.int .i64 kk)
            clear HNum
            go_wp2_with fail
            clear hmb0 hmf hlt8 bM8 K8
            refine (now_any P R s6 M _ hg6 K9.out.1).mono ?_
            rintro e w10 ⟨rfl, hb10⟩
            have K10 := Lib.hid (K9.out.below hb10)
            have bM10 := bM9.below hb10 bM9.lt
            have m0 := bM10.cell (j := 0) rfl
            clear hb10 bM9 K9
            by_cases hk5 : s6.hd.kind = 5
            · have hk5b : (s6.hd.kind != 5) = false := by rw [hk5]; rfl
              by_cases hz : kk = 0
              · have hzb : (kk == 0) = true := by rw [beq_iff_eq]; exact hz
                have HT : Hid (r = .error s6.stuck) := by show _ = _; rw [← HR6.out, if_pos (.inr hz)]
                have HSt := Lib.hid (stuck_st hg6 K10.out)
                clear hz hk5
                go_wp2_with fail
                refine (HSt.out).mono ?_
                rintro e w11 ⟨rfl, hf⟩
                go_wp2_with fail
                refine ⟨rfl, ?_⟩
                rw [HT.out]
                exact ⟨rfl, H6.out.2.transN hf⟩
              · have hzb : (kk == 0) = false := by rw [beq_eq_false_iff_ne]; exact hz
                have HR7 : Hid ((if s6.on.hd.kind ≠ 4 then .error s6.on.stuck
                    else match addM ms ⟨kk, nm, s6.on.hd.text⟩ s6.on.hd.at_ with
                      | .error e => .error e
                      | .ok ms2 => matchersF m false s6.on.on ms2) = r) := by show _ = _; rw [← HR6.out, if_neg (show ¬(s6.hd.kind ≠ 5 ∨ kk = 0) from fun h => h.elim (fun h => h hk5) hz)]
                have HOn := Lib.hid (on_any P R s6 M w10 hg6 K10.out.1 (by rw [hk5]; decide))
                have hg7 := hg6.on (by rw [hk5]; decide)
                have hl7 := hg6.on_len
                clear hz HR6 hk5
                go_wp2_with fail
                refine (HOn.out).mono ?_
                rintro e w11 ⟨rfl, p11, f11⟩
                have K11 := Lib.hid (K10.out.next ⟨p11, f11⟩)
                have bM11 := bM10.fr f11 (by omega)
                clear m0 bM10 K10 HOn p11 f11
                go_wp2_with fail
                refine (now_any P R s6.on M _ hg7 K11.out.1).mono ?_
                rintro e w12 ⟨rfl, hb12⟩
                have K12 := Lib.hid (K11.out.below hb12)
                have bM12 := bM11.below hb12 bM11.lt
                clear bM11 K11 hb12
                by_cases hk4 : s6.on.hd.kind = 4
                · have hk4b : (s6.on.hd.kind != 4) = false := by rw [hk4]; rfl
                  have HR8 : Hid ((match addM ms ⟨kk, nm, s6.on.hd.text⟩ s6.on.hd.at_ with
                      | .error e => .error e
                      | .ok ms2 => matchersF m false s6.on.on ms2) = r) := by show _ = _; rw [← HR7.out, if_neg (fun h => h hk4)]
                  have HOn := Lib.hid (on_any P R s6.on M w12 hg7 K12.out.1 (by rw [hk4]; decide))
                  have hg8 := hg7.on (by rw [hk4]; decide)
                  have hl8 := hg7.on_len
                  clear HR7 hk4
                  go_wp2_with fail
                  refine (HOn.out).mono ?_
                  rintro e w13 ⟨rfl, p13, f13⟩
                  have K13 := Lib.hid (K12.out.next ⟨p13, f13⟩)
                  have bM13 := bM12.fr f13 (by omega)
                  clear bM12 K12 HOn p13 f13
                  have K13b := Lib.hid (K13.out.setN (N := w6.heap.size) H6.out.1 rfl (Nat.le_refl _) 2 (.string s6.on.hd.text))
                  have K14 := Lib.hid (K13b.out.below ((Below.refl _ _).alloc (Nat.le_refl _) (.cells #[.int .i64 s6.on.hd.kind, .int .i64 s6.on.hd.at_, .string s6.on.hd.text, .int .i64 s6.on.hd.span] 52)))
                  have hm13 := bM13.cell (j := 2) rfl
                  have hmm0 := bM13.cell (j := 0) rfl
                  have hmm1 := bM13.cell (j := 1) rfl
                  have hmf := bM13.frozen
                  have hml := bM13.lt
                  have HA := Lib.hid (padd_any (H6.out.next K14.out) H0.out ho6 hN { x with mat := ms } (by show ms.length ≤ 100; omega) hxn (HM6.out.fr H6.out.1 K14.out.2 (by omega)) ⟨kk, nm, s6.on.hd.text⟩ (by
                    intro y hy
                    rcases List.mem_append.1 hy with hy | hy
                    · exact HMZ.out y hy
                    · simp at hy; subst hy; exact hnmz) s6.on.hd)
                  go_wp2_with fail
                  refine (HA.out).mono ?_
                  intro e w15 hres
                  cases ha : addM ms ⟨kk, nm, s6.on.hd.text⟩ s6.on.hd.at_ with
                  | error z =>
                    have HT : Hid (r = .error z) := by show _ = _; rw [← HR8.out, ha]
                    rw [ha] at hres
                    obtain ⟨rfl, hf⟩ := hres
                    clear ha
                    go_wp2_with fail
                    refine ⟨rfl, ?_⟩
                    rw [HT.out]
                    exact ⟨rfl, hf⟩
                  | ok ms2 =>
                    have hl8' := addM_len ha
                    have hms2 := addM_ok ha
                    have HR9 := HR8.out
                    rw [ha] at HR9
                    rw [ha] at hres
                    obtain ⟨rfl, k15, hm15⟩ := hres
                    clear ha
                    have hlen := k15.1.lenAt
                    go_wp2_with fail
                    have hL := HLen.out
                    refine ⟨⟨false, rfl, _, ms2, m, k15, hm15, hg8, by omega, ho6, hl8', ?_, HR9⟩, by omega⟩
                    intro y hy
                    rw [hms2.1] at hy
                    rcases List.mem_append.1 hy with hy | hy
                    · exact HMZ.out y hy
                    · simp at hy; subst hy; exact hnmz
                · have hk4b : (s6.on.hd.kind != 4) = true := by rw [bne_iff_ne]; exact hk4
                  have HT : Hid (r = .error s6.on.stuck) := by show _ = _; rw [← HR7.out, if_pos hk4]
                  have HSt := Lib.hid (stuck_st hg7 K12.out)
                  clear HR7 hk4
                  go_wp2_with fail
                  refine (HSt.out).mono ?_
                  rintro e w11 ⟨rfl, hf⟩
                  go_wp2_with fail
                  refine ⟨rfl, ?_⟩
                  rw [HT.out]
                  exact ⟨rfl, H6.out.2.transN hf⟩
            · have hk5b : (s6.hd.kind != 5) = true := by rw [bne_iff_ne]; exact hk5
              have HT : Hid (r = .error s6.stuck) := by show _ = _; rw [← HR6.out, if_pos (.inl hk5)]
              have HSt := Lib.hid (stuck_st hg6 K10.out)
              clear HR6 hk5
              go_wp2_with fail
              refine (HSt.out).mono ?_
              rintro e w11 ⟨rfl, hf⟩
              go_wp2_with fail
              refine ⟨rfl, ?_⟩
              rw [HT.out]
              exact ⟨rfl, H6.out.2.transN hf⟩
end Go.Proofs.Ytdikmklijpcjdaa
