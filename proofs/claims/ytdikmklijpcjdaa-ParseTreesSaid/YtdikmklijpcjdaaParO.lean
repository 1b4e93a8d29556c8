/- How a query is read: names, groups, spans. -/
import Derived.Test.YtdikmklijpcjdaaParM
namespace Go.Proofs.Ytdikmklijpcjdaa
open Go.RowKit
attribute [local go_sem ↓] tok_f0 tok_f2 tok_f3

/-- How a method with a result ends. -/
def ResV {α : Type} (P : Nat) (R : Option Addr × Nat) (w0 : World) (val : α → Value) : Rp (PS × α) → Ending → World → Prop
  | .ok (s', v), e, w' => e = .returned (val v) ∧ StQ P R w0 s' w'
  | .error x, e, w' => e = .panicked (stopV x) ∧ Fr P none w0 w'
set_option maxHeartbeats 1000000 in
theorem pname_any {P M : Nat} {R : Option Addr × Nat} {w0 w : World} {s : PS} (hg : PGood M s) (h : StQ P R w0 s w) :
    Calls Try.prog 88 #[.pointer (some ⟨P, 0, none⟩)] w (ResV P R w0 Value.string s.name) := by
  have HN := fun (W : World) (h : StQ P R w0 s W) => Lib.hid (now_st hg h)
  have HK := fun (W : World) (h : StQ P R w0 s W) => Lib.hid (stuck_st hg h)
  have ht := hg.hd_text
  have HL := fun (W : World) => Lib.hid (lname_any s.hd.text W (by simp only [maxLen]; omega))
  by_cases hk : s.hd.kind = 3
  · have hkb : (s.hd.kind != 3) = false := by rw [hk]; rfl
    have HO := fun (W : World) (h : StQ P R w0 s W) => Lib.hid (on_st hg h (by rw [hk]; decide))
    cases hn : nameB s.hd.text with
    | true =>
      have HT : Hid (s.name = .ok (s.on, s.hd.text)) := by show _ = _; rw [PS.name, if_pos ⟨hk, hn⟩]
      rw [hn] at HL
      clear hk hn
      go_enter Try.func88, Try.ntmps88
      go_wp2_with fail
      refine ((HN _ h).out).mono ?_
      rintro e w1 ⟨rfl, h1⟩
      go_wp2_with fail
      refine ((HN _ h1).out).mono ?_
      rintro e w2 ⟨rfl, h2⟩
      go_wp2_with fail
      refine ((HL _).out).mono ?_
      rintro e w3 ⟨rfl, rfl⟩
      go_wp2_with fail
      refine ((HO _ h2).out).mono ?_
      rintro e w4 ⟨rfl, h4⟩
      go_wp2_with fail
      go_ret
      rw [HT.out]
      exact ⟨rfl, h4⟩
    | false =>
      have HT : Hid (s.name = .error s.stuck) := by show _ = _; rw [PS.name, if_neg (by simp [hn])]
      rw [hn] at HL
      clear hk hn
      go_enter Try.func88, Try.ntmps88
      go_wp2_with fail
      refine ((HN _ h).out).mono ?_
      rintro e w1 ⟨rfl, h1⟩
      go_wp2_with fail
      refine ((HN _ h1).out).mono ?_
      rintro e w2 ⟨rfl, h2⟩
      go_wp2_with fail
      refine ((HL _).out).mono ?_
      rintro e w3 ⟨rfl, rfl⟩
      go_wp2_with fail
      refine ((HK _ h2).out).mono ?_
      rintro e w4 ⟨rfl, h4⟩
      go_wp2_with fail
      rw [HT.out]
      exact ⟨rfl, rfl, h4⟩
  · have hkb : (s.hd.kind != 3) = true := by rw [bne_iff_ne]; exact hk
    have HT : Hid (s.name = .error s.stuck) := by show _ = _; rw [PS.name, if_neg (fun h => hk h.1)]
    clear hk
    go_enter Try.func88, Try.ntmps88
    go_wp2_with fail
    refine ((HN _ h).out).mono ?_
    rintro e w1 ⟨rfl, h1⟩
    go_wp2_with fail
    refine ((HK _ h1).out).mono ?_
    rintro e w4 ⟨rfl, h4⟩
    go_wp2_with fail
    rw [HT.out]
    exact ⟨rfl, rfl, h4⟩
set_option maxHeartbeats 1000000 in
theorem pspan_any {P M : Nat} {R : Option Addr × Nat} {w0 w : World} {s : PS} (hg : PGood M s) (h : StQ P R w0 s w) :
    Calls Try.prog 104 #[.pointer (some ⟨P, 0, none⟩)] w (ResV P R w0 (Value.int .i64) s.span) := by
  have HN := fun (W : World) (h : StQ P R w0 s W) => Lib.hid (now_st hg h)
  have HK := fun (W : World) (h : StQ P R w0 s W) => Lib.hid (stuck_st hg h)
  by_cases hk : s.hd.kind = 2
  · have hkb : (s.hd.kind != 2) = false := by rw [hk]; rfl
    have HO := fun (W : World) (h : StQ P R w0 s W) => Lib.hid (on_st hg h (by rw [hk]; decide))
    have HT : Hid (s.span = .ok (s.on, (s.hd.span : Int))) := by show _ = _; rw [PS.span, if_pos hk]
    clear hk
    go_enter Try.func104, Try.ntmps104
    go_wp2_with fail
    refine ((HN _ h).out).mono ?_
    rintro e w1 ⟨rfl, h1⟩
    go_wp2_with fail
    refine ((HO _ h1).out).mono ?_
    rintro e w4 ⟨rfl, h4⟩
    go_wp2_with fail
    go_ret
    rw [HT.out]
    exact ⟨rfl, h4⟩
  · have hkb : (s.hd.kind != 2) = true := by rw [bne_iff_ne]; exact hk
    have HT : Hid (s.span = .error s.stuck) := by show _ = _; rw [PS.span, if_neg hk]
    clear hk
    go_enter Try.func104, Try.ntmps104
    go_wp2_with fail
    refine ((HN _ h).out).mono ?_
    rintro e w1 ⟨rfl, h1⟩
    go_wp2_with fail
    refine ((HK _ h1).out).mono ?_
    rintro e w4 ⟨rfl, h4⟩
    go_wp2_with fail
    rw [HT.out]
    exact ⟨rfl, rfl, h4⟩
/-- A row of another kind stays as it is. -/
theorem Own.fr {w w' : World} {P : Nat} {X : Option Addr} {R : Option Addr × Nat} {s : PS} {base sz n c : Nat} {e : TypeId} {xs : List (List Value)} (h : Own w base e sz X n c xs) (hP : PAt w P R s) (hf : Fr P none w w') (h1 : e ≠ 56) : Own w' base e sz X n c xs := by
  obtain ⟨b, o, ct, cs, bP, _⟩ := hP.parts
  exact h.same fun b hb => hf.block b (h.block hb).2 (fun e => own_ne_blk h bP h1 (by rw [← e]; exact hb.symm)) (by simp)
def lenAt (P : Nat) (w : World) : Nat := match w.cell? ⟨P, 0, none⟩ with
  | some (.slice _ n _) => n
  | _ => 0
theorem PAt.lenAt {w : World} {P : Nat} {R : Option Addr × Nat} {s : PS} (h : PAt w P R s) : lenAt P w = s.toks.length := by
  obtain ⟨b, o, ct, h1, _⟩ := h
  have := h1.cell (j := 0) rfl
  simp [Go.Proofs.Ytdikmklijpcjdaa.lenAt, this]
/-- A row of the call's own grows. -/
theorem StQ.grownX {P : Nat} {R : Option Addr × Nat} {X : Option Addr} {w0 w w' : World} {s s0 : PS} {sz n c : Nat} {e : TypeId} {xs : List (List Value)} (h : StQ P R w0 s w) (h0 : PAt w0 P R s0) (hout : s.out = s0.out) (hO : Own w w0.heap.size e sz X n c xs) (hg : w.grownBy w' (X.map Addr.block)) (h1 : e ≠ 56) : StQ P R w0 s w' := by
  obtain ⟨b, o, ct, cs, bP, _⟩ := h.1.parts
  have hne := own_ne_blk hO bP h1
  have hf : Fr P none w0 w' := ⟨hg.os.trans h.2.os, hg.tape.trans h.2.tape, hg.output.trans h.2.output, Nat.le_trans h.2.size hg.size, fun b hlt h1 h2 =>
    (hg.block b (Nat.lt_of_lt_of_le hlt h.2.size) (fun e => by have := (hO.block e.symm).1; omega)).trans (h.2.block b hlt h1 h2)⟩
  exact ⟨h0.re h.1 hout h.2 hf (hg.block P h.1.lt hne), hf⟩
/-- Names that are being read. -/
def NmAt (P : Nat) (R : Option Addr × Nat) (s0 : PS) (w0 : World) (r : Rp (PS × List ByteArray)) (M L : Nat) (v : Value) (w : World) : Prop :=
  ∃ s acc X c m, v = .slice X acc.length c ∧ StQ P R w0 s w ∧ Own w w0.heap.size 9 1 X acc.length c (textsC acc) ∧ PGood M s ∧ s.toks.length ≤ m ∧ acc.length + s.toks.length ≤ L ∧ s.deep = s0.deep ∧ s.out = s0.out ∧ namesF m s acc = r
def ResN (P : Nat) (R : Option Addr × Nat) (w0 : World) : Rp (PS × List ByteArray) → Ending → World → Prop
  | .ok (s', l), e, w' => ∃ X c, e = .returned (.slice X l.length c) ∧ Own w' w0.heap.size 9 1 X l.length c (textsC l) ∧ StQ P R w0 s' w'
  | .error x, e, w' => e = .panicked (stopV x) ∧ Fr P none w0 w'
theorem NmAt.start {P M L : Nat} {R : Option Addr × Nat} {w0 w : World} {s s0 : PS} (h : StQ P R w0 s w) (hg : PGood M s) (hL : s.toks.length ≤ L) (hd : s.deep = s0.deep) (ho : s.out = s0.out) : NmAt P R s0 w0 (namesF s.toks.length s []) M L (.slice none 0 0) w :=
  ⟨s, [], none, 0, s.toks.length, rfl, h, Own.nil_ (by omega), hg, Nat.le_refl _, by simpa using hL, hd, ho, rfl⟩
set_option maxRecDepth 100000 in
set_option maxHeartbeats 4000000 in
theorem pnames_any {P M : Nat} {R : Option Addr × Nat} {w : World} {s : PS} (hM : M ≤ 1000000) (hg : PGood M s) (h : PAt w P R s) :
    Calls Try.prog 80 #[.pointer (some ⟨P, 0, none⟩)] w (ResN P R w s.names) := by
  have HS := Lib.hid (psign_st hg (StQ.start h) sO)
  have H0 := Lib.hid h
  have hPl := h.lt
  go_enter Try.func80, Try.ntmps80
  go_wp2_with fail
  refine (HS.out).mono ?_
  intro e w1 hres
  cases hsg : s.sign sO with
  | error x =>
    have HT : Hid (s.names = .error x) := by show _ = _; rw [PS.names, hsg]
    rw [hsg] at hres
    obtain ⟨rfl, hf⟩ := hres
    clear hsg
    go_wp2_with fail
    rw [HT.out]
    exact ⟨rfl, rfl, hf⟩
  | ok s1 =>
    have HT : Hid (s.names = namesF s1.toks.length s1 []) := by show _ = _; rw [PS.names, hsg]
    rw [hsg] at hres
    obtain ⟨rfl, h1⟩ := hres
    have hst := (sign_step hsg).2.2
    have hg1 := (hst.good M hg).more (M' := M) (by omega)
    have hl1 := hst.len M hg
    have hroom := hg.room
    have HI := Lib.hid (NmAt.start h1 hg1 (L := 1000000) (by omega) hst.deep hst.out)
    generalize namesF s1.toks.length s1 [] = r at *
    have HTN := Lib.hid HT.out
    clear hsg hst h1 hg1 hl1 hroom HT HS h hg
    go_wp2_with fail
    go_loopw [3] (fun v wr => Hid (NmAt P R s w r M 1000000 v wr)) (fun _ wr => lenAt P wr)
    case atStart => exact HI
    case round =>
      clear HI
      obtain ⟨s2, acc, X, c, m, rfl, h2, hO, hg2, hm, hL, hd2, ho2, hr⟩ := hrel
      have hpos := hg2.pos
      obtain ⟨m, rfl⟩ : ∃ m', m = m' + 1 := ⟨m - 1, by omega⟩
      have HLen := Lib.hid h2.1.lenAt
      have HIs := Lib.hid (is_st hg2 (StQ.start h2.1) 5 sC)
      have HH := Lib.hid h2
      have HO := Lib.hid hO
      have HR := Lib.hid hr
      have Hd2 := Lib.hid hd2
      have Ho2 := Lib.hid ho2
      clear hO hr hd2 ho2
      cases hi : s2.is 5 sC with
      | true =>
        have HT : Hid (r = .ok (s2.on, acc)) := by show _ = _; rw [← HR.out, namesF, if_pos hi]
        have hk : s2.hd.kind ≠ 0 := by rw [is_kind hi]; decide
        rw [hi] at HIs
        clear hi h2
        go_wp2_with fail
        refine (HIs.out).mono ?_
        rintro e w3 ⟨rfl, k3⟩
        have HO3 := Lib.hid (HO.out.fr HH.out.1 k3.2 (by decide))
        have H3 := Lib.hid (HH.out.next k3)
        have HOn := Lib.hid (on_st hg2 (StQ.start k3.1) hk)
        clear k3
        go_wp2_with fail
        refine (HOn.out).mono ?_
        rintro e w4 ⟨rfl, k4⟩
        have hO4 := HO3.out.fr H3.out.1 k4.2 (by decide)
        have h4 := H3.out.next k4
        go_wp2_with fail
        go_ret
        rw [HTN.out, HT.out]
        exact ⟨X, c, rfl, hO4, h4⟩
      | false =>
        rw [hi] at HIs
        have HI := Lib.hid hi
        clear hi h2
        go_wp2_with fail
        refine (HIs.out).mono ?_
        rintro e w3 ⟨rfl, k3⟩
        have HO3 := Lib.hid (HO.out.fr HH.out.1 k3.2 (by decide))
        have H3 := Lib.hid (HH.out.next k3)
        clear k3 HIs HO HH
        by_cases ha : acc = []
        · have HC : Hid ((match s2.name with | .error e => .error e | .ok (s4, x) => namesF m s4 (acc ++ [x])) = r) := by
            show _ = _
            rw [← HR.out, namesF, if_neg (by rw [HI.out]; decide)]
            subst ha
            rfl
          have hlenI : ¬ (0 : Int) < acc.length := by subst ha; simp
          clear ha HR HI
          go_wp2_with fail
          refine (pname_any hg2 (StQ.start H3.out.1)).mono ?_
          intro e w6 hres
          cases hnm : s2.name with
          | error x =>
            have HT : Hid (r = .error x) := by show _ = _; rw [← HC.out, hnm]
            rw [hnm] at hres
            obtain ⟨rfl, hf⟩ := hres
            have hf2 := H3.out.2.transN hf
            clear hnm
            go_wp2_with fail
            refine ⟨rfl, ?_⟩
            rw [HTN.out, HT.out]
            exact ⟨rfl, hf2⟩
          | ok q =>
            obtain ⟨s6, x⟩ := q
            have HR6 : Hid (namesF m s6 (acc ++ [x]) = r) := by show _ = _; rw [← HC.out, hnm]
            rw [hnm] at hres
            obtain ⟨rfl, k6⟩ := hres
            have hst := (name_step hnm).2.2.2.2
            have hg6 := (hst.good M hg2).more (M' := M) (by omega)
            have hl6 := hst.len M hg2
            have hd6 := hst.deep
            have ho6 := hst.out
            have HO6 := Lib.hid (HO3.out.fr H3.out.1 k6.2 (by decide))
            have H6 := Lib.hid (H3.out.next k6)
            have hP6 := H6.out.1.lt
            have hz6 := H6.out.2.size
            clear hnm hst k6 HC
            go_wp2_with (at_builtin; refine wpList_append_rd (ys := textsC [x]) _ rfl (.tmp 14) (.tmp 17) _ rfl eiTexts rfl (HO6.out.alloc _) rfl (Rd.new (xs := textsC [x]) w6 (textsC_sz _) _ rfl) rfl (textsC_one _) (by simp only [maxLen]; omega) (by omega) (by simp; omega) ?_; intro X7 c7 w7 ho7 hg7 hat7 hb7)
            have H7 : Hid (StQ P R w s6 w7) := by
              have hb1 : Below w6.heap.size w6 (w6.alloc (.cells #[.string x] 9)) := (Below.refl _ _).alloc (Nat.le_refl _) _
              exact (H6.out.below hb1).grownX H0.out (by rw [ho6]; exact Ho2.out) (HO6.out.alloc _) hg7 (by decide)
            go_roundw
            case rel => exact ⟨s6, acc ++ [x], X7, c7, m, by simp, H7.out, by simpa [textsC] using ho7, hg6, by omega, by simp only [List.length_append, List.length_cons, List.length_nil]; omega, by rw [hd6]; exact Hd2.out, by rw [ho6]; exact Ho2.out, HR6.out⟩
            case measure => rw [H7.out.1.lenAt, HLen.out]; omega
        · have ha0 : 0 < acc.length := List.length_pos_iff.2 ha
          have hlenI : (0 : Int) < acc.length := by omega
          have hie : acc.isEmpty = false := by cases acc with | nil => exact absurd rfl ha | cons => rfl
          have HC0 : Hid ((match s2.sign sComma with | .error e => .error e | .ok s1 => match s1.name with | .error e => .error e | .ok (s4, x) => namesF m s4 (acc ++ [x])) = r) := by
            show _ = _
            rw [← HR.out, namesF, if_neg (by rw [HI.out]; decide), PS.comma, hie, if_neg (by decide)]
            rfl
          have HSg := Lib.hid (psign_st hg2 (StQ.start H3.out.1) sComma)
          clear ha HR HI hie
          go_wp2_with fail
          refine (HSg.out).mono ?_
          intro e w5 hres
          cases hsg : s2.sign sComma with
          | error x =>
            have HT : Hid (r = .error x) := by show _ = _; rw [← HC0.out, hsg]
            rw [hsg] at hres
            obtain ⟨rfl, hf⟩ := hres
            have hf2 := H3.out.2.transN hf
            clear hsg
            go_wp2_with fail
            refine ⟨rfl, ?_⟩
            rw [HTN.out, HT.out]
            exact ⟨rfl, hf2⟩
          | ok s5 =>
            have HC : Hid ((match s5.name with | .error e => .error e | .ok (s4, x) => namesF m s4 (acc ++ [x])) = r) := by show _ = _; rw [← HC0.out, hsg]
            rw [hsg] at hres
            obtain ⟨rfl, k5⟩ := hres
            have hst := (sign_step hsg).2.2
            have hg5 := (hst.good M hg2).more (M' := M) (by omega)
            have hl5 := hst.len M hg2
            have Hd5 := Lib.hid hst.deep
            have Ho5 := Lib.hid hst.out
            have HO5 := Lib.hid (HO3.out.fr H3.out.1 k5.2 (by decide))
            have H5 := Lib.hid (H3.out.next k5)
            clear hsg hst k5 HSg HC0
            go_wp2_with fail
            refine (pname_any hg5 (StQ.start H5.out.1)).mono ?_
            intro e w6 hres
            cases hnm : s5.name with
            | error x =>
              have HT : Hid (r = .error x) := by show _ = _; rw [← HC.out, hnm]
              rw [hnm] at hres
              obtain ⟨rfl, hf⟩ := hres
              have hf2 := H5.out.2.transN hf
              clear hnm
              go_wp2_with fail
              refine ⟨rfl, ?_⟩
              rw [HTN.out, HT.out]
              exact ⟨rfl, hf2⟩
            | ok q =>
              obtain ⟨s6, x⟩ := q
              have HR6 : Hid (namesF m s6 (acc ++ [x]) = r) := by show _ = _; rw [← HC.out, hnm]
              rw [hnm] at hres
              obtain ⟨rfl, k6⟩ := hres
              have hst := (name_step hnm).2.2.2.2
              have hg6 := (hst.good M hg5).more (M' := M) (by omega)
              have hl6 := hst.len M hg5
              have hd6 := hst.deep
              have ho6 := hst.out
              have HO6 := Lib.hid (HO5.out.fr H5.out.1 k6.2 (by decide))
              have H6 := Lib.hid (H5.out.next k6)
              have hP6 := H6.out.1.lt
              have hz6 := H6.out.2.size
              clear hnm hst k6 HC
              go_wp2_with (at_builtin; refine wpList_append_rd (ys := textsC [x]) _ rfl (.tmp 14) (.tmp 17) _ rfl eiTexts rfl (HO6.out.alloc _) rfl (Rd.new (xs := textsC [x]) w6 (textsC_sz _) _ rfl) rfl (textsC_one _) (by simp only [maxLen]; omega) (by omega) (by simp; omega) ?_; intro X7 c7 w7 ho7 hg7 hat7 hb7)
              have H7 : Hid (StQ P R w s6 w7) := by
                have hb1 : Below w6.heap.size w6 (w6.alloc (.cells #[.string x] 9)) := (Below.refl _ _).alloc (Nat.le_refl _) _
                exact (H6.out.below hb1).grownX H0.out (by rw [ho6]; exact (Ho5.out.trans Ho2.out)) (HO6.out.alloc _) hg7 (by decide)
              go_roundw
              case rel => exact ⟨s6, acc ++ [x], X7, c7, m, by simp, H7.out, by simpa [textsC] using ho7, hg6, by omega, by simp only [List.length_append, List.length_cons, List.length_nil]; omega, by rw [hd6]; exact (Hd5.out.trans Hd2.out), by rw [ho6]; exact (Ho5.out.trans Ho2.out), HR6.out⟩
              case measure => rw [H7.out.1.lenAt, HLen.out]; omega
end Go.Proofs.Ytdikmklijpcjdaa
