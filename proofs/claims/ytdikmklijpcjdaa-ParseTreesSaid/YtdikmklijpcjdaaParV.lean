/- How a query is read: brackets. -/
import Derived.Test.YtdikmklijpcjdaaParT
namespace Go.Proofs.Ytdikmklijpcjdaa
section
/-! ## ParU -/
open Go.RowKit
attribute [local go_sem ↓] Go.wp_at_zero Go.wp_at_succ tok_f0 tok_f2 tok_f3

def PS.dip (s : PS) (d : Nat) : PS := ⟨s.toks, d, s.out⟩
theorem PAt.dip {w : World} {P : Nat} {R : Option Addr × Nat} {s : PS} (h : PAt w P R s) (d : Nat) : PAt (w.setCell ⟨P, 1, none⟩ (.int .i64 d)) P R (s.dip d) := by
  obtain ⟨b, o, ct, h1, h2, h3, h4, h5⟩ := h
  refine ⟨b, o, ct, h1.set 1 (.int .i64 d), ?_, h3, h4, h5.setLow (by simp) _⟩
  exact h2.keep fun q oq hq => by
    have hne : q ≠ P := by omega
    exact World.cell?_of_block (Below.heap_setCell w ⟨P, 1, none⟩ _ q hne)
theorem openP_down {p : PS → Rp PS} {s s1 : PS} (hd : ¬ s.deep = 64) (h : p ⟨s.toks.tail, s.deep + 1, s.out⟩ = .ok s1) : openP p s = .ok (s1.dip (s1.deep - 1)) := by
  rw [openP, if_neg hd, h]; rfl
theorem openP_err {p : PS → Rp PS} {s : PS} {x : Int × Int} (hd : ¬ s.deep = 64) (h : p ⟨s.toks.tail, s.deep + 1, s.out⟩ = .error x) : openP p s = .error x := by
  rw [openP, if_neg hd, h]
set_option maxRecDepth 100000 in
set_option maxHeartbeats 4000000 in
theorem openU_any {P M : Nat} {R : Option Addr × Nat} {w : World} {s : PS} {p : PS → Rp PS} (hg : PGood M s) (h : PAt w P R s) (hk : s.hd.kind ≠ 0) (hok : PartOk p)
    (hp : s.deep < 64 → ∀ w', PAt w' P R ⟨s.toks.tail, s.deep + 1, s.out⟩ → Fr P none w w' → Calls Try.prog 92 #[.pointer (some ⟨P, 0, none⟩)] w' (ResS P R w' (p ⟨s.toks.tail, s.deep + 1, s.out⟩))) :
    Calls Try.prog 95 #[.pointer (some ⟨P, 0, none⟩), .func (.func 92) #[.pointer (some ⟨P, 0, none⟩)] #[]] w (ResS P R w (openP p s)) := by
  have hP0 := h.lt
  have hd64 := hg.deep
  obtain ⟨_, _, _, _, _, _, _, _, _, _, d1, _, _, _, hfz⟩ := h.head hg
  have H0 := Lib.hid h
  have HP := Lib.hid hp
  by_cases hd : s.deep = 64
  · have HT : Hid (openP p s = .error (182, (s.hd.at_ : Int))) := by show _ = _; rw [openP, if_pos hd]
    have HN := Lib.hid (now_st hg (StQ.start h))
    have hdI : ((s.deep : Int) == 64) = true := by rw [beq_iff_eq]; omega
    clear hd hp h
    go_enter Try.func95, Try.ntmps95
    go_wp2_with fail
    refine (HN.out).mono ?_
    rintro e w1 ⟨rfl, k1⟩
    have HF := Lib.hid (fail_st k1 182 s.hd)
    clear k1
    go_wp2_with fail
    refine (HF.out).mono ?_
    rintro e w2 ⟨rfl, hf⟩
    go_wp2_with fail
    refine ⟨rfl, ?_⟩
    rw [HT.out]
    exact ⟨rfl, hf.weak⟩
  · have HD := Lib.hid hd
    have hlt : s.deep < 64 := by omega
    have hdI : ((s.deep : Int) == 64) = false := by rw [beq_eq_false_iff_ne]; omega
    have K1 := Lib.hid (show StQ P R w (s.dip (s.deep + 1)) (w.setCell ⟨P, 1, none⟩ (.int .i64 (s.deep + 1))) from ⟨h.dip (s.deep + 1), (Fr.refl P none w).setP 1 _⟩)
    have hg1 : PGood M (s.dip (s.deep + 1)) := ⟨hg.ends, hg.room, by show s.deep + 1 ≤ 64; omega, hg.text⟩
    have HOn := Lib.hid (on_st hg1 (StQ.start K1.out.1) hk)
    clear hd hp h
    go_enter Try.func95, Try.ntmps95
    go_wp2_with fail
    refine (HOn.out).mono ?_
    rintro e w2 ⟨rfl, k2⟩
    have K2 := Lib.hid (K1.out.next k2)
    clear k2 HOn K1
    go_wp2_with fail
    refine (HP.out hlt w2 K2.out.1 K2.out.2).mono ?_
    intro e w3 hres
    cases hpp : p ⟨s.toks.tail, s.deep + 1, s.out⟩ with
    | error z =>
      have HT := Lib.hid (openP_err HD.out hpp)
      rw [hpp] at hres
      obtain ⟨rfl, hf⟩ := hres
      have hf2 := K2.out.st.fail hf
      clear hpp
      go_wp2_with fail
      refine ⟨rfl, ?_⟩
      rw [HT.out]
      exact ⟨rfl, hf2⟩
    | ok s1 =>
      have HT := Lib.hid (openP_down HD.out hpp)
      have hdp : s1.deep = s.deep + 1 := (hok _ _ hpp).1
      have hdl : s1.deep ≤ 64 := by omega
      have hd1 : 1 ≤ s1.deep := by omega
      rw [hpp] at hres
      obtain ⟨rfl, R', hS⟩ := hres
      have hS2 := K2.out.st.next hS
      clear hpp hdp hS
      obtain ⟨b, o, ct, b1, _⟩ := hS2.1
      have e1 := b1.cell (j := 1) rfl
      have ef := b1.frozen
      have el := b1.lt
      have ew : ((s1.deep : Int) - 1) = ((s1.deep - 1 : Nat) : Int) := by omega
      have HS2 := Lib.hid hS2
      have EW := Lib.hid ew
      clear b1 hS2 ew
      go_wp2_with fail
      first | go_end0 | refine bodyPost_ret (results_none rfl _ _ _) rfl ?_
      rw [HT.out, EW.out]
      exact ⟨rfl, R', HS2.out.1.dip _, HS2.out.2.1.setP 1 _, HS2.out.2.2⟩
set_option maxRecDepth 100000 in
set_option maxHeartbeats 4000000 in
theorem openB_any {P M X : Nat} {R : Option Addr × Nat} {w : World} {s : PS} {p : PS → Rp PS} (hg : PGood M s) (h : PAt w P R s) (hk : s.hd.kind ≠ 0) (hok : PartOk p)
    (hp : s.deep < 64 → ∀ w', PAt w' P R ⟨s.toks.tail, s.deep + 1, s.out⟩ → Fr P none w w' → Calls Try.prog 100 #[.pointer (some ⟨X, 0, none⟩)] w' (ResS P R w' (p ⟨s.toks.tail, s.deep + 1, s.out⟩))) :
    Calls Try.prog 95 #[.pointer (some ⟨P, 0, none⟩), .func (.func 100) #[] #[.pointer (some ⟨X, 0, none⟩)]] w (ResS P R w (openP p s)) := by
  have hP0 := h.lt
  have hd64 := hg.deep
  obtain ⟨_, _, _, _, _, _, _, _, _, _, d1, _, _, _, hfz⟩ := h.head hg
  have H0 := Lib.hid h
  have HP := Lib.hid hp
  by_cases hd : s.deep = 64
  · have HT : Hid (openP p s = .error (182, (s.hd.at_ : Int))) := by show _ = _; rw [openP, if_pos hd]
    have HN := Lib.hid (now_st hg (StQ.start h))
    have hdI : ((s.deep : Int) == 64) = true := by rw [beq_iff_eq]; omega
    clear hd hp h
    go_enter Try.func95, Try.ntmps95
    go_wp2_with fail
    refine (HN.out).mono ?_
    rintro e w1 ⟨rfl, k1⟩
    have HF := Lib.hid (fail_st k1 182 s.hd)
    clear k1
    go_wp2_with fail
    refine (HF.out).mono ?_
    rintro e w2 ⟨rfl, hf⟩
    go_wp2_with fail
    refine ⟨rfl, ?_⟩
    rw [HT.out]
    exact ⟨rfl, hf.weak⟩
  · have HD := Lib.hid hd
    have hlt : s.deep < 64 := by omega
    have hdI : ((s.deep : Int) == 64) = false := by rw [beq_eq_false_iff_ne]; omega
    have K1 := Lib.hid (show StQ P R w (s.dip (s.deep + 1)) (w.setCell ⟨P, 1, none⟩ (.int .i64 (s.deep + 1))) from ⟨h.dip (s.deep + 1), (Fr.refl P none w).setP 1 _⟩)
    have hg1 : PGood M (s.dip (s.deep + 1)) := ⟨hg.ends, hg.room, by show s.deep + 1 ≤ 64; omega, hg.text⟩
    have HOn := Lib.hid (on_st hg1 (StQ.start K1.out.1) hk)
    clear hd hp h
    go_enter Try.func95, Try.ntmps95
    go_wp2_with fail
    refine (HOn.out).mono ?_
    rintro e w2 ⟨rfl, k2⟩
    have K2 := Lib.hid (K1.out.next k2)
    clear k2 HOn K1
    go_wp2_with fail
    refine (HP.out hlt w2 K2.out.1 K2.out.2).mono ?_
    intro e w3 hres
    cases hpp : p ⟨s.toks.tail, s.deep + 1, s.out⟩ with
    | error z =>
      have HT := Lib.hid (openP_err HD.out hpp)
      rw [hpp] at hres
      obtain ⟨rfl, hf⟩ := hres
      have hf2 := K2.out.st.fail hf
      clear hpp
      go_wp2_with fail
      refine ⟨rfl, ?_⟩
      rw [HT.out]
      exact ⟨rfl, hf2⟩
    | ok s1 =>
      have HT := Lib.hid (openP_down HD.out hpp)
      have hdp : s1.deep = s.deep + 1 := (hok _ _ hpp).1
      have hdl : s1.deep ≤ 64 := by omega
      have hd1 : 1 ≤ s1.deep := by omega
      rw [hpp] at hres
      obtain ⟨rfl, R', hS⟩ := hres
      have hS2 := K2.out.st.next hS
      clear hpp hdp hS
      obtain ⟨b, o, ct, b1, _⟩ := hS2.1
      have e1 := b1.cell (j := 1) rfl
      have ef := b1.frozen
      have el := b1.lt
      have ew : ((s1.deep : Int) - 1) = ((s1.deep - 1 : Nat) : Int) := by omega
      have HS2 := Lib.hid hS2
      have EW := Lib.hid ew
      clear b1 hS2 ew
      go_wp2_with fail
      first | go_end0 | refine bodyPost_ret (results_none rfl _ _ _) rfl ?_
      rw [HT.out, EW.out]
      exact ⟨rfl, R', HS2.out.1.dip _, HS2.out.2.1.setP 1 _, HS2.out.2.2⟩
end
section
/-! ## ParV -/
open Go.RowKit
attribute [local go_sem ↓] Go.wp_at_zero Go.wp_at_succ tok_f0 tok_f2 tok_f3

theorem PAt.notP {w : World} {P X : Nat} {R : Option Addr × Nat} {s : PS} {e : TypeId} {cs : List Value} (h : PAt w P R s) (b : Blk w X e cs) (he : e ≠ 37) : some X ≠ R.1.map Addr.block := by
  obtain ⟨_, _, _, _, _, _, _, cs', h5, _⟩ := h
  exact own_ne_blk h5 b (Ne.symm he)
theorem Blk.frA {w w' : World} {P N : Nat} {A : Option Addr} {e : TypeId} {cs : List Value} (h : Blk w N e cs) (hf : Fr P A w w') (hne : N ≠ P) (hA : some N ≠ A.map Addr.block) : Blk w' N e cs := h.keep (hf.block N h.lt hne (Ne.symm hA))
set_option maxRecDepth 100000 in
set_option maxHeartbeats 4000000 in
theorem inner_any {P M n M' X : Nat} {R : Option Addr × Nat} {w : World} {s : PS} {e : PS → Rp PS} (hM : M' ≤ M) (hor : PartC P M 26 #[.pointer (some ⟨P, 0, none⟩)] e (fun s => s.toks.length ≤ n)) (hok : PartOk e) (hg : PGood M' s) (hl : s.toks.length ≤ n) (h : PAt w P R s) (bX : Blk w X 54 [.pointer (some ⟨P, 0, none⟩)]) (hXP : X ≠ P) :
    Calls Try.prog 100 #[.pointer (some ⟨X, 0, none⟩)] w (ResS P R w (innerP e s)) := by
  have hXR := h.notP bX (by decide)
  have HO := Lib.hid (hor M' R s w hM hg hl h)
  have x0 := bX.cell (j := 0) rfl
  have BX := Lib.hid bX
  have HG := Lib.hid hg
  clear hor bX hl h hg
  go_enter Try.func100, Try.ntmps100
  go_wp2_with fail
  refine (HO.out).mono ?_
  intro e' w1 hres
  cases hp : e s with
  | error z =>
    have HT : Hid (innerP e s = .error z) := by show _ = _; rw [innerP, hp]
    rw [hp] at hres
    obtain ⟨rfl, hf⟩ := hres
    clear hp
    go_wp2_with fail
    refine ⟨rfl, ?_⟩
    rw [HT.out]
    exact ⟨rfl, hf⟩
  | ok s1 =>
    have HT : Hid (innerP e s = s1.sign sC) := by show _ = _; rw [innerP, hp]
    rw [hp] at hres
    obtain ⟨rfl, R', hS⟩ := hres
    have hg1 := ((hok _ _ hp).2 M' HG.out).1
    have b1 := BX.out.frA hS.2.1 hXP hXR
    clear x0
    have x1 := b1.cell (j := 0) rfl
    have HS := Lib.hid hS
    have HSg := Lib.hid (psign_st hg1 (StQ.start hS.1) sC)
    clear hp hS b1
    go_wp2_with fail
    refine (HSg.out).mono ?_
    intro e'' w2 hres
    cases hsg : s1.sign sC with
    | error z =>
      have HT2 : Hid (innerP e s = .error z) := by show _ = _; rw [HT.out, hsg]
      rw [hsg] at hres
      obtain ⟨rfl, hf⟩ := hres
      have hf2 := HS.out.failQ hf
      clear hsg
      go_wp2_with fail
      refine ⟨rfl, ?_⟩
      rw [HT2.out]
      exact ⟨rfl, hf2⟩
    | ok s2 =>
      have HT2 : Hid (innerP e s = .ok s2) := by show _ = _; rw [HT.out, hsg]
      rw [hsg] at hres
      obtain ⟨rfl, k2⟩ := hres
      have K2 := Lib.hid (HS.out.quiet k2)
      clear hsg k2
      go_wp2_with fail
      first | go_end0 | refine bodyPost_ret (results_none rfl _ _ _) rfl ?_
      rw [HT2.out]
      exact ⟨rfl, R', K2.out⟩
set_option maxRecDepth 100000 in
set_option maxHeartbeats 4000000 in
theorem bracket_any {P M n : Nat} {e : PS → Rp PS} (hor : PartC P M 26 #[.pointer (some ⟨P, 0, none⟩)] e (fun s => s.toks.length ≤ n)) (hok : PartOk e) :
    PartC P M 98 #[.pointer (some ⟨P, 0, none⟩)] (bracketP e) (fun s => s.toks.length ≤ n + 1) := by
  intro M' R s w hM hg hl h
  have hmf : ∀ (fn : Fn) (first cap : Array Value) (w : World), (Instr.makeFunc fn first cap).run Try.prog w = .ok (.func fn first cap) w := fun _ _ _ _ => rfl
  have bX : Blk (w.alloc (.cells #[.pointer (some ⟨P, 0, none⟩)] 54)) w.heap.size 54 [.pointer (some ⟨P, 0, none⟩)] := Blk.new w _ _
  have K1 := Lib.hid ((StQ.start h).below ((Below.refl _ _).alloc (Nat.le_refl _) (.cells #[.pointer (some ⟨P, 0, none⟩)] 54)))
  have hP0 := h.lt
  have HIs := Lib.hid (is_st hg (StQ.start K1.out.1) 5 sO)
  have BX := Lib.hid bX
  have HOR := Lib.hid hor
  clear h bX hor
  cases hi : s.is 5 sO with
  | false =>
    have HT : Hid (bracketP e s = .error s.stuck) := by show _ = _; rw [bracketP, if_neg (by rw [hi]; decide)]
    rw [hi] at HIs
    clear hi
    go_enter Try.func98, Try.ntmps98
    go_wp2_with fail
    refine (HIs.out).mono ?_
    rintro e' w1 ⟨rfl, k1⟩
    have b1 := BX.out.fr k1.2 (by omega)
    have x1 := b1.cell (j := 0) rfl
    have HSt := Lib.hid (stuck_st hg (K1.out.next k1))
    clear k1 b1
    go_wp2_with fail
    refine (HSt.out).mono ?_
    rintro e' w2 ⟨rfl, hf⟩
    go_wp2_with fail
    refine ⟨rfl, ?_⟩
    rw [HT.out]
    exact ⟨rfl, hf.weak⟩
  | true =>
    have HT : Hid (bracketP e s = openP (innerP e) s) := by show _ = _; rw [bracketP, if_pos hi]
    have hk : s.hd.kind ≠ 0 := by rw [is_kind hi]; decide
    rw [hi] at HIs
    clear hi
    go_enter Try.func98, Try.ntmps98
    go_wp2_with fail
    refine (HIs.out).mono ?_
    rintro e' w1 ⟨rfl, k1⟩
    have b1 := Lib.hid (BX.out.fr k1.2 (by omega))
    have x1 := b1.out.cell (j := 0) rfl
    have K2 := Lib.hid (K1.out.next k1)
    have HX := Lib.hid hok
    clear k1 HIs K1
    go_wp2_with fail
    have hl1 := hg.on_len
    refine (openB_any (p := innerP e) hg K2.out.1 hk (innerP_ok HX.out) ?_).mono ?_
    · intro hlt w' hP' hf'
      have hg' : PGood M' ⟨s.toks.tail, s.deep + 1, s.out⟩ := by
        have g := hg.on hk
        exact ⟨g.ends, g.room, by show s.deep + 1 ≤ 64; omega, g.text⟩
      exact inner_any hM HOR.out HX.out hg' (by show s.toks.tail.length ≤ n; have : s.on.toks.length = s.toks.tail.length := rfl; omega) hP' (b1.out.fr hf' (by omega)) (by omega)
    · intro e' w2 hres
      have hres2 := ResS.st K2.out.st hres
      rw [← HT.out] at hres2
      cases hb : bracketP e s with
      | error z =>
        rw [hb] at hres2
        obtain ⟨rfl, hf⟩ := hres2
        clear hb hres
        go_wp2_with fail
        exact ⟨rfl, rfl, hf⟩
      | ok s2 =>
        rw [hb] at hres2
        obtain ⟨rfl, R', hS⟩ := hres2
        have HB := Lib.hid hb
        clear hb hres
        go_wp2_with fail
        first | go_end0 | refine bodyPost_ret (results_none rfl _ _ _) rfl ?_
        rw [HB.out]
        exact ⟨rfl, R', hS⟩
end
end Go.Proofs.Ytdikmklijpcjdaa
