/- How a query is read: brackets. -/
import Derived.Test.YtdikmklijpcjdaaParU
namespace Go.Proofs.Ytdikmklijpcjdaa
open Go.RowKit
attribute [local go_sem ↓] Go.wp_at_zero Go.wp_at_succ tok_f0 tok_f2 tok_f3

theorem PAt.notP {w : World} {P X : Nat} {R : Option Addr × Nat} {s : PS} {e : TypeId} {cs : List Value} (h : PAt w P R s) (b : Blk w X e cs) (he : e ≠ 37) : some X ≠ R.1.map Addr.block := by
  obtain ⟨_, _, _, _, _, _, _, cs', h5, _⟩ := h
  exact own_ne_blk h5 b (Ne.symm he)
theorem Blk.frA {w w' : World} {P N : Nat} {A : Option Addr} {e : TypeId} {cs : List Value} (h : Blk w N e cs) (hf : Fr P A w w') (hne : N ≠ P) (hA : some N ≠ A.map Addr.block) : Blk w' N e cs := h.keep (hf.block N h.lt hne (Ne.symm hA))
set_option maxRecDepth 100000 in
set_option maxHeartbeats 4000000 in
theorem inner_any {P M n M' X : Nat} {R : Option Addr × Nat} {w : World} {s : PS} {e : PS → Rp PS} (hM : M' ≤ M) (hor : PartC P M 26 #[.pointer (some ⟨P, 0, none⟩)] e (fun s => s.toks.length ≤ n)) (hok : PartOk e) (hg : PGood M' s) (hl : s.toks.length ≤ n) (h : PAt w P R s) (bX : Blk w X 54 [.pointer (some ⟨P, 0, none⟩)]) (hXP : X ≠ P) :
    Calls Try.prog 100 #[.pointer (some ⟨X, 0, none⟩)] w (ResS P R w (innerP e s)) := by
  have hXR := h.notP bX (by decide)
  have HO := Lib.hid (hor M' R s w hM hg hl h)
  have x0 := bX.cell (j := 0) rfl
  have BX := Lib.hid bX
  have HG := Lib.hid hg
  clear hor bX hl h hg
  go_enter Try.func100, Try.ntmps100
  go_wp2_with fail
  refine (HO.out).mono ?_
  intro e' w1 hres
  cases hp : e s with
  | error z =>
    have HT : Hid (innerP e s = .error z) := by show _ = _; rw [innerP, hp]
    rw [hp] at hres
    obtain ⟨rfl, hf⟩ := hres
    clear hp
    go_wp2_with fail
    refine ⟨rfl, ?_⟩
    rw [HT.out]
    exact ⟨rfl, hf⟩
  | ok s1 =>
    have HT : Hid (innerP e s = s1.sign sC) := by show _ = _; rw [innerP, hp]
    rw [hp] at hres
    obtain ⟨rfl, R', hS⟩ := hres
    have hg1 := ((hok _ _ hp).2 M' HG.out).1
    have b1 := BX.out.frA hS.2.1 hXP hXR
    clear x0
    have x1 := b1.cell (j := 0) rfl
    have HS := Lib.hid hS
    have HSg := Lib.hid (psign_st hg1 (StQ.start hS.1) sC)
    clear hp hS b1
    go_wp2_with fail
    refine (HSg.out).mono ?_
    intro e'' w2 hres
    cases hsg : s1.sign sC with
    | error z =>
      have HT2 : Hid (innerP e s = .error z) := by show _ = _; rw [HT.out, hsg]
      rw [hsg] at hres
      obtain ⟨rfl, hf⟩ := hres
      have hf2 := HS.out.failQ hf
      clear hsg
      go_wp2_with fail
      refine ⟨rfl, ?_⟩
      rw [HT2.out]
      exact ⟨rfl, hf2⟩
    | ok s2 =>
      have HT2 : Hid (innerP e s = .ok s2) := by show _ = _; rw [HT.out, hsg]
      rw [hsg] at hres
      obtain ⟨rfl, k2⟩ := hres
      have K2 := Lib.hid (HS.out.quiet k2)
      clear hsg k2
      go_wp2_with fail
      first | go_end0 | refine bodyPost_ret (results_none rfl _ _ _) rfl ?_
      rw [HT2.out]
      exact ⟨rfl, R', K2.out⟩
set_option maxRecDepth 100000 in
set_option maxHeartbeats 4000000 in
theorem bracket_any {P M n : Nat} {e : PS → Rp PS} (hor : PartC P M 26 #[.pointer (some ⟨P, 0, none⟩)] e (fun s => s.toks.length ≤ n)) (hok : PartOk e) :
    PartC P M 98 #[.pointer (some ⟨P, 0, none⟩)] (bracketP e) (fun s => s.toks.length ≤ n + 1) := by
  intro M' R s w hM hg hl h
  have hmf : ∀ (fn : Fn) (first cap : Array Value) (w : World), (Instr.makeFunc fn first cap).run Try.prog w = .ok (.func fn first cap) w := fun _ _ _ _ => rfl
  have bX : Blk (w.alloc (.cells #[.pointer (some ⟨P, 0, none⟩)] 54)) w.heap.size 54 [.pointer (some ⟨P, 0, none⟩)] := Blk.new w _ _
  have K1 := Lib.hid ((StQ.start h).below ((Below.refl _ _).alloc (Nat.le_refl _) (.cells #[.pointer (some ⟨P, 0, none⟩)] 54)))
  have hP0 := h.lt
  have HIs := Lib.hid (is_st hg (StQ.start K1.out.1) 5 sO)
  have BX := Lib.hid bX
  have HOR := Lib.hid hor
  clear h bX hor
  cases hi : s.is 5 sO with
  | false =>
    have HT : Hid (bracketP e s = .error s.stuck) := by show _ = _; rw [bracketP, if_neg (by rw [hi]; decide)]
    rw [hi] at HIs
    clear hi
    go_enter Try.func98, Try.ntmps98
    go_wp2_with fail
    refine (HIs.out).mono ?_
    rintro e' w1 ⟨rfl, k1⟩
    have b1 := BX.out.fr k1.2 (by omega)
    have x1 := b1.cell (j := 0) rfl
    have HSt := Lib.hid (stuck_st hg (K1.out.next k1))
    clear k1 b1
    go_wp2_with fail
    refine (HSt.out).mono ?_
    rintro e' w2 ⟨rfl, hf⟩
    go_wp2_with fail
    refine ⟨rfl, ?_⟩
    rw [HT.out]
    exact ⟨rfl, hf.weak⟩
  | true =>
    have HT : Hid (bracketP e s = openP (innerP e) s) := by show _ = _; rw [bracketP, if_pos hi]
    have hk : s.hd.kind ≠ 0 := by rw [is_kind hi]; decide
    rw [hi] at HIs
    clear hi
    go_enter Try.func98, Try.ntmps98
    go_wp2_with fail
    refine (HIs.out).mono ?_
    rintro e' w1 ⟨rfl, k1⟩
    have b1 := Lib.hid (BX.out.fr k1.2 (by omega))
    have x1 := b1.out.cell (j := 0) rfl
    have K2 := Lib.hid (K1.out.next k1)
    have HX := Lib.hid hok
    clear k1 HIs K1
    go_wp2_with fail
    have hl1 := hg.on_len
    refine (openB_any (p := innerP e) hg K2.out.1 hk (innerP_ok HX.out) ?_).mono ?_
    · intro hlt w' hP' hf'
      have hg' : PGood M' ⟨s.toks.tail, s.deep + 1, s.out⟩ := by
        have g := hg.on hk
        exact ⟨g.ends, g.room, by show s.deep + 1 ≤ 64; omega, g.text⟩
      exact inner_any hM HOR.out HX.out hg' (by show s.toks.tail.length ≤ n; have : s.on.toks.length = s.toks.tail.length := rfl; omega) hP' (b1.out.fr hf' (by omega)) (by omega)
    · intro e' w2 hres
      have hres2 := ResS.st K2.out.st hres
      rw [← HT.out] at hres2
      cases hb : bracketP e s with
      | error z =>
        rw [hb] at hres2
        obtain ⟨rfl, hf⟩ := hres2
        clear hb hres
        go_wp2_with fail
        exact ⟨rfl, rfl, hf⟩
      | ok s2 =>
        rw [hb] at hres2
        obtain ⟨rfl, R', hS⟩ := hres2
        have HB := Lib.hid hb
        clear hb hres
        go_wp2_with fail
        first | go_end0 | refine bodyPost_ret (results_none rfl _ _ _) rfl ?_
        rw [HB.out]
        exact ⟨rfl, R', hS⟩
end Go.Proofs.Ytdikmklijpcjdaa
