/- How a query is read: Parse. -/
import Derived.Test.YtdikmklijpcjdaaParJ
import Derived.Defers
import Derived.Recover
import Derived.Test.YtdikmklijpcjdaaPQuery
import Derived.Test.YtdikmklijpcjdaaLex
namespace Go.Proofs.Ytdikmklijpcjdaa
section
/-! ## Par1 -/
open Go.RowKit
attribute [local go_sem ↓] Go.wp_at_zero Go.wp_at_succ tok_f0 tok_f2 tok_f3

theorem ta_stop (a b : Value) (w : World) : (Instr.typeAssert (.iface 58 (.agg #[a, b])) 20 58 true).run Try.prog w = .ok (.tuple #[.agg #[a, b], .bool true]) w := by kernel_rfl
attribute [local go_sem ↓] ta_stop
set_option maxRecDepth 100000 in
set_option maxHeartbeats 4000000 in
theorem catch_stop {a0 : Nat} {w : World} {v2 v3 v4 : Value} (b2 : Blk w a0 22 [v2]) (b3 : Blk w (a0 + 1) 3 [v3]) (b4 : Blk w (a0 + 2) 23 [v4]) (x : Int × Int) :
    CallsD Try.prog 25 #[.pointer (some ⟨a0, 0, none⟩), .pointer (some ⟨a0 + 1, 0, none⟩), .pointer (some ⟨a0 + 2, 0, none⟩)] (.panicking (stopV x)) w fun e u' w' =>
      e = .returned (.tuple #[]) ∧ u' = .panicking [{ v := .iface 58 (.agg #[.int .i64 x.1, .int .i64 x.2]), recovered := true }] ∧
      w'.cell? ⟨a0, 0, none⟩ = some (.slice none 0 0) ∧ w'.cell? ⟨a0 + 1, 0, none⟩ = some (.int .i64 x.2) ∧ w'.cell? ⟨a0 + 2, 0, none⟩ = some (.int .i64 x.1) ∧ Below a0 w w' := by
  refine callsD_of_wpS Try.func25 rfl fun c₀ cs hu => ?_
  apply wpS_seq
  apply wpS_region
  simp [wpOpsS, go_sem, recoverD, hu, stopV, Try.ntmps25, Exit.thenS]
  refine wpS_of_wp ?_
  refine (fun (h : ∀ (Q : Exit → Act → World → Prop), (∀ (a : Act) (w' : World), a.defers = [] → w'.cell? ⟨a0, 0, none⟩ = some (.slice none 0 0) → w'.cell? ⟨a0 + 1, 0, none⟩ = some (.int .i64 x.2) → w'.cell? ⟨a0 + 2, 0, none⟩ = some (.int .i64 x.1) → Below a0 w w' → Q .normal a w') →
      Code.wp Try.prog _ Q { tmps := #[.pointer (some ⟨a0, 0, none⟩), .pointer (some ⟨a0 + 1, 0, none⟩), .pointer (some ⟨a0 + 2, 0, none⟩), .iface 58 (.agg #[.int .i64 x.1, .int .i64 x.2]), undef, undef, .iface 58 (.agg #[.int .i64 x.1, .int .i64 x.2]), undef, undef, undef, undef, undef, undef, undef, undef, undef, undef, undef, undef, undef, undef], defers := [] } w) => h _ ?post) (fun Q hQ => ?walk)
  case post =>
    intro a w' h1 h2 h3 h4 h5
    exact ⟨h1, _, rfl, _, by simp [results, Try.results25, go_sem], rfl, rfl, h2, h3, h4, h5⟩
  clear hu
  go_upto_region 5 with fail
  have hz := b4.lt
  have bT : Blk (w.alloc (.cells #[.int .i64 x.1, .int .i64 x.2] 58)) w.heap.size 58 [.int .i64 x.1, .int .i64 x.2] := Blk.new w _ _
  have d2 := b2.alloc (.cells #[.int .i64 x.1, .int .i64 x.2] 58)
  have d3 := b3.alloc (.cells #[.int .i64 x.1, .int .i64 x.2] 58)
  have d4 := b4.alloc (.cells #[.int .i64 x.1, .int .i64 x.2] 58)
  have hb : Below a0 w (w.alloc (.cells #[.int .i64 x.1, .int .i64 x.2] 58)) := (Below.refl _ _).alloc (by omega) _
  clear b2 b3 b4
  generalize World.alloc _ _ = W at *
  have t0 := bT.cell (j := 0) rfl
  have t1 := bT.cell (j := 1) rfl
  have f2 := d2.frozen
  have f3 := d3.frozen
  have f4 := d4.frozen
  have l2 := d2.lt
  have l3 := d3.lt
  have l4 := d4.lt
  have lT := bT.lt
  have c2 := d2.cell (j := 0) rfl
  have c3 := d3.cell (j := 0) rfl
  have c4 := d4.cell (j := 0) rfl
  go_region
  refine hQ _ _ rfl ?_ ?_ ?_ ?_
  · exact (((d2.set 0 _).other (by simp) _).other (by simp) _).cell rfl
  · exact (((d3.other (by simp) _).set 0 _).other (by simp) _).cell rfl
  · exact (((d4.other (by simp) _).other (by simp) _).set 0 _).cell rfl
  · exact (((hb.setCell (p := ⟨a0, 0, none⟩) (Nat.le_refl _) _).setCell (p := ⟨a0 + 1, 0, none⟩) (Nat.le_succ _) _).setCell (p := ⟨a0 + 2, 0, none⟩) (Nat.le_add_right _ _) _).drew
set_option maxRecDepth 100000 in
set_option maxHeartbeats 4000000 in
theorem catch_idle (a0 : Nat) (w : World) :
    CallsD Try.prog 25 #[.pointer (some ⟨a0, 0, none⟩), .pointer (some ⟨a0 + 1, 0, none⟩), .pointer (some ⟨a0 + 2, 0, none⟩)] .returning w fun e u' w' =>
      e = .returned (.tuple #[]) ∧ u' = .returning ∧ w' = w := by
  refine callsD_of_wpS Try.func25 rfl fun c₀ cs hu => ?_
  apply wpS_seq
  apply wpS_region
  simp [wpOpsS, go_sem, recoverD, hu, Try.ntmps25, Exit.thenS]
  refine wpS_of_wp ?_
  refine (fun (h : ∀ (Q : Exit → Act → World → Prop), (∀ (a : Act), a.defers = [] → Q .normal a w) →
      Code.wp Try.prog _ Q { tmps := #[.pointer (some ⟨a0, 0, none⟩), .pointer (some ⟨a0 + 1, 0, none⟩), .pointer (some ⟨a0 + 2, 0, none⟩), .nilIface, undef, undef, .nilIface, undef, undef, undef, undef, undef, undef, undef, undef, undef, undef, undef, undef, undef, undef], defers := [] } w) => h _ ?post) (fun Q hQ => ?walk)
  case post =>
    intro a h1
    refine ⟨h1, .returning, ?_, _, by simp [results, Try.results25, go_sem], rfl, rfl, rfl⟩
    cases c₀
    simp only at hu
    subst hu
    rfl
  clear hu
  have HQ := Lib.hid hQ
  clear hQ
  go_wp2_with fail
  exact HQ.out _ rfl
end
section
/-! ## Par2 -/
open Go.RowKit
attribute [local go_sem ↓] Go.wp_at_zero Go.wp_at_succ tok_f0 tok_f2 tok_f3

/-- What Parse answers: nodes in new memory, or nothing. -/
def ParseOut (base : Nat) (r : List Nod × Int × Int) (e : Ending) (w' : World) : Prop := ∃ A c, e = .returned (.tuple #[.slice A r.1.length c, .int .i64 r.2.1, .int .i64 r.2.2]) ∧ OwnNods w' base A r.1.length c r.1
theorem OwnNods.none_ (w : World) (base : Nat) : OwnNods w base none 0 0 [] := ⟨[], Own.nil_ (by decide), rfl, fun k x hx => by simp at hx⟩
theorem PAt.make {w : World} {A : Option Addr} {c base : Nat} {ts : List Tok} (ho : Own w base 52 4 A ts.length c (toksC ts)) (hne : ts ≠ []) :
    PAt (w.alloc (.cells #[.slice A ts.length c, .int .i64 0, .slice none 0 0] 56)) w.heap.size (none, 0) ⟨ts, 0, []⟩ := by
  have hr := ho.rd
  have hcap := ho.cap
  obtain ⟨b, o, e, hb, _⟩ := hr.2 (by intro h; apply hne; cases ts with | nil => rfl | cons => simp [toksC] at h)
  subst e
  refine ⟨b, o, c, Blk.new w _ _, ?_, hcap.1, hcap.2, OwnNods.none_ _ _⟩
  exact hr.below ((Below.refl _ _).alloc (Nat.le_refl _) _)
theorem OwnNods.lower {w : World} {base base' n c : Nat} {A : Option Addr} {ns : List Nod} (h : OwnNods w base A n c ns) (hb : base' ≤ base) : OwnNods w base' A n c ns := by
  obtain ⟨cs, h1, h2, h3⟩ := h
  refine ⟨cs, h1.lower hb, h2, fun k x hx => ?_⟩
  obtain ⟨Am, cm, An, cn, hy, ho, hp⟩ := h3 k x hx
  exact ⟨Am, cm, An, cn, hy, ho.lower hb, hp.lower hb⟩
set_option maxRecDepth 100000 in
set_option maxHeartbeats 4000000 in
theorem parse_any (s : ByteArray) (w : World) (hs : s.size ≤ maxLen) (hle : ∀ p e, lexR s = .err p e → e ≠ 0) :
    Calls Try.prog 10 #[.string s] w fun e w' => ParseOut w.heap.size (parseR s) e w' ∧ Below w.heap.size w w' := by
  have HL := fun (W : World) => Lib.hid (lex_any s W hs)
  have HLE := Lib.hid hle
  clear hle
  have hmf : ∀ (fn : Fn) (first cap : Array Value) (w : World), (Instr.makeFunc fn first cap).run Try.prog w = .ok (.func fn first cap) w := fun _ _ _ _ => rfl
  go_enter_defers Try.func10, Try.ntmps10
  go_wp2_with fail
  generalize hW : World.alloc _ _ = W
  have b2 : Blk W w.heap.size 22 [.slice none 0 0] := by rw [← hW]; exact ((Blk.new w _ [.slice none 0 0]).alloc _).alloc _
  have b3 : Blk W (w.heap.size + 1) 3 [.int .i64 0] := by
    rw [← hW]
    have := Blk.new (w.alloc (.cells #[.slice none 0 0] 22)) 3 [.int .i64 0]
    rw [World.size_alloc] at this
    exact this.alloc _
  have b4 : Blk W (w.heap.size + 1 + 1) 23 [.int .i64 0] := by
    rw [← hW]
    have := Blk.new ((w.alloc (.cells #[.slice none 0 0] 22)).alloc (.cells #[.int .i64 0] 3)) 23 [.int .i64 0]
    rw [World.size_alloc, World.size_alloc] at this
    exact this
  have hbW : Below w.heap.size w W := by rw [← hW]; exact (((Below.refl _ _).alloc (Nat.le_refl _) _).alloc (by simp) _).alloc (by simp; omega) _
  clear hW
  refine ((HL _).out).mono ?_
  rintro e w1 ⟨hlx, hb1⟩
  have lW := b4.lt
  replace b2 := b2.below hb1 b2.lt
  replace b3 := b3.below hb1 b3.lt
  replace b4 := b4.below hb1 b4.lt
  have hbB := Lib.hid (hbW.trans (hb1.mono hbW.size))
  clear hb1 hbW HL
  have c2 := b2.cell (j := 0) rfl
  have c3 := b3.cell (j := 0) rfl
  have c4 := b4.cell (j := 0) rfl
  have f2 := b2.frozen
  have f3 := b3.frozen
  have f4 := b4.frozen
  have l4 := b4.lt
  cases hlr : lexR s with
  | err p x =>
    have HT : Hid (parseR s = ([], (p : Int), x)) := by show _ = _; rw [parseR, hlr]
    have hx := HLE.out _ _ hlr
    have hxb : (x != 0) = true := by rw [bne_iff_ne]; exact hx
    rw [hlr] at hlx
    have hlx : e = .returned (.tuple #[.slice none 0 0, .int .i64 p, .int .i64 x]) := hlx
    subst hlx
    clear hlr hx HLE
    have B2 := Lib.hid b2
    have B3 := Lib.hid b3
    have B4 := Lib.hid b4
    clear b2 b3 b4
    go_wp2_with fail
    have d2 := (B2.out.other (a := ⟨w.heap.size + 1, 0, none⟩) (by simp) (.int .i64 p)).other (a := ⟨w.heap.size + 1 + 1, 0, none⟩) (by simp; omega) (.int .i64 x)
    have d3 := (B3.out.set 0 (.int .i64 p)).other (a := ⟨w.heap.size + 1 + 1, 0, none⟩) (by simp) (.int .i64 x)
    have d4 := (B4.out.other (a := ⟨w.heap.size + 1, 0, none⟩) (by simp) (.int .i64 p)).set 0 (.int .i64 x)
    have hbC := Lib.hid ((hbB.out.setCell (p := ⟨w.heap.size + 1, 0, none⟩) (Nat.le_succ _) (.int .i64 p)).setCell (p := ⟨w.heap.size + 1 + 1, 0, none⟩) (show w.heap.size ≤ w.heap.size + 1 + 1 by omega) (.int .i64 x))
    clear c2 c3 c4 f2 f3 f4 l4 B2 B3 B4 hbB
    generalize World.setCell _ _ _ = W5 at *
    have c2 := d2.cell (j := 0) rfl
    have c3 := d3.cell (j := 0) rfl
    have c4 := d4.cell (j := 0) rfl
    have f2 := d2.frozen
    have f3 := d3.frozen
    have f4 := d4.frozen
    have l2 := d2.lt
    have l3 := d3.lt
    have l4 := d4.lt
    have D2 := Lib.hid d2
    have D3 := Lib.hid d3
    have D4 := Lib.hid d4
    clear d2 d3 d4
    go_region
    have g2 := ((D2.out.set 0 (.slice none 0 0)).other (a := ⟨w.heap.size + 1, 0, none⟩) (by simp) (.int .i64 p)).other (a := ⟨w.heap.size + 1 + 1, 0, none⟩) (by simp; omega) (.int .i64 x)
    have g3 := ((D3.out.other (a := ⟨w.heap.size, 0, none⟩) (by simp) (.slice none 0 0)).set 0 (.int .i64 p)).other (a := ⟨w.heap.size + 1 + 1, 0, none⟩) (by simp) (.int .i64 x)
    have g4 := ((D4.out.other (a := ⟨w.heap.size, 0, none⟩) (by simp; omega) (.slice none 0 0)).other (a := ⟨w.heap.size + 1, 0, none⟩) (by simp) (.int .i64 p)).set 0 (.int .i64 x)
    have hbD := Lib.hid ((((hbC.out.setCell (p := ⟨w.heap.size, 0, none⟩) (Nat.le_refl _) (.slice none 0 0)).setCell (p := ⟨w.heap.size + 1, 0, none⟩) (Nat.le_succ _) (.int .i64 p)).setCell (p := ⟨w.heap.size + 1 + 1, 0, none⟩) (show w.heap.size ≤ w.heap.size + 1 + 1 by omega) (.int .i64 x)).drew)
    clear c2 c3 c4 f2 f3 f4 l2 l3 l4 D2 D3 D4 hbC
    replace g2 := g2.drewN 1
    replace g3 := g3.drewN 1
    replace g4 := g4.drewN 1
    generalize hW6 : World.drew _ = W6 at hbD ⊢
    rw [show World.drewN _ 1 = W6 from hW6] at g2 g3 g4
    clear hW6
    have c2 := g2.cell (j := 0) rfl
    have c3 := g3.cell (j := 0) rfl
    have c4 := g4.cell (j := 0) rfl
    clear g2 g3 g4
    go_wp2_with fail
    exact ⟨.tuple #[.slice none 0 0, .int .i64 p, .int .i64 x], by simp [results, Try.results10, go_sem, c2, c3, c4], ⟨none, 0, by rw [HT.out]; rfl, by rw [HT.out]; exact OwnNods.none_ _ _⟩, hbD.out⟩
  | ok ts =>
    rw [hlr] at hlx
    obtain ⟨A, c, rfl, ho⟩ := hlx
    have hg := lexR_good hlr
    have hP : parseR s = match orP (unaryP ts.length) ⟨ts, 0, []⟩ with
      | .error (why, at_) => ([], at_, why)
      | .ok st => if st.hd.kind = 0 then (st.out, 0, 0) else ([], st.stuck.2, st.stuck.1) := by rw [parseR, hlr]; rfl
    have HPR := Lib.hid hP
    have HO := Lib.hid ho
    have HG := Lib.hid hg
    have B2 := Lib.hid b2
    have B3 := Lib.hid b3
    have B4 := Lib.hid b4
    clear b2 b3 b4 hlr HLE ho hg hP
    have hne : ts ≠ [] := by have := HG.out.ends.ne; exact this
    have d2 := ((B2.out.other (a := ⟨w.heap.size + 1, 0, none⟩) (by simp) (.int .i64 0)).other (a := ⟨w.heap.size + 1 + 1, 0, none⟩) (by simp; omega) (.int .i64 0)).alloc (.cells #[.slice A ts.length c, .int .i64 0, .slice none 0 0] 56)
    have d3 := ((B3.out.set 0 (.int .i64 0)).other (a := ⟨w.heap.size + 1 + 1, 0, none⟩) (by simp) (.int .i64 0)).alloc (.cells #[.slice A ts.length c, .int .i64 0, .slice none 0 0] 56)
    have d4 := ((B4.out.other (a := ⟨w.heap.size + 1, 0, none⟩) (by simp) (.int .i64 0)).set 0 (.int .i64 0)).alloc (.cells #[.slice A ts.length c, .int .i64 0, .slice none 0 0] 56)
    have K0 := PAt.make ((HO.out.setLow (a := ⟨w.heap.size + 1, 0, none⟩) (show w.heap.size + 1 < W.heap.size by omega) (.int .i64 0)).setLow (a := ⟨w.heap.size + 1 + 1, 0, none⟩) lW (.int .i64 0)) hne
    have hbC := ((hbB.out.setCell (p := ⟨w.heap.size + 1, 0, none⟩) (Nat.le_succ _) (.int .i64 0)).setCell (p := ⟨w.heap.size + 1 + 1, 0, none⟩) (show w.heap.size ≤ w.heap.size + 1 + 1 by omega) (.int .i64 0)).alloc (by simp; omega) (.cells #[.slice A ts.length c, .int .i64 0, .slice none 0 0] 56)
    have ez : ((w1.setCell ⟨w.heap.size + 1, 0, none⟩ (.int .i64 0)).setCell ⟨w.heap.size + 1 + 1, 0, none⟩ (.int .i64 0)).heap.size = w1.heap.size := by simp
    rw [ez] at K0
    clear ez hne
    go_wp2_with fail
    clear c2 c3 c4 f2 f3 f4 B2 B3 B4 hbB HO
    generalize World.alloc _ _ = W3 at *
    generalize w1.heap.size = P at *
    have HR := Lib.hid (read_all (P := P) (M := 5000) (by decide) ts.length 5000 (none, 0) ⟨ts, 0, []⟩ W3 (Nat.le_refl _) HG.out (Nat.le_refl _) K0)
    have hok := orP_ok (unaryP_ok ts.length)
    have hPl := K0.lt
    have D2 := Lib.hid d2
    have D3 := Lib.hid d3
    have D4 := Lib.hid d4
    have hbD := Lib.hid hbC
    have HK := Lib.hid hok
    clear d2 d3 d4 hbC K0 hok
    refine (HR.out).mono ?_
    intro e w4 hres
    cases hor : orP (unaryP ts.length) ⟨ts, 0, []⟩ with
    | error z =>
      have HT : Hid (parseR s = ([], z.2, z.1)) := by show _ = _; rw [HPR.out, hor]
      rw [hor] at hres
      obtain ⟨rfl, hf⟩ := hres
      clear hor HPR
      have e2 := D2.out.fr hf (by omega)
      have e3 := D3.out.fr hf (by omega)
      have e4 := D4.out.fr hf (by omega)
      have hbE := hbD.out.trans ((hf.below (by simp) hPl).mono (show w.heap.size ≤ P by omega))
      refine leaves_cons (f := 25) (args := #[.pointer (some ⟨w.heap.size, 0, none⟩), .pointer (some ⟨w.heap.size + 1, 0, none⟩), .pointer (some ⟨w.heap.size + 2, 0, none⟩)]) (by simp) (by simp [go_sem]) ?_
      refine (catch_stop e2 e3 e4 _).mono ?_
      rintro e u' w7 ⟨rfl, rfl, c2, c3, c4, hb7⟩
      have c4 : w7.cell? ⟨w.heap.size + 1 + 1, 0, none⟩ = _ := c4
      exact ⟨.tuple #[.slice none 0 0, .int .i64 z.2, .int .i64 z.1], by simp [results, Try.results10, go_sem, c2, c3, c4], ⟨none, 0, by rw [HT.out]; rfl, by rw [HT.out]; exact OwnNods.none_ _ _⟩, hbE.trans hb7⟩
    | ok st =>
      have hgs := ((HK.out _ _ hor).2 5000 HG.out).1
      have HT0 : Hid (parseR s = if st.hd.kind = 0 then (st.out, 0, 0) else ([], st.stuck.2, st.stuck.1)) := by show _ = _; rw [HPR.out, hor]
      rw [hor] at hres
      obtain ⟨rfl, R', hS⟩ := hres
      have HN := Lib.hid (now_st hgs (StQ.start hS.1))
      have HS := Lib.hid hS
      clear hor hS HPR
      go_wp2_with fail
      refine (HN.out).mono ?_
      rintro e w5 ⟨rfl, k5⟩
      have S5 := Lib.hid (HS.out.quiet k5)
      clear k5 HN HS
      by_cases hk : st.hd.kind = 0
      · have hkb : (st.hd.kind != 0) = false := by rw [hk]; rfl
        have HT : Hid (parseR s = (st.out, 0, 0)) := by show _ = _; rw [HT0.out, if_pos hk]
        clear hk HT0
        obtain ⟨pb, po, pc, bP, _, _, _, hO⟩ := S5.out.1
        have p2 := bP.cell (j := 2) rfl
        have pl := bP.lt
        have e2 := D2.out.fr S5.out.2.1 (by omega)
        have e3 := D3.out.fr S5.out.2.1 (by omega)
        have e4 := D4.out.fr S5.out.2.1 (by omega)
        have c2 := e2.cell (j := 0) rfl
        have c3 := e3.cell (j := 0) rfl
        have c4 := e4.cell (j := 0) rfl
        have f2 := e2.frozen
        have f3 := e3.frozen
        have f4 := e4.frozen
        have l2 := e2.lt
        have l3 := e3.lt
        have l4 := e4.lt
        have E2 := Lib.hid e2
        have E3 := Lib.hid e3
        have E4 := Lib.hid e4
        have HO := Lib.hid hO
        have hbE := Lib.hid (hbD.out.trans ((S5.out.2.1.below (by simp) hPl).mono (show w.heap.size ≤ P by omega)))
        clear bP hO e2 e3 e4
        go_wp2_with fail
        have x2 := ((E2.out.set 0 (.slice R'.1 st.out.length R'.2)).other (a := ⟨w.heap.size + 1, 0, none⟩) (by simp) (.int .i64 0)).other (a := ⟨w.heap.size + 1 + 1, 0, none⟩) (by simp; omega) (.int .i64 0)
        have x3 := ((E3.out.other (a := ⟨w.heap.size, 0, none⟩) (by simp) (.slice R'.1 st.out.length R'.2)).set 0 (.int .i64 0)).other (a := ⟨w.heap.size + 1 + 1, 0, none⟩) (by simp) (.int .i64 0)
        have x4 := ((E4.out.other (a := ⟨w.heap.size, 0, none⟩) (by simp; omega) (.slice R'.1 st.out.length R'.2)).other (a := ⟨w.heap.size + 1, 0, none⟩) (by simp) (.int .i64 0)).set 0 (.int .i64 0)
        have hO7 := ((HO.out.setLow (a := ⟨w.heap.size, 0, none⟩) (show w.heap.size < P + 1 by omega) (.slice R'.1 st.out.length R'.2)).setLow (a := ⟨w.heap.size + 1, 0, none⟩) (show w.heap.size + 1 < P + 1 by omega) (.int .i64 0)).setLow (a := ⟨w.heap.size + 1 + 1, 0, none⟩) (show w.heap.size + 1 + 1 < P + 1 by omega) (.int .i64 0)
        have hb7 := ((hbE.out.setCell (p := ⟨w.heap.size, 0, none⟩) (Nat.le_refl _) (.slice R'.1 st.out.length R'.2)).setCell (p := ⟨w.heap.size + 1, 0, none⟩) (Nat.le_succ _) (.int .i64 0)).setCell (p := ⟨w.heap.size + 1 + 1, 0, none⟩) (show w.heap.size ≤ w.heap.size + 1 + 1 by omega) (.int .i64 0)
        clear c2 c3 c4 f2 f3 f4 l2 l3 l4 E2 E3 E4 HO hbE p2 pl
        generalize World.setCell _ _ _ = W7 at *
        have c2 := x2.cell (j := 0) rfl
        have c3 := x3.cell (j := 0) rfl
        have c4 := x4.cell (j := 0) rfl
        refine leaves_cons (f := 25) (args := #[.pointer (some ⟨w.heap.size, 0, none⟩), .pointer (some ⟨w.heap.size + 1, 0, none⟩), .pointer (some ⟨w.heap.size + 2, 0, none⟩)]) (by simp) (by simp [go_sem]) ?_
        refine (catch_idle w.heap.size _).mono ?_
        rintro e u' w8 ⟨rfl, rfl, rfl⟩
        exact ⟨.tuple #[.slice R'.1 st.out.length R'.2, .int .i64 0, .int .i64 0], by simp [results, Try.results10, go_sem, c2, c3, c4], ⟨R'.1, R'.2, by rw [HT.out], by rw [HT.out]; exact hO7.lower (by omega)⟩, hb7⟩
      · have hkb : (st.hd.kind != 0) = true := by rw [bne_iff_ne]; exact hk
        have HT : Hid (parseR s = ([], st.stuck.2, st.stuck.1)) := by show _ = _; rw [HT0.out, if_neg hk]
        have HSt := Lib.hid (stuck_st hgs (StQ.start S5.out.1))
        clear hk HT0
        go_wp2_with fail
        refine (HSt.out).mono ?_
        rintro e w6 ⟨rfl, hf6⟩
        have hf : Fr P none W3 w6 := S5.out.failQ hf6
        have e2 := D2.out.fr hf (by omega)
        have e3 := D3.out.fr hf (by omega)
        have e4 := D4.out.fr hf (by omega)
        have hbE := hbD.out.trans ((hf.below (by simp) hPl).mono (show w.heap.size ≤ P by omega))
        refine leaves_cons (f := 25) (args := #[.pointer (some ⟨w.heap.size, 0, none⟩), .pointer (some ⟨w.heap.size + 1, 0, none⟩), .pointer (some ⟨w.heap.size + 2, 0, none⟩)]) (by simp) (by simp [go_sem]) ?_
        refine (catch_stop e2 e3 e4 _).mono ?_
        rintro e u' w7 ⟨rfl, rfl, c2, c3, c4, hb7⟩
        have c4 : w7.cell? ⟨w.heap.size + 1 + 1, 0, none⟩ = _ := c4
        exact ⟨.tuple #[.slice none 0 0, .int .i64 st.stuck.2, .int .i64 st.stuck.1], by simp [results, Try.results10, go_sem, c2, c3, c4], ⟨none, 0, by rw [HT.out]; rfl, by rw [HT.out]; exact OwnNods.none_ _ _⟩, hbE.trans hb7⟩
end
end Go.Proofs.Ytdikmklijpcjdaa
