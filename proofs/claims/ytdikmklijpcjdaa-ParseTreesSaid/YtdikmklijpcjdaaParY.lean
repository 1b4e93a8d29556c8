/- How a query is read: a row of operations. -/
import Derived.Test.YtdikmklijpcjdaaParV
namespace Go.Proofs.Ytdikmklijpcjdaa
open Go.RowKit
attribute [local go_sem ↓] Go.wp_at_zero Go.wp_at_succ tok_f0 tok_f2 tok_f3

def rowE1 (k op lo hi : Int) : Bool := (decide (k ≠ 5) && decide (k ≠ 3)) || decide (op < lo) || decide (hi < op)
def rowE2 (op lo : Int) : Bool := decide (lo = 11) && decide (op = 12)
theorem rowEnd_eq (s : PS) (lo hi : Int) : s.rowEnd lo hi = (rowE1 s.hd.kind (numW opsL s.hd.text) lo hi || rowE2 (numW opsL s.hd.text) lo) := rfl
theorem rd_size {w : World} {B g : Nat} {l : List ByteArray} {x : ByteArray} (hx : l[0]? = some x) (h : Rd w B 1 (some ⟨g, 0, none⟩) (textsC l)) : g + 1 ≤ w.heap.size := by
  obtain ⟨b, o, e, hb, hc⟩ := h.at1 (textsC_at hx)
  injection e with e
  injection e with e1 e2
  subst e1
  exact World.block_lt_of_cell? w _ hc
/-- A row that is being read. -/
def RowAt (P M n : Nat) (R0 : Option Addr × Nat) (w0 : World) (part : PS → Rp PS) (lo hi : Int) (r : Rp PS) (w : World) : Prop :=
  ∃ s m R, St P R0 w0 R s w ∧ PGood M s ∧ s.toks.length ≤ m ∧ s.toks.length ≤ n ∧ rowF part lo hi m s = r
set_option maxRecDepth 100000 in
set_option maxHeartbeats 8000000 in
theorem row_any {P M n : Nat} (F : FuncId) {part : PS → Rp PS} (lo hi : Int) (hF : ∀ (args : Array Value) (w : World), (callFunc F args).run Try.prog w = .ok (.enter F args) w) (hMM : M ≤ 1000000) (hp : PartC P M F #[.pointer (some ⟨P, 0, none⟩)] part (fun s => s.toks.length ≤ n)) (hok : PartOk part) :
    PartC P M 56 #[.pointer (some ⟨P, 0, none⟩), .func (.func F) #[.pointer (some ⟨P, 0, none⟩)] #[], .int .i64 lo, .int .i64 hi] (rowP part lo hi) (fun s => s.toks.length ≤ n) := by
  intro M' R s w hM hg hl h
  have HP := Lib.hid hp
  have HK := Lib.hid hok
  have HG := Lib.hid hg
  have H1 := Lib.hid (hp M' R s w hM hg hl h)
  clear hp hok hg h
  go_enter Try.func56, Try.ntmps56
  go_wp2_with fail
  refine (H1.out).mono ?_
  intro e w1 hres
  cases hpp : part s with
  | error z =>
    have HT : Hid (rowP part lo hi s = .error z) := by show _ = _; rw [rowP, hpp]
    rw [hpp] at hres
    obtain ⟨rfl, hf⟩ := hres
    clear hpp
    go_wp2_with fail
    refine ⟨rfl, ?_⟩
    rw [HT.out]
    exact ⟨rfl, hf⟩
  | ok s1 =>
    have HT : Hid (rowP part lo hi s = rowF part lo hi s1.toks.length s1) := by show _ = _; rw [rowP, hpp]
    rw [hpp] at hres
    obtain ⟨rfl, R1, hS1⟩ := hres
    obtain ⟨hd1, hk1⟩ := HK.out _ _ hpp
    obtain ⟨hg1, hl1⟩ := hk1 M' HG.out
    have HI : Hid (RowAt P M' n R w part lo hi (rowP part lo hi s) w1) := ⟨s1, _, R1, hS1, hg1, Nat.le_refl _, by omega, HT.out.symm⟩
    generalize rowP part lo hi s = r at *
    clear hpp hS1 hd1 hk1 hg1 hl1 HT H1 HG hl
    go_wp2_with fail
    go_loopw [] (fun wr => Hid (RowAt P M' n R w part lo hi r wr)) (fun wr => lenAt P wr)
    case atStart => exact HI
    case round =>
      clear HI
      obtain ⟨s2, m, R2, hS2, hg2, hm, hl2, hr⟩ := hrel.out
      have hpos := hg2.pos
      obtain ⟨m, rfl⟩ : ∃ m', m = m' + 1 := ⟨m - 1, by omega⟩
      have HLen := Lib.hid hS2.1.lenAt
      have HS := Lib.hid hS2
      have HR := Lib.hid hr
      have hPl := hS2.1.lt
      have hbd := numW_bd opsL s2.hd.text
      clear hrel hS2 hr hpos
      go_upto_region 2 with fail
      refine (pops_any _).mono ?_
      rintro e w3 ⟨rfl, hr3, hb3⟩
      have K3 := Lib.hid ((StQ.start HS.out.1).below hb3)
      have HN3 := Lib.hid (now_any P R2 s2 M' w3 hg2 K3.out.1)
      have hz3 : wr.heap.size + 1 ≤ w3.heap.size := rd_size (l := opsL) rfl hr3
      have HR3 := Lib.hid hr3
      clear hb3 hr3
      go_upto_region 2 with fail
      refine (HN3.out).mono ?_
      rintro e w4 ⟨rfl, hb4⟩
      have K4 := Lib.hid (K3.out.below hb4)
      have HNu := Lib.hid (numops_any s2.hd.text w4 wr.heap.size (HR3.out.below (hb4.mono hz3)))
      clear hb4 HN3 K3 HR3 hz3
      go_upto_region 2 with fail
      refine (HNu.out).mono ?_
      rintro e w5 ⟨rfl, rfl⟩
      generalize hop : numW opsL s2.hd.text = op at hbd ⊢
      have HOP := Lib.hid hop
      clear hop HNu
      go_upto_region 2 with fail
      have HN4 := fun (W : World) (h : StQ P R2 wr s2 W) => Lib.hid (now_any P R2 s2 M' W hg2 h.1)
      go_cut [36] (fun v wx => v = .bool (rowE1 s2.hd.kind op lo hi) ∧ StQ P R2 wr s2 wx)
      case first =>
        by_cases hk5 : s2.hd.kind = 5
        · have hkb : (s2.hd.kind != 5) = false := by rw [hk5]; rfl
          have HE : Hid (rowE1 s2.hd.kind op lo hi = (decide (op < lo) || decide (hi < op))) := by show _ = _; rw [rowE1, hk5]; rfl
          clear hk5
          go_wp2_with fail
          refine ((HN4 _ K4.out).out).mono ?_
          rintro e w6 ⟨rfl, hb6⟩
          have K6 := Lib.hid (K4.out.below hb6)
          clear hb6
          by_cases h1 : op < lo
          · have HV : Hid (rowE1 s2.hd.kind op lo hi = true) := by show _ = _; rw [HE.out]; simp [h1]
            clear HE
            go_wp2_with fail
            go_meet
            exact ⟨by rw [HV.out], K6.out⟩
          · by_cases h2 : hi < op
            · have HV : Hid (rowE1 s2.hd.kind op lo hi = true) := by show _ = _; rw [HE.out]; simp [h2]
              clear HE
              go_wp2_with fail
              go_meet
              exact ⟨by rw [HV.out], K6.out⟩
            · have HV : Hid (rowE1 s2.hd.kind op lo hi = false) := by show _ = _; rw [HE.out]; simp [h1, h2]
              clear HE
              go_wp2_with fail
              go_meet
              exact ⟨by rw [HV.out]; simp [h1, h2], K6.out⟩
        · have hkb : (s2.hd.kind != 5) = true := by rw [bne_iff_ne]; exact hk5
          by_cases hk3 : s2.hd.kind = 3
          · have hkb3 : (s2.hd.kind != 3) = false := by rw [hk3]; rfl
            have HE : Hid (rowE1 s2.hd.kind op lo hi = (decide (op < lo) || decide (hi < op))) := by show _ = _; rw [rowE1, hk3]; rfl
            clear hk5 hk3
            go_wp2_with fail
            refine ((HN4 _ K4.out).out).mono ?_
            rintro e w6 ⟨rfl, hb6⟩
            have K6 := Lib.hid (K4.out.below hb6)
            clear hb6
            go_wp2_with fail
            refine ((HN4 _ K6.out).out).mono ?_
            rintro e w7 ⟨rfl, hb7⟩
            have K7 := Lib.hid (K6.out.below hb7)
            clear hb7
            by_cases h1 : op < lo
            · have HV : Hid (rowE1 s2.hd.kind op lo hi = true) := by show _ = _; rw [HE.out]; simp [h1]
              clear HE
              go_wp2_with fail
              go_meet
              exact ⟨by rw [HV.out], K7.out⟩
            · by_cases h2 : hi < op
              · have HV : Hid (rowE1 s2.hd.kind op lo hi = true) := by show _ = _; rw [HE.out]; simp [h2]
                clear HE
                go_wp2_with fail
                go_meet
                exact ⟨by rw [HV.out], K7.out⟩
              · have HV : Hid (rowE1 s2.hd.kind op lo hi = false) := by show _ = _; rw [HE.out]; simp [h1, h2]
                clear HE
                go_wp2_with fail
                go_meet
                exact ⟨by rw [HV.out]; simp [h1, h2], K7.out⟩
          · have hkb3 : (s2.hd.kind != 3) = true := by rw [bne_iff_ne]; exact hk3
            have HV : Hid (rowE1 s2.hd.kind op lo hi = true) := by show _ = _; simp [rowE1, hk3, hk5]
            clear hk5 hk3
            go_wp2_with fail
            refine ((HN4 _ K4.out).out).mono ?_
            rintro e w6 ⟨rfl, hb6⟩
            have K6 := Lib.hid (K4.out.below hb6)
            clear hb6
            go_wp2_with fail
            refine ((HN4 _ K6.out).out).mono ?_
            rintro e w7 ⟨rfl, hb7⟩
            have K7 := Lib.hid (K6.out.below hb7)
            clear hb7
            go_wp2_with fail
            go_meet
            exact ⟨by rw [HV.out], K7.out⟩
      case rest =>
        obtain ⟨rfl, k7⟩ := hcut
        have K7 := Lib.hid k7
        clear k7 K4 HN4
        generalize hb1 : rowE1 s2.hd.kind op lo hi = b1 at *
        have HB1 := Lib.hid hb1
        clear hb1
        cases b1 with
        | true =>
          have HT : Hid (r = .ok s2) := by show _ = _; rw [← HR.out, rowF, if_pos (by rw [rowEnd_eq, HOP.out, HB1.out]; rfl)]
          go_wp2_with fail
          first | go_end0 | refine bodyPost_ret (results_none rfl _ _ _) rfl ?_
          rw [HT.out]
          exact ⟨rfl, R2, HS.out.quiet K7.out⟩
        | false =>
          go_upto_region 3 with fail
          go_cut [42] (fun v wx => v = .bool (rowE2 op lo) ∧ wx = wc)
          case first =>
            by_cases h1 : lo = 11
            · have h1b : (lo == 11) = true := by rw [beq_iff_eq]; exact h1
              by_cases h2 : op = 12
              · have h2b : (op == 12) = true := by rw [beq_iff_eq]; exact h2
                have HV : Hid (rowE2 op lo = true) := by show _ = _; simp [rowE2, h1, h2]
                clear h1 h2
                go_wp2_with fail
                go_meet
                exact ⟨by rw [HV.out], rfl⟩
              · have h2b : (op == 12) = false := by rw [beq_eq_false_iff_ne]; exact h2
                have HV : Hid (rowE2 op lo = false) := by show _ = _; simp [rowE2, h2]
                clear h1 h2
                go_wp2_with fail
                go_meet
                exact ⟨by rw [HV.out], rfl⟩
            · have h1b : (lo == 11) = false := by rw [beq_eq_false_iff_ne]; exact h1
              have HV : Hid (rowE2 op lo = false) := by show _ = _; simp [rowE2, h1]
              clear h1
              go_wp2_with fail
              go_meet
              exact ⟨by rw [HV.out], rfl⟩
          case rest =>
            obtain ⟨rfl, rfl⟩ := hcut
            generalize hb2 : rowE2 op lo = b2 at *
            have HB2 := Lib.hid hb2
            clear hb2
            cases b2 with
            | true =>
              have HT : Hid (r = .ok s2) := by show _ = _; rw [← HR.out, rowF, if_pos (by rw [rowEnd_eq, HOP.out, HB1.out, HB2.out]; rfl)]
              go_wp2_with fail
              first | go_end0 | refine bodyPost_ret (results_none rfl _ _ _) rfl ?_
              rw [HT.out]
              exact ⟨rfl, R2, HS.out.quiet K7.out⟩
            | false =>
              have hend : s2.rowEnd lo hi = false := by rw [rowEnd_eq, HOP.out, HB1.out, HB2.out]; rfl
              have hk : s2.hd.kind ≠ 0 := by
                intro h0
                have : s2.rowEnd lo hi = true := by simp [PS.rowEnd, h0]
                rw [this] at hend
                exact absurd hend (by decide)
              have HOn := Lib.hid (on_st hg2 (StQ.start K7.out.1) hk)
              have hg3 := hg2.on1 hk
              have hl3 := hg2.on_len
              have HC0 : Hid ((match (if s2.on.boolN op = true then s2.on.on else s2.on).group sOn sIgn 3 4 with
                | .error e => .error e
                | .ok (s3, g, l) => match part s3 with
                  | .error e => .error e
                  | .ok s4 => rowF part lo hi m (s4.lay (binN op g l (s2.on.boolN op)))) = r) := by
                have e := HR.out
                rw [rowF, if_neg (show ¬ s2.rowEnd lo hi = true from by rw [hend]; decide), HOP.out] at e
                exact e
              clear hk hend HR
              go_upto_region 6 with fail
              refine (HOn.out).mono ?_
              rintro e w8 ⟨rfl, k8⟩
              have K8 := Lib.hid (K7.out.next k8)
              have hz8 := K8.out.2.size
              clear k8 HOn K7
              go_upto_region 6 with fail
              have bN : Blk (w8.alloc (.cells #[.int .i64 6, .int .i64 op, .string ⟨#[]⟩, .slice none 0 0, .int .i64 0, .int .i64 0, .int .i64 0, .slice none 0 0, .bool false, .int .i64 2] 37)) w8.heap.size 37 (nodC (binN op 0 [] false) none 0 none 0) := Blk.new w8 _ _
              have K9 := Lib.hid (K8.out.below ((Below.refl _ _).alloc (Nat.le_refl _) (.cells #[.int .i64 6, .int .i64 op, .string ⟨#[]⟩, .slice none 0 0, .int .i64 0, .int .i64 0, .int .i64 0, .slice none 0 0, .bool false, .int .i64 2] 37)))
              have BN := Lib.hid bN
              have hIs := fun (W : World) (h : StQ P R2 wr s2.on W) => Lib.hid (is_st hg3 (StQ.start h.1) 3 sBool)
              clear bN K8
              go_cut [56] (fun v wx => v = .bool (s2.on.boolN op) ∧ StQ P R2 wr s2.on wx ∧ Blk wx w8.heap.size 37 (nodC (binN op 0 [] false) none 0 none 0))
              case first =>
                by_cases h1 : 5 ≤ op
                · by_cases h2 : op ≤ 10
                  · have HV : Hid (s2.on.boolN op = s2.on.is 3 sBool) := by show _ = _; simp [PS.boolN, h1, h2]
                    have HI9 := hIs _ K9.out
                    go_wp2_with fail
                    refine (HI9.out).mono ?_
                    rintro e w9 ⟨rfl, k9⟩
                    have b9 := BN.out.fr k9.2 (by omega)
                    have K10 := K9.out.next k9
                    clear k9
                    go_wp2_with fail
                    go_meet
                    exact ⟨by rw [HV.out], K10, b9⟩
                  · have HV : Hid (s2.on.boolN op = false) := by show _ = _; simp [PS.boolN, h2]
                    go_wp2_with fail
                    go_meet
                    exact ⟨by rw [HV.out], K9.out, BN.out⟩
                · have HV : Hid (s2.on.boolN op = false) := by show _ = _; simp [PS.boolN, h1]
                  go_wp2_with fail
                  go_meet
                  exact ⟨by rw [HV.out], K9.out, BN.out⟩
              case rest =>
                clear K9 BN hIs
                obtain ⟨rfl, k9, b9⟩ := hcut
                have K9 := Lib.hid k9
                have BN := Lib.hid b9
                clear k9 b9
                generalize hbb : s2.on.boolN op = bb at *
                have HBB := Lib.hid hbb
                clear hbb
                go_upto_if 56 with fail
                go_cut [57] (fun _ wx => Hid (StQ P R2 wr (if bb = true then s2.on.on else s2.on) wx ∧ Blk wx w8.heap.size 37 (nodC (binN op 0 [] bb) none 0 none 0)))
                case first =>
                  cases bb with
                  | true =>
                    have hk : s2.on.hd.kind ≠ 0 := by
                      have e := HBB.out
                      simp only [PS.boolN, Bool.and_eq_true] at e
                      rw [is_kind e.2]; decide
                    have HOn := Lib.hid (on_st hg3 (StQ.start K9.out.1) hk)
                    clear hk
                    go_wp2_with fail
                    refine (HOn.out).mono ?_
                    rintro e w10 ⟨rfl, k10⟩
                    have b10 := BN.out.fr k10.2 (by omega)
                    have K10 := Lib.hid (K9.out.next k10)
                    have c8 := b10.cell (j := 8) rfl
                    have cf := b10.frozen
                    have cl := b10.lt
                    have B10 := Lib.hid b10
                    clear k10 b10 HOn
                    go_wp2_with fail
                    go_meet
                    exact ⟨K10.out.setN HS.out.1 rfl hz8 8 _, B10.out.set 8 (.bool true)⟩
                  | false =>
                    go_wp2_with fail
                    go_meet
                    exact ⟨K9.out, BN.out⟩
                case rest =>
                  clear K9 BN
                  obtain ⟨k10, b10⟩ := hcut.out
                  have HgB : Hid (PGood (M' - 1) (if bb = true then s2.on.on else s2.on) ∧ (if bb = true then s2.on.on else s2.on).toks.length ≤ s2.on.toks.length ∧ (if bb = true then s2.on.on else s2.on).out = s2.out) := by
                    cases bb with
                    | true =>
                      have hk : s2.on.hd.kind ≠ 0 := by
                        have e := HBB.out
                        simp only [PS.boolN, Bool.and_eq_true] at e
                        rw [is_kind e.2]; decide
                      exact ⟨hg3.on hk, by show s2.on.on.toks.length ≤ _; have := hg3.on_len; omega, rfl⟩
                    | false => exact ⟨hg3, Nat.le_refl _, rfl⟩
                  generalize (if bb = true then s2.on.on else s2.on) = sB at *
                  obtain ⟨hgB, hlB, hoB⟩ := HgB.out
                  have hz10 : w8.heap.size < wc.heap.size := b10.lt
                  have HGr := Lib.hid (pgroup_any (M := M' - 1) (by omega) hgB k10 HS.out.1 hoB hz8 (binN op 0 [] bb) ⟨rfl, rfl, rfl⟩ b10 sOn sIgn 3 4)
                  have HoB := Lib.hid hoB
                  clear hcut k10 b10 hoB HgB
                  go_wp2_with fail
                  refine (HGr.out).mono ?_
                  intro e w11 hres
                  cases hgr : sB.group sOn sIgn 3 4 with
                  | error z =>
                    have HT : Hid (r = .error z) := by show _ = _; rw [← HC0.out, hgr]
                    rw [hgr] at hres
                    obtain ⟨rfl, hf⟩ := hres
                    have hf2 := HS.out.failQ hf
                    clear hgr
                    go_wp2_with fail
                    refine ⟨rfl, ?_⟩
                    rw [HT.out]
                    exact ⟨rfl, hf2⟩
                  | ok q =>
                    obtain ⟨s3, g, l⟩ := q
                    have hst := (group_step hgr).1
                    have hgS := hst.good _ hgB
                    have hlS := hst.len _ hgB
                    have HC1 : Hid ((match part s3 with
                      | .error e => .error e
                      | .ok s4 => rowF part lo hi m (s4.lay (binN op g l bb))) = r) := by show _ = _; rw [← HC0.out, hgr]
                    rw [hgr] at hres
                    obtain ⟨rfl, k11, An, cn, b11, o11⟩ := hres
                    have HPt := Lib.hid (HP.out _ _ s3 w11 (by omega) hgS (by omega) k11.1)
                    have K11 := Lib.hid k11
                    have B11 := Lib.hid b11
                    have O11 := Lib.hid o11
                    have hRn : some w8.heap.size ≠ R2.1.map Addr.block := fun e => by have := (HS.out.1.above e.symm).2; omega
                    clear hgr hst k11 b11 o11 HC0 HGr
                    go_wp2_with fail
                    refine (HPt.out).mono ?_
                    intro e w12 hres
                    cases hpt : part s3 with
                    | error z =>
                      have HT : Hid (r = .error z) := by show _ = _; rw [← HC1.out, hpt]
                      rw [hpt] at hres
                      obtain ⟨rfl, hf⟩ := hres
                      have hf2 := (HS.out.quiet K11.out).fail hf
                      clear hpt
                      go_wp2_with fail
                      refine ⟨rfl, ?_⟩
                      rw [HT.out]
                      exact ⟨rfl, hf2⟩
                    | ok s4 =>
                      obtain ⟨_, hk4⟩ := HK.out _ _ hpt
                      obtain ⟨hg4, hl4⟩ := hk4 _ hgS
                      have HC2 : Hid (rowF part lo hi m (s4.lay (binN op g l bb)) = r) := by show _ = _; rw [← HC1.out, hpt]
                      rw [hpt] at hres
                      obtain ⟨rfl, R4, hS4⟩ := hres
                      have hgL := hg4.lay (binN op g l bb)
                      have b12 := B11.out.frA hS4.2.1 (by omega) hRn
                      have o12 : Own w12 wr.heap.size 9 1 An l.length cn (textsC l) := O11.out.same fun b hb => by
                        have h1 := O11.out.block hb
                        refine hS4.2.1.block b h1.2 (by omega) fun e => ?_
                        have := (HS.out.1.above e).2
                        omega
                      have HNd := Lib.hid (pnode_any P R4 s4 w12 hS4.1 (binN op g l bb) none An 0 cn (Own.nil_ (by decide)) (o12.lower (by omega)) (by have := hg4.room; omega))
                      have S4 := Lib.hid hS4
                      have c0 := b12.cell (j := 0) rfl
                      have c1 := b12.cell (j := 1) rfl
                      have c2 := b12.cell (j := 2) rfl
                      have c3 := b12.cell (j := 3) rfl
                      have c4 := b12.cell (j := 4) rfl
                      have c5 := b12.cell (j := 5) rfl
                      have c6 := b12.cell (j := 6) rfl
                      have c7 := b12.cell (j := 7) rfl
                      have c8 := b12.cell (j := 8) rfl
                      have c9 := b12.cell (j := 9) rfl
                      have cl := b12.lt
                      clear hpt hS4 b12 o12 HC1 HPt hk4 B11 O11
                      go_wp2_with fail
                      refine (HNd.out).mono ?_
                      rintro e w13 ⟨rfl, R5, hS5⟩
                      have S5 := Lib.hid (((HS.out.quiet K11.out).next S4.out).next hS5)
                      have hlen := S5.out.1.lenAt
                      have hll : (s4.lay (binN op g l bb)).toks.length = s4.toks.length := rfl
                      clear hS5
                      go_wp2_with fail
                      have HF : Hid (RowAt P M' n R w part lo hi r w13) := ⟨_, m, R5, S5.out, hgL, by omega, by omega, HC2.out⟩
                      clear S5 HC2 HNd hgL
                      go_roundw
                      case rel =>
                        exact HF
                      case measure => rw [hlen, HLen.out]; omega
end Go.Proofs.Ytdikmklijpcjdaa
