/- How a query is read: what gives up is caught. -/
import Derived.Test.YtakfnojiaakfpaaGreatDoorParV
import Derived.Defers
import Derived.Recover
namespace Go.Proofs.YtakfnojiaakfpaaGreatDoor
section
/-! ## ParY -/
open Go.RowKit
attribute [local go_sem ↓] Go.wp_at_zero Go.wp_at_succ tok_f0 tok_f2 tok_f3

def rowE1 (k op lo hi : Int) : Bool := (decide (k ≠ 5) && decide (k ≠ 3)) || decide (op < lo) || decide (hi < op)
def rowE2 (op lo : Int) : Bool := decide (lo = 11) && decide (op = 12)
theorem rowEnd_eq (s : PS) (lo hi : Int) : s.rowEnd lo hi = (rowE1 s.hd.kind (numW opsL s.hd.text) lo hi || rowE2 (numW opsL s.hd.text) lo) := rfl
theorem rd_size {w : World} {B g : Nat} {l : List ByteArray} {x : ByteArray} (hx : l[0]? = some x) (h : Rd w B 1 (some ⟨g, 0, none⟩) (textsC l)) : g + 1 ≤ w.heap.size := by
  obtain ⟨b, o, e, hb, hc⟩ := h.at1 (textsC_at hx)
  injection e with e
  injection e with e1 e2
  subst e1
  exact World.block_lt_of_cell? w _ hc
/-- A row that is being read. -/
def RowAt (P M n : Nat) (R0 : Option Addr × Nat) (w0 : World) (part : PS → Rp PS) (lo hi : Int) (r : Rp PS) (w : World) : Prop :=
  ∃ s m R, St P R0 w0 R s w ∧ PGood M s ∧ s.toks.length ≤ m ∧ s.toks.length ≤ n ∧ rowF part lo hi m s = r
set_option maxRecDepth 100000 in
set_option maxHeartbeats 8000000 in
theorem row_any {P M n : Nat} (F : FuncId) {part : PS → Rp PS} (lo hi : Int) (hF : ∀ (args : Array Value) (w : World), (callFunc F args).run Tryz.prog w = .ok (.enter F args) w) (hMM : M ≤ 1000000) (hp : PartC P M F #[.pointer (some ⟨P, 0, none⟩)] part (fun s => s.toks.length ≤ n)) (hok : PartOk part) :
    PartC P M 61 #[.pointer (some ⟨P, 0, none⟩), .func (.func F) #[.pointer (some ⟨P, 0, none⟩)] #[], .int .i64 lo, .int .i64 hi] (rowP part lo hi) (fun s => s.toks.length ≤ n) := by
  intro M' R s w hM hg hl h
  have HP := Lib.hid hp
  have HK := Lib.hid hok
  have HG := Lib.hid hg
  have H1 := Lib.hid (hp M' R s w hM hg hl h)
  clear hp hok hg h
  go_enter Tryz.func61, Tryz.ntmps61
  go_wp2_with fail
  refine (H1.out).mono ?_
  intro e w1 hres
  cases hpp : part s with
  | error z =>
    have HT : Hid (rowP part lo hi s = .error z) := by show _ = _; rw [rowP, hpp]
    rw [hpp] at hres
    obtain ⟨rfl, hf⟩ := hres
    clear hpp
    go_wp2_with fail
    refine ⟨rfl, ?_⟩
    rw [HT.out]
    exact ⟨rfl, hf⟩
  | ok s1 =>
    have HT : Hid (rowP part lo hi s = rowF part lo hi s1.toks.length s1) := by show _ = _; rw [rowP, hpp]
    rw [hpp] at hres
    obtain ⟨rfl, R1, hS1⟩ := hres
    obtain ⟨hd1, hk1⟩ := HK.out _ _ hpp
    obtain ⟨hg1, hl1⟩ := hk1 M' HG.out
    have HI : Hid (RowAt P M' n R w part lo hi (rowP part lo hi s) w1) := ⟨s1, _, R1, hS1, hg1, Nat.le_refl _, by omega, HT.out.symm⟩
    generalize rowP part lo hi s = r at *
    clear hpp hS1 hd1 hk1 hg1 hl1 HT H1 HG hl
    go_wp2_with fail
    go_loopw [] (fun wr => Hid (RowAt P M' n R w part lo hi r wr)) (fun wr => lenAt P wr)
    case atStart => exact HI
    case round =>
      clear HI
      obtain ⟨s2, m, R2, hS2, hg2, hm, hl2, hr⟩ := hrel.out
      have hpos := hg2.pos
      obtain ⟨m, rfl⟩ : ∃ m', m = m' + 1 := ⟨m - 1, by omega⟩
      have HLen := Lib.hid hS2.1.lenAt
      have HS := Lib.hid hS2
      have HR := Lib.hid hr
      have hPl := hS2.1.lt
      have hbd := numW_bd opsL s2.hd.text
      clear hrel hS2 hr hpos
      go_upto_region 2 with fail
      refine (pops_any _).mono ?_
      rintro e w3 ⟨rfl, hr3, hb3⟩
      have K3 := Lib.hid ((StQ.start HS.out.1).below hb3)
      have HN3 := Lib.hid (now_any P R2 s2 M' w3 hg2 K3.out.1)
      have hz3 : wr.heap.size + 1 ≤ w3.heap.size := rd_size (l := opsL) rfl hr3
      have HR3 := Lib.hid hr3
      clear hb3 hr3
      go_upto_region 2 with fail
      refine (HN3.out).mono ?_
      rintro e w4 ⟨rfl, hb4⟩
      have K4 := Lib.hid (K3.out.below hb4)
      have HNu := Lib.hid (numops_any s2.hd.text w4 wr.heap.size (HR3.out.below (hb4.mono hz3)))
      clear hb4 HN3 K3 HR3 hz3
      go_upto_region 2 with fail
      refine (HNu.out).mono ?_
      rintro e w5 ⟨rfl, rfl⟩
      generalize hop : numW opsL s2.hd.text = op at hbd ⊢
      have HOP := Lib.hid hop
      clear hop HNu
      go_upto_region 2 with fail
      have HN4 := fun (W : World) (h : StQ P R2 wr s2 W) => Lib.hid (now_any P R2 s2 M' W hg2 h.1)
      go_cut [36] (fun v wx => v = .bool (rowE1 s2.hd.kind op lo hi) ∧ StQ P R2 wr s2 wx)
      case first =>
        by_cases hk5 : s2.hd.kind = 5
        · have hkb : (s2.hd.kind != 5) = false := by rw [hk5]; rfl
          have HE : Hid (rowE1 s2.hd.kind op lo hi = (decide (op < lo) || decide (hi < op))) := by show _ = _; rw [rowE1, hk5]; rfl
          clear hk5
          go_wp2_with fail
          refine ((HN4 _ K4.out).out).mono ?_
          rintro e w6 ⟨rfl, hb6⟩
          have K6 := Lib.hid (K4.out.below hb6)
          clear hb6
          by_cases h1 : op < lo
          · have HV : Hid (rowE1 s2.hd.kind op lo hi = true) := by show _ = _; rw [HE.out]; simp [h1]
            clear HE
            go_wp2_with fail
            go_meet
            exact ⟨by rw [HV.out], K6.out⟩
          · by_cases h2 : hi < op
            · have HV : Hid (rowE1 s2.hd.kind op lo hi = true) := by show _ = _; rw [HE.out]; simp [h2]
              clear HE
              go_wp2_with fail
              go_meet
              exact ⟨by rw [HV.out], K6.out⟩
            · have HV : Hid (rowE1 s2.hd.kind op lo hi = false) := by show _ = _; rw [HE.out]; simp [h1, h2]
              clear HE
              go_wp2_with fail
              go_meet
              exact ⟨by rw [HV.out]; simp [h1, h2], K6.out⟩
        · have hkb : (s2.hd.kind != 5) = true := by rw [bne_iff_ne]; exact hk5
          by_cases hk3 : s2.hd.kind = 3
          · have hkb3 : (s2.hd.kind != 3) = false := by rw [hk3]; rfl
            have HE : Hid (rowE1 s2.hd.kind op lo hi = (decide (op < lo) || decide (hi < op))) := by show _ = _; rw [rowE1, hk3]; rfl
            clear hk5 hk3
            go_wp2_with fail
            refine ((HN4 _ K4.out).out).mono ?_
            rintro e w6 ⟨rfl, hb6⟩
            have K6 := Lib.hid (K4.out.below hb6)
            clear hb6
            go_wp2_with fail
            refine ((HN4 _ K6.out).out).mono ?_
            rintro e w7 ⟨rfl, hb7⟩
            have K7 := Lib.hid (K6.out.below hb7)
            clear hb7
            by_cases h1 : op < lo
            · have HV : Hid (rowE1 s2.hd.kind op lo hi = true) := by show _ = _; rw [HE.out]; simp [h1]
              clear HE
              go_wp2_with fail
              go_meet
              exact ⟨by rw [HV.out], K7.out⟩
            · by_cases h2 : hi < op
              · have HV : Hid (rowE1 s2.hd.kind op lo hi = true) := by show _ = _; rw [HE.out]; simp [h2]
                clear HE
                go_wp2_with fail
                go_meet
                exact ⟨by rw [HV.out], K7.out⟩
              · have HV : Hid (rowE1 s2.hd.kind op lo hi = false) := by show _ = _; rw [HE.out]; simp [h1, h2]
                clear HE
                go_wp2_with fail
                go_meet
                exact ⟨by rw [HV.out]; simp [h1, h2], K7.out⟩
          · have hkb3 : (s2.hd.kind != 3) = true := by rw [bne_iff_ne]; exact hk3
            have HV : Hid (rowE1 s2.hd.kind op lo hi = true) := by show _ = _; simp [rowE1, hk3, hk5]
            clear hk5 hk3
            go_wp2_with fail
            refine ((HN4 _ K4.out).out).mono ?_
            rintro e w6 ⟨rfl, hb6⟩
            have K6 := Lib.hid (K4.out.below hb6)
            clear hb6
            go_wp2_with fail
            refine ((HN4 _ K6.out).out).mono ?_
            rintro e w7 ⟨rfl, hb7⟩
            have K7 := Lib.hid (K6.out.below hb7)
            clear hb7
            go_wp2_with fail
            go_meet
            exact ⟨by rw [HV.out], K7.out⟩
      case rest =>
        obtain ⟨rfl, k7⟩ := hcut
        have K7 := Lib.hid k7
        clear k7 K4 HN4
        generalize hb1 : rowE1 s2.hd.kind op lo hi = b1 at *
        have HB1 := Lib.hid hb1
        clear hb1
        cases b1 with
        | true =>
          have HT : Hid (r = .ok s2) := by show _ = _; rw [← HR.out, rowF, if_pos (by rw [rowEnd_eq, HOP.out, HB1.out]; rfl)]
          go_wp2_with fail
          first | go_end0 | refine bodyPost_ret (results_none rfl _ _ _) rfl ?_
          rw [HT.out]
          exact ⟨rfl, R2, HS.out.quiet K7.out⟩
        | false =>
          go_upto_region 3 with fail
          go_cut [42] (fun v wx => v = .bool (rowE2 op lo) ∧ wx = wc)
          case first =>
            by_cases h1 : lo = 11
            · have h1b : (lo == 11) = true := by rw [beq_iff_eq]; exact h1
              by_cases h2 : op = 12
              · have h2b : (op == 12) = true := by rw [beq_iff_eq]; exact h2
                have HV : Hid (rowE2 op lo = true) := by show _ = _; simp [rowE2, h1, h2]
                clear h1 h2
                go_wp2_with fail
                go_meet
                exact ⟨by rw [HV.out], rfl⟩
              · have h2b : (op == 12) = false := by rw [beq_eq_false_iff_ne]; exact h2
                have HV : Hid (rowE2 op lo = false) := by show _ = _; simp [rowE2, h2]
                clear h1 h2
                go_wp2_with fail
                go_meet
                exact ⟨by rw [HV.out], rfl⟩
            · have h1b : (lo == 11) = false := by rw [beq_eq_false_iff_ne]; exact h1
              have HV : Hid (rowE2 op lo = false) := by show _ = _; simp [rowE2, h1]
              clear h1
              go_wp2_with fail
              go_meet
              exact ⟨by rw [HV.out], rfl⟩
          case rest =>
            obtain ⟨rfl, rfl⟩ := hcut
            generalize hb2 : rowE2 op lo = b2 at *
            have HB2 := Lib.hid hb2
            clear hb2
            cases b2 with
            | true =>
              have HT : Hid (r = .ok s2) := by show _ = _; rw [← HR.out, rowF, if_pos (by rw [rowEnd_eq, HOP.out, HB1.out, HB2.out]; rfl)]
              go_wp2_with fail
              first | go_end0 | refine bodyPost_ret (results_none rfl _ _ _) rfl ?_
              rw [HT.out]
              exact ⟨rfl, R2, HS.out.quiet K7.out⟩
            | false =>
              have hend : s2.rowEnd lo hi = false := by rw [rowEnd_eq, HOP.out, HB1.out, HB2.out]; rfl
              have hk : s2.hd.kind ≠ 0 := by
                intro h0
                have : s2.rowEnd lo hi = true := by simp [PS.rowEnd, h0]
                rw [this] at hend
                exact absurd hend (by decide)
              have HOn := Lib.hid (on_st hg2 (StQ.start K7.out.1) hk)
              have hg3 := hg2.on1 hk
              have hl3 := hg2.on_len
              have HC0 : Hid ((match (if s2.on.boolN op = true then s2.on.on else s2.on).group sOn sIgn 3 4 with
                | .error e => .error e
                | .ok (s3, g, l) => match part s3 with
                  | .error e => .error e
                  | .ok s4 => rowF part lo hi m (s4.lay (binN op g l (s2.on.boolN op)))) = r) := by
                have e := HR.out
                rw [rowF, if_neg (show ¬ s2.rowEnd lo hi = true from by rw [hend]; decide), HOP.out] at e
                exact e
              clear hk hend HR
              go_upto_region 6 with fail
              refine (HOn.out).mono ?_
              rintro e w8 ⟨rfl, k8⟩
              have K8 := Lib.hid (K7.out.next k8)
              have hz8 := K8.out.2.size
              clear k8 HOn K7
              go_upto_region 6 with fail
              have bN : Blk (w8.alloc (.cells #[.int .i64 6, .int .i64 op, .string ⟨#[]⟩, .slice none 0 0, .int .i64 0, .int .i64 0, .int .i64 0, .slice none 0 0, .bool false, .int .i64 2] 41)) w8.heap.size 41 (nodC (binN op 0 [] false) none 0 none 0) := Blk.new w8 _ _
              have K9 := Lib.hid (K8.out.below ((Below.refl _ _).alloc (Nat.le_refl _) (.cells #[.int .i64 6, .int .i64 op, .string ⟨#[]⟩, .slice none 0 0, .int .i64 0, .int .i64 0, .int .i64 0, .slice none 0 0, .bool false, .int .i64 2] 41)))
              have BN := Lib.hid bN
              have hIs := fun (W : World) (h : StQ P R2 wr s2.on W) => Lib.hid (is_st hg3 (StQ.start h.1) 3 sBool)
              clear bN K8
              go_cut [56] (fun v wx => v = .bool (s2.on.boolN op) ∧ StQ P R2 wr s2.on wx ∧ Blk wx w8.heap.size 41 (nodC (binN op 0 [] false) none 0 none 0))
              case first =>
                by_cases h1 : 5 ≤ op
                · by_cases h2 : op ≤ 10
                  · have HV : Hid (s2.on.boolN op = s2.on.is 3 sBool) := by show _ = _; simp [PS.boolN, h1, h2]
                    have HI9 := hIs _ K9.out
                    go_wp2_with fail
                    refine (HI9.out).mono ?_
                    rintro e w9 ⟨rfl, k9⟩
                    have b9 := BN.out.fr k9.2 (by omega)
                    have K10 := K9.out.next k9
                    clear k9
                    go_wp2_with fail
                    go_meet
                    exact ⟨by rw [HV.out], K10, b9⟩
                  · have HV : Hid (s2.on.boolN op = false) := by show _ = _; simp [PS.boolN, h2]
                    go_wp2_with fail
                    go_meet
                    exact ⟨by rw [HV.out], K9.out, BN.out⟩
                · have HV : Hid (s2.on.boolN op = false) := by show _ = _; simp [PS.boolN, h1]
                  go_wp2_with fail
                  go_meet
                  exact ⟨by rw [HV.out], K9.out, BN.out⟩
              case rest =>
                clear K9 BN hIs
                obtain ⟨rfl, k9, b9⟩ := hcut
                have K9 := Lib.hid k9
                have BN := Lib.hid b9
                clear k9 b9
                generalize hbb : s2.on.boolN op = bb at *
                have HBB := Lib.hid hbb
                clear hbb
                go_upto_if 56 with fail
                go_cut [57] (fun _ wx => Hid (StQ P R2 wr (if bb = true then s2.on.on else s2.on) wx ∧ Blk wx w8.heap.size 41 (nodC (binN op 0 [] bb) none 0 none 0)))
                case first =>
                  cases bb with
                  | true =>
                    have hk : s2.on.hd.kind ≠ 0 := by
                      have e := HBB.out
                      simp only [PS.boolN, Bool.and_eq_true] at e
                      rw [is_kind e.2]; decide
                    have HOn := Lib.hid (on_st hg3 (StQ.start K9.out.1) hk)
                    clear hk
                    go_wp2_with fail
                    refine (HOn.out).mono ?_
                    rintro e w10 ⟨rfl, k10⟩
                    have b10 := BN.out.fr k10.2 (by omega)
                    have K10 := Lib.hid (K9.out.next k10)
                    have c8 := b10.cell (j := 8) rfl
                    have cf := b10.frozen
                    have cl := b10.lt
                    have B10 := Lib.hid b10
                    clear k10 b10 HOn
                    go_wp2_with fail
                    go_meet
                    exact ⟨K10.out.setN HS.out.1 rfl hz8 8 _, B10.out.set 8 (.bool true)⟩
                  | false =>
                    go_wp2_with fail
                    go_meet
                    exact ⟨K9.out, BN.out⟩
                case rest =>
                  clear K9 BN
                  obtain ⟨k10, b10⟩ := hcut.out
                  have HgB : Hid (PGood (M' - 1) (if bb = true then s2.on.on else s2.on) ∧ (if bb = true then s2.on.on else s2.on).toks.length ≤ s2.on.toks.length ∧ (if bb = true then s2.on.on else s2.on).out = s2.out) := by
                    cases bb with
                    | true =>
                      have hk : s2.on.hd.kind ≠ 0 := by
                        have e := HBB.out
                        simp only [PS.boolN, Bool.and_eq_true] at e
                        rw [is_kind e.2]; decide
                      exact ⟨hg3.on hk, by show s2.on.on.toks.length ≤ _; have := hg3.on_len; omega, rfl⟩
                    | false => exact ⟨hg3, Nat.le_refl _, rfl⟩
                  generalize (if bb = true then s2.on.on else s2.on) = sB at *
                  obtain ⟨hgB, hlB, hoB⟩ := HgB.out
                  have hz10 : w8.heap.size < wc.heap.size := b10.lt
                  have HGr := Lib.hid (pgroup_any (M := M' - 1) (by omega) hgB k10 HS.out.1 hoB hz8 (binN op 0 [] bb) ⟨rfl, rfl, rfl⟩ b10 sOn sIgn 3 4)
                  have HoB := Lib.hid hoB
                  clear hcut k10 b10 hoB HgB
                  go_wp2_with fail
                  refine (HGr.out).mono ?_
                  intro e w11 hres
                  cases hgr : sB.group sOn sIgn 3 4 with
                  | error z =>
                    have HT : Hid (r = .error z) := by show _ = _; rw [← HC0.out, hgr]
                    rw [hgr] at hres
                    obtain ⟨rfl, hf⟩ := hres
                    have hf2 := HS.out.failQ hf
                    clear hgr
                    go_wp2_with fail
                    refine ⟨rfl, ?_⟩
                    rw [HT.out]
                    exact ⟨rfl, hf2⟩
                  | ok q =>
                    obtain ⟨s3, g, l⟩ := q
                    have hst := (group_step hgr).1
                    have hgS := hst.good _ hgB
                    have hlS := hst.len _ hgB
                    have HC1 : Hid ((match part s3 with
                      | .error e => .error e
                      | .ok s4 => rowF part lo hi m (s4.lay (binN op g l bb))) = r) := by show _ = _; rw [← HC0.out, hgr]
                    rw [hgr] at hres
                    obtain ⟨rfl, k11, An, cn, b11, o11⟩ := hres
                    have HPt := Lib.hid (HP.out _ _ s3 w11 (by omega) hgS (by omega) k11.1)
                    have K11 := Lib.hid k11
                    have B11 := Lib.hid b11
                    have O11 := Lib.hid o11
                    have hRn : some w8.heap.size ≠ R2.1.map Addr.block := fun e => by have := (HS.out.1.above e.symm).2; omega
                    clear hgr hst k11 b11 o11 HC0 HGr
                    go_wp2_with fail
                    refine (HPt.out).mono ?_
                    intro e w12 hres
                    cases hpt : part s3 with
                    | error z =>
                      have HT : Hid (r = .error z) := by show _ = _; rw [← HC1.out, hpt]
                      rw [hpt] at hres
                      obtain ⟨rfl, hf⟩ := hres
                      have hf2 := (HS.out.quiet K11.out).fail hf
                      clear hpt
                      go_wp2_with fail
                      refine ⟨rfl, ?_⟩
                      rw [HT.out]
                      exact ⟨rfl, hf2⟩
                    | ok s4 =>
                      obtain ⟨_, hk4⟩ := HK.out _ _ hpt
                      obtain ⟨hg4, hl4⟩ := hk4 _ hgS
                      have HC2 : Hid (rowF part lo hi m (s4.lay (binN op g l bb)) = r) := by show _ = _; rw [← HC1.out, hpt]
                      rw [hpt] at hres
                      obtain ⟨rfl, R4, hS4⟩ := hres
                      have hgL := hg4.lay (binN op g l bb)
                      have b12 := B11.out.frA hS4.2.1 (by omega) hRn
                      have o12 : Own w12 wr.heap.size 9 1 An l.length cn (textsC l) := O11.out.same fun b hb => by
                        have h1 := O11.out.block hb
                        refine hS4.2.1.block b h1.2 (by omega) fun e => ?_
                        have := (HS.out.1.above e).2
                        omega
                      have HNd := Lib.hid (pnode_any P R4 s4 w12 hS4.1 (binN op g l bb) none An 0 cn (Own.nil_ (by decide)) (o12.lower (by omega)) (by have := hg4.room; omega))
                      have S4 := Lib.hid hS4
                      have c0 := b12.cell (j := 0) rfl
                      have c1 := b12.cell (j := 1) rfl
                      have c2 := b12.cell (j := 2) rfl
                      have c3 := b12.cell (j := 3) rfl
                      have c4 := b12.cell (j := 4) rfl
                      have c5 := b12.cell (j := 5) rfl
                      have c6 := b12.cell (j := 6) rfl
                      have c7 := b12.cell (j := 7) rfl
                      have c8 := b12.cell (j := 8) rfl
                      have c9 := b12.cell (j := 9) rfl
                      have cl := b12.lt
                      clear hpt hS4 b12 o12 HC1 HPt hk4 B11 O11
                      go_wp2_with fail
                      refine (HNd.out).mono ?_
                      rintro e w13 ⟨rfl, R5, hS5⟩
                      have S5 := Lib.hid (((HS.out.quiet K11.out).next S4.out).next hS5)
                      have hlen := S5.out.1.lenAt
                      have hll : (s4.lay (binN op g l bb)).toks.length = s4.toks.length := rfl
                      clear hS5
                      go_wp2_with fail
                      have HF : Hid (RowAt P M' n R w part lo hi r w13) := ⟨_, m, R5, S5.out, hgL, by omega, by omega, HC2.out⟩
                      clear S5 HC2 HNd hgL
                      go_roundw
                      case rel =>
                        exact HF
                      case measure => rw [hlen, HLen.out]; omega
end
section
/-! ## ParZ -/
open Go.RowKit
attribute [local go_sem ↓] Go.wp_at_zero Go.wp_at_succ tok_f0 tok_f2 tok_f3

theorem callF_enter {Q : Program} {f : FuncId} {fn : Func} {c : Code} (hf : Q.funcs[f]? = some fn) (hname : (fn.name == "runtime.NumGoroutine") = false) (hb : fn.body = some c) (args : Array Value) (w : World) : (callFunc f args).run Q w = .ok (.enter f args) w := by
  have h1 : fn.name ≠ "runtime.NumGoroutine" := by simpa using hname
  simp [callFunc, hf, h1, hb]
set_option maxRecDepth 100000 in
set_option maxHeartbeats 4000000 in
theorem por_any {P M n : Nat} {part : PS → Rp PS} (hMM : M ≤ 1000000) (hp : PartC P M 62 #[.pointer (some ⟨P, 0, none⟩)] part (fun s => s.toks.length ≤ n)) (hok : PartOk part) :
    PartC P M 28 #[.pointer (some ⟨P, 0, none⟩)] (rowP part 12 12) (fun s => s.toks.length ≤ n) := by
  intro M' R s w hM hg hl h
  have HR := Lib.hid (row_any 62 12 12 (fun args w => callF_enter Tryz.func62 (by kernel_rfl) (by rfl) args w) hMM hp hok M' R s w hM hg hl h)
  have hmf : ∀ (fn : Fn) (first cap : Array Value) (w : World), (Instr.makeFunc fn first cap).run Tryz.prog w = .ok (.func fn first cap) w := fun _ _ _ _ => rfl
  clear hp hok hg h
  go_enter Tryz.func28, Tryz.ntmps28
  go_wp2_with fail
  refine (HR.out).mono ?_
  intro e w1 hres
  cases hr : rowP part 12 12 s with
  | error z =>
    rw [hr] at hres
    obtain ⟨rfl, hf⟩ := hres
    clear hr
    go_wp2_with fail
    exact ⟨rfl, rfl, hf⟩
  | ok s1 =>
    have HT := Lib.hid hr
    rw [hr] at hres
    obtain ⟨rfl, R1, hS1⟩ := hres
    clear hr
    go_wp2_with fail
    first | go_end0 | refine bodyPost_ret (results_none rfl _ _ _) rfl ?_
    rw [HT.out]
    exact ⟨rfl, R1, hS1⟩
set_option maxRecDepth 100000 in
set_option maxHeartbeats 4000000 in
theorem pand_any {P M n : Nat} {part : PS → Rp PS} (hMM : M ≤ 1000000) (hp : PartC P M 97 #[.pointer (some ⟨P, 0, none⟩)] part (fun s => s.toks.length ≤ n)) (hok : PartOk part) :
    PartC P M 62 #[.pointer (some ⟨P, 0, none⟩)] (rowP part 11 13) (fun s => s.toks.length ≤ n) := by
  intro M' R s w hM hg hl h
  have HR := Lib.hid (row_any 97 11 13 (fun args w => callF_enter Tryz.func97 (by kernel_rfl) (by rfl) args w) hMM hp hok M' R s w hM hg hl h)
  have hmf : ∀ (fn : Fn) (first cap : Array Value) (w : World), (Instr.makeFunc fn first cap).run Tryz.prog w = .ok (.func fn first cap) w := fun _ _ _ _ => rfl
  clear hp hok hg h
  go_enter Tryz.func62, Tryz.ntmps62
  go_wp2_with fail
  refine (HR.out).mono ?_
  intro e w1 hres
  cases hr : rowP part 11 13 s with
  | error z =>
    rw [hr] at hres
    obtain ⟨rfl, hf⟩ := hres
    clear hr
    go_wp2_with fail
    exact ⟨rfl, rfl, hf⟩
  | ok s1 =>
    have HT := Lib.hid hr
    rw [hr] at hres
    obtain ⟨rfl, R1, hS1⟩ := hres
    clear hr
    go_wp2_with fail
    first | go_end0 | refine bodyPost_ret (results_none rfl _ _ _) rfl ?_
    rw [HT.out]
    exact ⟨rfl, R1, hS1⟩
set_option maxRecDepth 100000 in
set_option maxHeartbeats 4000000 in
theorem pcmp_any {P M n : Nat} {part : PS → Rp PS} (hMM : M ≤ 1000000) (hp : PartC P M 120 #[.pointer (some ⟨P, 0, none⟩)] part (fun s => s.toks.length ≤ n)) (hok : PartOk part) :
    PartC P M 97 #[.pointer (some ⟨P, 0, none⟩)] (rowP part 5 10) (fun s => s.toks.length ≤ n) := by
  intro M' R s w hM hg hl h
  have HR := Lib.hid (row_any 120 5 10 (fun args w => callF_enter Tryz.func120 (by kernel_rfl) (by rfl) args w) hMM hp hok M' R s w hM hg hl h)
  have hmf : ∀ (fn : Fn) (first cap : Array Value) (w : World), (Instr.makeFunc fn first cap).run Tryz.prog w = .ok (.func fn first cap) w := fun _ _ _ _ => rfl
  clear hp hok hg h
  go_enter Tryz.func97, Tryz.ntmps97
  go_wp2_with fail
  refine (HR.out).mono ?_
  intro e w1 hres
  cases hr : rowP part 5 10 s with
  | error z =>
    rw [hr] at hres
    obtain ⟨rfl, hf⟩ := hres
    clear hr
    go_wp2_with fail
    exact ⟨rfl, rfl, hf⟩
  | ok s1 =>
    have HT := Lib.hid hr
    rw [hr] at hres
    obtain ⟨rfl, R1, hS1⟩ := hres
    clear hr
    go_wp2_with fail
    first | go_end0 | refine bodyPost_ret (results_none rfl _ _ _) rfl ?_
    rw [HT.out]
    exact ⟨rfl, R1, hS1⟩
set_option maxRecDepth 100000 in
set_option maxHeartbeats 4000000 in
theorem psum_any {P M n : Nat} {part : PS → Rp PS} (hMM : M ≤ 1000000) (hp : PartC P M 136 #[.pointer (some ⟨P, 0, none⟩)] part (fun s => s.toks.length ≤ n)) (hok : PartOk part) :
    PartC P M 120 #[.pointer (some ⟨P, 0, none⟩)] (rowP part 1 2) (fun s => s.toks.length ≤ n) := by
  intro M' R s w hM hg hl h
  have HR := Lib.hid (row_any 136 1 2 (fun args w => callF_enter Tryz.func136 (by kernel_rfl) (by rfl) args w) hMM hp hok M' R s w hM hg hl h)
  have hmf : ∀ (fn : Fn) (first cap : Array Value) (w : World), (Instr.makeFunc fn first cap).run Tryz.prog w = .ok (.func fn first cap) w := fun _ _ _ _ => rfl
  clear hp hok hg h
  go_enter Tryz.func120, Tryz.ntmps120
  go_wp2_with fail
  refine (HR.out).mono ?_
  intro e w1 hres
  cases hr : rowP part 1 2 s with
  | error z =>
    rw [hr] at hres
    obtain ⟨rfl, hf⟩ := hres
    clear hr
    go_wp2_with fail
    exact ⟨rfl, rfl, hf⟩
  | ok s1 =>
    have HT := Lib.hid hr
    rw [hr] at hres
    obtain ⟨rfl, R1, hS1⟩ := hres
    clear hr
    go_wp2_with fail
    first | go_end0 | refine bodyPost_ret (results_none rfl _ _ _) rfl ?_
    rw [HT.out]
    exact ⟨rfl, R1, hS1⟩
set_option maxRecDepth 100000 in
set_option maxHeartbeats 4000000 in
theorem pterm_any {P M n : Nat} {part : PS → Rp PS} (hMM : M ≤ 1000000) (hp : PartC P M 145 #[.pointer (some ⟨P, 0, none⟩)] part (fun s => s.toks.length ≤ n)) (hok : PartOk part) :
    PartC P M 136 #[.pointer (some ⟨P, 0, none⟩)] (rowP part 3 4) (fun s => s.toks.length ≤ n) := by
  intro M' R s w hM hg hl h
  have HR := Lib.hid (row_any 145 3 4 (fun args w => callF_enter Tryz.func145 (by kernel_rfl) (by rfl) args w) hMM hp hok M' R s w hM hg hl h)
  have hmf : ∀ (fn : Fn) (first cap : Array Value) (w : World), (Instr.makeFunc fn first cap).run Tryz.prog w = .ok (.func fn first cap) w := fun _ _ _ _ => rfl
  clear hp hok hg h
  go_enter Tryz.func136, Tryz.ntmps136
  go_wp2_with fail
  refine (HR.out).mono ?_
  intro e w1 hres
  cases hr : rowP part 3 4 s with
  | error z =>
    rw [hr] at hres
    obtain ⟨rfl, hf⟩ := hres
    clear hr
    go_wp2_with fail
    exact ⟨rfl, rfl, hf⟩
  | ok s1 =>
    have HT := Lib.hid hr
    rw [hr] at hres
    obtain ⟨rfl, R1, hS1⟩ := hres
    clear hr
    go_wp2_with fail
    first | go_end0 | refine bodyPost_ret (results_none rfl _ _ _) rfl ?_
    rw [HT.out]
    exact ⟨rfl, R1, hS1⟩
theorem por_all {P M n : Nat} {u : PS → Rp PS} (hMM : M ≤ 1000000) (hp : PartC P M 145 #[.pointer (some ⟨P, 0, none⟩)] u (fun s => s.toks.length ≤ n)) (hok : PartOk u) :
    PartC P M 28 #[.pointer (some ⟨P, 0, none⟩)] (orP u) (fun s => s.toks.length ≤ n) := by
  have k1 : PartOk (termP u) := rowP_ok hok _ _
  have k2 : PartOk (sumP u) := rowP_ok k1 _ _
  have k3 : PartOk (cmpP u) := rowP_ok k2 _ _
  have k4 : PartOk (andP u) := rowP_ok k3 _ _
  exact por_any hMM (pand_any hMM (pcmp_any hMM (psum_any hMM (pterm_any hMM hp hok) k1) k2) k3) k4
end
section
/-! ## ParI -/
open Go.RowKit
attribute [local go_sem ↓] Go.wp_at_zero Go.wp_at_succ tok_f0 tok_f2 tok_f3

set_option maxRecDepth 100000 in
set_option maxHeartbeats 8000000 in
theorem one_any {P M n : Nat} {e : PS → Rp PS} (hMM : M ≤ 1000000) (hor : PartC P M 28 #[.pointer (some ⟨P, 0, none⟩)] e (fun s => s.toks.length ≤ n)) (hok : PartOk e) :
    PartC P M 154 #[.pointer (some ⟨P, 0, none⟩)] (oneP e) (fun s => s.toks.length ≤ n + 1) := by
  intro M' R s w hM hg hl h
  have HB := Lib.hid (bracket_any hor hok)
  have HBK := Lib.hid (bracketP_ok hok)
  have HN := Lib.hid (now_st hg (StQ.start h))
  have HG := Lib.hid hg
  have H0 := Lib.hid h
  have hP0 := h.lt
  have hbf := numW_bd funcsL s.hd.text
  have hba := numW_bd aggsL s.hd.text
  clear hor hok h
  generalize hf : numW funcsL s.hd.text = f at hbf
  generalize ha : numW aggsL s.hd.text = a at hba
  have HF := Lib.hid hf
  have HA := Lib.hid ha
  clear hf ha
  go_enter Tryz.func154, Tryz.ntmps154
  go_upto_region 1 with fail
  refine (HN.out).mono ?_
  rintro e1 w1 ⟨rfl, k1⟩
  have K1 := Lib.hid k1
  have hz1 := k1.2.size
  clear k1 HN
  go_upto_region 1 with fail
  have bT : Blk (w1.alloc (.cells #[.int .i64 s.hd.kind, .int .i64 s.hd.at_, .string s.hd.text, .int .i64 s.hd.span] 67)) w1.heap.size 67 (tokC s.hd) := Blk.new w1 _ _
  have K2 := Lib.hid (K1.out.below ((Below.refl _ _).alloc (Nat.le_refl _) (.cells #[.int .i64 s.hd.kind, .int .i64 s.hd.at_, .string s.hd.text, .int .i64 s.hd.span] 67)))
  clear K1
  go_cut [3, 4] (fun v3 v4 wx => v3 = .int .i64 f ∧ v4 = .int .i64 a ∧ StQ P R w s wx ∧ Blk wx w1.heap.size 67 (tokC s.hd))
  case first =>
    generalize World.alloc _ _ = W at *
    have t2 := bT.cell (j := 2) rfl
    have hlt := bT.lt
    go_region_held3 (fun w' => w'.cell? ⟨w1.heap.size, 2, none⟩ = some (.string s.hd.text))
      (first | exact t2 | exact t3 | exact t4 | go_keep)
      (first
        | (go_at_call 83; refine (pfuncs_any _).mono ?_; rintro e3 w3 ⟨rfl, hr3, hb3⟩; have hz3 := rd_size (l := funcsL) rfl hr3; have hs3 := hb3.size; have t3 := (hb3.cell (p := ⟨w1.heap.size, 2, none⟩) hlt).trans t2)
        | (go_at_call 112; refine (paggs_any _).mono ?_; rintro e4 w4 ⟨rfl, hr4, hb4⟩; have hz4 := rd_size (l := aggsL) rfl hr4; have hs4 := hb4.size; have t4 := (hb4.cell (p := ⟨w1.heap.size, 2, none⟩) (Nat.lt_of_lt_of_le hlt hs3)).trans t3)
        | (go_at_call 91; go_must (refine (number_any_p _ _ _ _ _ _ _ (by first | exact hr3 | exact hr4) (by rfl) (by simp [maxLen])).mono ?_; rintro e5 w5 ⟨rfl, rfl⟩)))
    all_goals
      have hW3 : Below W.heap.size W w3 := ((Below.refl _ W).drew).trans hb3
      have hW4 := hW3.trans (hb4.mono hW3.size)
      have k4 := K2.out.below hW4
      have b4 := bT.below hW4 hlt
      clear hb3 hb4 hW3 hW4 hr3 hr4 t2 t3 t4
      go_wp2_with fail
      go_meet
      exact ⟨by rw [HF.out], by rw [HA.out], k4, b4⟩
  case rest =>
    clear bT K2
    obtain ⟨rfl, rfl, k4, b4⟩ := hcut
    have K4 := Lib.hid k4
    have c0 := b4.cell (j := 0) rfl
    have c2 := b4.cell (j := 2) rfl
    have cl := b4.lt
    have BT := Lib.hid b4
    have hTP : w1.heap.size ≠ P := by omega
    clear k4 b4
    by_cases hk1 : s.hd.kind = 1
    · have hk1b : (s.hd.kind == 1) = true := by rw [beq_iff_eq]; exact hk1
      have HT : Hid (oneP e s = .ok (s.on.lay (numN s.hd.text))) := by show _ = _; rw [oneP, if_pos hk1]
      have hk : s.hd.kind ≠ 0 := by rw [hk1]; decide
      have HOn := Lib.hid (on_st HG.out (StQ.start K4.out.1) hk)
      have hg1 := HG.out.on hk
      clear hk1 hk
      go_wp2_with fail
      refine (HOn.out).mono ?_
      rintro e1 w5 ⟨rfl, k5⟩
      have b5 := BT.out.fr k5.2 hTP
      have HNd := Lib.hid (pnode_any P R s.on w5 k5.1 (numN s.hd.text) none none 0 0 (Own.nil_ (by decide)) (Own.nil_ (by decide)) (by have := hg1.room; omega))
      have K5 := Lib.hid (K4.out.next k5)
      clear c0 c2 cl
      have c2 := b5.cell (j := 2) rfl
      have cl := b5.lt
      clear k5 b5 HOn
      go_wp2_with fail
      refine (HNd.out).mono ?_
      rintro e1 w6 ⟨rfl, R6, hS6⟩
      have S6 := Lib.hid (K5.out.st.next hS6)
      clear hS6
      go_wp2_with fail
      first | go_end0 | refine bodyPost_ret (results_none rfl _ _ _) rfl ?_
      rw [HT.out]
      exact ⟨rfl, R6, S6.out⟩
    · have hk1b : (s.hd.kind == 1) = false := by rw [beq_eq_false_iff_ne]; exact hk1
      have HK1 := Lib.hid hk1
      have HIs := Lib.hid (is_st HG.out (StQ.start K4.out.1) 5 sO)
      clear hk1
      go_wp2_with fail
      refine (HIs.out).mono ?_
      rintro e1 w5 ⟨rfl, k5⟩
      have b5 := BT.out.fr k5.2 hTP
      have K5 := Lib.hid (K4.out.next k5)
      clear c0 c2 cl
      have c0 := b5.cell (j := 0) rfl
      have c2 := b5.cell (j := 2) rfl
      have cl := b5.lt
      have BT5 := Lib.hid b5
      clear k5 b5 HIs K4 BT
      cases hi : s.is 5 sO with
      | true =>
        have HT : Hid (oneP e s = bracketP e s) := by show _ = _; rw [oneP, if_neg HK1.out, if_pos hi]
        have HBr := Lib.hid (HB.out M' R s w5 hM HG.out hl K5.out.1)
        clear hi
        go_wp2_with fail
        refine (HBr.out).mono ?_
        intro e2 w6 hres
        have hres2 := ResS.st K5.out.st hres
        rw [← HT.out] at hres2
        cases hb : oneP e s with
        | error z =>
          rw [hb] at hres2
          obtain ⟨rfl, hf⟩ := hres2
          clear hb hres
          go_wp2_with fail
          exact ⟨rfl, rfl, hf⟩
        | ok s2 =>
          rw [hb] at hres2
          obtain ⟨rfl, R', hS⟩ := hres2
          have HO := Lib.hid hb
          clear hb hres
          go_wp2_with fail
          first | go_end0 | refine bodyPost_ret (results_none rfl _ _ _) rfl ?_
          rw [HO.out]
          exact ⟨rfl, R', hS⟩
      | false =>
        have HI := Lib.hid hi
        clear hi
        by_cases hk3 : s.hd.kind = 3
        · have hk3b : (s.hd.kind == 3) = true := by rw [beq_iff_eq]; exact hk3
          have hk : s.hd.kind ≠ 0 := by rw [hk3]; decide
          have HK3 := Lib.hid hk3
          have HOn := Lib.hid (on_st HG.out (StQ.start K5.out.1) hk)
          have hg1 := HG.out.on hk
          have hl1 := HG.out.on_len
          clear hk3 hk
          by_cases hf : 0 < f
          · have HT : Hid (oneP e s = match bracketP e s.on with | .error x => .error x | .ok s1 => .ok (s1.lay (callN f))) := by show _ = _; rw [oneP, if_neg HK1.out, if_neg (by rw [HI.out]; decide), if_pos ⟨HK3.out, by rw [HF.out]; exact hf⟩, HF.out]; rfl
            go_wp2_with fail
            refine (HOn.out).mono ?_
            rintro e2 w6 ⟨rfl, k6⟩
            have K6 := Lib.hid (K5.out.next k6)
            have HBr := Lib.hid (HB.out M' R s.on w6 hM hg1 (by omega) k6.1)
            clear k6 HOn
            go_wp2_with fail
            refine (HBr.out).mono ?_
            intro e3 w7 hres
            cases hb : bracketP e s.on with
            | error z =>
              have HT2 : Hid (oneP e s = .error z) := by show _ = _; rw [HT.out, hb]
              rw [hb] at hres
              obtain ⟨rfl, hf⟩ := hres
              have hf2 := K6.out.st.fail hf
              clear hb
              go_wp2_with fail
              refine ⟨rfl, ?_⟩
              rw [HT2.out]
              exact ⟨rfl, hf2⟩
            | ok s1 =>
              have HT2 : Hid (oneP e s = .ok (s1.lay (callN f))) := by show _ = _; rw [HT.out, hb]
              have hg2 := ((HBK.out _ _ hb).2 _ hg1).1
              rw [hb] at hres
              obtain ⟨rfl, R7, hS⟩ := hres
              have HNd := Lib.hid (pnode_any P R7 s1 w7 hS.1 (callN f) none none 0 0 (Own.nil_ (by decide)) (Own.nil_ (by decide)) (by have := hg2.room; omega))
              have S7 := Lib.hid (K6.out.st.next hS)
              clear hb hS HBr
              go_wp2_with fail
              refine (HNd.out).mono ?_
              rintro e4 w8 ⟨rfl, R8, hS8⟩
              have S8 := Lib.hid (S7.out.next hS8)
              clear hS8
              go_wp2_with fail
              first | go_end0 | refine bodyPost_ret (results_none rfl _ _ _) rfl ?_
              rw [HT2.out]
              exact ⟨rfl, R8, S8.out⟩
          · by_cases ha : 0 < a
            · have HT : Hid (oneP e s = match s.on.group sBy sWithout 1 2 with
                | .error x => .error x
                | .ok (s1, g, l) => match bracketP e s1 with
                  | .error x => .error x
                  | .ok s2 => .ok (s2.lay (aggN a g l))) := by show _ = _; rw [oneP, if_neg HK1.out, if_neg (by rw [HI.out]; decide), if_neg (fun h => hf (by rw [← HF.out]; exact h.2)), if_pos ⟨HK3.out, by rw [HA.out]; exact ha⟩, HA.out]; rfl
              go_wp2_with fail
              refine (HOn.out).mono ?_
              rintro e2 w6 ⟨rfl, k6⟩
              have K6 := Lib.hid (K5.out.next k6)
              have hz6 := K6.out.2.size
              clear k6 HOn
              have hgr := fun (W : World) (k : StQ P R w s.on W) (b : Blk W w6.heap.size 41 (nodC (aggN a 0 []) none 0 none 0)) => Lib.hid (pgroup_any (M := M') (by omega) hg1 k H0.out rfl hz6 (aggN a 0 []) ⟨rfl, rfl, rfl⟩ b sBy sWithout 1 2)
              have HGr := hgr _ (K6.out.below ((Below.refl _ _).alloc (Nat.le_refl _) (.cells #[.int .i64 5, .int .i64 a, .string ⟨#[]⟩, .slice none 0 0, .int .i64 0, .int .i64 0, .int .i64 0, .slice none 0 0, .bool false, .int .i64 1] 41))) (Blk.new w6 _ _)
              clear hgr
              go_wp2_with fail
              refine (HGr.out).mono ?_
              intro e3 w7 hres
              cases hgp : s.on.group sBy sWithout 1 2 with
              | error z =>
                have HT2 : Hid (oneP e s = .error z) := by show _ = _; rw [HT.out, hgp]
                rw [hgp] at hres
                obtain ⟨rfl, hf⟩ := hres
                clear hgp
                go_wp2_with fail
                refine ⟨rfl, ?_⟩
                rw [HT2.out]
                exact ⟨rfl, hf.weak⟩
              | ok q =>
                obtain ⟨s1, g, l⟩ := q
                have HT2 : Hid (oneP e s = match bracketP e s1 with
                  | .error x => .error x
                  | .ok s2 => .ok (s2.lay (aggN a g l))) := by show _ = _; rw [HT.out, hgp]
                have hst := (group_step hgp).1
                have hgS := (hst.good _ hg1).more (M' := M') (by omega)
                have hlS := hst.len _ hg1
                rw [hgp] at hres
                obtain ⟨rfl, k7, An, cn, b7, o7⟩ := hres
                have HBr := Lib.hid (HB.out M' R s1 w7 hM hgS (by omega) k7.1)
                have hRn : some w6.heap.size ≠ R.1.map Addr.block := fun e => by have := (H0.out.above e.symm).2; omega
                have K7 := Lib.hid k7
                have B7 := Lib.hid b7
                have O7 := Lib.hid o7
                clear hgp hst k7 b7 o7 HGr
                go_wp2_with fail
                refine (HBr.out).mono ?_
                intro e4 w8 hres
                cases hb : bracketP e s1 with
                | error z =>
                  have HT3 : Hid (oneP e s = .error z) := by show _ = _; rw [HT2.out, hb]
                  rw [hb] at hres
                  obtain ⟨rfl, hf⟩ := hres
                  have hf2 := K7.out.st.fail hf
                  clear hb
                  go_wp2_with fail
                  refine ⟨rfl, ?_⟩
                  rw [HT3.out]
                  exact ⟨rfl, hf2⟩
                | ok s2 =>
                  have HT3 : Hid (oneP e s = .ok (s2.lay (aggN a g l))) := by show _ = _; rw [HT2.out, hb]
                  have hg2 := ((HBK.out _ _ hb).2 _ hgS).1
                  rw [hb] at hres
                  obtain ⟨rfl, R8, hS⟩ := hres
                  have b8 := B7.out.frA hS.2.1 (by omega) hRn
                  have o8 : Own w8 w.heap.size 9 1 An l.length cn (textsC l) := O7.out.same fun b hb => by
                    have h1 := O7.out.block hb
                    refine hS.2.1.block b h1.2 (by omega) fun e => ?_
                    have := (H0.out.above e).2
                    omega
                  have HNd := Lib.hid (pnode_any P R8 s2 w8 hS.1 (aggN a g l) none An 0 cn (Own.nil_ (by decide)) (o8.lower (by omega)) (by have := hg2.room; omega))
                  have S8 := Lib.hid (K7.out.st.next hS)
                  have n0 := b8.cell (j := 0) rfl
                  have n1 := b8.cell (j := 1) rfl
                  have n2 := b8.cell (j := 2) rfl
                  have n3 := b8.cell (j := 3) rfl
                  have n4 := b8.cell (j := 4) rfl
                  have n5 := b8.cell (j := 5) rfl
                  have n6 := b8.cell (j := 6) rfl
                  have n7 := b8.cell (j := 7) rfl
                  have n8 := b8.cell (j := 8) rfl
                  have n9 := b8.cell (j := 9) rfl
                  have nl := b8.lt
                  clear hb hS HBr b8 o8 B7 O7
                  go_wp2_with fail
                  refine (HNd.out).mono ?_
                  rintro e5 w9 ⟨rfl, R9, hS9⟩
                  have S9 := Lib.hid (S8.out.next hS9)
                  clear hS9
                  go_wp2_with fail
                  first | go_end0 | refine bodyPost_ret (results_none rfl _ _ _) rfl ?_
                  rw [HT3.out]
                  exact ⟨rfl, R9, S9.out⟩
            · have HT : Hid (oneP e s = chooseP s) := by show _ = _; rw [oneP, if_neg HK1.out, if_neg (by rw [HI.out]; decide), if_neg (fun h => hf (by rw [← HF.out]; exact h.2)), if_neg (fun h => ha (by rw [← HA.out]; exact h.2))]
              have HCh := Lib.hid (choose_any (M := M') (by omega) HG.out K5.out.1)
              go_wp2_with fail
              refine (HCh.out).mono ?_
              intro e2 w6 hres
              have hres2 := ResS.st K5.out.st hres
              rw [← HT.out] at hres2
              cases hb : oneP e s with
              | error z =>
                rw [hb] at hres2
                obtain ⟨rfl, hf⟩ := hres2
                clear hb hres
                go_wp2_with fail
                exact ⟨rfl, rfl, hf⟩
              | ok s2 =>
                rw [hb] at hres2
                obtain ⟨rfl, R', hS⟩ := hres2
                have HO := Lib.hid hb
                clear hb hres
                go_wp2_with fail
                first | go_end0 | refine bodyPost_ret (results_none rfl _ _ _) rfl ?_
                rw [HO.out]
                exact ⟨rfl, R', hS⟩
        · have hk3b : (s.hd.kind == 3) = false := by rw [beq_eq_false_iff_ne]; exact hk3
          have HT : Hid (oneP e s = chooseP s) := by show _ = _; rw [oneP, if_neg HK1.out, if_neg (by rw [HI.out]; decide), if_neg (fun h => hk3 h.1), if_neg (fun h => hk3 h.1)]
          clear hk3
          have HCh := Lib.hid (choose_any (M := M') (by omega) HG.out K5.out.1)
          go_wp2_with fail
          refine (HCh.out).mono ?_
          intro e2 w6 hres
          have hres2 := ResS.st K5.out.st hres
          rw [← HT.out] at hres2
          cases hb : oneP e s with
          | error z =>
            rw [hb] at hres2
            obtain ⟨rfl, hf⟩ := hres2
            clear hb hres
            go_wp2_with fail
            exact ⟨rfl, rfl, hf⟩
          | ok s2 =>
            rw [hb] at hres2
            obtain ⟨rfl, R', hS⟩ := hres2
            have HO := Lib.hid hb
            clear hb hres
            go_wp2_with fail
            first | go_end0 | refine bodyPost_ret (results_none rfl _ _ _) rfl ?_
            rw [HO.out]
            exact ⟨rfl, R', hS⟩
end
section
/-! ## ParJ -/
open Go.RowKit
attribute [local go_sem ↓] Go.wp_at_zero Go.wp_at_succ tok_f0 tok_f2 tok_f3

set_option maxRecDepth 100000 in
set_option maxHeartbeats 4000000 in
theorem unary_step {P M n : Nat} (hMM : M ≤ 1000000) (hu : PartC P M 145 #[.pointer (some ⟨P, 0, none⟩)] (unaryP n) (fun s => s.toks.length ≤ n)) :
    PartC P M 145 #[.pointer (some ⟨P, 0, none⟩)] (unaryP (n + 1)) (fun s => s.toks.length ≤ n + 1) := by
  intro M' R s w hM hg hl h
  have hok := unaryP_ok n
  have HOne := Lib.hid (one_any hMM (por_all hMM hu hok) (orP_ok hok))
  have HU := Lib.hid hu
  have HOK := Lib.hid hok
  have HIs := Lib.hid (is_st hg (StQ.start h) 5 sMinus)
  have HG := Lib.hid hg
  have hmf : ∀ (fn : Fn) (first cap : Array Value) (w : World), (Instr.makeFunc fn first cap).run Tryz.prog w = .ok (.func fn first cap) w := fun _ _ _ _ => rfl
  clear hu hok h
  cases hi : s.is 5 sMinus with
  | false =>
    have HT : Hid (unaryP (n + 1) s = oneP (orP (unaryP n)) s) := by show _ = _; rw [unaryP, if_neg (by rw [hi]; decide)]
    rw [hi] at HIs
    clear hi
    go_enter Tryz.func145, Tryz.ntmps145
    go_wp2_with fail
    refine (HIs.out).mono ?_
    rintro e1 w1 ⟨rfl, k1⟩
    have K1 := Lib.hid k1
    have HO := Lib.hid (HOne.out M' R s w1 hM HG.out hl k1.1)
    clear k1 HIs
    go_wp2_with fail
    refine (HO.out).mono ?_
    intro e2 w2 hres
    have hres2 := ResS.st K1.out.st hres
    rw [← HT.out] at hres2
    cases hb : unaryP (n + 1) s with
    | error z =>
      rw [hb] at hres2
      obtain ⟨rfl, hf⟩ := hres2
      clear hb hres
      go_wp2_with fail
      exact ⟨rfl, rfl, hf⟩
    | ok s2 =>
      rw [hb] at hres2
      obtain ⟨rfl, R', hS⟩ := hres2
      have HO2 := Lib.hid hb
      clear hb hres
      go_wp2_with fail
      first | go_end0 | refine bodyPost_ret (results_none rfl _ _ _) rfl ?_
      rw [HO2.out]
      exact ⟨rfl, R', hS⟩
  | true =>
    have HT : Hid (unaryP (n + 1) s = match openP (unaryP n) s with
      | .error e => .error e
      | .ok s1 => .ok (s1.lay negN)) := by show _ = _; rw [unaryP, if_pos hi]; rfl
    have hk : s.hd.kind ≠ 0 := by rw [is_kind hi]; decide
    have hlen := hg.on_len
    rw [hi] at HIs
    clear hi
    go_enter Tryz.func145, Tryz.ntmps145
    go_wp2_with fail
    refine (HIs.out).mono ?_
    rintro e1 w1 ⟨rfl, k1⟩
    have K1 := Lib.hid k1
    clear k1 HIs
    have HOp := Lib.hid (openU_any (p := unaryP n) HG.out K1.out.1 hk HOK.out (fun hlt w' hP' _ => HU.out M' R _ w' hM (by
      have g := HG.out.on hk
      exact ⟨g.ends, g.room, by show s.deep + 1 ≤ 64; omega, g.text⟩) (by show s.toks.tail.length ≤ n; have : s.on.toks.length = s.toks.tail.length := rfl; omega) hP'))
    have HK := Lib.hid hk
    clear hk
    go_wp2_with fail
    refine (HOp.out).mono ?_
    intro e2 w2 hres
    cases hb : openP (unaryP n) s with
    | error z =>
      have HT2 : Hid (unaryP (n + 1) s = .error z) := by show _ = _; rw [HT.out, hb]
      rw [hb] at hres
      obtain ⟨rfl, hf⟩ := hres
      have hf2 := K1.out.st.fail hf
      clear hb
      go_wp2_with fail
      refine ⟨rfl, ?_⟩
      rw [HT2.out]
      exact ⟨rfl, hf2⟩
    | ok s1 =>
      have HT2 : Hid (unaryP (n + 1) s = .ok (s1.lay negN)) := by show _ = _; rw [HT.out, hb]
      have hg2 := ((openP_ok HOK.out _ _ HK.out hb).2 _ HG.out).1
      rw [hb] at hres
      obtain ⟨rfl, R2, hS⟩ := hres
      have HNd := Lib.hid (pnode_any P R2 s1 w2 hS.1 negN none none 0 0 (Own.nil_ (by decide)) (Own.nil_ (by decide)) (by have := hg2.room; omega))
      have S2 := Lib.hid (K1.out.st.next hS)
      clear hb hS HOp
      go_wp2_with fail
      refine (HNd.out).mono ?_
      rintro e4 w3 ⟨rfl, R3, hS3⟩
      have S3 := Lib.hid (S2.out.next hS3)
      clear hS3
      go_wp2_with fail
      first | go_end0 | refine bodyPost_ret (results_none rfl _ _ _) rfl ?_
      rw [HT2.out]
      exact ⟨rfl, R3, S3.out⟩
theorem unary_all {P M : Nat} (hMM : M ≤ 1000000) : ∀ n, PartC P M 145 #[.pointer (some ⟨P, 0, none⟩)] (unaryP n) (fun s => s.toks.length ≤ n)
  | 0 => fun M' R s w _ hg hl _ => absurd hg.pos.2 (by omega)
  | n + 1 => unary_step hMM (unary_all hMM n)
/-- The whole grammar, off any tokens. -/
theorem read_all {P M : Nat} (hMM : M ≤ 1000000) (n : Nat) : PartC P M 28 #[.pointer (some ⟨P, 0, none⟩)] (orP (unaryP n)) (fun s => s.toks.length ≤ n) := por_all hMM (unary_all hMM n) (unaryP_ok n)
end
section
/-! ## Par1 -/
open Go.RowKit
attribute [local go_sem ↓] Go.wp_at_zero Go.wp_at_succ tok_f0 tok_f2 tok_f3

theorem ta_stop (a b : Value) (w : World) : (Instr.typeAssert (.iface 64 (.agg #[a, b])) 20 64 true).run Tryz.prog w = .ok (.tuple #[.agg #[a, b], .bool true]) w := by kernel_rfl
attribute [local go_sem ↓] ta_stop
set_option maxRecDepth 100000 in
set_option maxHeartbeats 4000000 in
theorem catch_stop {a0 : Nat} {w : World} {v2 v3 v4 : Value} (b2 : Blk w a0 22 [v2]) (b3 : Blk w (a0 + 1) 3 [v3]) (b4 : Blk w (a0 + 2) 23 [v4]) (x : Int × Int) :
    CallsD Tryz.prog 27 #[.pointer (some ⟨a0, 0, none⟩), .pointer (some ⟨a0 + 1, 0, none⟩), .pointer (some ⟨a0 + 2, 0, none⟩)] (.panicking (stopV x)) w fun e u' w' =>
      e = .returned (.tuple #[]) ∧ u' = .panicking [{ v := .iface 64 (.agg #[.int .i64 x.1, .int .i64 x.2]), recovered := true }] ∧
      w'.cell? ⟨a0, 0, none⟩ = some (.slice none 0 0) ∧ w'.cell? ⟨a0 + 1, 0, none⟩ = some (.int .i64 x.2) ∧ w'.cell? ⟨a0 + 2, 0, none⟩ = some (.int .i64 x.1) ∧ Below a0 w w' := by
  refine callsD_of_wpS Tryz.func27 rfl fun c₀ cs hu => ?_
  apply wpS_seq
  apply wpS_region
  simp [wpOpsS, go_sem, recoverD, hu, stopV, Tryz.ntmps27, Exit.thenS]
  refine wpS_of_wp ?_
  refine (fun (h : ∀ (Q : Exit → Act → World → Prop), (∀ (a : Act) (w' : World), a.defers = [] → w'.cell? ⟨a0, 0, none⟩ = some (.slice none 0 0) → w'.cell? ⟨a0 + 1, 0, none⟩ = some (.int .i64 x.2) → w'.cell? ⟨a0 + 2, 0, none⟩ = some (.int .i64 x.1) → Below a0 w w' → Q .normal a w') →
      Code.wp Tryz.prog _ Q { tmps := #[.pointer (some ⟨a0, 0, none⟩), .pointer (some ⟨a0 + 1, 0, none⟩), .pointer (some ⟨a0 + 2, 0, none⟩), .iface 64 (.agg #[.int .i64 x.1, .int .i64 x.2]), undef, undef, .iface 64 (.agg #[.int .i64 x.1, .int .i64 x.2]), undef, undef, undef, undef, undef, undef, undef, undef, undef, undef, undef, undef, undef, undef], defers := [] } w) => h _ ?post) (fun Q hQ => ?walk)
  case post =>
    intro a w' h1 h2 h3 h4 h5
    exact ⟨h1, _, rfl, _, by simp [results, Tryz.results27, go_sem], rfl, rfl, h2, h3, h4, h5⟩
  clear hu
  go_upto_region 5 with fail
  have hz := b4.lt
  have bT : Blk (w.alloc (.cells #[.int .i64 x.1, .int .i64 x.2] 64)) w.heap.size 64 [.int .i64 x.1, .int .i64 x.2] := Blk.new w _ _
  have d2 := b2.alloc (.cells #[.int .i64 x.1, .int .i64 x.2] 64)
  have d3 := b3.alloc (.cells #[.int .i64 x.1, .int .i64 x.2] 64)
  have d4 := b4.alloc (.cells #[.int .i64 x.1, .int .i64 x.2] 64)
  have hb : Below a0 w (w.alloc (.cells #[.int .i64 x.1, .int .i64 x.2] 64)) := (Below.refl _ _).alloc (by omega) _
  clear b2 b3 b4
  generalize World.alloc _ _ = W at *
  have t0 := bT.cell (j := 0) rfl
  have t1 := bT.cell (j := 1) rfl
  have f2 := d2.frozen
  have f3 := d3.frozen
  have f4 := d4.frozen
  have l2 := d2.lt
  have l3 := d3.lt
  have l4 := d4.lt
  have lT := bT.lt
  have c2 := d2.cell (j := 0) rfl
  have c3 := d3.cell (j := 0) rfl
  have c4 := d4.cell (j := 0) rfl
  go_region
  refine hQ _ _ rfl ?_ ?_ ?_ ?_
  · exact (((d2.set 0 _).other (by simp) _).other (by simp) _).cell rfl
  · exact (((d3.other (by simp) _).set 0 _).other (by simp) _).cell rfl
  · exact (((d4.other (by simp) _).other (by simp) _).set 0 _).cell rfl
  · exact (((hb.setCell (p := ⟨a0, 0, none⟩) (Nat.le_refl _) _).setCell (p := ⟨a0 + 1, 0, none⟩) (Nat.le_succ _) _).setCell (p := ⟨a0 + 2, 0, none⟩) (Nat.le_add_right _ _) _).drew
set_option maxRecDepth 100000 in
set_option maxHeartbeats 4000000 in
theorem catch_idle (a0 : Nat) (w : World) :
    CallsD Tryz.prog 27 #[.pointer (some ⟨a0, 0, none⟩), .pointer (some ⟨a0 + 1, 0, none⟩), .pointer (some ⟨a0 + 2, 0, none⟩)] .returning w fun e u' w' =>
      e = .returned (.tuple #[]) ∧ u' = .returning ∧ w' = w := by
  refine callsD_of_wpS Tryz.func27 rfl fun c₀ cs hu => ?_
  apply wpS_seq
  apply wpS_region
  simp [wpOpsS, go_sem, recoverD, hu, Tryz.ntmps27, Exit.thenS]
  refine wpS_of_wp ?_
  refine (fun (h : ∀ (Q : Exit → Act → World → Prop), (∀ (a : Act), a.defers = [] → Q .normal a w) →
      Code.wp Tryz.prog _ Q { tmps := #[.pointer (some ⟨a0, 0, none⟩), .pointer (some ⟨a0 + 1, 0, none⟩), .pointer (some ⟨a0 + 2, 0, none⟩), .nilIface, undef, undef, .nilIface, undef, undef, undef, undef, undef, undef, undef, undef, undef, undef, undef, undef, undef, undef], defers := [] } w) => h _ ?post) (fun Q hQ => ?walk)
  case post =>
    intro a h1
    refine ⟨h1, .returning, ?_, _, by simp [results, Tryz.results27, go_sem], rfl, rfl, rfl⟩
    cases c₀
    simp only at hu
    subst hu
    rfl
  clear hu
  have HQ := Lib.hid hQ
  clear hQ
  go_wp2_with fail
  exact HQ.out _ rfl
end
end Go.Proofs.YtakfnojiaakfpaaGreatDoor
