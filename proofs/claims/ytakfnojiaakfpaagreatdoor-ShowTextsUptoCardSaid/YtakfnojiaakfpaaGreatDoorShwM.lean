/- How a tree is written: any tree, or a refusal. -/
import Derived.Test.YtakfnojiaakfpaaGreatDoorTailB
import Derived.Deep.DeepCutAuto
import Derived.Deep.RegionHeld3
import Derived.Deep.RegionLaw
import Derived.Deep.DrawnRows
namespace Go.Proofs.YtakfnojiaakfpaaGreatDoor
open Go.RowKit
def ShowRes (ns : List Nod) (w : World) (e : Ending) (w' : World) : Prop := e = .returned (.tuple #[.string (showT ns).1, .int .i64 (showT ns).2]) ∧ Below w.heap.size w w'
def okShow (x : Nod) : Prop := okNodT x ∧ (joinT x.names).size ≤ 1000000000000 ∧ x.names.length ≤ 1000000000000
/-- The stack in memory. -/
def StkS (w : World) (base : Nat) (A : Option Addr) (m c : Nat) (st : List Sd) : Prop := Own w base 53 3 A m c (sdsC st)
/-- The loop's round. -/
def RndS (ns : List Nod) (wb : World) (k : Nat) (v : Value) (wr : World) : Prop :=
  ∃ ty st A m c, v = .slice A m c ∧ st.length = m ∧ ShowAt ns k ty st ∧ StkS wr wb.heap.size A m c st ∧ Below wb.heap.size wb wr
section
variable {L1 L2 L3 : Nat}
theorem mem_w1 : ((1 : Int), leafW L1) ∈ writersV L1 L2 L3 := List.mem_cons_self
theorem mem_w2 : ((2 : Int), leafW L2) ∈ writersV L1 L2 L3 := List.mem_cons_of_mem _ List.mem_cons_self
theorem mem_w3 : ((3 : Int), leafW L3) ∈ writersV L1 L2 L3 := List.mem_cons_of_mem _ (List.mem_cons_of_mem _ List.mem_cons_self)
end
theorem ret_show {ns : List Nod} {s : ByteArray} {e : Int} (h : showT ns = (s, e)) : Ending.returned (.tuple #[.string s, .int .i64 e]) = .returned (.tuple #[.string (showT ns).1, .int .i64 (showT ns).2]) := by rw [h]
set_option maxRecDepth 100000 in
set_option maxHeartbeats 8000000 in
theorem sshow_any (ns : List Nod) (A1 : Option Addr) (n1 c1 B1 : Nat) (w : World) (h1 : RdNods w B1 A1 ns) (hn1 : ns.length = n1) (hB : B1 ≤ w.heap.size) (hm1 : n1 * 120 ≤ 140737488355328) (hok : ∀ x ∈ ns, okShow x) (htab : Tab10 w) :
    Calls Tryz.prog 11 #[.slice A1 n1 c1] w (ShowRes ns w) := by
  have HN1 := Lib.hid hn1
  have HOK := Lib.hid hok
  have HTab := Lib.hid htab
  have HR := Lib.hid h1
  have HC := Lib.hid (tcheck_any ns A1 n1 c1 B1 w h1 hn1 hB hm1 (fun x hx => (hok x hx).1))
  clear hn1 hok htab h1
  go_enter Tryz.func11, Tryz.ntmps11
  go_wp2_with fail
  refine (HC.out).mono ?_
  rintro e w1 ⟨rfl, hb1⟩
  have HB1 := Lib.hid hb1
  have hz1 := hb1.size
  clear hb1 HC
  by_cases he : (checkN ns).2.2 = 0
  · obtain ⟨t, hrun, hlen⟩ := check_run he
    have HSome := Lib.hid (fun (st : List Sd) (h1 : mayB ns = true) (h2 : showF ns [] = some st) => showT_some he h1 h2)
    have HRun := Lib.hid hrun
    have hn4 : n1 ≤ 4096 := by have := HN1.out; omega
    have HMay := Lib.hid (may_any ns A1 n1 c1 B1 w1 (HR.out.below (HB1.out.mono hB)) HN1.out (by omega) (by omega) (fun x hx => by
      obtain ⟨a1, a2⟩ := mats_short (run_mats ns 0 [] _ HRun.out x hx)
      exact ⟨by omega, fun m hm => by have := (a2 m hm).1; omega⟩))
    have hneb : ((checkN ns).2.2 != 0) = false := by rw [he]; rfl
    clear hrun hlen he
    generalize (checkN ns).2.2 = ce at *
    generalize (checkN ns).2.1 = ca at *
    generalize (checkN ns).1 = ck at *
    go_wp2_with fail
    refine (HMay.out).mono ?_
    rintro e w2 ⟨rfl, hb2⟩
    have HB2 := Lib.hid (HB1.out.trans (hb2.mono hz1))
    have hz2 := HB2.out.size
    clear hb2 HMay HB1 hz1
    cases hmb : mayB ns with
    | false =>
      have HT := Lib.hid (showT_may hmb)
      clear hmb
      go_wp2_with fail
      go_ret2
      exact ⟨ret_show HT.out, HB2.out⟩
    | true =>
      have HMB := Lib.hid hmb
      clear hmb
      go_wp2_with fail
      refine (swriters_any w2).mono ?_
      rintro e wb ⟨L1, L2, L3, rfl, hlw⟩
      have HB3 := Lib.hid (HB2.out.trans (hlw.2.1.mono hz2))
      have hzb := HB3.out.size
      have hzM := hlw.2.2.1
      have HLW := Lib.hid hlw
      generalize w2.heap.size = M at *
      clear hlw HB2 hz2
      go_wp2_with fail
      go_loopw [29, 8] (fun i v wr => ∃ k : Nat, i = .int .i64 k ∧ k ≤ n1 ∧ Hid (RndS ns wb k v wr)) (fun i _ _ => n1 - (intOf i).toNat)
      case atStart => exact ⟨0, rfl, by omega, [], [], none, 0, 0, rfl, rfl, ShowAt.start ns, Own.nil_ (by omega), Below.refl _ _⟩
      case round =>
        obtain ⟨k, rfl, hk, HRd⟩ := hrel
        have hk0 : (0 : Int) ≤ k := by omega
        obtain ⟨ty, st, A, m, c, rfl, hsm, hsa, hst, hbw⟩ := HRd.out
        have HSM := Lib.hid hsm
        have hzw := hbw.size
        have hcap := Own.cap hst
        by_cases hlt : k < n1
        · have hltI : (k : Int) < n1 := by omega
          obtain ⟨x, hx⟩ := get_lt HN1 hlt
          obtain ⟨b1, o1, Am, cm, An, cn, rfl, hb1, p0, p1, p2, p3, p4, p5, p6, p7, p8, p9, r1, r2, r3, r4, r5, r6⟩ := (HR.out.below ((HB3.out.trans (hbw.mono hzb)).mono hB)).at_ hx
          obtain ⟨f1, f2, f3, f4⟩ := hsa.parts HRun.out hx
          rw [hsm] at f4
          have hbl : b1 < wr.heap.size := by omega
          have hfew := hsa.few
          rw [hsm] at hfew
          clear hsm
          have HX := Lib.hid hx
          have HSA := Lib.hid hsa
          have HST := Lib.hid hst
          have HBW := Lib.hid hbw
          have HF := Lib.hid (⟨f1, f2⟩ : formB x = true ∧ matCode x.mat = 0)
          have HRr := Lib.hid (⟨r1, r2, r3, r4, r5, r6⟩ : _ ∧ _ ∧ _ ∧ _ ∧ _ ∧ _)
          clear hx hsa hst hbw f1 f2 r1 r2 r3 r4 r5 r6 HRd
          obtain ⟨q, hq⟩ : ∃ q, cutT st x = q := ⟨_, rfl⟩
          have hq1 : m - x.parts.toNat = q := by rw [← HSM.out]; exact hq
          have hfrom : IntKind.i64.wrap ((m : Int) - x.parts) = (q : Int) := by rw [IntKind.wrap_i64]; omega
          have hqp : q + x.parts.toNat = m := by omega
          have HQ := Lib.hid hq
          have HQP := Lib.hid hqp
          clear hq hq1
          go_upto_region 10 with fail
          generalize hW : World.alloc _ _ = W2
          have hAl : Below wr.heap.size wr W2 := by rw [← hW]; exact (Below.refl _ _).alloc (Nat.le_refl _) _
          have hX2 : Blk W2 wr.heap.size 41 (nodC x Am cm An cn) := by rw [← hW]; exact Blk.new _ _ (nodC x Am cm An cn)
          have hB2 : Below wb.heap.size wb W2 := by rw [← hW]; exact HBW.out.alloc hzw _
          have hO2 : StkS W2 wb.heap.size A m c st := by rw [← hW]; exact Own.alloc HST.out _
          clear hW p0 p1 p2 p3 p4 p5 p6 p7 p8 p9 hfrom
          have hLW2 := HLW.out.later hB2
          have hwW : Below w.heap.size w W2 := HB3.out.trans (hB2.mono hzb)
          have hT2 := HTab.out.below hwW
          have hz2 := hB2.size
          obtain ⟨r1, r2, r3, r4, r5, r6⟩ := HRr.out
          have hB1r : B1 ≤ wr.heap.size := by omega
          have hN2 : NamesAt x An cn W2 := ⟨(r2.below (hAl.mono hB1r)).more (by omega), r5, by have := (HOK.out x (List.mem_of_getElem? HX.out)).2.2; omega, (HOK.out x (List.mem_of_getElem? HX.out)).2.1⟩
          have hM2 : Rd W2 W2.heap.size 3 Am (matsC x.mat) := (r1.below (hAl.mono hB1r)).more (by omega)
          have hIn : ∀ s ∈ st, SdIn s := fun s hs => HSA.out.sdIn hs
          have HN2 := Lib.hid hN2
          have HM2 := Lib.hid hM2
          have HT2 := Lib.hid hT2
          have HO2 := Lib.hid hO2
          have HIn := Lib.hid hIn
          have HLW2 := Lib.hid hLW2
          have HB2 := Lib.hid hB2
          have hMl : x.mat.length ≤ cm := r3
          have HX2 := Lib.hid hX2
          clear hN2 hM2 hT2 hO2 hIn hLW2 hB2 hX2 r1 r2 r3 r4 r5 r6 hAl hwW
          go_cut [12] (fun v wx => ∃ b, v = .pointer (some ⟨b, 0, none⟩) ∧ Hid (Blk wx b 53 (sdC (sayT x (st.drop q))) ∧ W2.heap.size ≤ b ∧ Below W2.heap.size W2 wx))
          case first =>
            have hX2 := HX2.out
            have hk := kind_is HF.out.1
            have x0 := later_cell hX2 (j := 0) rfl
            have x1 := later_cell hX2 (j := 1) rfl
            have x2 := later_cell hX2 (j := 2) rfl
            have x3 := later_cell hX2 (j := 3) rfl
            have x4 := later_cell hX2 (j := 4) rfl
            have x5 := later_cell hX2 (j := 5) rfl
            have x6 := later_cell hX2 (j := 6) rfl
            have x7 := later_cell hX2 (j := 7) rfl
            have x8 := later_cell hX2 (j := 8) rfl
            have x9 := later_cell hX2 (j := 9) rfl
            obtain ⟨hIM, _, _, hLs⟩ := HLW2.out
            have HIM := Lib.hid hIM
            have HLs := Lib.hid hLs
            clear hIM hLs HLW2 hX2
            unfold KindIs at hk
            rcases hk with ⟨hk, hp⟩ | ⟨hk, hp, w1, w2, w3, w4⟩ | ⟨hk, hp, h1⟩ | ⟨hk, hp, h1, h2⟩ | ⟨hk, hp, h1, h2⟩ | ⟨hk, hp⟩
            ·
              have HS : Hid (sayT x (st.drop q) = ⟨x.text, 7, 0⟩) := say_1 hk
              have HCt := fun (W : World) (_ : Below W2.heap.size W2 W) => swr2_any x Am An cm cn W
              generalize x.text = tx at HS HCt
              obtain ⟨l1, l2, l3⟩ := HLs.out _ mem_w1 L1 rfl
              have HLk : Hid ((writersV L1 L2 L3).lookup x.kind = some (leafW L1)) := by show _ = _; rw [hk]; rfl
              have HC := fun (W : World) (hb : Below W2.heap.size W2 W) (S : Value) => Lib.hid (swrlT_any tx x Am An cm cn L1 S W (fun V hV => HCt V (hb.trans (hV.mono hb.size))) ((hb.cell (p := ⟨L1, 0, none⟩) l1).trans l3) (Nat.lt_of_lt_of_le l1 hb.size))
              have hqs : q = m := by have := HQP.out; rw [hp] at this; simpa using this
              unfold nodeV sdV at HC
              clear hk hp l1 l2 l3 HCt
              subst hqs
              have hnc := hcap.1
              rcases Own.form HO2.out with ⟨rfl, h0, rfl⟩ | ⟨g, rfl, _, hg⟩
              · subst h0
                apply wp_region_later_alloc (obj := .cells #[.string ⟨#[]⟩, .int .i64 0, .int .i64 0] 53) 9 12 (by kernel_rfl) (by kernel_rfl) rfl rfl (by rfl)
                case hAl =>
                  intro a w K hK
                  unfold wpOp
                  refine Or.inl ?_
                  go_simp
                  exact hK
                case h =>
                  intro V hV
                  have hbV := hV.below
                  have hXV := HX2.out.below hbV HX2.out.lt
                  have hIMV := HIM.out.below hbV HIM.out.lt
                  have x0 := later_cell hXV (j := 0) rfl
                  have x1 := later_cell hXV (j := 1) rfl
                  have x2 := later_cell hXV (j := 2) rfl
                  have x3 := later_cell hXV (j := 3) rfl
                  have x4 := later_cell hXV (j := 4) rfl
                  have x5 := later_cell hXV (j := 5) rfl
                  have x6 := later_cell hXV (j := 6) rfl
                  have x7 := later_cell hXV (j := 7) rfl
                  have x8 := later_cell hXV (j := 8) rfl
                  have x9 := later_cell hXV (j := 9) rfl
                  have hlk := fun z => run_lookup_int (w := later V z) Tryz.underlying49 Tryz.underlying3 (hIMV.later z) x.kind (v := (leafW L1)) HLk.out
                  have HCV := fun z : Later V => HC (later V z) (hbV.trans ((later_below z).mono hbV.size))
                  unfold leafW at hlk
                  clear hIMV hXV
                  simp only [List.take_succ_cons, List.take_zero]
                  unfold LatC
                  go_big_quiet_step (fail)
                  go_big_quiet_step (fail)
                  go_big_quiet_step (fail)
                  go_big_quiet_step (fail)
                  go_big_quiet_step (fail)
                  go_big_quiet_step (fail)
                  go_big_quiet_step (fail)
                  go_big_quiet_step (fail)
                  go_big_quiet_step ((go_at_call 44; exact later_call (HCV _ _).out))
                  refine wpQuiet_nil ?_
                  rfl
                case hT =>
                  intro w' b hb hbk hbs
                  have hK : Blk w' b 53 [.string ⟨#[]⟩, .int .i64 0, .int .i64 0] := hbk
                  clear hbk HC HLk HIM HLs
                  have k0 := hK.cell (j := 0) rfl
                  have k1 := hK.cell (j := 1) rfl
                  have k2 := hK.cell (j := 2) rfl
                  have kf := hK.frozen
                  simp only [List.drop_succ_cons, List.drop_zero]
                  unfold ptrB
                  go_wp2_with fail
                  go_meet
                  exact ⟨b, rfl, by rw [HS.out]; exact ((hK.set 0 _).set 1 _).set 2 _, hbs, ((hb.setCell hbs _).setCell hbs _).setCell hbs _⟩
              · by_cases hcm : c = q
                · subst hcm
                  apply wp_region_later_alloc (obj := .cells #[.string ⟨#[]⟩, .int .i64 0, .int .i64 0] 53) 9 12 (by kernel_rfl) (by kernel_rfl) rfl rfl (by rfl)
                  case hAl =>
                    intro a w K hK
                    unfold wpOp
                    refine Or.inl ?_
                    go_simp
                    exact hK
                  case h =>
                    intro V hV
                    have hbV := hV.below
                    have hXV := HX2.out.below hbV HX2.out.lt
                    have hIMV := HIM.out.below hbV HIM.out.lt
                    have x0 := later_cell hXV (j := 0) rfl
                    have x1 := later_cell hXV (j := 1) rfl
                    have x2 := later_cell hXV (j := 2) rfl
                    have x3 := later_cell hXV (j := 3) rfl
                    have x4 := later_cell hXV (j := 4) rfl
                    have x5 := later_cell hXV (j := 5) rfl
                    have x6 := later_cell hXV (j := 6) rfl
                    have x7 := later_cell hXV (j := 7) rfl
                    have x8 := later_cell hXV (j := 8) rfl
                    have x9 := later_cell hXV (j := 9) rfl
                    have hlk := fun z => run_lookup_int (w := later V z) Tryz.underlying49 Tryz.underlying3 (hIMV.later z) x.kind (v := (leafW L1)) HLk.out
                    have HCV := fun z : Later V => HC (later V z) (hbV.trans ((later_below z).mono hbV.size))
                    unfold leafW at hlk
                    clear hIMV hXV
                    simp only [List.take_succ_cons, List.take_zero]
                    unfold LatC
                    go_big_quiet_step (fail)
                    go_big_quiet_step (fail)
                    go_big_quiet_step (fail)
                    go_big_quiet_step (fail)
                    go_big_quiet_step (fail)
                    go_big_quiet_step (fail)
                    go_big_quiet_step (fail)
                    go_big_quiet_step (fail)
                    go_big_quiet_step ((go_at_call 44; exact later_call (HCV _ _).out))
                    refine wpQuiet_nil ?_
                    rfl
                  case hT =>
                    intro w' b hb hbk hbs
                    have hK : Blk w' b 53 [.string ⟨#[]⟩, .int .i64 0, .int .i64 0] := hbk
                    clear hbk HC HLk HIM HLs
                    have k0 := hK.cell (j := 0) rfl
                    have k1 := hK.cell (j := 1) rfl
                    have k2 := hK.cell (j := 2) rfl
                    have kf := hK.frozen
                    simp only [List.drop_succ_cons, List.drop_zero]
                    unfold ptrB
                    go_wp2_with fail
                    go_meet
                    exact ⟨b, rfl, by rw [HS.out]; exact ((hK.set 0 _).set 1 _).set 2 _, hbs, ((hb.setCell hbs _).setCell hbs _).setCell hbs _⟩
                · have hcm2 : q < c := by omega
                  apply wp_region_later_alloc (obj := .cells #[.string ⟨#[]⟩, .int .i64 0, .int .i64 0] 53) 9 12 (by kernel_rfl) (by kernel_rfl) rfl rfl (by rfl)
                  case hAl =>
                    intro a w K hK
                    unfold wpOp
                    refine Or.inl ?_
                    go_simp
                    exact hK
                  case h =>
                    intro V hV
                    have hbV := hV.below
                    have hXV := HX2.out.below hbV HX2.out.lt
                    have hIMV := HIM.out.below hbV HIM.out.lt
                    have x0 := later_cell hXV (j := 0) rfl
                    have x1 := later_cell hXV (j := 1) rfl
                    have x2 := later_cell hXV (j := 2) rfl
                    have x3 := later_cell hXV (j := 3) rfl
                    have x4 := later_cell hXV (j := 4) rfl
                    have x5 := later_cell hXV (j := 5) rfl
                    have x6 := later_cell hXV (j := 6) rfl
                    have x7 := later_cell hXV (j := 7) rfl
                    have x8 := later_cell hXV (j := 8) rfl
                    have x9 := later_cell hXV (j := 9) rfl
                    have hlk := fun z => run_lookup_int (w := later V z) Tryz.underlying49 Tryz.underlying3 (hIMV.later z) x.kind (v := (leafW L1)) HLk.out
                    have HCV := fun z : Later V => HC (later V z) (hbV.trans ((later_below z).mono hbV.size))
                    unfold leafW at hlk
                    clear hIMV hXV
                    simp only [List.take_succ_cons, List.take_zero]
                    unfold LatC
                    go_big_quiet_step (fail)
                    go_big_quiet_step (fail)
                    go_big_quiet_step (fail)
                    go_big_quiet_step (fail)
                    go_big_quiet_step (fail)
                    go_big_quiet_step (fail)
                    go_big_quiet_step (fail)
                    go_big_quiet_step (fail)
                    go_big_quiet_step ((go_at_call 44; exact later_call (HCV _ _).out))
                    refine wpQuiet_nil ?_
                    rfl
                  case hT =>
                    intro w' b hb hbk hbs
                    have hK : Blk w' b 53 [.string ⟨#[]⟩, .int .i64 0, .int .i64 0] := hbk
                    clear hbk HC HLk HIM HLs
                    have k0 := hK.cell (j := 0) rfl
                    have k1 := hK.cell (j := 1) rfl
                    have k2 := hK.cell (j := 2) rfl
                    have kf := hK.frozen
                    simp only [List.drop_succ_cons, List.drop_zero]
                    unfold ptrB
                    go_wp2_with fail
                    go_meet
                    exact ⟨b, rfl, by rw [HS.out]; exact ((hK.set 0 _).set 1 _).set 2 _, hbs, ((hb.setCell hbs _).setCell hbs _).setCell hbs _⟩
            · rcases hk with hk | hk
              ·
                have HS : Hid (sayT x (st.drop q) = ⟨selT x, 7, 0⟩) := say_23 (by rw [hk]; decide)
                have hvs := (mats_short HF.out.2).2
                have HCt := fun (W : World) (hb : Below W2.heap.size W2 W) => schoice_any x Am An cm cn W ((HM2.out.below hb).more hb.size) hMl HF.out.2 (fun m hm => ⟨by have h := (hvs m hm).2.1; simp only [nameB, Bool.and_eq_true, decide_eq_true_eq] at h; omega, by have := (hvs m hm).1; omega⟩) w1 w2 w3 w4 (HT2.out.below hb)
                clear hvs
                generalize selT x = tx at HS HCt
                obtain ⟨l1, l2, l3⟩ := HLs.out _ mem_w2 L2 rfl
                have HLk : Hid ((writersV L1 L2 L3).lookup x.kind = some (leafW L2)) := by show _ = _; rw [hk]; rfl
                have HC := fun (W : World) (hb : Below W2.heap.size W2 W) (S : Value) => Lib.hid (swrlC_any tx x Am An cm cn L2 S W (fun V hV => HCt V (hb.trans (hV.mono hb.size))) ((hb.cell (p := ⟨L2, 0, none⟩) l1).trans l3) (Nat.lt_of_lt_of_le l1 hb.size))
                have hqs : q = m := by have := HQP.out; rw [hp] at this; simpa using this
                unfold nodeV sdV at HC
                clear hk hp l1 l2 l3 HCt
                subst hqs
                have hnc := hcap.1
                rcases Own.form HO2.out with ⟨rfl, h0, rfl⟩ | ⟨g, rfl, _, hg⟩
                · subst h0
                  apply wp_region_later_alloc (obj := .cells #[.string ⟨#[]⟩, .int .i64 0, .int .i64 0] 53) 9 12 (by kernel_rfl) (by kernel_rfl) rfl rfl (by rfl)
                  case hAl =>
                    intro a w K hK
                    unfold wpOp
                    refine Or.inl ?_
                    go_simp
                    exact hK
                  case h =>
                    intro V hV
                    have hbV := hV.below
                    have hXV := HX2.out.below hbV HX2.out.lt
                    have hIMV := HIM.out.below hbV HIM.out.lt
                    have x0 := later_cell hXV (j := 0) rfl
                    have x1 := later_cell hXV (j := 1) rfl
                    have x2 := later_cell hXV (j := 2) rfl
                    have x3 := later_cell hXV (j := 3) rfl
                    have x4 := later_cell hXV (j := 4) rfl
                    have x5 := later_cell hXV (j := 5) rfl
                    have x6 := later_cell hXV (j := 6) rfl
                    have x7 := later_cell hXV (j := 7) rfl
                    have x8 := later_cell hXV (j := 8) rfl
                    have x9 := later_cell hXV (j := 9) rfl
                    have hlk := fun z => run_lookup_int (w := later V z) Tryz.underlying49 Tryz.underlying3 (hIMV.later z) x.kind (v := (leafW L2)) HLk.out
                    have HCV := fun z : Later V => HC (later V z) (hbV.trans ((later_below z).mono hbV.size))
                    unfold leafW at hlk
                    clear hIMV hXV
                    simp only [List.take_succ_cons, List.take_zero]
                    unfold LatC
                    go_big_quiet_step (fail)
                    go_big_quiet_step (fail)
                    go_big_quiet_step (fail)
                    go_big_quiet_step (fail)
                    go_big_quiet_step (fail)
                    go_big_quiet_step (fail)
                    go_big_quiet_step (fail)
                    go_big_quiet_step (fail)
                    go_big_quiet_step ((go_at_call 44; exact later_call (HCV _ _).out))
                    refine wpQuiet_nil ?_
                    rfl
                  case hT =>
                    intro w' b hb hbk hbs
                    have hK : Blk w' b 53 [.string ⟨#[]⟩, .int .i64 0, .int .i64 0] := hbk
                    clear hbk HC HLk HIM HLs
                    have k0 := hK.cell (j := 0) rfl
                    have k1 := hK.cell (j := 1) rfl
                    have k2 := hK.cell (j := 2) rfl
                    have kf := hK.frozen
                    simp only [List.drop_succ_cons, List.drop_zero]
                    unfold ptrB
                    go_wp2_with fail
                    go_meet
                    exact ⟨b, rfl, by rw [HS.out]; exact ((hK.set 0 _).set 1 _).set 2 _, hbs, ((hb.setCell hbs _).setCell hbs _).setCell hbs _⟩
                · by_cases hcm : c = q
                  · subst hcm
                    apply wp_region_later_alloc (obj := .cells #[.string ⟨#[]⟩, .int .i64 0, .int .i64 0] 53) 9 12 (by kernel_rfl) (by kernel_rfl) rfl rfl (by rfl)
                    case hAl =>
                      intro a w K hK
                      unfold wpOp
                      refine Or.inl ?_
                      go_simp
                      exact hK
                    case h =>
                      intro V hV
                      have hbV := hV.below
                      have hXV := HX2.out.below hbV HX2.out.lt
                      have hIMV := HIM.out.below hbV HIM.out.lt
                      have x0 := later_cell hXV (j := 0) rfl
                      have x1 := later_cell hXV (j := 1) rfl
                      have x2 := later_cell hXV (j := 2) rfl
                      have x3 := later_cell hXV (j := 3) rfl
                      have x4 := later_cell hXV (j := 4) rfl
                      have x5 := later_cell hXV (j := 5) rfl
                      have x6 := later_cell hXV (j := 6) rfl
                      have x7 := later_cell hXV (j := 7) rfl
                      have x8 := later_cell hXV (j := 8) rfl
                      have x9 := later_cell hXV (j := 9) rfl
                      have hlk := fun z => run_lookup_int (w := later V z) Tryz.underlying49 Tryz.underlying3 (hIMV.later z) x.kind (v := (leafW L2)) HLk.out
                      have HCV := fun z : Later V => HC (later V z) (hbV.trans ((later_below z).mono hbV.size))
                      unfold leafW at hlk
                      clear hIMV hXV
                      simp only [List.take_succ_cons, List.take_zero]
                      unfold LatC
                      go_big_quiet_step (fail)
                      go_big_quiet_step (fail)
                      go_big_quiet_step (fail)
                      go_big_quiet_step (fail)
                      go_big_quiet_step (fail)
                      go_big_quiet_step (fail)
                      go_big_quiet_step (fail)
                      go_big_quiet_step (fail)
                      go_big_quiet_step ((go_at_call 44; exact later_call (HCV _ _).out))
                      refine wpQuiet_nil ?_
                      rfl
                    case hT =>
                      intro w' b hb hbk hbs
                      have hK : Blk w' b 53 [.string ⟨#[]⟩, .int .i64 0, .int .i64 0] := hbk
                      clear hbk HC HLk HIM HLs
                      have k0 := hK.cell (j := 0) rfl
                      have k1 := hK.cell (j := 1) rfl
                      have k2 := hK.cell (j := 2) rfl
                      have kf := hK.frozen
                      simp only [List.drop_succ_cons, List.drop_zero]
                      unfold ptrB
                      go_wp2_with fail
                      go_meet
                      exact ⟨b, rfl, by rw [HS.out]; exact ((hK.set 0 _).set 1 _).set 2 _, hbs, ((hb.setCell hbs _).setCell hbs _).setCell hbs _⟩
                  · have hcm2 : q < c := by omega
                    apply wp_region_later_alloc (obj := .cells #[.string ⟨#[]⟩, .int .i64 0, .int .i64 0] 53) 9 12 (by kernel_rfl) (by kernel_rfl) rfl rfl (by rfl)
                    case hAl =>
                      intro a w K hK
                      unfold wpOp
                      refine Or.inl ?_
                      go_simp
                      exact hK
                    case h =>
                      intro V hV
                      have hbV := hV.below
                      have hXV := HX2.out.below hbV HX2.out.lt
                      have hIMV := HIM.out.below hbV HIM.out.lt
                      have x0 := later_cell hXV (j := 0) rfl
                      have x1 := later_cell hXV (j := 1) rfl
                      have x2 := later_cell hXV (j := 2) rfl
                      have x3 := later_cell hXV (j := 3) rfl
                      have x4 := later_cell hXV (j := 4) rfl
                      have x5 := later_cell hXV (j := 5) rfl
                      have x6 := later_cell hXV (j := 6) rfl
                      have x7 := later_cell hXV (j := 7) rfl
                      have x8 := later_cell hXV (j := 8) rfl
                      have x9 := later_cell hXV (j := 9) rfl
                      have hlk := fun z => run_lookup_int (w := later V z) Tryz.underlying49 Tryz.underlying3 (hIMV.later z) x.kind (v := (leafW L2)) HLk.out
                      have HCV := fun z : Later V => HC (later V z) (hbV.trans ((later_below z).mono hbV.size))
                      unfold leafW at hlk
                      clear hIMV hXV
                      simp only [List.take_succ_cons, List.take_zero]
                      unfold LatC
                      go_big_quiet_step (fail)
                      go_big_quiet_step (fail)
                      go_big_quiet_step (fail)
                      go_big_quiet_step (fail)
                      go_big_quiet_step (fail)
                      go_big_quiet_step (fail)
                      go_big_quiet_step (fail)
                      go_big_quiet_step (fail)
                      go_big_quiet_step ((go_at_call 44; exact later_call (HCV _ _).out))
                      refine wpQuiet_nil ?_
                      rfl
                    case hT =>
                      intro w' b hb hbk hbs
                      have hK : Blk w' b 53 [.string ⟨#[]⟩, .int .i64 0, .int .i64 0] := hbk
                      clear hbk HC HLk HIM HLs
                      have k0 := hK.cell (j := 0) rfl
                      have k1 := hK.cell (j := 1) rfl
                      have k2 := hK.cell (j := 2) rfl
                      have kf := hK.frozen
                      simp only [List.drop_succ_cons, List.drop_zero]
                      unfold ptrB
                      go_wp2_with fail
                      go_meet
                      exact ⟨b, rfl, by rw [HS.out]; exact ((hK.set 0 _).set 1 _).set 2 _, hbs, ((hb.setCell hbs _).setCell hbs _).setCell hbs _⟩
              ·
                have HS : Hid (sayT x (st.drop q) = ⟨selT x, 7, 0⟩) := say_23 (by rw [hk]; decide)
                have hvs := (mats_short HF.out.2).2
                have HCt := fun (W : World) (hb : Below W2.heap.size W2 W) => schoice_any x Am An cm cn W ((HM2.out.below hb).more hb.size) hMl HF.out.2 (fun m hm => ⟨by have h := (hvs m hm).2.1; simp only [nameB, Bool.and_eq_true, decide_eq_true_eq] at h; omega, by have := (hvs m hm).1; omega⟩) w1 w2 w3 w4 (HT2.out.below hb)
                clear hvs
                generalize selT x = tx at HS HCt
                obtain ⟨l1, l2, l3⟩ := HLs.out _ mem_w3 L3 rfl
                have HLk : Hid ((writersV L1 L2 L3).lookup x.kind = some (leafW L3)) := by show _ = _; rw [hk]; rfl
                have HC := fun (W : World) (hb : Below W2.heap.size W2 W) (S : Value) => Lib.hid (swrlC_any tx x Am An cm cn L3 S W (fun V hV => HCt V (hb.trans (hV.mono hb.size))) ((hb.cell (p := ⟨L3, 0, none⟩) l1).trans l3) (Nat.lt_of_lt_of_le l1 hb.size))
                have hqs : q = m := by have := HQP.out; rw [hp] at this; simpa using this
                unfold nodeV sdV at HC
                clear hk hp l1 l2 l3 HCt
                subst hqs
                have hnc := hcap.1
                rcases Own.form HO2.out with ⟨rfl, h0, rfl⟩ | ⟨g, rfl, _, hg⟩
                · subst h0
                  apply wp_region_later_alloc (obj := .cells #[.string ⟨#[]⟩, .int .i64 0, .int .i64 0] 53) 9 12 (by kernel_rfl) (by kernel_rfl) rfl rfl (by rfl)
                  case hAl =>
                    intro a w K hK
                    unfold wpOp
                    refine Or.inl ?_
                    go_simp
                    exact hK
                  case h =>
                    intro V hV
                    have hbV := hV.below
                    have hXV := HX2.out.below hbV HX2.out.lt
                    have hIMV := HIM.out.below hbV HIM.out.lt
                    have x0 := later_cell hXV (j := 0) rfl
                    have x1 := later_cell hXV (j := 1) rfl
                    have x2 := later_cell hXV (j := 2) rfl
                    have x3 := later_cell hXV (j := 3) rfl
                    have x4 := later_cell hXV (j := 4) rfl
                    have x5 := later_cell hXV (j := 5) rfl
                    have x6 := later_cell hXV (j := 6) rfl
                    have x7 := later_cell hXV (j := 7) rfl
                    have x8 := later_cell hXV (j := 8) rfl
                    have x9 := later_cell hXV (j := 9) rfl
                    have hlk := fun z => run_lookup_int (w := later V z) Tryz.underlying49 Tryz.underlying3 (hIMV.later z) x.kind (v := (leafW L3)) HLk.out
                    have HCV := fun z : Later V => HC (later V z) (hbV.trans ((later_below z).mono hbV.size))
                    unfold leafW at hlk
                    clear hIMV hXV
                    simp only [List.take_succ_cons, List.take_zero]
                    unfold LatC
                    go_big_quiet_step (fail)
                    go_big_quiet_step (fail)
                    go_big_quiet_step (fail)
                    go_big_quiet_step (fail)
                    go_big_quiet_step (fail)
                    go_big_quiet_step (fail)
                    go_big_quiet_step (fail)
                    go_big_quiet_step (fail)
                    go_big_quiet_step ((go_at_call 44; exact later_call (HCV _ _).out))
                    refine wpQuiet_nil ?_
                    rfl
                  case hT =>
                    intro w' b hb hbk hbs
                    have hK : Blk w' b 53 [.string ⟨#[]⟩, .int .i64 0, .int .i64 0] := hbk
                    clear hbk HC HLk HIM HLs
                    have k0 := hK.cell (j := 0) rfl
                    have k1 := hK.cell (j := 1) rfl
                    have k2 := hK.cell (j := 2) rfl
                    have kf := hK.frozen
                    simp only [List.drop_succ_cons, List.drop_zero]
                    unfold ptrB
                    go_wp2_with fail
                    go_meet
                    exact ⟨b, rfl, by rw [HS.out]; exact ((hK.set 0 _).set 1 _).set 2 _, hbs, ((hb.setCell hbs _).setCell hbs _).setCell hbs _⟩
                · by_cases hcm : c = q
                  · subst hcm
                    apply wp_region_later_alloc (obj := .cells #[.string ⟨#[]⟩, .int .i64 0, .int .i64 0] 53) 9 12 (by kernel_rfl) (by kernel_rfl) rfl rfl (by rfl)
                    case hAl =>
                      intro a w K hK
                      unfold wpOp
                      refine Or.inl ?_
                      go_simp
                      exact hK
                    case h =>
                      intro V hV
                      have hbV := hV.below
                      have hXV := HX2.out.below hbV HX2.out.lt
                      have hIMV := HIM.out.below hbV HIM.out.lt
                      have x0 := later_cell hXV (j := 0) rfl
                      have x1 := later_cell hXV (j := 1) rfl
                      have x2 := later_cell hXV (j := 2) rfl
                      have x3 := later_cell hXV (j := 3) rfl
                      have x4 := later_cell hXV (j := 4) rfl
                      have x5 := later_cell hXV (j := 5) rfl
                      have x6 := later_cell hXV (j := 6) rfl
                      have x7 := later_cell hXV (j := 7) rfl
                      have x8 := later_cell hXV (j := 8) rfl
                      have x9 := later_cell hXV (j := 9) rfl
                      have hlk := fun z => run_lookup_int (w := later V z) Tryz.underlying49 Tryz.underlying3 (hIMV.later z) x.kind (v := (leafW L3)) HLk.out
                      have HCV := fun z : Later V => HC (later V z) (hbV.trans ((later_below z).mono hbV.size))
                      unfold leafW at hlk
                      clear hIMV hXV
                      simp only [List.take_succ_cons, List.take_zero]
                      unfold LatC
                      go_big_quiet_step (fail)
                      go_big_quiet_step (fail)
                      go_big_quiet_step (fail)
                      go_big_quiet_step (fail)
                      go_big_quiet_step (fail)
                      go_big_quiet_step (fail)
                      go_big_quiet_step (fail)
                      go_big_quiet_step (fail)
                      go_big_quiet_step ((go_at_call 44; exact later_call (HCV _ _).out))
                      refine wpQuiet_nil ?_
                      rfl
                    case hT =>
                      intro w' b hb hbk hbs
                      have hK : Blk w' b 53 [.string ⟨#[]⟩, .int .i64 0, .int .i64 0] := hbk
                      clear hbk HC HLk HIM HLs
                      have k0 := hK.cell (j := 0) rfl
                      have k1 := hK.cell (j := 1) rfl
                      have k2 := hK.cell (j := 2) rfl
                      have kf := hK.frozen
                      simp only [List.drop_succ_cons, List.drop_zero]
                      unfold ptrB
                      go_wp2_with fail
                      go_meet
                      exact ⟨b, rfl, by rw [HS.out]; exact ((hK.set 0 _).set 1 _).set 2 _, hbs, ((hb.setCell hbs _).setCell hbs _).setCell hbs _⟩
                  · have hcm2 : q < c := by omega
                    apply wp_region_later_alloc (obj := .cells #[.string ⟨#[]⟩, .int .i64 0, .int .i64 0] 53) 9 12 (by kernel_rfl) (by kernel_rfl) rfl rfl (by rfl)
                    case hAl =>
                      intro a w K hK
                      unfold wpOp
                      refine Or.inl ?_
                      go_simp
                      exact hK
                    case h =>
                      intro V hV
                      have hbV := hV.below
                      have hXV := HX2.out.below hbV HX2.out.lt
                      have hIMV := HIM.out.below hbV HIM.out.lt
                      have x0 := later_cell hXV (j := 0) rfl
                      have x1 := later_cell hXV (j := 1) rfl
                      have x2 := later_cell hXV (j := 2) rfl
                      have x3 := later_cell hXV (j := 3) rfl
                      have x4 := later_cell hXV (j := 4) rfl
                      have x5 := later_cell hXV (j := 5) rfl
                      have x6 := later_cell hXV (j := 6) rfl
                      have x7 := later_cell hXV (j := 7) rfl
                      have x8 := later_cell hXV (j := 8) rfl
                      have x9 := later_cell hXV (j := 9) rfl
                      have hlk := fun z => run_lookup_int (w := later V z) Tryz.underlying49 Tryz.underlying3 (hIMV.later z) x.kind (v := (leafW L3)) HLk.out
                      have HCV := fun z : Later V => HC (later V z) (hbV.trans ((later_below z).mono hbV.size))
                      unfold leafW at hlk
                      clear hIMV hXV
                      simp only [List.take_succ_cons, List.take_zero]
                      unfold LatC
                      go_big_quiet_step (fail)
                      go_big_quiet_step (fail)
                      go_big_quiet_step (fail)
                      go_big_quiet_step (fail)
                      go_big_quiet_step (fail)
                      go_big_quiet_step (fail)
                      go_big_quiet_step (fail)
                      go_big_quiet_step (fail)
                      go_big_quiet_step ((go_at_call 44; exact later_call (HCV _ _).out))
                      refine wpQuiet_nil ?_
                      rfl
                    case hT =>
                      intro w' b hb hbk hbs
                      have hK : Blk w' b 53 [.string ⟨#[]⟩, .int .i64 0, .int .i64 0] := hbk
                      clear hbk HC HLk HIM HLs
                      have k0 := hK.cell (j := 0) rfl
                      have k1 := hK.cell (j := 1) rfl
                      have k2 := hK.cell (j := 2) rfl
                      have kf := hK.frozen
                      simp only [List.drop_succ_cons, List.drop_zero]
                      unfold ptrB
                      go_wp2_with fail
                      go_meet
                      exact ⟨b, rfl, by rw [HS.out]; exact ((hK.set 0 _).set 1 _).set 2 _, hbs, ((hb.setCell hbs _).setCell hbs _).setCell hbs _⟩
            ·
                have hqm : m = q + 1 := by have := HQP.out; rw [hp] at this; simpa using this.symm
                obtain ⟨p0, hp0⟩ : ∃ p0, st.drop q = [p0] := List.length_eq_one_iff.1 (by rw [List.length_drop, HSM.out, hqm]; omega)
                have i0 := HIn.out p0 (List.mem_of_mem_drop (by rw [hp0]; exact List.mem_cons_self))
                rcases Own.form HO2.out with ⟨rfl, h0, rfl⟩ | ⟨g, rfl, _, hg⟩
                · omega
                have hrd : Rd W2 W2.heap.size 3 (some ⟨g, q * 3, none⟩) (sdsC [p0]) := by
                  have := Rd.dropS (Own.rd HO2.out) q
                  rw [← sdsC_drop, hp0, Nat.zero_add] at this
                  exact this
                have HS : Hid (sayT x (st.drop q) = (p0.inside (funcsL.getD x.op.toNat ByteArray.empty))) := by show _ = _; rw [hp0]; exact say_4 hk
                have HLk : Hid ((writersV L1 L2 L3).lookup x.kind = some (fnV 47)) := by show _ = _; rw [hk]; rfl
                have HC := fun (W : World) (hb : Below W2.heap.size W2 W) => Lib.hid (swr3_any x Am An cm cn p0 (some ⟨g, q * 3, none⟩) (c - q) W2.heap.size W (hrd.below hb) hb.size h1 i0)
                have hqc : q < c := by have := hcap.1; omega
                unfold nodeV sdV at HC
                generalize (p0.inside (funcsL.getD x.op.toNat ByteArray.empty)) = V0 at HS HC
                subst hqm
                clear hk hp hp0 i0 hrd h1
                apply wp_region_later_alloc (obj := .cells #[.string ⟨#[]⟩, .int .i64 0, .int .i64 0] 53) 9 12 (by kernel_rfl) (by kernel_rfl) rfl rfl (by rfl)
                case hAl =>
                  intro a w K hK
                  unfold wpOp
                  refine Or.inl ?_
                  go_simp
                  exact hK
                case h =>
                  intro V hV
                  have hbV := hV.below
                  have hXV := HX2.out.below hbV HX2.out.lt
                  have hIMV := HIM.out.below hbV HIM.out.lt
                  have x0 := later_cell hXV (j := 0) rfl
                  have x1 := later_cell hXV (j := 1) rfl
                  have x2 := later_cell hXV (j := 2) rfl
                  have x3 := later_cell hXV (j := 3) rfl
                  have x4 := later_cell hXV (j := 4) rfl
                  have x5 := later_cell hXV (j := 5) rfl
                  have x6 := later_cell hXV (j := 6) rfl
                  have x7 := later_cell hXV (j := 7) rfl
                  have x8 := later_cell hXV (j := 8) rfl
                  have x9 := later_cell hXV (j := 9) rfl
                  have hlk := fun z => run_lookup_int (w := later V z) Tryz.underlying49 Tryz.underlying3 (hIMV.later z) x.kind (v := (fnV 47)) HLk.out
                  have HCV := fun z : Later V => HC (later V z) (hbV.trans ((later_below z).mono hbV.size))
                  unfold fnV at hlk
                  clear hIMV hXV
                  simp only [List.take_succ_cons, List.take_zero]
                  unfold LatC
                  go_big_quiet_step (fail)
                  go_big_quiet_step (fail)
                  go_big_quiet_step (fail)
                  go_big_quiet_step (fail)
                  go_big_quiet_step (fail)
                  go_big_quiet_step (fail)
                  go_big_quiet_step (fail)
                  go_big_quiet_step (fail)
                  go_big_quiet_step ((go_at_call 47; exact later_call (HCV _).out))
                  refine wpQuiet_nil ?_
                  rfl
                case hT =>
                  intro w' b hb hbk hbs
                  have hK : Blk w' b 53 [.string ⟨#[]⟩, .int .i64 0, .int .i64 0] := hbk
                  clear hbk HC HLk HIM HLs
                  have k0 := hK.cell (j := 0) rfl
                  have k1 := hK.cell (j := 1) rfl
                  have k2 := hK.cell (j := 2) rfl
                  have kf := hK.frozen
                  simp only [List.drop_succ_cons, List.drop_zero]
                  unfold ptrB
                  go_wp2_with fail
                  go_meet
                  exact ⟨b, rfl, by rw [HS.out]; exact ((hK.set 0 _).set 1 _).set 2 _, hbs, ((hb.setCell hbs _).setCell hbs _).setCell hbs _⟩
            ·
                have hqm : m = q + 1 := by have := HQP.out; rw [hp] at this; simpa using this.symm
                obtain ⟨p0, hp0⟩ : ∃ p0, st.drop q = [p0] := List.length_eq_one_iff.1 (by rw [List.length_drop, HSM.out, hqm]; omega)
                have i0 := HIn.out p0 (List.mem_of_mem_drop (by rw [hp0]; exact List.mem_cons_self))
                rcases Own.form HO2.out with ⟨rfl, h0, rfl⟩ | ⟨g, rfl, _, hg⟩
                · omega
                have hrd : Rd W2 W2.heap.size 3 (some ⟨g, q * 3, none⟩) (sdsC [p0]) := by
                  have := Rd.dropS (Own.rd HO2.out) q
                  rw [← sdsC_drop, hp0, Nat.zero_add] at this
                  exact this
                have HS : Hid (sayT x (st.drop q) = (p0.inside (aggW x))) := by show _ = _; rw [hp0]; exact say_5 hk
                have HLk : Hid ((writersV L1 L2 L3).lookup x.kind = some (fnV 50)) := by show _ = _; rw [hk]; rfl
                have HC := fun (W : World) (hb : Below W2.heap.size W2 W) => Lib.hid (swr4_any x Am An cm cn p0 (some ⟨g, q * 3, none⟩) (c - q) W2.heap.size W (hrd.below hb) hb.size h1 h2 (HN2.out.below hb) i0)
                have hqc : q < c := by have := hcap.1; omega
                unfold nodeV sdV at HC
                generalize (p0.inside (aggW x)) = V0 at HS HC
                subst hqm
                clear hk hp hp0 i0 hrd h1 h2
                apply wp_region_later_alloc (obj := .cells #[.string ⟨#[]⟩, .int .i64 0, .int .i64 0] 53) 9 12 (by kernel_rfl) (by kernel_rfl) rfl rfl (by rfl)
                case hAl =>
                  intro a w K hK
                  unfold wpOp
                  refine Or.inl ?_
                  go_simp
                  exact hK
                case h =>
                  intro V hV
                  have hbV := hV.below
                  have hXV := HX2.out.below hbV HX2.out.lt
                  have hIMV := HIM.out.below hbV HIM.out.lt
                  have x0 := later_cell hXV (j := 0) rfl
                  have x1 := later_cell hXV (j := 1) rfl
                  have x2 := later_cell hXV (j := 2) rfl
                  have x3 := later_cell hXV (j := 3) rfl
                  have x4 := later_cell hXV (j := 4) rfl
                  have x5 := later_cell hXV (j := 5) rfl
                  have x6 := later_cell hXV (j := 6) rfl
                  have x7 := later_cell hXV (j := 7) rfl
                  have x8 := later_cell hXV (j := 8) rfl
                  have x9 := later_cell hXV (j := 9) rfl
                  have hlk := fun z => run_lookup_int (w := later V z) Tryz.underlying49 Tryz.underlying3 (hIMV.later z) x.kind (v := (fnV 50)) HLk.out
                  have HCV := fun z : Later V => HC (later V z) (hbV.trans ((later_below z).mono hbV.size))
                  unfold fnV at hlk
                  clear hIMV hXV
                  simp only [List.take_succ_cons, List.take_zero]
                  unfold LatC
                  go_big_quiet_step (fail)
                  go_big_quiet_step (fail)
                  go_big_quiet_step (fail)
                  go_big_quiet_step (fail)
                  go_big_quiet_step (fail)
                  go_big_quiet_step (fail)
                  go_big_quiet_step (fail)
                  go_big_quiet_step (fail)
                  go_big_quiet_step ((go_at_call 50; exact later_call (HCV _).out))
                  refine wpQuiet_nil ?_
                  rfl
                case hT =>
                  intro w' b hb hbk hbs
                  have hK : Blk w' b 53 [.string ⟨#[]⟩, .int .i64 0, .int .i64 0] := hbk
                  clear hbk HC HLk HIM HLs
                  have k0 := hK.cell (j := 0) rfl
                  have k1 := hK.cell (j := 1) rfl
                  have k2 := hK.cell (j := 2) rfl
                  have kf := hK.frozen
                  simp only [List.drop_succ_cons, List.drop_zero]
                  unfold ptrB
                  go_wp2_with fail
                  go_meet
                  exact ⟨b, rfl, by rw [HS.out]; exact ((hK.set 0 _).set 1 _).set 2 _, hbs, ((hb.setCell hbs _).setCell hbs _).setCell hbs _⟩
            ·
                have hqm : m = q + 2 := by have := HQP.out; rw [hp] at this; simpa using this.symm
                have hl2 : (st.drop q).length = 2 := by rw [List.length_drop, HSM.out, hqm]; omega
                obtain ⟨p0, p1, hp0⟩ : ∃ p0 p1, st.drop q = [p0, p1] := by
                  match st.drop q, hl2 with
                  | [a, b], _ => exact ⟨a, b, rfl⟩
                have i1 := HIn.out p1 (List.mem_of_mem_drop (by rw [hp0]; exact List.mem_cons_of_mem _ List.mem_cons_self))
                clear hl2
                have i0 := HIn.out p0 (List.mem_of_mem_drop (by rw [hp0]; exact List.mem_cons_self))
                rcases Own.form HO2.out with ⟨rfl, h0, rfl⟩ | ⟨g, rfl, _, hg⟩
                · omega
                have hrd : Rd W2 W2.heap.size 3 (some ⟨g, q * 3, none⟩) (sdsC [p0, p1]) := by
                  have := Rd.dropS (Own.rd HO2.out) q
                  rw [← sdsC_drop, hp0, Nat.zero_add] at this
                  exact this
                have HS : Hid (sayT x (st.drop q) = (binT x p0 p1)) := by show _ = _; rw [hp0]; exact say_6 hk
                have HLk : Hid ((writersV L1 L2 L3).lookup x.kind = some (fnV 52)) := by show _ = _; rw [hk]; rfl
                have HC := fun (W : World) (hb : Below W2.heap.size W2 W) => Lib.hid (swr5_any x Am An cm cn p0 p1 (some ⟨g, q * 3, none⟩) (c - q) W2.heap.size W (hrd.below hb) hb.size h1 h2 (HN2.out.below hb) i0 i1)
                have hqc : q < c := by have := hcap.1; omega
                unfold nodeV sdV at HC
                generalize (binT x p0 p1) = V0 at HS HC
                subst hqm
                clear hk hp hp0 i0 hrd h1 h2 i1
                apply wp_region_later_alloc (obj := .cells #[.string ⟨#[]⟩, .int .i64 0, .int .i64 0] 53) 9 12 (by kernel_rfl) (by kernel_rfl) rfl rfl (by rfl)
                case hAl =>
                  intro a w K hK
                  unfold wpOp
                  refine Or.inl ?_
                  go_simp
                  exact hK
                case h =>
                  intro V hV
                  have hbV := hV.below
                  have hXV := HX2.out.below hbV HX2.out.lt
                  have hIMV := HIM.out.below hbV HIM.out.lt
                  have x0 := later_cell hXV (j := 0) rfl
                  have x1 := later_cell hXV (j := 1) rfl
                  have x2 := later_cell hXV (j := 2) rfl
                  have x3 := later_cell hXV (j := 3) rfl
                  have x4 := later_cell hXV (j := 4) rfl
                  have x5 := later_cell hXV (j := 5) rfl
                  have x6 := later_cell hXV (j := 6) rfl
                  have x7 := later_cell hXV (j := 7) rfl
                  have x8 := later_cell hXV (j := 8) rfl
                  have x9 := later_cell hXV (j := 9) rfl
                  have hlk := fun z => run_lookup_int (w := later V z) Tryz.underlying49 Tryz.underlying3 (hIMV.later z) x.kind (v := (fnV 52)) HLk.out
                  have HCV := fun z : Later V => HC (later V z) (hbV.trans ((later_below z).mono hbV.size))
                  unfold fnV at hlk
                  clear hIMV hXV
                  simp only [List.take_succ_cons, List.take_zero]
                  unfold LatC
                  go_big_quiet_step (fail)
                  go_big_quiet_step (fail)
                  go_big_quiet_step (fail)
                  go_big_quiet_step (fail)
                  go_big_quiet_step (fail)
                  go_big_quiet_step (fail)
                  go_big_quiet_step (fail)
                  go_big_quiet_step (fail)
                  go_big_quiet_step ((go_at_call 52; exact later_call (HCV _).out))
                  refine wpQuiet_nil ?_
                  rfl
                case hT =>
                  intro w' b hb hbk hbs
                  have hK : Blk w' b 53 [.string ⟨#[]⟩, .int .i64 0, .int .i64 0] := hbk
                  clear hbk HC HLk HIM HLs
                  have k0 := hK.cell (j := 0) rfl
                  have k1 := hK.cell (j := 1) rfl
                  have k2 := hK.cell (j := 2) rfl
                  have kf := hK.frozen
                  simp only [List.drop_succ_cons, List.drop_zero]
                  unfold ptrB
                  go_wp2_with fail
                  go_meet
                  exact ⟨b, rfl, by rw [HS.out]; exact ((hK.set 0 _).set 1 _).set 2 _, hbs, ((hb.setCell hbs _).setCell hbs _).setCell hbs _⟩
            ·
                have hqm : m = q + 1 := by have := HQP.out; rw [hp] at this; simpa using this.symm
                obtain ⟨p0, hp0⟩ : ∃ p0, st.drop q = [p0] := List.length_eq_one_iff.1 (by rw [List.length_drop, HSM.out, hqm]; omega)
                have i0 := HIn.out p0 (List.mem_of_mem_drop (by rw [hp0]; exact List.mem_cons_self))
                rcases Own.form HO2.out with ⟨rfl, h0, rfl⟩ | ⟨g, rfl, _, hg⟩
                · omega
                have hrd : Rd W2 W2.heap.size 3 (some ⟨g, q * 3, none⟩) (sdsC [p0]) := by
                  have := Rd.dropS (Own.rd HO2.out) q
                  rw [← sdsC_drop, hp0, Nat.zero_add] at this
                  exact this
                have HS : Hid (sayT x (st.drop q) = (negT p0)) := by show _ = _; rw [hp0]; exact say_7 hk
                have HLk : Hid ((writersV L1 L2 L3).lookup x.kind = some (fnV 54)) := by show _ = _; rw [hk]; rfl
                have HC := fun (W : World) (hb : Below W2.heap.size W2 W) => Lib.hid (swr6_any x Am An cm cn p0 (some ⟨g, q * 3, none⟩) (c - q) W2.heap.size W (hrd.below hb) hb.size i0)
                have hqc : q < c := by have := hcap.1; omega
                unfold nodeV sdV at HC
                generalize (negT p0) = V0 at HS HC
                subst hqm
                clear hk hp hp0 i0 hrd 
                apply wp_region_later_alloc (obj := .cells #[.string ⟨#[]⟩, .int .i64 0, .int .i64 0] 53) 9 12 (by kernel_rfl) (by kernel_rfl) rfl rfl (by rfl)
                case hAl =>
                  intro a w K hK
                  unfold wpOp
                  refine Or.inl ?_
                  go_simp
                  exact hK
                case h =>
                  intro V hV
                  have hbV := hV.below
                  have hXV := HX2.out.below hbV HX2.out.lt
                  have hIMV := HIM.out.below hbV HIM.out.lt
                  have x0 := later_cell hXV (j := 0) rfl
                  have x1 := later_cell hXV (j := 1) rfl
                  have x2 := later_cell hXV (j := 2) rfl
                  have x3 := later_cell hXV (j := 3) rfl
                  have x4 := later_cell hXV (j := 4) rfl
                  have x5 := later_cell hXV (j := 5) rfl
                  have x6 := later_cell hXV (j := 6) rfl
                  have x7 := later_cell hXV (j := 7) rfl
                  have x8 := later_cell hXV (j := 8) rfl
                  have x9 := later_cell hXV (j := 9) rfl
                  have hlk := fun z => run_lookup_int (w := later V z) Tryz.underlying49 Tryz.underlying3 (hIMV.later z) x.kind (v := (fnV 54)) HLk.out
                  have HCV := fun z : Later V => HC (later V z) (hbV.trans ((later_below z).mono hbV.size))
                  unfold fnV at hlk
                  clear hIMV hXV
                  simp only [List.take_succ_cons, List.take_zero]
                  unfold LatC
                  go_big_quiet_step (fail)
                  go_big_quiet_step (fail)
                  go_big_quiet_step (fail)
                  go_big_quiet_step (fail)
                  go_big_quiet_step (fail)
                  go_big_quiet_step (fail)
                  go_big_quiet_step (fail)
                  go_big_quiet_step (fail)
                  go_big_quiet_step ((go_at_call 54; exact later_call (HCV _).out))
                  refine wpQuiet_nil ?_
                  rfl
                case hT =>
                  intro w' b hb hbk hbs
                  have hK : Blk w' b 53 [.string ⟨#[]⟩, .int .i64 0, .int .i64 0] := hbk
                  clear hbk HC HLk HIM HLs
                  have k0 := hK.cell (j := 0) rfl
                  have k1 := hK.cell (j := 1) rfl
                  have k2 := hK.cell (j := 2) rfl
                  have kf := hK.frozen
                  simp only [List.drop_succ_cons, List.drop_zero]
                  unfold ptrB
                  go_wp2_with fail
                  go_meet
                  exact ⟨b, rfl, by rw [HS.out]; exact ((hK.set 0 _).set 1 _).set 2 _, hbs, ((hb.setCell hbs _).setCell hbs _).setCell hbs _⟩
          case rest =>
            obtain ⟨bs, rfl, hall⟩ := hcut
            obtain ⟨hbk, hbs, hbw⟩ := hall.out
            have HOv : Hid ((sayT x (st.drop q)).over = true → showF ns [] = none) := fun h => HSA.out.over HX.out (by rw [HQ.out]; exact h)
            have HNx : Hid ((sayT x (st.drop q)).over = false → ShowAt ns (k + 1) (stepN ty x).2 (st.take q ++ [sayT x (st.drop q)])) := fun h => by
              have := HSA.out.next HRun.out HX.out (by rw [HQ.out]; exact h)
              rw [HQ.out] at this
              exact this
            have hOc := HO2.out.belowAll hbw
            have hqm : q ≤ m := by have := HQP.out; omega
            have hWc := HB2.out.trans (hbw.mono hz2)
            have hzc := hWc.size
            generalize sayT x (st.drop q) = sy at *
            have s0 := hbk.cell (j := 0) rfl
            have s1 := hbk.cell (j := 1) rfl
            have s2 := hbk.cell (j := 2) rfl
            have HO3 := Lib.hid (Own.cut hOc hqm)
            have HWc := Lib.hid hWc
            have HBK := Lib.hid hbk
            clear hall hbw hOc hWc HX2 HN2 HM2 HT2 HO2 HIn HLW2 HB2 HSA HST HF HX HRr
            by_cases h1 : 4096 < sy.text.size
            · have h1I : (4096 : Int) < sy.text.size := by omega
              have HT := Lib.hid (showT_none (HOv.out (by simp [Sd.over, h1])))
              clear h1 HOv HNx
              go_wp2_with fail
              go_ret2
              exact ⟨ret_show HT.out, HB3.out.trans (HWc.out.mono hzb)⟩
            · have h1I : ¬ (4096 : Int) < sy.text.size := by omega
              by_cases h2 : 64 < sy.deep
              · have HT := Lib.hid (showT_none (HOv.out (by simp [Sd.over, h2])))
                clear h1 HOv HNx
                go_wp2_with fail
                go_ret2
                exact ⟨ret_show HT.out, HB3.out.trans (HWc.out.mono hzb)⟩
              · have HNn := Lib.hid (HNx.out (by simp [Sd.over, h1, h2]))
                have HXs : Hid (Rd (wc.drew.alloc (.cells #[.string sy.text, .int .i64 sy.row, .int .i64 sy.deep] 53)) (wc.heap.size + 1) 3 (some ⟨wc.heap.size, 0, none⟩) [sdC sy]) := Rd.new wc.drew (by simp [sdC]) _ rfl
                clear HOv HNx h1
                rcases Own.form HO3.out with ⟨rfl, rfl, rfl⟩ | ⟨g, rfl, _, hg⟩
                · obtain rfl : m = 0 := by have := hcap.1; omega
                  go_upto_region 13 with fail
                  go_region_law ((refine step_append_rd _ (by rfl) _ _ _ (by rfl) eiSaid (by rfl) (HO3.out.drew.alloc _) (m := 1) (by rfl) HXs.out rfl (one_said sy) (by simp only [maxLen]; omega) (by omega) (by simp; omega) ?_; intro A' c' w3 ho3 hg3 hat3 hb3))
                  all_goals
                    have HF2 : Hid (RndS ns wb (k + 1) (.slice A' (0 + 1) c') w3) := ⟨_, _, A', 0 + 1, c', rfl, by rw [List.length_append, List.length_take, List.length_singleton, HSM.out]; omega, HNn.out, by
                      have e : sdsC (st.take 0 ++ [sy]) = (sdsC st).take 0 ++ [sdC sy] := by simp [sdsC]
                      show Own _ _ _ _ _ _ _ _
                      rw [e]
                      exact ho3, HWc.out.trans (((Below.refl _ _).drew.alloc (by simpa using hzc) _).trans hb3)⟩
                    clear ho3 hg3 hat3 hb3
                    go_wp2_with fail
                    go_roundw
                    case rel => exact ⟨k + 1, by go_num, by omega, HF2⟩
                    case measure => simp [intOf]; omega
                · have hqc : q ≤ c := by have := hcap.1; omega
                  go_upto_region 13 with fail
                  go_region_law ((refine step_append_rd _ (by rfl) _ _ _ (by rfl) eiSaid (by rfl) (HO3.out.drew.alloc _) (m := 1) (by rfl) HXs.out rfl (one_said sy) (by simp only [maxLen]; omega) (by omega) (by simp; omega) ?_; intro A' c' w3 ho3 hg3 hat3 hb3))
                  all_goals
                    have HF2 : Hid (RndS ns wb (k + 1) (.slice A' (q + 1) c') w3) := ⟨_, _, A', q + 1, c', rfl, by rw [List.length_append, List.length_take, List.length_singleton, HSM.out]; omega, HNn.out, by
                      have e : sdsC (st.take q ++ [sy]) = (sdsC st).take q ++ [sdC sy] := by simp [sdsC]
                      show Own _ _ _ _ _ _ _ _
                      rw [e]
                      exact ho3, HWc.out.trans (((Below.refl _ _).drew.alloc (by simpa using hzc) _).trans hb3)⟩
                    clear ho3 hg3 hat3 hb3
                    go_wp2_with fail
                    go_roundw
                    case rel => exact ⟨k + 1, by go_num, by omega, HF2⟩
                    case measure => simp [intOf]; omega
        · have hltI : ¬ (k : Int) < n1 := by omega
          obtain ⟨d1, d2⟩ := hsa.done (by rw [HN1.out]; omega)
          have hty : ty.length = 1 := by
            have := d2.symm.trans HRun.out
            injection this with this
            rw [this]
            rfl
          obtain ⟨a, rfl⟩ : ∃ a, st = [a] := List.length_eq_one_iff.1 (by rw [← hsa.len]; exact hty)
          obtain rfl : m = 1 := hsm.symm
          have HT := Lib.hid (HSome.out _ HMB.out d1)
          rcases Own.form hst with ⟨_, h0, _⟩ | ⟨g, rfl, _, hg⟩
          · cases h0
          obtain ⟨b0, o0, e, _, e0, e1, e2⟩ := (Own.rd hst).at3 (sdsC_at (k := 0) rfl)
          injection e with e
          injection e with ea eb
          subst ea eb
          simp only [Nat.zero_mul, Nat.add_zero] at e0 e1 e2
          have HBW := Lib.hid hbw
          clear d1 d2 hty hsa hst hbw hsm HSM HRd
          go_wp2_with fail
          go_ret2
          exact ⟨ret_show HT.out, HB3.out.trans (HBW.out.mono hzb)⟩
  · have HT := Lib.hid (showT_bad he)
    have hneb : ((checkN ns).2.2 != 0) = true := by rw [bne_iff_ne]; exact he
    clear he
    generalize (checkN ns).2.2 = ce at *
    generalize (checkN ns).2.1 = ca at *
    generalize (checkN ns).1 = ck at *
    go_wp2_with fail
    go_ret2
    exact ⟨ret_show HT.out, HB1.out⟩
end Go.Proofs.YtakfnojiaakfpaaGreatDoor
