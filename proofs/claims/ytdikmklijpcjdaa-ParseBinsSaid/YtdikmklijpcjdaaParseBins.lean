/- ParseBins: two queries in brackets, with an operation between, are their nodes and the operation's. -/
import Derived.Test.YtdikmklijpcjdaaParA
import Derived.Test.YtdikmklijpcjdaaPLaid
import Derived.Test.YtdikmklijpcjdaaLowP
import Derived.Test.YtdikmklijpcjdaaNodE
import Derived.Test.YtdikmklijpcjdaaTypJ
namespace Go.Proofs.Ytdikmklijpcjdaa
open Go.RowKit

theorem tmod_13 {x : Int} (h : 0 ≤ x) : ∃ i : Nat, i < 13 ∧ x.tmod 13 = i := by
  refine ⟨(x % 13).toNat, by omega, ?_⟩
  rw [Int.tmod_eq_emod_of_nonneg h]
  omega
/-- The operations' words, without the first, that is none. -/
def opsR : List ByteArray := opsL.drop 1
theorem opsR_in : ((List.range 13).all fun i => decide (opsR[i]? = some (opTx i)) && decide ((opTx i).size ≤ 6)) = true := by kernel_rfl
/-- The words newly made: one of them. -/
theorem opsR_one {k : Nat} (hk : k < 13) (w : World) : Calls Try.prog 17 #[] w fun e w' => e = .returned (.slice (some ⟨w.heap.size, 0, none⟩) 13 13) ∧
    w'.cell? ⟨w.heap.size, k, none⟩ = some (.string (opTx k)) ∧ Below w.heap.size w w' := by
  have h := List.all_eq_true.1 opsR_in k (List.mem_range.2 hk)
  rw [Bool.and_eq_true] at h
  have hO : Calls Try.prog 17 #[] w (WordsOut opsR 13 w) := by
    go_enter Try.func17, Try.ntmps17
    go_wp2_with fail
    go_ret
    exact ⟨rfl, Rd.new w (textsC_sz _) _ rfl, (Below.refl _ _).alloc (Nat.le_refl _) _⟩
  refine hO.mono ?_
  rintro e w' ⟨rfl, hr, hb⟩
  obtain ⟨b, o, e1, _, c1⟩ := hr.at1 (textsC_at (of_decide_eq_true h.1))
  injection e1 with e1
  injection e1 with e3 e4
  subst e3 e4
  rw [Nat.zero_add] at c1
  exact ⟨rfl, c1, hb⟩
theorem opTx_size {k : Nat} (hk : k < 13) : (opTx k).size ≤ 6 := by
  have h := List.all_eq_true.1 opsR_in k (List.mem_range.2 hk)
  rw [Bool.and_eq_true] at h
  exact of_decide_eq_true h.2
/-- The node, as it is made. -/
def NodB (n : Nod) (N : Nat) (w0 w : World) : Prop := ∃ An cn, Blk w N 37 (nodC n none 0 An cn) ∧ Rd w w.heap.size 1 An (textsC n.names) ∧ n.names.length ≤ cn ∧ cn ≤ maxLen ∧ Below w0.heap.size w0 w
theorem SrcN.lit {w : World} {e : TypeId} {x : Nod} {An : Option Addr} {cn : Nat} (hm : x.mat = []) (hn : Rd w w.heap.size 1 An (textsC x.names)) (h1 : x.names.length ≤ cn) (h2 : cn ≤ maxLen) {base : Nat} (hr : Rd w base 1 An (textsC x.names)) (hB : base ≤ w.heap.size) :
    SrcN (w.alloc (.cells (nodC x none 0 An cn).toArray e)) (w.heap.size + 1) base (some ⟨w.heap.size, 0, none⟩) [x] := by
  refine ⟨[nodC x none 0 An cn], Rd.new w (by simp [nodC]) _ (by simp), rfl, fun k y hy => ?_⟩
  cases k with
  | succ k => simp at hy
  | zero =>
    simp at hy
    subst hy
    exact ⟨_, rfl, none, 0, An, cn, rfl, by rw [hm]; exact Rd.nil_, hr.keep fun b o hb => ((Below.refl base w).alloc hB _).cell (p := ⟨b, o, none⟩) hb, by rw [hm]; exact Nat.le_refl _, by simp [maxLen], h1, h2⟩
theorem SrcN.keepAt {w w' : World} {B base p o : Nat} {ms : List Nod} (h : SrcN w B base (some ⟨p, o, none⟩) ms) (hp : w'.heap[p]? = w.heap[p]?) (hb : Below base w w') : SrcN w' B base (some ⟨p, o, none⟩) ms := by
  obtain ⟨ds, h1, h2, h3⟩ := h
  refine ⟨ds, ⟨h1.1, fun hne => ?_⟩, h2, fun k x hx => ?_⟩
  · obtain ⟨b', o', e, hb', hc⟩ := h1.2 hne
    injection e with e
    injection e with e1 e2
    subst e1 e2
    exact ⟨p, o, rfl, hb', fun k x j v hx hv => by rw [World.cell?_of_block (w := w) hp]; exact hc k x j v hx hv⟩
  · obtain ⟨y, hy, hn⟩ := h3 k x hx
    exact ⟨y, hy, hn.below hb⟩
theorem MixN.alloc {w : World} {base n c : Nat} {A : Option Addr} {ns : List Nod} (h : MixN w base A n c ns) (hB : base ≤ w.heap.size) (o : Obj) : MixN (w.alloc o) base A n c ns := h.belowAll ((Below.refl _ _).alloc (Nat.le_refl _) o) hB
theorem MixN.block {w : World} {base n c : Nat} {A : Option Addr} {ns : List Nod} (h : MixN w base A n c ns) {b : Nat} (hb : A.map Addr.block = some b) : base ≤ b ∧ b < w.heap.size := by
  obtain ⟨cs, h1, _⟩ := h
  exact h1.block hb
theorem step_append_nodsG {P : Program} {w : World} {ops : Array Oper} {o : Oper} {a : Act} {K : Act → World → Prop} {Q : Exit → Act → World → Prop} {E : Prop} (hw : Region.wanted o (yielded ops a.tmps) = true) (s x : Operand) (t : TypeId)
    (ho : o.op = .call { callee := .builtin .append, args := #[s, x], argTypes := #[t, t] }) (hE : EI P t 37 10 120)
    {base : Nat} {A : Option Addr} {n c : Nat} {ns : List Nod} (hs : a.eval s = .slice A n c) (hown : MixN w base A n c ns)
    {B : Nat} {A2 : Option Addr} {m c2 : Nat} {ms : List Nod} (hx : a.eval x = .slice A2 m c2) (hr : SrcN w B base A2 ms) (hm : ms.length = m)
    (hbytes : (n + m) * 120 ≤ 140737488355328) (hbase : base ≤ w.heap.size)
    (h : ∀ A' c' w', MixN w' base A' (n + m) c' (ns ++ ms) → w.grownBy w' (A.map Addr.block) → Below base w w' → K (a.put o.dst (.slice A' (n + m) c')) w') :
    if Region.wanted o (yielded ops a.tmps) = true then Oper.wp P o a w K Q else E := by
  rw [if_pos hw]
  obtain ⟨cs, h1, h2, h3⟩ := hown
  obtain ⟨ds, g1, g2, g3⟩ := hr
  have hone : ∀ y ∈ ds, ∀ u ∈ y, u.oneCell' = true := by
    intro y hy
    obtain ⟨k, hk⟩ := List.mem_iff_getElem?.1 hy
    have hkl : k < ms.length := by rw [← g2]; exact (List.getElem?_eq_some_iff.1 hk).1
    obtain ⟨y', hy', hn⟩ := g3 k _ (List.getElem?_eq_getElem hkl)
    rw [hk] at hy'
    injection hy' with hy'
    subst hy'
    exact hn.one
  refine wp_append_rd w s x t ho hE hs h1 hx g1 (by rw [g2, hm]) hone (by simp only [maxLen]; omega) hbytes hbase ?_
  intro A' c' w' ho' hg hat hb
  refine h A' c' w' ⟨cs ++ ds, ho', by rw [List.length_append, h2, hm], fun k z hz => ?_⟩ hg hb
  have hcl : cs.length = ns.length := by rw [h1.len, h2]
  by_cases hk : k < ns.length
  · rw [List.getElem?_append_left hk] at hz
    obtain ⟨y, hy, hp⟩ := h3 k z hz
    exact ⟨y, by rw [List.getElem?_append_left (by omega)]; exact hy, hp.grown h1 hg hb⟩
  · rw [List.getElem?_append_right (by omega)] at hz
    obtain ⟨y, hy, hp⟩ := g3 _ z hz
    exact ⟨y, by rw [List.getElem?_append_right (by omega), hcl]; exact hy, .inr (hp.below hb)⟩
theorem cmpK_off (k : Nat) : cmpK k false = false := by simp [cmpK]
theorem cmpK_in {k : Nat} (h : 4 ≤ k ∧ k < 10) : cmpK k true = true := by simp [cmpK, h.1, h.2]
theorem cmpK_out {k : Nat} (h : ¬ (4 ≤ k ∧ k < 10)) : cmpK k true = false := by
  simp only [cmpK, Bool.and_true]
  rw [Bool.and_eq_false_iff]
  simp only [decide_eq_false_iff_not]
  omega
theorem betw_off (k : Nat) : betw k false = opTx k := by simp [betw, cmpK_off]
theorem betw_in {k : Nat} (h : 4 ≤ k ∧ k < 10) : betw k true = opTx k ++ boolTx ++ onTx := by simp [betw, cmpK_in h]
theorem betw_out {k : Nat} (h : ¬ (4 ≤ k ∧ k < 10)) : betw k true = opTx k ++ onTx := by simp [betw, cmpK_out h]
theorem binK_off (k : Nat) : binK k false = binN ((k : Int) + 1) 0 [] false := by simp [binK, cmpK_off]
theorem binK_in {k : Nat} (h : 4 ≤ k ∧ k < 10) : binK k true = binN ((k : Int) + 1) 3 [sA, sOr] true := by simp [binK, cmpK_in h]
theorem binK_out {k : Nat} (h : ¬ (4 ≤ k ∧ k < 10)) : binK k true = binN ((k : Int) + 1) 3 [sA, sOr] false := by simp [binK, cmpK_out h]
set_option maxRecDepth 100000 in
set_option maxHeartbeats 4000000 in
theorem parseBins_any (a b : ByteArray) (q : Int) (on : Bool) (w : World) (ha0 : a.size ≤ 140737488351232) (hb0 : b.size ≤ 140737488351232) : Calls Try.prog 6 #[.string a, .string b, .int .i64 q, .bool on] w fun e w' => e = .returned (.bool true) ∧ Below w.heap.size w w' := by
  obtain ⟨k, hk, hk2⟩ := tmod_13 (lowI_nn q).1
  have H1 := Lib.hid (parse_any a w (by unfold maxLen; omega) (fun _ _ h => lexR_err h))
  have H2 := fun (W : World) => Lib.hid (parse_any b W (by unfold maxLen; omega) (fun _ _ h => lexR_err h))
  have HL := fun (W : World) => Lib.hid (low_any q W)
  have HK := Lib.hid hk2
  have okx := Lib.hid (parseR_okNod a)
  have oky := Lib.hid (parseR_okNod b)
  have HLx := Lib.hid (parseR_len a)
  have HLy := Lib.hid (parseR_len b)
  go_enter Try.func6, Try.ntmps6
  go_wp2_with fail
  refine (H1.out).mono ?_
  rintro e w1 ⟨⟨A1, c1, rfl, hO1⟩, hb1⟩
  go_wp2_with fail
  refine ((H2 _).out).mono ?_
  rintro e w2 ⟨⟨A2, c2, rfl, hO2⟩, hb2⟩
  go_upto_region 3 with fail
  have HB := Lib.hid (hb1.trans (hb2.mono hb1.size))
  have RX := Lib.hid ((hO1.rd.below hb2).more hb2.size)
  have RY := Lib.hid hO2.rd
  have hcx := hO1.choose_spec.1.cap
  have hcy := hO2.choose_spec.1.cap
  have HPx : Hid (parseR a = ((parseR a).1, (parseR a).2.1, (parseR a).2.2)) := rfl
  have HPy : Hid (parseR b = ((parseR b).1, (parseR b).2.1, (parseR b).2.2)) := rfl
  generalize (parseR a).1 = x at *
  generalize (parseR a).2.1 = atx at *
  generalize (parseR a).2.2 = whx at *
  generalize (parseR b).1 = y at *
  generalize (parseR b).2.1 = aty at *
  generalize (parseR b).2.2 = why at *
  have hnx : x.length ≤ maxLen := by omega
  have hny : y.length ≤ maxLen := by omega
  have hw1 : IntKind.i64.wrap ((a.size : Int) + (b.size : Int)) = (a.size : Int) + (b.size : Int) := by rw [IntKind.wrap_i64] <;> omega
  clear hb1 hb2 hO1 hO2 H1 H2 hk2 hcx hcy
  by_cases hex : whx = 0
  · subst hex
    by_cases hey : why = 0
    · subst hey
      by_cases hz : a.size + b.size ≤ 1500
      · have hzI : ¬ (1500 : Int) < (a.size : Int) + (b.size : Int) := by omega
        have hkI : (k : Int) < 13 := by omega
        have hk0 : (0 : Int) ≤ (k : Int) := by omega
        have hw2 : IntKind.i64.wrap ((k : Int) + 1) = (k : Int) + 1 := by rw [IntKind.wrap_i64] <;> omega
        go_wp2_with fail
        refine ((HL _).out).mono ?_
        rintro e w3 ⟨rfl, rfl⟩
        have hk2 := HK.out
        go_upto_region 7 with fail
        have bN : Blk (w2.alloc (.cells (nodC (binN ((k : Int) + 1) 0 [] false) none 0 none 0).toArray 37)) w2.heap.size 37 (nodC (binN ((k : Int) + 1) 0 [] false) none 0 none 0) := Blk.new w2 _ _
        have hb3 : Below w2.heap.size w2 (w2.alloc (.cells (nodC (binN ((k : Int) + 1) 0 [] false) none 0 none 0).toArray 37)) := (Below.refl _ _).alloc (Nat.le_refl _) _
        generalize hW : World.alloc w2 _ = W3
        have hW' : w2.alloc (.cells (nodC (binN ((k : Int) + 1) 0 [] false) none 0 none 0).toArray 37) = W3 := hW
        rw [hW'] at bN hb3
        clear hk2 hw1 hzI hW hW' hw2
        have hO := Lib.hid (opsR_one hk W3)
        have hlN := bN.lt
        have hsz := opTx_size hk
        go_upto_region 8 with (go_at_call 17; refine (hO.out).mono ?_; rintro e w4 ⟨rfl, o4, hb4⟩)
        have b4 := Lib.hid (bN.below hb4 hlN)
        have B4 := Lib.hid (hb3.trans (hb4.mono hb3.size))
        clear hO o4 hb3 hb4 bN hlN
        go_cut [63] (fun v wx => v = .bool (decide (4 ≤ k ∧ k < 10)) ∧ wx = w4)
        case first =>
          by_cases hr : 4 ≤ k ∧ k < 10
          · have hr1 : (4 : Int) ≤ (k : Int) := by omega
            have hr2 : (k : Int) < 10 := by omega
            have HD : Hid (decide (4 ≤ k ∧ k < 10) = true) := decide_eq_true hr
            clear hr
            go_wp2_with fail
            go_meet
            exact ⟨by rw [HD.out], rfl⟩
          · have HD : Hid (decide (4 ≤ k ∧ k < 10) = false) := decide_eq_false hr
            by_cases hr1 : (4 : Int) ≤ (k : Int)
            · have hr2 : ¬ (k : Int) < 10 := by omega
              clear hr
              go_wp2_with fail
              go_meet
              exact ⟨by rw [HD.out], rfl⟩
            · clear hr
              go_wp2_with fail
              go_meet
              exact ⟨by rw [HD.out], rfl⟩
        case rest =>
          obtain ⟨rfl, rfl⟩ := hcut
          generalize hrr : decide (4 ≤ k ∧ k < 10) = r
          have hcm : cmpK k on = (r && on) := by rw [cmpK, ← hrr]; cases on <;> simp
          have HCM := Lib.hid hcm
          clear hrr hcm
          go_upto_if 63 with fail
          go_cut [17] (fun v wx => v = .string (if cmpK k on = true then opTx k ++ boolTx else opTx k) ∧ Hid (Blk wx w2.heap.size 37 (nodC (binN ((k : Int) + 1) 0 [] (cmpK k on)) none 0 none 0) ∧ Below w2.heap.size w2 wx))
          case first =>
            have n8 := b4.out.cell (j := 8) rfl
            have fN := b4.out.frozen
            have hz1 : ¬ 9223372036854775807 < (opTx k).size + 5 := by omega
            cases r with
            | false =>
              go_wp2_with fail
              go_meet
              rw [HCM.out]
              exact ⟨rfl, b4.out, B4.out⟩
            | true =>
              cases on with
              | false =>
                go_wp2_with fail
                go_meet
                rw [HCM.out]
                exact ⟨rfl, b4.out.set 8 (.bool false), B4.out.setCell (p := ⟨w2.heap.size, 8, none⟩) (Nat.le_refl _) _⟩
              | true =>
                go_wp2_with fail
                go_meet
                rw [HCM.out]
                exact ⟨rfl, b4.out.set 8 (.bool true), B4.out.setCell (p := ⟨w2.heap.size, 8, none⟩) (Nat.le_refl _) _⟩
          case rest =>
            obtain ⟨rfl, hcut⟩ := hcut
            clear b4 B4 HCM
            generalize hs1 : (if cmpK k on = true then opTx k ++ boolTx else opTx k) = s1
            have hbt : betw k on = s1 ++ (if on = true then onTx else ByteArray.empty) := by rw [betw, hs1]
            have hz1 : s1.size ≤ 11 := by
              rw [← hs1]
              split
              · rw [ByteArray.size_append]
                have : boolTx.size = 5 := rfl
                omega
              · omega
            have HBT := Lib.hid hbt
            have HCUT := Lib.hid hcut
            clear hs1 hbt hcut
            go_upto_if 69 with fail
            go_cut [17] (fun v wx => v = .string (betw k on) ∧ Hid (NodB (binK k on) w2.heap.size w2 wx))
            case first =>
              obtain ⟨bN, hb⟩ := HCUT.out.out
              have n6 := bN.cell (j := 6) rfl
              have n7 := bN.cell (j := 7) rfl
              have fN := bN.frozen
              have hlN := bN.lt
              have hz2 : ¬ 9223372036854775807 < s1.size + 9 := by omega
              cases on with
              | false =>
                go_wp2_with fail
                go_meet
                refine ⟨by rw [HBT.out]; simp, none, 0, ?_, Rd.nil_, Nat.le_refl _, Nat.zero_le _, hb⟩
                exact bN
              | true =>
                have bO := Lib.hid bN
                have bB := Lib.hid hb
                clear bN hb
                go_wp2_with fail
                go_meet
                have hsz0 : ((wc.setCell ⟨w2.heap.size, 6, none⟩ (.int .i64 3)).setCell ⟨w2.heap.size, 7, none⟩ (.slice (some ⟨wc.heap.size, 0, none⟩) 2 2)).heap.size = wc.heap.size := by simp
                refine ⟨by rw [HBT.out]; rfl, some ⟨wc.heap.size, 0, none⟩, 2, ((bO.out.set 6 (.int .i64 3)).set 7 (.slice (some ⟨wc.heap.size, 0, none⟩) 2 2)).alloc _, ?_, Nat.le_refl _, by simp [maxLen], ?_⟩
                · have := Rd.new ((wc.setCell ⟨w2.heap.size, 6, none⟩ (.int .i64 3)).setCell ⟨w2.heap.size, 7, none⟩ (.slice (some ⟨wc.heap.size, 0, none⟩) 2 2)) (sz := 1) (e := 9) (xs := textsC [sA, sOr]) (textsC_sz _) #[.string ⟨#[97]⟩, .string ⟨#[111, 114]⟩] rfl
                  rw [hsz0] at this
                  rw [World.size_alloc, hsz0]
                  exact this
                · exact ((bB.out.setCell (p := ⟨w2.heap.size, 6, none⟩) (Nat.le_refl _) _).setCell (p := ⟨w2.heap.size, 7, none⟩) (Nat.le_refl _) _).alloc (by rw [hsz0]; exact bB.out.size) _
            case rest =>
              obtain ⟨rfl, hcut⟩ := hcut
              clear HBT HCUT
              have hbs := (betw_at hk on).2.1
              have BL := bins_law HPx.out HPy.out hz hk on
              have hBz : (binsB a b k on).size ≤ maxLen := by
                rw [Lib.size_eq, bins_data]
                simp only [List.length_cons, List.length_append, List.length_nil, ← Lib.size_eq]
                unfold maxLen
                omega
              have hbd : binsB a b k on = (⟨#[40]⟩ : ByteArray) ++ a ++ ⟨#[41]⟩ ++ ⟨#[32]⟩ ++ betw k on ++ ⟨#[32, 40]⟩ ++ b ++ ⟨#[41]⟩ := rfl
              generalize binsB a b k on = B at *
              subst hbd
              generalize wc = w5 at *
              have H5 := Lib.hid (parse_any _ w5 hBz (fun _ _ h => lexR_err h))
              generalize betw k on = s2 at *
              have hz1 : ¬ 9223372036854775807 < 1 + a.size := by omega
              have hz2 : ¬ 9223372036854775807 < 1 + a.size + 1 := by omega
              have hz3 : ¬ 9223372036854775807 < 1 + a.size + 1 + 1 := by omega
              have hz4 : ¬ 9223372036854775807 < 1 + a.size + 1 + 1 + s2.size := by omega
              have hz5 : ¬ 9223372036854775807 < 1 + a.size + 1 + 1 + s2.size + 2 := by omega
              have hz6 : ¬ 9223372036854775807 < 1 + a.size + 1 + 1 + s2.size + 2 + b.size := by omega
              have hz7 : ¬ 9223372036854775807 < 1 + a.size + 1 + 1 + s2.size + 2 + b.size + 1 := by omega
              go_wp2_with fail
              refine (H5.out).mono ?_
              rintro e w6 ⟨⟨A6, c6, h6, hO6⟩, hb6⟩
              obtain ⟨An, cn, bN, rN, hcn, hcm, hbN⟩ := hcut.out
              have hsz5 := hbN.size
              have hsz6 := hb6.size
              have HB6 := Lib.hid (HB.out.trans ((hbN.trans (hb6.mono hsz5)).mono (by have := HB.out.size; exact this)))
              rcases BL with ⟨r, hB⟩ | ⟨r, hB⟩
              · rw [hB] at h6 hO6
                have HZ : Hid (RdNods w6 w6.heap.size A6 (x ++ y ++ [binK k on])) := Lib.hid hO6.rd
                have hnz : (x ++ y ++ [binK k on]).length = x.length + y.length + 1 := by simp; omega
                have hcz := hO6.choose_spec.1.cap
                have h6 : e = .returned (.tuple #[.slice A6 (x ++ y ++ [binK k on]).length c6, .int .i64 r, .int .i64 0]) := h6
                rw [hnz] at h6 hcz
                subst h6
                have hX := RX.out.below ((hbN.trans (hb6.mono hsz5)).mono (Nat.le_refl _))
                have hY := RY.out.below ((hbN.trans (hb6.mono hsz5)).mono (Nat.le_refl _))
                have bN6 := bN.below hb6 bN.lt
                have e0 := bN6.cell (j := 0) rfl
                have e1 := bN6.cell (j := 1) rfl
                have e2 := bN6.cell (j := 2) rfl
                have e3 := bN6.cell (j := 3) rfl
                have e4 := bN6.cell (j := 4) rfl
                have e5 := bN6.cell (j := 5) rfl
                have e6 := bN6.cell (j := 6) rfl
                have e7 := bN6.cell (j := 7) rfl
                have e8 := bN6.cell (j := 8) rfl
                have e9 := bN6.cell (j := 9) rfl
                have rN6 := (rN.below hb6).more hsz6
                clear H5 hB hO6 hb6 bN rN hbN HB hcut hz1 hz2 hz3 hz4 hz5 hz6 hz7 hBz
                have hlx := HLx.out
                have hly := HLy.out
                have HMAT : Hid ((binK k on).mat = []) := rfl
                have hlN : w2.heap.size < w6.heap.size := by have := bN6.lt; omega
                have hw26 : w2.heap.size ≤ w6.heap.size := by omega
                have hsd : w6.drew.heap.size = w6.heap.size := rfl
                go_wp2_with fail
                generalize hnd : binK k on = nd at *
                go_region_held3 (fun w' => w'.cell? ⟨w2.heap.size, 0, none⟩ = some (.int .i64 nd.kind) ∧ w'.cell? ⟨w2.heap.size, 1, none⟩ = some (.int .i64 nd.op) ∧ w'.cell? ⟨w2.heap.size, 2, none⟩ = some (.string nd.text) ∧ w'.cell? ⟨w2.heap.size, 3, none⟩ = some (.slice none nd.mat.length 0) ∧ w'.cell? ⟨w2.heap.size, 4, none⟩ = some (.int .i64 nd.width) ∧
                    w'.cell? ⟨w2.heap.size, 5, none⟩ = some (.int .i64 nd.back) ∧ w'.cell? ⟨w2.heap.size, 6, none⟩ = some (.int .i64 nd.grp) ∧ w'.cell? ⟨w2.heap.size, 7, none⟩ = some (.slice An nd.names.length cn) ∧ w'.cell? ⟨w2.heap.size, 8, none⟩ = some (.bool nd.cmp) ∧ w'.cell? ⟨w2.heap.size, 9, none⟩ = some (.int .i64 nd.parts))
                  (first | exact ⟨q11.cell (j := 0) rfl, q11.cell (j := 1) rfl, q11.cell (j := 2) rfl, q11.cell (j := 3) rfl, q11.cell (j := 4) rfl, q11.cell (j := 5) rfl, q11.cell (j := 6) rfl, q11.cell (j := 7) rfl, q11.cell (j := 8) rfl, q11.cell (j := 9) rfl⟩ | exact ⟨q10.cell (j := 0) rfl, q10.cell (j := 1) rfl, q10.cell (j := 2) rfl, q10.cell (j := 3) rfl, q10.cell (j := 4) rfl, q10.cell (j := 5) rfl, q10.cell (j := 6) rfl, q10.cell (j := 7) rfl, q10.cell (j := 8) rfl, q10.cell (j := 9) rfl⟩ | exact ⟨q9.cell (j := 0) rfl, q9.cell (j := 1) rfl, q9.cell (j := 2) rfl, q9.cell (j := 3) rfl, q9.cell (j := 4) rfl, q9.cell (j := 5) rfl, q9.cell (j := 6) rfl, q9.cell (j := 7) rfl, q9.cell (j := 8) rfl, q9.cell (j := 9) rfl⟩ | exact ⟨q8.cell (j := 0) rfl, q8.cell (j := 1) rfl, q8.cell (j := 2) rfl, q8.cell (j := 3) rfl, q8.cell (j := 4) rfl, q8.cell (j := 5) rfl, q8.cell (j := 6) rfl, q8.cell (j := 7) rfl, q8.cell (j := 8) rfl, q8.cell (j := 9) rfl⟩ | exact ⟨q7.cell (j := 0) rfl, q7.cell (j := 1) rfl, q7.cell (j := 2) rfl, q7.cell (j := 3) rfl, q7.cell (j := 4) rfl, q7.cell (j := 5) rfl, q7.cell (j := 6) rfl, q7.cell (j := 7) rfl, q7.cell (j := 8) rfl, q7.cell (j := 9) rfl⟩ | go_keep)
                  ((first
                    | (refine step_append_nodsG (by rfl) _ _ _ (by rfl) eiNod (by rfl) M8 (by rfl) (m := 1) S8 rfl ?b1 ?b2 ?_; (case b1 => omega); (case b2 => omega); intro A9 c9 w9 M9 hg9 hb9; have B9 := B8.trans hb9; have hz9 := B9.size; have q9 := bN6.below B9 hlN)
                    | (refine step_append_nodsG (by rfl) _ _ _ (by rfl) eiNod (by rfl) (M8.alloc (by omega) _) (by rfl) (m := 1) (SrcN.lit (w := w8) (e := 37) HMAT.out ((rN6.below B8).more (by omega)) hcn hcm (rN6.below B8) (by omega)) rfl ?b1 ?b2 ?_; (case b1 => omega); (case b2 => (simp; omega)); intro A9 c9 w9 M9 hg9 hb9; have B9 := (B8.alloc (by omega) (.cells (nodC nd none 0 An cn).toArray 37)).trans hb9; have hz9 := B9.size; have q9 := bN6.below B9 hlN)
                    | (refine step_append_nodsG (by rfl) _ _ _ (by rfl) eiNod (by rfl) M7 (by rfl) (m := y.length) ((hY.below (B7.mono hw26)).more hw26).src rfl ?b1 ?b2 ?_; (case b1 => omega); (case b2 => omega); intro A8 c8 w8 M8 hg8 hb8; have S8 := S7.keepAt (hg8.block _ (by have : w6.drew.heap.size = w6.heap.size := rfl; omega) (fun h => by have := fA7 _ h.symm; have : w6.drew.heap.size = w6.heap.size := rfl; omega)) hb8; have B8 := B7.trans hb8; have hz8 := B8.size; have q8 := bN6.below B8 hlN)
                    | (refine step_append_nodsG (by rfl) _ _ _ (by rfl) eiNod (by rfl) (M7.alloc (by omega) _) (by rfl) (m := y.length) ((hY.below ((B7.alloc (by omega) (.cells (nodC nd none 0 An cn).toArray 37)).mono hw26)).more hw26).src rfl ?b1 ?b2 ?_; (case b1 => omega); (case b2 => (simp; omega)); intro A8 c8 w8 M8 hg8 hb8; have S8 := (SrcN.lit (w := w7) (e := 37) HMAT.out ((rN6.below B7).more (by omega)) hcn hcm (rN6.below B7) (by omega)).keepAt (hg8.block _ (by simp) (fun h => by have := (M7.block h.symm).2; omega)) hb8; have B8 := (B7.alloc (by omega) (.cells (nodC nd none 0 An cn).toArray 37)).trans hb8; have hz8 := B8.size; have q8 := bN6.below B8 hlN)
                    | (refine step_append_nodsG (by rfl) _ _ _ (by rfl) eiNod (by rfl) M7 (by rfl) (m := y.length) ((hY.below (B7.mono hw26)).more hw26).src rfl ?b1 ?b2 ?_; (case b1 => omega); (case b2 => omega); intro A8 c8 w8 M8 hg8 hb8; have B8 := B7.trans hb8; have hz8 := B8.size; have q8 := bN6.below B8 hlN)
                    | (go_at_call 18; refine (copyNodes_any x A1 x.length c1 w2.heap.size w6.drew ?q1 rfl ?q2 ?q3 okx.out).mono ?_; (case q1 => exact hX); (case q2 => exact hw26); (case q3 => omega); rintro e7 w7 ⟨A7, c7, rfl, ho7, hb7⟩; have M7 := (ho7.lower (base' := w6.heap.size) (Nat.le_refl _)).mix; have B7 : Below w6.heap.size w6 w7 := ((Below.refl w6.heap.size w6).drew).trans hb7; have hz7 := B7.size; have q7 := bN6.below B7 hlN)
                    | (go_at_call 18; refine (copyNodes_any x A1 x.length c1 w2.heap.size (World.alloc w6.drew (.cells (nodC nd none 0 An cn).toArray 37)) ?q1 rfl ?q2 ?q3 okx.out).mono ?_; (case q1 => exact hX.below (((Below.refl w2.heap.size w6).drew).alloc hw26 _)); (case q2 => (rw [World.size_alloc]; omega)); (case q3 => omega); rintro e7 w7 ⟨A7, c7, rfl, ho7, hb7⟩; have M7 := (ho7.lower (base' := w6.heap.size) (by simp)).mix; have B7 : Below w6.heap.size w6 w7 := (((Below.refl w6.heap.size w6).drew).alloc (Nat.le_refl _) _).trans (hb7.mono (by simp)); have hz7 : w6.heap.size + 1 ≤ w7.heap.size := (by have := hb7.size; simpa using this); have q7 := bN6.below B7 hlN; have fA7 : ∀ b, A7.map Addr.block = some b → w6.heap.size + 1 ≤ b := (fun b hb => by have := (ho7.mix.block hb).1; simpa using this); have S7 := (SrcN.lit (w := w6.drew) (e := 37) HMAT.out rN6 hcn hcm rN6 (Nat.le_refl _)).keepAt (hb7.block _ (by simp)) (hb7.mono (by simp)))
                    | (go_at_call 11; have hS := sameNodes_any (x ++ y ++ [nd]) (x ++ y ++ [nd]) A6 A9 _ _ c6 c9 w6.heap.size w9.heap.size w9 (HZ.out.below B9) (M9.rd hz9) (by omega) (Nat.le_refl _) hnz hnz (by unfold maxLen; omega) (by unfold maxLen; omega); rw [decide_eq_true rfl] at hS; refine hS.mono ?_; rintro e10 w10 ⟨rfl, hb10⟩; have B10 := B9.trans (hb10.mono hz9); have hz10 := B10.size; have q10 := bN6.below B10 hlN)
                    | (go_at_call 13; refine (pawake_any _).mono ?_; rintro e11 w11 ⟨rfl, hb11⟩; have B11 := B10.trans (hb11.mono hz10); have q11 := bN6.below B11 hlN)))
                all_goals
                  go_wp2_with fail
                  go_ret
                  exact ⟨rfl, HB6.out.trans (B11.mono HB6.out.size)⟩
              · rw [hB] at h6
                have h6 : e = .returned (.tuple #[.slice A6 0 c6, .int .i64 r, .int .i64 182]) := h6
                subst h6
                clear H5 hB hO6 hb6 bN rN hbN HB hcut
                go_wp2_with fail
                refine (pawake_any _).mono ?_
                rintro e w9 ⟨rfl, hb9⟩
                go_wp2_with fail
                go_ret
                exact ⟨rfl, HB6.out.trans (hb9.mono HB6.out.size)⟩
      · have hzI : (1500 : Int) < (a.size : Int) + (b.size : Int) := by omega
        clear HPx HPy HL
        go_wp2_with fail
        refine (pawake_any _).mono ?_
        rintro e w9 ⟨rfl, hb9⟩
        go_wp2_with fail
        go_ret
        exact ⟨rfl, HB.out.trans (hb9.mono HB.out.size)⟩
    · have heb : (why != 0) = true := by rw [bne_iff_ne]; exact hey
      clear HPx HPy HL
      go_wp2_with fail
      refine (pawake_any _).mono ?_
      rintro e w9 ⟨rfl, hb9⟩
      go_wp2_with fail
      go_ret
      exact ⟨rfl, HB.out.trans (hb9.mono HB.out.size)⟩
  · have heb : (whx != 0) = true := by rw [bne_iff_ne]; exact hex
    clear HPx HPy HL
    go_wp2_with fail
    refine (pawake_any _).mono ?_
    rintro e w9 ⟨rfl, hb9⟩
    go_wp2_with fail
    go_ret
    exact ⟨rfl, HB.out.trans (hb9.mono HB.out.size)⟩
end Go.Proofs.Ytdikmklijpcjdaa
