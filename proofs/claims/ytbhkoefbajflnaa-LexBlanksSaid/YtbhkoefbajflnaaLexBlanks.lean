/- LexBlanks: the tokens' bytes, with blanks between, are the same tokens. -/
import Derived.Test.YtbhkoefbajflnaaLexRaw
import Derived.Test.YtbhkoefbajflnaaBits
import Derived.Deep.RegionWith
import Derived.Deep.RegionHeld3
namespace Go.Proofs.Ytbhkoefbajflnaa
open Go.RowKit

theorem u8_and3 (c : UInt8) : bits .and .u8 (c.toNat : Int) 3 = ((c.toNat % 4 : Nat) : Int) := by
  have hall : ∀ a : Nat, a < 256 → bits .and .u8 (a : Int) 3 = ((a % 4 : Nat) : Int) := by decide +kernel
  exact hall c.toNat c.toNat_lt
theorem LexFailsSome {w : World} {p : Nat} {x : Int} {e : Ending} {w' : World} (h : LexFails w p x e w') : e = .returned (.tuple #[.slice none 0 0, .int .i64 p, .int .i64 x]) ∧ Below w.heap.size w w' := h
def LexGivesM (w : World) (ts : List Tok) (n : Nat) (e : Ending) (w' : World) : Prop := ∃ A c, e = .returned (.tuple #[.slice A n c, .int .i64 0, .int .i64 0]) ∧ Own w' w.heap.size 32 4 A n c (toksC ts) ∧ Below w.heap.size w w'
theorem lex_okm {s : ByteArray} {ts : List Tok} {n : Nat} (h : lexR s = .ok ts) (hn : ts.length = n) (w : World) (hs : s.size ≤ maxLen) : Calls Try.prog 15 #[.string s] w (LexGivesM w ts n) := by
  subst hn; exact lex_ok h w hs
/-- What one round is told of its piece. -/
theorem piece_at {s : ByteArray} {ps : List (Tok × List UInt8)} {x : List Tok} {k : Nat} (hx : x = ps.map (·.1) ++ [⟨0, 0 + s.data.toList.length, mkB [], 0⟩]) (hL : Laid 0 s.data.toList ps) (hk : k < ps.length) :
    ∃ t y u a m e, ps[k]? = some (t, y) ∧ x[k]? = some t ∧ x[k + 1]? = some u ∧ t.at_ = a ∧ u.at_ = e ∧ y.length = m ∧ 1 ≤ m ∧ a + m ≤ e ∧ e ≤ s.size ∧ (s.extract a (a + m)).data.toList = y ∧
      (∀ j (hj : j < s.size), a + m ≤ j → j < e → blankB s[j] = true) ∧ (∀ j (hj : j < s.size), j + 1 = a + m → blankB s[j] = false) := by
  obtain ⟨⟨t, y⟩, hp⟩ : ∃ z, ps[k]? = some z := ⟨_, List.getElem?_eq_getElem hk⟩
  obtain ⟨e, h1, h2, h3, h4, h5, h6⟩ := hL.at_ k t y hp
  rw [← hx] at h1
  cases hu : x[k + 1]? with
  | none => rw [hu] at h1; cases h1
  | some u =>
    rw [hu] at h1
    injection h1 with h1
    have hg := hL.good (t, y) (List.mem_of_getElem? hp)
    have hss : s.data.toList.length = s.size := (Lib.size_eq s).symm
    have hex : (s.extract t.at_ (t.at_ + y.length)).data.toList = y := by rw [extract_toL, Nat.add_sub_cancel_left]; simpa using h5
    refine ⟨t, y, u, t.at_, y.length, e, hp, ?_, rfl, rfl, h1, rfl, hg.ne, h3, by omega, hex, ?_, ?_⟩
    · rw [hx, List.getElem?_append_left (by simpa using hk), List.getElem?_map, hp]; rfl
    · intro j hj hj1 hj2
      obtain ⟨c, h7, h8⟩ := h6 j hj1 hj2
      rw [Nat.sub_zero, List.getElem?_eq_getElem (by omega)] at h7
      injection h7 with h7
      have : s[j] = c := h7
      rw [this]; exact h8
    · intro j hj hj1
      obtain ⟨c, h7, h8⟩ := hg.last
      have hne : 1 ≤ y.length := hg.ne
      rw [List.getLast?_eq_getElem?, ← hex, extract_toL, Nat.add_sub_cancel_left, List.getElem?_take] at h7
      simp only [List.length_take, List.length_drop] at h7
      rw [if_pos (by omega), List.getElem?_drop, List.getElem?_eq_getElem (by omega)] at h7
      injection h7 with h7
      have : s[j] = c := by rw [← h7]; show s.data.toList[j] = _; congr 1; omega
      rw [this]; exact h8

theorem lay_step {s U : ByteArray} {ps : List (Tok × List UInt8)} {k a e : Nat} {t : Tok} {y : List UInt8} {g : UInt8} (h : ∃ G, G.length = k ∧ (∀ g ∈ G, blankB g = true) ∧ U.data.toList = 32 :: layG (ps.take k) G) (hp : ps[k]? = some (t, y)) (hy : (s.extract a e).data.toList = y) (hg : blankB g = true) :
    Hid (∃ G, G.length = k + 1 ∧ (∀ g ∈ G, blankB g = true) ∧ (U ++ s.extract a e ++ mkB [g, 32]).data.toList = 32 :: layG (ps.take (k + 1)) G) := by
  obtain ⟨G, h1, h2, h3⟩ := h
  refine ⟨G ++ [g], by simp [h1], ?_, ?_⟩
  · intro x hx
    rcases List.mem_append.1 hx with hx | hx
    · exact h2 x hx
    · simp at hx; subst hx; exact hg
  · have hk : k < ps.length := (List.getElem?_eq_some_iff.1 hp).1
    have e2 : ps.take (k + 1) = ps.take k ++ [(t, y)] := by rw [List.take_add_one, hp]; rfl
    rw [e2, layG_snoc _ _ _ _ _ (by rw [List.length_take, h1]; omega), ByteArray.data_append, ByteArray.data_append, Array.toList_append, Array.toList_append, h3, hy]
    simp [mkB]
theorem lexR_small' {s : ByteArray} {l : List UInt8} (h : s.data.toList = l) (hl : l.length ≤ 4096) : lexR s = lexL 0 l := by
  rw [lexR, if_neg (by rw [Lib.size_eq, h]; omega), h]
theorem lay_size {U : ByteArray} {ps : List (Tok × List UInt8)} {k : Nat} (h : ∃ G, G.length = k ∧ (∀ g ∈ G, blankB g = true) ∧ U.data.toList = 32 :: layG (ps.take k) G) (hsum : sumY ps ≤ 800) (hk : k ≤ ps.length) : U.size ≤ 801 + 2 * k := by
  obtain ⟨G, h1, h2, h3⟩ := h
  have h4 := sumY_take ps k
  rw [Lib.size_eq, h3, List.length_cons, layG_len _ _ (by rw [List.length_take, h1]; omega), List.length_take]
  omega
theorem Rd.alloc' {w : World} {B sz : Nat} {A : Option Addr} {xs : List (List Value)} (h : Rd w B sz A xs) (hB : B ≤ w.heap.size) (o : Obj) : Rd (w.alloc o) B sz A xs := h.keep fun b o' hb => ((Below.refl B w).alloc hB o).cell (p := ⟨b, o', none⟩) hb
theorem conv_gap (g : UInt8) (W : World) : (convert 30 9 (.slice (some ⟨W.heap.size, 0, none⟩) 2 2)).run Try.prog (W.alloc (.cells #[.int .u8 (g.toNat : Int), .int .u8 32] 5)) = .ok (.string (mkB [g, 32])) (W.alloc (.cells #[.int .u8 (g.toNat : Int), .int .u8 32] 5)) :=
  run_conv_rd (P := Try.prog) (acc := [g, 32]) (Rd.new W (by simp [bytesC]) _ rfl) 30 5 9 Try.underlying30 Try.underlying5 Try.underlying9 2 2 rfl (fun _ => .inr ⟨_, _, rfl⟩)
set_option maxRecDepth 100000 in
set_option maxHeartbeats 8000000 in
theorem lexBlanks_any (s : ByteArray) (bs : List UInt8) (Ab : Option Addr) (nb cb Bb : Nat) (w : World) (hs : s.size ≤ 140737488351232) (hbr : Rd w Bb 1 Ab (bytesC bs)) (hnb : bs.length = nb) (hnb2 : nb ≤ maxLen) (hBb : Bb ≤ w.heap.size) : Calls Try.prog 4 #[.string s, .slice Ab nb cb] w (AwakeOk w) := by
  have HA := fun W => Lib.hid (awake17_any W)
  unfold maxLen at hnb2
  cases hla : lexR s with
  | err p x =>
    have hx := lexR_code hla
    have hX := fun W => Lib.hid (lex_no hla W (by simp only [maxLen]; omega))
    have hx0 : ((x : Int) != 0) = true := by rw [bne_iff_ne]; omega
    clear hla
    go_enter Try.func4, Try.ntmps4
    go_wp2_with fail
    refine ((hX _).out).mono ?_
    rintro e w1 ⟨rfl, hb1⟩
    go_wp2_with fail
    refine ((HA _).out).mono ?_
    rintro e w3 ⟨rfl, hb3⟩
    go_wp2_with fail
    go_ret
    exact ⟨rfl, hb1.trans (hb3.mono hb1.size)⟩
  | ok x =>
    have hx := hla
    rw [lexR] at hx
    split at hx
    · cases hx
    rename_i hsz
    obtain ⟨ps, hxp, hL⟩ := lex_laid s.data.toList.length 0 s.data.toList x (Nat.le_refl _) hx
    have hsum := hL.sum
    rw [← Lib.size_eq] at hsum
    obtain ⟨m, hm⟩ : ∃ m, ps.length = m := ⟨_, rfl⟩
    have hxn : x.length = m + 1 := by rw [hxp]; simp [hm]
    have hX := fun W => Lib.hid (lex_okm hla hxn W (by simp only [maxLen]; omega))
    have hmI : ((m + 1 : Nat) : Int) ≠ 0 := by omega
    have hm1 : (((m : Int) + 1) == 0) = false := by rw [beq_eq_false_iff_ne]; omega
    have hm2 : (0 : Int) < (m : Int) + 1 := by omega
    by_cases hbig : 800 < s.size
    · have hI : (800 : Int) < s.size := by omega
      clear hla hx hxp hL hxn hm
      go_enter Try.func4, Try.ntmps4
      go_wp2_with fail
      refine ((hX _).out).mono ?_
      rintro e w1 ⟨A, c, rfl, ho, hb1⟩
      go_wp2_with fail
      refine ((HA _).out).mono ?_
      rintro e w3 ⟨rfl, hb3⟩
      go_wp2_with fail
      go_ret
      exact ⟨rfl, hb1.trans (hb3.mono hb1.size)⟩
    · have hI : ¬ (800 : Int) < s.size := by omega
      have hmx : m ≤ 4096 := by
        have hg := fun z hz => (hL.good z hz).ne
        have : ∀ l : List (Tok × List UInt8), (∀ z ∈ l, 1 ≤ z.2.length) → l.length ≤ sumY l := by
          intro l
          induction l with
          | nil => intro _; simp
          | cons z l ih => intro h; have := ih (fun y hy => h y (by simp [hy])); have := h z (by simp); simp only [sumY, List.map_cons, List.sum_cons, List.length_cons] at *; omega
        have := this ps hg
        omega
      have hmy : m ≤ 800 := by
        have hg := fun z hz => (hL.good z hz).ne
        have : ∀ l : List (Tok × List UInt8), (∀ z ∈ l, 1 ≤ z.2.length) → l.length ≤ sumY l := by
          intro l
          induction l with
          | nil => intro _; simp
          | cons z l ih => intro h; have := ih (fun y hy => h y (by simp [hy])); have := h z (by simp); simp only [sumY, List.map_cons, List.sum_cons, List.length_cons] at *; omega
        have := this ps hg
        omega
      have HP := Lib.hid (fun k (hk : k < m) => piece_at (k := k) hxp hL (by omega))
      have HL := Lib.hid hL
      have HM := Lib.hid hm
      have HXP := Lib.hid hxp
      have HN := Lib.hid hxn
      have HNB := Lib.hid hnb
      clear hla hx hxp hL hxn hm hnb
      go_enter Try.func4, Try.ntmps4
      go_wp2_with fail
      refine ((hX _).out).mono ?_
      rintro e w1 ⟨A, c, rfl, ho, hb1⟩
      have hrd := ho.rd
      have hrb := hbr.below (hb1.mono hBb)
      have hBb1 : Bb ≤ w1.heap.size := by have := hb1.size; omega
      go_wp2_with fail
      go_loopw [8, 9] (fun u i wr => ∃ (k : Nat) (U : ByteArray), k ≤ m ∧ i = .int .i64 k ∧ u = .string U ∧ Hid (∃ G, G.length = k ∧ (∀ g ∈ G, blankB g = true) ∧ U.data.toList = 32 :: layG (ps.take k) G) ∧ Below w1.heap.size w1 wr) (fun _ i _ => m - (intOf i).toNat)
      case atStart => exact ⟨0, _, by omega, rfl, rfl, ⟨[], rfl, by simp, rfl⟩, Below.refl _ _⟩
      case round =>
        obtain ⟨k, U, hk, rfl, rfl, HU, hbw⟩ := hrel
        have hU : U.size ≤ 801 + 2 * k := lay_size HU.out (by omega) (by rw [HM.out]; exact hk)
        have hk0 : (0 : Int) ≤ k := by omega
        have hbsz := hbw.size
        by_cases hlt : k < m
        · have hltI : (k : Int) + 1 < (m : Int) + 1 := by omega
          have hltJ : (k : Int) < (m : Int) + 1 := by omega
          obtain ⟨t, y, u, a, l, e, h1, h2, h3, h4, h5, h6, h7, h8, h9, h10, h11, h12⟩ := HP.out k hlt
          have hR := fun W (hw : Rd W w1.heap.size 4 A (toksC x)) => Lib.hid (raw_any s x A (m + 1) c w1.heap.size k l a e t u W hw h2 h3 h4 h5 (by omega) (by omega) h7 h8 h9 hs h11 h12)
          obtain ⟨b, o, rfl, hblt, p0, p1, p2, p3⟩ := (hrd.below hbw).at_tok h2
          obtain ⟨b', o', hA, hblt', q0, q1, q2, q3⟩ := (hrd.below hbw).at_tok h3
          injection hA with hA; injection hA with hA1 hA2
          subst hA1 hA2
          rw [h4] at p1
          rw [h5] at q1
          have haI : (a : Int) ≤ e := by omega
          have heI : (e : Int) ≤ s.size := by omega
          have hlen : (s.extract a (a + l)).size = l := by rw [Lib.size_eq, h10, h6]
          have hl800 : l ≤ 800 := by omega
          have hz1 : (s.extract a (a + l)).size ≤ 800 := by omega
          have hz2 : (mkB [32, 32]).size ≤ 2 := Nat.le_refl _
          have H1 := Lib.hid h1
          have H10 := Lib.hid h10
          have HLEN := Lib.hid hlen
          have d1 : decide ((e : Int) < (a : Int)) = false := by rw [decide_eq_false_iff_not]; omega
          have d2 : decide ((s.size : Int) < (e : Int)) = false := by rw [decide_eq_false_iff_not]; omega
          have d3 : decide (e < a) = false := by rw [decide_eq_false_iff_not]; omega
          have d4 : decide (s.size < e) = false := by rw [decide_eq_false_iff_not]; omega
          have e1 : IntKind.i64.wrap ((k : Int) + 1) = (k : Int) + 1 := by rw [IntKind.wrap_i64]; omega
          have e2 : ((k : Int) + 1).toNat = k + 1 := by omega
          have e3 : (0 : Int) ≤ (k : Int) + 1 := by omega
          clear p0 p2 p3 q0 q2 q3 h1 h2 h3 h4 h5 h6 h10 h11 h12 hlen
          by_cases hkb : k < nb
          · have hkbI : (k : Int) < nb := by omega
            obtain ⟨bb, hbb⟩ := get_lt HNB hkb
            obtain ⟨b2, o2, hAb, hb2, r0⟩ := (hrb.below (hbw.mono hBb1)).at1 (k := k) (v0 := .int .u8 (bb.toNat : Int)) (by simp [bytesC, hbb])
            subst hAb
            have hb2' : b2 < wr.heap.size := by omega
            obtain ⟨q, hq⟩ : ∃ q : Nat, bits .and .u8 (bb.toNat : Int) 3 = (q : Int) := ⟨bb.toNat % 4, u8_and3 bb⟩
            have hq4 : q = 0 ∨ q = 1 ∨ q = 2 ∨ q = 3 := by rw [u8_and3] at hq; omega
            have hbbv : (0 : Int) ≤ bb.toNat := by omega
            clear hbb
            rcases hq4 with rfl | rfl | rfl | rfl
            · have hz3 : (mkB [32, 32]).size ≤ 2 := Nat.le_refl _
              go_wp2_with fail
              go_quiet (fail)
              have hbq := below_drewN hbw nq
              have r1 : (wr.drewN nq).cell? ⟨b2, o2 + k, none⟩ = some (.int .u8 (bb.toNat : Int)) := r0
              have hb3 : b2 < (wr.drewN nq).heap.size := hb2'
              generalize wr.drewN nq = wq at *
              have hRq := hrd.below hbq
              have hqsz := hbq.size
              clear e1 e2 hbw hbsz
              go_wp2_with fail
              clear r1 hb3 hq
              have hcv : (convert 30 9 (.slice (some ⟨wq.heap.size + 1, 0, none⟩) 2 2)).run Try.prog (((wq.alloc (.cells #[.int .u8 32, .int .u8 9, .int .u8 13, .int .u8 10] 5)).alloc (.cells #[.int .u8 32, .int .u8 32] 5)).drew) = .ok (.string (mkB [32, 32])) (((wq.alloc (.cells #[.int .u8 32, .int .u8 9, .int .u8 13, .int .u8 10] 5)).alloc (.cells #[.int .u8 32, .int .u8 32] 5)).drew) := by
                have := conv_gap 32 (wq.drew.alloc (.cells #[.int .u8 32, .int .u8 9, .int .u8 13, .int .u8 10] 5))
                rw [show (wq.drew.alloc (.cells #[.int .u8 32, .int .u8 9, .int .u8 13, .int .u8 10] 5)).heap.size = wq.heap.size + 1 from by simp] at this
                exact this
              go_region_with (go_at_call 19; refine ((hR _ (by first | exact hRq.drew | exact (Rd.alloc' hRq hqsz _).drew | exact (Rd.alloc' (Rd.alloc' hRq hqsz _) (by simp; omega) _).drew)).out).mono ?_; rintro e w' ⟨rfl, rfl⟩)
              all_goals
                go_wp2_with fail
                go_roundw
                case rel => exact ⟨k + 1, _, by omega, by go_num, rfl, lay_step HU.out H1.out H10.out (by decide), ((hbq.alloc hqsz _).alloc (by simp; omega) _).drew⟩
                case measure => simp [intOf]; omega
            · have hz3 : (mkB [9, 32]).size ≤ 2 := Nat.le_refl _
              go_wp2_with fail
              go_quiet (fail)
              have hbq := below_drewN hbw nq
              have r1 : (wr.drewN nq).cell? ⟨b2, o2 + k, none⟩ = some (.int .u8 (bb.toNat : Int)) := r0
              have hb3 : b2 < (wr.drewN nq).heap.size := hb2'
              generalize wr.drewN nq = wq at *
              have hRq := hrd.below hbq
              have hqsz := hbq.size
              clear e1 e2 hbw hbsz
              go_wp2_with fail
              clear r1 hb3 hq
              have hcv : (convert 30 9 (.slice (some ⟨wq.heap.size + 1, 0, none⟩) 2 2)).run Try.prog (((wq.alloc (.cells #[.int .u8 32, .int .u8 9, .int .u8 13, .int .u8 10] 5)).alloc (.cells #[.int .u8 9, .int .u8 32] 5)).drew) = .ok (.string (mkB [9, 32])) (((wq.alloc (.cells #[.int .u8 32, .int .u8 9, .int .u8 13, .int .u8 10] 5)).alloc (.cells #[.int .u8 9, .int .u8 32] 5)).drew) := by
                have := conv_gap 9 (wq.drew.alloc (.cells #[.int .u8 32, .int .u8 9, .int .u8 13, .int .u8 10] 5))
                rw [show (wq.drew.alloc (.cells #[.int .u8 32, .int .u8 9, .int .u8 13, .int .u8 10] 5)).heap.size = wq.heap.size + 1 from by simp] at this
                exact this
              go_region_with (go_at_call 19; refine ((hR _ (by first | exact hRq.drew | exact (Rd.alloc' hRq hqsz _).drew | exact (Rd.alloc' (Rd.alloc' hRq hqsz _) (by simp; omega) _).drew)).out).mono ?_; rintro e w' ⟨rfl, rfl⟩)
              all_goals
                go_wp2_with fail
                go_roundw
                case rel => exact ⟨k + 1, _, by omega, by go_num, rfl, lay_step HU.out H1.out H10.out (by decide), ((hbq.alloc hqsz _).alloc (by simp; omega) _).drew⟩
                case measure => simp [intOf]; omega
            · have hz3 : (mkB [13, 32]).size ≤ 2 := Nat.le_refl _
              go_wp2_with fail
              go_quiet (fail)
              have hbq := below_drewN hbw nq
              have r1 : (wr.drewN nq).cell? ⟨b2, o2 + k, none⟩ = some (.int .u8 (bb.toNat : Int)) := r0
              have hb3 : b2 < (wr.drewN nq).heap.size := hb2'
              generalize wr.drewN nq = wq at *
              have hRq := hrd.below hbq
              have hqsz := hbq.size
              clear e1 e2 hbw hbsz
              go_wp2_with fail
              clear r1 hb3 hq
              have hcv : (convert 30 9 (.slice (some ⟨wq.heap.size + 1, 0, none⟩) 2 2)).run Try.prog (((wq.alloc (.cells #[.int .u8 32, .int .u8 9, .int .u8 13, .int .u8 10] 5)).alloc (.cells #[.int .u8 13, .int .u8 32] 5)).drew) = .ok (.string (mkB [13, 32])) (((wq.alloc (.cells #[.int .u8 32, .int .u8 9, .int .u8 13, .int .u8 10] 5)).alloc (.cells #[.int .u8 13, .int .u8 32] 5)).drew) := by
                have := conv_gap 13 (wq.drew.alloc (.cells #[.int .u8 32, .int .u8 9, .int .u8 13, .int .u8 10] 5))
                rw [show (wq.drew.alloc (.cells #[.int .u8 32, .int .u8 9, .int .u8 13, .int .u8 10] 5)).heap.size = wq.heap.size + 1 from by simp] at this
                exact this
              go_region_with (go_at_call 19; refine ((hR _ (by first | exact hRq.drew | exact (Rd.alloc' hRq hqsz _).drew | exact (Rd.alloc' (Rd.alloc' hRq hqsz _) (by simp; omega) _).drew)).out).mono ?_; rintro e w' ⟨rfl, rfl⟩)
              all_goals
                go_wp2_with fail
                go_roundw
                case rel => exact ⟨k + 1, _, by omega, by go_num, rfl, lay_step HU.out H1.out H10.out (by decide), ((hbq.alloc hqsz _).alloc (by simp; omega) _).drew⟩
                case measure => simp [intOf]; omega
            · have hz3 : (mkB [10, 32]).size ≤ 2 := Nat.le_refl _
              go_wp2_with fail
              go_quiet (fail)
              have hbq := below_drewN hbw nq
              have r1 : (wr.drewN nq).cell? ⟨b2, o2 + k, none⟩ = some (.int .u8 (bb.toNat : Int)) := r0
              have hb3 : b2 < (wr.drewN nq).heap.size := hb2'
              generalize wr.drewN nq = wq at *
              have hRq := hrd.below hbq
              have hqsz := hbq.size
              clear e1 e2 hbw hbsz
              go_wp2_with fail
              clear r1 hb3 hq
              have hcv : (convert 30 9 (.slice (some ⟨wq.heap.size + 1, 0, none⟩) 2 2)).run Try.prog (((wq.alloc (.cells #[.int .u8 32, .int .u8 9, .int .u8 13, .int .u8 10] 5)).alloc (.cells #[.int .u8 10, .int .u8 32] 5)).drew) = .ok (.string (mkB [10, 32])) (((wq.alloc (.cells #[.int .u8 32, .int .u8 9, .int .u8 13, .int .u8 10] 5)).alloc (.cells #[.int .u8 10, .int .u8 32] 5)).drew) := by
                have := conv_gap 10 (wq.drew.alloc (.cells #[.int .u8 32, .int .u8 9, .int .u8 13, .int .u8 10] 5))
                rw [show (wq.drew.alloc (.cells #[.int .u8 32, .int .u8 9, .int .u8 13, .int .u8 10] 5)).heap.size = wq.heap.size + 1 from by simp] at this
                exact this
              go_region_with (go_at_call 19; refine ((hR _ (by first | exact hRq.drew | exact (Rd.alloc' hRq hqsz _).drew | exact (Rd.alloc' (Rd.alloc' hRq hqsz _) (by simp; omega) _).drew)).out).mono ?_; rintro e w' ⟨rfl, rfl⟩)
              all_goals
                go_wp2_with fail
                go_roundw
                case rel => exact ⟨k + 1, _, by omega, by go_num, rfl, lay_step HU.out H1.out H10.out (by decide), ((hbq.alloc hqsz _).alloc (by simp; omega) _).drew⟩
                case measure => simp [intOf]; omega
          · have hkbI : ¬ (k : Int) < nb := by omega
            go_wp2_with fail
            go_quiet (fail)
            have hbq := below_drewN hbw nq
            generalize wr.drewN nq = wq at *
            have hRq := hrd.below hbq
            have hqsz := hbq.size
            clear e1 e2 hbw hbsz
            go_wp2_with fail
            have hcv : (convert 30 9 (.slice (some ⟨wq.heap.size, 0, none⟩) 2 2)).run Try.prog (wq.alloc (.cells #[.int .u8 32, .int .u8 32] 5)).drew = .ok (.string (mkB [32, 32])) (wq.alloc (.cells #[.int .u8 32, .int .u8 32] 5)).drew := conv_gap 32 wq.drew
            go_region_with (go_at_call 19; refine ((hR _ (by first | exact hRq.drew | exact (Rd.alloc' hRq hqsz _).drew | exact (Rd.alloc' (Rd.alloc' hRq hqsz _) (by simp; omega) _).drew)).out).mono ?_; rintro e w' ⟨rfl, rfl⟩)
            all_goals
              go_wp2_with fail
              go_roundw
              case rel => exact ⟨k + 1, _, by omega, by go_num, rfl, lay_step HU.out H1.out H10.out (by decide), (hbq.alloc hqsz _).drew⟩
              case measure => simp [intOf]; omega
        · have hkm : k = m := by omega
          have hlr : ∃ z : List Tok, lexR U = .ok z ∧ z.length = m + 1 ∧ z[m]?.map Tok.at_ = some U.size ∧ ∀ j, j < m + 1 → ∃ t a, x[j]? = some t ∧ z[j]? = some ⟨t.kind, a, t.text, t.span⟩ := by
            obtain ⟨G, g1, g2, g3⟩ := HU.out
            rw [hkm, ← HM.out, List.take_length] at g3
            have hG : ps.length = G.length := by rw [g1, HM.out, hkm]
            obtain ⟨ts, l1, l2, l3⟩ := lay_lex ps G 1 hG g2 (fun z hz => HL.out.good z hz)
            have hus : U.size = 1 + (layG ps G).length := by rw [Lib.size_eq, g3, List.length_cons]; omega
            have e : lexR U = .ok (ts ++ [⟨0, U.size, mkB [], 0⟩]) := by
              have hss := sumY_take ps k
              rw [lexR_small' g3 (by rw [List.length_cons, layG_len _ _ hG, HM.out]; omega), lexL_cons]
              show (lexL (0 + 1) (layG ps G)).pre [] = _
              rw [pre_nil, l1, hus]
            refine ⟨_, e, by simp [l2, HM.out], by rw [List.getElem?_append_right (by rw [l2, HM.out]; omega), l2, HM.out, Nat.sub_self]; rfl, fun j hj => ?_⟩
            rw [HXP.out]
            by_cases hjm : j < m
            · obtain ⟨⟨t, y⟩, hp⟩ : ∃ z, ps[j]? = some z := ⟨_, List.getElem?_eq_getElem (by rw [HM.out]; exact hjm)⟩
              obtain ⟨a, ha⟩ := l3 j t y hp
              refine ⟨t, a, ?_, ?_⟩
              · rw [List.getElem?_append_left (by simp [HM.out, hjm]), List.getElem?_map, hp]; rfl
              · rw [List.getElem?_append_left (by rw [l2, HM.out]; exact hjm)]; exact ha
            · have hje : j = m := by omega
              refine ⟨⟨0, 0 + s.data.toList.length, mkB [], 0⟩, U.size, ?_, ?_⟩
              · rw [List.getElem?_append_right (by simp [HM.out, hje]), List.length_map, HM.out, hje, Nat.sub_self]; rfl
              · rw [List.getElem?_append_right (by rw [l2, HM.out, hje]; omega), l2, HM.out, hje, Nat.sub_self]; rfl
          obtain ⟨z, hz1, hz2, hz3, hz4⟩ := hlr
          have hZ := fun W => Lib.hid (lex_okm hz1 hz2 W (by simp only [maxLen]; omega))
          have HZ3 := Lib.hid hz3
          have HZ4 := Lib.hid hz4
          have hltI : ¬ (k : Int) + 1 < (m : Int) + 1 := by omega
          have HKM := Lib.hid hkm
          clear hz1 hz2 hz3 hz4 hkm HU
          go_wp2_with fail
          refine ((hZ _).out).mono ?_
          rintro e w2 ⟨A5, c5, rfl, ho5, hb5⟩
          have hr5 := ho5.rd
          have hz5 := hb5.size
          obtain ⟨u, hu⟩ : ∃ u, z[m]? = some u := by
            have := HZ3.out
            cases h : z[m]? with
            | none => rw [h] at this; cases this
            | some u => exact ⟨u, rfl⟩
          have hua : u.at_ = U.size := by have := HZ3.out; rw [hu] at this; injection this
          obtain ⟨b5, o5, rfl, hb5l, q0, q1, q2, q3⟩ := hr5.at_tok hu
          rw [hua] at q1
          have hm0 : (0 : Int) ≤ m := by omega
          have hm3 : (m : Int) < (m : Int) + 1 := by omega
          have hbw2 : Below w1.heap.size w1 w2 := hbw.trans (hb5.mono hbsz)
          clear q0 q2 q3 hu hua
          go_wp2_with fail
          go_loopw [14] (fun i wr => ∃ k : Nat, k ≤ m + 1 ∧ i = .int .i64 k ∧ Below w2.heap.size w2 wr) (fun i _ => m + 1 - (intOf i).toNat)
          case atStart => exact ⟨0, by omega, rfl, Below.refl _ _⟩
          case round =>
            obtain ⟨j, hj, rfl, hbj⟩ := hrel
            have hj0 : (0 : Int) ≤ j := by omega
            by_cases hjl : j < m + 1
            · have hjI : (j : Int) < (m : Int) + 1 := by omega
              obtain ⟨t, a, h1, h2⟩ := HZ4.out j hjl
              obtain ⟨b1, o1, hA1, hl1, p0, p1, p2, p3⟩ := ((hrd.below hbw2).below (hbj.mono hbw2.size)).at_tok h1
              obtain ⟨b2, o2, hA2, hl2, r0, r1, r2, r3⟩ := (hr5.below hbj).at_tok h2
              injection hA2 with hA2; injection hA2 with hA3 hA4
              subst hA1 hA3 hA4
              clear h1 h2 p1 r1
              go_wp2_with fail
              go_quiet (fail)
              go_wp2_with fail
              go_roundw
              case rel => exact ⟨j + 1, by omega, by go_num, below_drewN hbj _⟩
              case measure => simp [intOf]; omega
            · have hjI : ¬ (j : Int) < (m : Int) + 1 := by omega
              go_wp2_with fail
              refine ((HA _).out).mono ?_
              rintro e w3 ⟨rfl, hb3⟩
              go_wp2_with fail
              go_ret
              have := hb1.size; have := hbw2.size; have := hbj.size
              exact ⟨rfl, ((hb1.trans (hbw2.mono (by omega))).trans (hbj.mono (by omega))).trans (hb3.mono (by omega))⟩
end Go.Proofs.Ytbhkoefbajflnaa
