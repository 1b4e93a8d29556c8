/- The document's own lexing. -/
import Derived.Test.YtakfnojiaakfpaaGreatDoorRefLexG
import Derived.Test.YtakfnojiaakfpaaGreatDoorPar2
namespace Go.Proofs.YtakfnojiaakfpaaGreatDoor
open Go.RowKit
theorem letB_letR (c : UInt8) : letB c = (letR c || ((c.toNat : Int) == 58)) := by
  rw [Bool.eq_iff_iff]; simp [letB, letR]; omega
theorem numC_ref (c : UInt8) : numC c = (dchar c || letR c || ((c.toNat : Int) == (46 : UInt8).toNat)) := by
  have hall : ∀ n : Nat, n < 256 → numC (UInt8.ofNat n) = (dchar (UInt8.ofNat n) || letR (UInt8.ofNat n) || (((UInt8.ofNat n).toNat : Int) == (46 : UInt8).toNat)) := by decide +kernel
  have := hall c.toNat c.toNat_lt
  rwa [UInt8.ofNat_toNat] at this
theorem wordC_ref (c : UInt8) : wordC c = (dchar c || letR c || ((c.toNat : Int) == (58 : UInt8).toNat)) := by
  have hall : ∀ n : Nat, n < 256 → wordC (UInt8.ofNat n) = (dchar (UInt8.ofNat n) || letR (UInt8.ofNat n) || (((UInt8.ofNat n).toNat : Int) == (58 : UInt8).toNat)) := by decide +kernel
  have := hall c.toNat c.toNat_lt
  rwa [UInt8.ofNat_toNat] at this
structure RLexAt (s : ByteArray) (w : World) (k : Nat) (A : Option Addr) (c : Nat) (done : List Tok) (w' : World) : Prop where
  le : k ≤ s.size
  few : done.length ≤ k
  bel : Below w.heap.size w w'
  own : Own w' w.heap.size 67 4 A done.length c (toksC done)
theorem RLexAt.on {s : ByteArray} {w w' w2 : World} {k k2 c c' : Nat} {A A' : Option Addr} {done : List Tok} {t : Tok} {o : Obj} (h : RLexAt s w k A c done w') (w1 : World) (hb1 : Below w.heap.size w w1)
    (ho : Own w2 w.heap.size 67 4 A' (done.length + 1) c' (toksC done ++ toksC [t])) (hb : Below w.heap.size (w1.alloc o) w2) (hk : k < k2) (hk2 : k2 ≤ s.size) : RLexAt s w k2 A' c' (done ++ [t]) w2 :=
  { le := hk2, few := by have := h.few; simp; omega, bel := (hb1.alloc hb1.size o).trans hb, own := by simpa [toksC] using ho }
def SpanYes (v : Int) (w : World) (e : Ending) (w' : World) : Prop := e = .returned (.tuple #[.int .i64 v, .bool true]) ∧ w = w'
def SpanNo (w : World) (e : Ending) (w' : World) : Prop := ∃ v : Int, e = .returned (.tuple #[.int .i64 v, .bool false]) ∧ w = w'
theorem rspan_yes (s : ByteArray) (w : World) (hs : s.size ≤ 4096) (h : 0 < spanN s.data.toList) : Calls Tryz.prog 123 #[.string s] w (SpanYes (spanN s.data.toList) w) :=
  (xspan_any s w hs).mono fun e w' ⟨v, h1, h2, h3⟩ => ⟨by rw [h1, h2 h, decide_eq_true h], h3⟩
theorem rspan_no (s : ByteArray) (w : World) (hs : s.size ≤ 4096) (h : ¬ 0 < spanN s.data.toList) : Calls Tryz.prog 123 #[.string s] w (SpanNo w) :=
  (xspan_any s w hs).mono fun e w' ⟨v, h1, _, h3⟩ => ⟨v, by rw [h1, decide_eq_false h], h3⟩
set_option maxRecDepth 100000 in
set_option maxHeartbeats 8000000 in
theorem rlex_any (s : ByteArray) (w : World) (hs : s.size ≤ maxLen) :
    Calls Tryz.prog 109 #[.string s] w fun e w' => LexOk w.heap.size (lexR s) e w' ∧ Below w.heap.size w w' := by
  unfold maxLen at hs
  by_cases hbig : 4096 < s.size
  · have HT : Hid (lexR s = .err 0 170) := if_pos hbig
    have hI : (4096 : Int) < s.size := by omega
    clear hbig
    go_enter Tryz.func109, Tryz.ntmps109
    go_wp2_with fail
    go_ret3
    exact ⟨by rw [HT.out]; rfl, Below.refl _ _⟩
  have HR0 : Hid (lexR s = lexL 0 s.data.toList) := if_neg hbig
  have hI : ¬ (4096 : Int) < s.size := by omega
  have hsm : s.size ≤ 4096 := by omega
  go_enter Tryz.func109, Tryz.ntmps109
  go_wp2_with fail
  go_loopw [5, 6] (fun o i wr => ∃ (k c : Nat) (A : Option Addr) (done : List Tok), RLexAt s w k A c done wr ∧ i = .int .i64 k ∧ o = .slice A done.length c ∧ Hid (lexL 0 s.data.toList = (lexL k (s.data.toList.drop k)).pre done)) (fun _ i _ => s.size - (intOf i).toNat)
  case atStart => exact ⟨0, 0, none, [], { le := by omega, few := Nat.le_refl _, bel := Below.refl _ _, own := Own.nil_ (by omega) }, rfl, rfl, (pre_nil _).symm⟩
  case round =>
    obtain ⟨k, c, A, done, hK, rfl, rfl, HR⟩ := hrel
    have hk0 : (0 : Int) ≤ k := by omega
    have hkle := hK.le
    have hfew : done.length ≤ 4096 := by have := hK.few; omega
    have hO := hK.own
    have hbel := hK.bel
    have hwz := hbel.size
    by_cases hlt : k < s.size
    · have hltI : (k : Int) < s.size := by omega
      cases hb : blankB s[k] with
      | true =>
        have HR2 : Hid (lexL 0 s.data.toList = (lexL (k + 1) (s.data.toList.drop (k + 1))).pre done) := by
          show _ = _
          rw [HR.out, lex_step hlt (one_blank hlt hb), pre_nil]
        have hq : s[k].toNat = 32 ∨ s[k].toNat = 9 ∨ s[k].toNat = 13 ∨ s[k].toNat = 10 := by simp [blankB] at hb; omega
        clear HR hb
        rcases hq with hq | hq | hq | hq
        · have hqI : (s[k].toNat : Int) = 32 := by omega
          clear hq
          go_wp2_with fail
          go_roundw
          case rel => exact ⟨k + 1, c, A, done, { hK with le := hlt, few := by have := hK.few; omega }, by go_num, rfl, HR2⟩
          case measure => simp [intOf]; omega
        · have hqI : (s[k].toNat : Int) = 9 := by omega
          clear hq
          go_wp2_with fail
          go_roundw
          case rel => exact ⟨k + 1, c, A, done, { hK with le := hlt, few := by have := hK.few; omega }, by go_num, rfl, HR2⟩
          case measure => simp [intOf]; omega
        · have hqI : (s[k].toNat : Int) = 13 := by omega
          clear hq
          go_wp2_with fail
          go_roundw
          case rel => exact ⟨k + 1, c, A, done, { hK with le := hlt, few := by have := hK.few; omega }, by go_num, rfl, HR2⟩
          case measure => simp [intOf]; omega
        · have hqI : (s[k].toNat : Int) = 10 := by omega
          clear hq
          go_wp2_with fail
          go_roundw
          case rel => exact ⟨k + 1, c, A, done, { hK with le := hlt, few := by have := hK.few; omega }, by go_num, rfl, HR2⟩
          case measure => simp [intOf]; omega
      | false =>
        obtain ⟨n1, n2, n3, n4⟩ := blank_no hb
        cases hd : dchar s[k] with
        | true =>
          have HD1 := fun (W : World) => Lib.hid (hd ▸ rdigit_any s[k] W)
          have HRun := fun W => Lib.hid (run_any s numC 46 k W hsm hkle numC_ref)
          have HB : Hid (blankB s[k] = false ∧ dchar s[k] = true) := ⟨hb, hd⟩
          have HK := Lib.hid hK
          clear hb hd
          go_wp2_with (go_at_call 108; refine ((HD1 _).out).mono ?_; rintro e w' ⟨rfl, rfl⟩)
          refine ((HRun _).out).mono ?_
          rintro e w' ⟨j, rfl, hj1, hj2, hj3, rfl⟩
          have hkj : k < j := by
            have h1 : ((s.data.toList.drop k).takeWhile numC).length = j - k := by rw [hj3, ← Lib.size_eq, ext_size hj1 hj2]
            rw [drop_at hlt, List.takeWhile_cons, if_pos (dchar_numC HB.out.2), List.length_cons] at h1
            omega
          have hOne := one_num hlt HB.out.1 HB.out.2
          rw [hj3, numTok, mkB_ext, ← Lib.size_eq, ext_size hj1 hj2] at hOne
          have hxs : (s.extract k j).size ≤ 4096 := by rw [ext_size hj1 hj2]; omega
          have hkjI : (k : Int) ≤ j := by omega
          have hjI : (j : Int) ≤ s.size := by omega
          by_cases hv : 0 < spanN (s.extract k j).data.toList
          · have HV := fun W => Lib.hid (rspan_yes (s.extract k j) W hxs hv)
            have HT : Hid (lexL 0 s.data.toList = (lexL j (s.data.toList.drop j)).pre (done ++ [⟨2, k, s.extract k j, spanN (s.extract k j).data.toList⟩])) := by
              show _ = _
              rw [HR.out, lex_step hlt (hOne.trans (if_pos hv)), pre_pre, show k + (j - k) = j from by omega]
            generalize spanN (s.extract k j).data.toList = vN at *
            clear hOne hj3 HR
            go_wp2_with (first | (go_at_call 123; refine ((HV _).out).mono ?_; rintro e w' ⟨rfl, rfl⟩) | (at_builtin; refine wpList_append_rd (ys := toksC [⟨2, k, s.extract k j, vN⟩]) _ rfl (.tmp 91) (.tmp 93) _ rfl eiTok rfl ((hO.alloc _).alloc _) rfl (Rd.tok ⟨2, k, s.extract k j, vN⟩ (by simp)) rfl (one_toks _) (by simp only [maxLen]; omega) (by omega) (by simp; omega) ?_; intro A' c' w2 ho hg hat hb))
            go_roundw
            case rel => exact ⟨j, c', A', _, HK.out.on _ (hbel.alloc hwz _) ho hb hkj hj2, rfl, by simp, HT⟩
            case measure => simp [intOf]; omega
          · have HV := fun W => Lib.hid (rspan_no (s.extract k j) W hxs hv)
            have HM := fun W => Lib.hid (rnumber_any (s.extract k j) W (by have := hxs; omega))
            rw [if_neg hv] at hOne
            cases hn : numB (s.extract k j).data.toList with
            | true =>
              rw [hn] at HM
              have HT : Hid (lexL 0 s.data.toList = (lexL j (s.data.toList.drop j)).pre (done ++ [⟨1, k, s.extract k j, 0⟩])) := by
                show _ = _
                rw [HR.out, lex_step hlt (hOne.trans (if_pos hn)), pre_pre, show k + (j - k) = j from by omega]
              clear hOne hj3 HR hn hv
              go_wp2_with (first | (go_at_call 123; refine ((HV _).out).mono ?_; rintro e w' ⟨v, rfl, rfl⟩) | (go_at_call 72; refine ((HM _).out).mono ?_; rintro e w' ⟨rfl, rfl⟩) | (at_builtin; refine wpList_append_rd (ys := toksC [⟨1, k, s.extract k j, 0⟩]) _ rfl (.tmp 91) (.tmp 93) _ rfl eiTok rfl ((hO.alloc _).alloc _) rfl (Rd.tok ⟨1, k, s.extract k j, 0⟩ (by simp)) rfl (one_toks _) (by simp only [maxLen]; omega) (by omega) (by simp; omega) ?_; intro A' c' w2 ho hg hat hb))
              go_roundw
              case rel => exact ⟨j, c', A', _, HK.out.on _ (hbel.alloc hwz _) ho hb hkj hj2, rfl, by simp, HT⟩
              case measure => simp [intOf]; omega
            | false =>
              rw [hn] at HM
              have HT : Hid (lexR s = .err k 172) := by
                show _ = _
                rw [HR0.out, HR.out, lex_err hlt (hOne.trans (if_neg (by rw [hn]; simp)))]; rfl
              clear hOne hj3 HR hn hv
              go_wp2_with (first | (go_at_call 123; refine ((HV _).out).mono ?_; rintro e w' ⟨v, rfl, rfl⟩) | (go_at_call 72; refine ((HM _).out).mono ?_; rintro e w' ⟨rfl, rfl⟩))
              go_ret3
              exact ⟨by rw [HT.out]; rfl, hbel.alloc hwz _⟩
        | false =>
          have HD1 := fun (W : World) => Lib.hid (hd ▸ rdigit_any s[k] W)
          cases hl : letB s[k] with
          | true =>
            have HRun := fun W => Lib.hid (run_any s wordC 58 k W hsm hkle wordC_ref)
            have hOne := one_word hlt hb hd hl
            have HOne := Lib.hid hOne
            have HL := Lib.hid hl
            have hcs : letR s[k] = true ∨ (letR s[k] = false ∧ ((s[k].toNat : Int) == 58) = true) := by
              rw [letB_letR] at hl
              cases h : letR s[k] with
              | true => exact .inl rfl
              | false => rw [h] at hl; exact .inr ⟨rfl, by simpa using hl⟩
            have HK := Lib.hid hK
            clear hb hd hl hOne
            rcases hcs with hr | ⟨hr, h58⟩
            all_goals
              have HL1 := fun (W : World) => Lib.hid (hr ▸ rletter_any s[k] W)
              clear hr
              go_wp2_with (first | (go_at_call 108; refine ((HD1 _).out).mono ?_; rintro e w' ⟨rfl, rfl⟩) | (go_at_call 124; refine ((HL1 _).out).mono ?_; rintro e w' ⟨rfl, rfl⟩))
              refine ((HRun _).out).mono ?_
              rintro e w' ⟨j, rfl, hj1, hj2, hj3, rfl⟩
              have hkj : k < j := by
                have h1 : ((s.data.toList.drop k).takeWhile wordC).length = j - k := by rw [hj3, ← Lib.size_eq, ext_size hj1 hj2]
                rw [drop_at hlt, List.takeWhile_cons, if_pos (letB_wordC HL.out), List.length_cons] at h1
                omega
              have hOne := HOne.out
              rw [runN, hj3, mkB_ext, ← Lib.size_eq, ext_size hj1 hj2] at hOne
              have HT : Hid (lexL 0 s.data.toList = (lexL j (s.data.toList.drop j)).pre (done ++ [⟨3, k, s.extract k j, 0⟩])) := by
                show _ = _
                rw [HR.out, lex_step hlt hOne, pre_pre, show k + (j - k) = j from by omega]
              have hkjI : (k : Int) ≤ j := by omega
              have hjI : (j : Int) ≤ s.size := by omega
              clear hOne hj3 HR HOne
              go_wp2_with (at_builtin; refine wpList_append_rd (ys := toksC [⟨3, k, s.extract k j, 0⟩]) _ rfl (.tmp 106) (.tmp 113) _ rfl eiTok rfl (hO.alloc _) rfl (Rd.tok ⟨3, k, s.extract k j, 0⟩ (by simp)) rfl (one_toks _) (by simp only [maxLen]; omega) (by omega) (by simp; omega) ?_; intro A' c' w2 ho hg hat hb)
              go_roundw
              case rel => exact ⟨j, c', A', _, HK.out.on _ hbel ho hb hkj hj2, rfl, by simp, HT⟩
              case measure => simp [intOf]; omega
          | false =>
            have hr : letR s[k] = false ∧ ((s[k].toNat : Int) == 58) = false := by
              rw [letB_letR] at hl
              simpa using hl
            have HL1 := fun (W : World) => Lib.hid (hr.1 ▸ rletter_any s[k] W)
            have h58 := hr.2
            have HK := Lib.hid hK
            by_cases hq : s[k].toNat = 34
            · have hqI : (s[k].toNat : Int) = 34 := by omega
              have hOne := one_quote hlt hb hd hl hq
              have HX := fun W => Lib.hid (rtext_any s k W hsm hlt)
              simp only [hqI] at HD1 HL1
              cases ht : textS false (s.data.toList.drop (k + 1)) with
              | none =>
                rw [ht] at hOne HX
                have HT : Hid (lexR s = .err k 173) := by
                  show _ = _
                  rw [HR0.out, HR.out, lex_err hlt hOne]; rfl
                clear hb hd hl hr hq hOne ht HR
                go_wp2_with (first | (go_at_call 108; refine ((HD1 _).out).mono ?_; rintro e w' ⟨rfl, rfl⟩) | (go_at_call 124; refine ((HL1 _).out).mono ?_; rintro e w' ⟨rfl, rfl⟩) | (go_at_call 125; refine ((HX _).out).mono ?_; rintro e w2 ⟨hb2, rfl⟩))
                go_ret3
                exact ⟨by rw [HT.out]; rfl, hbel.trans (hb2.mono hwz)⟩
              | some x =>
                obtain ⟨x, n⟩ := x
                have hn := textS_le _ _ _ _ ht
                rw [List.length_drop, ← Lib.size_eq] at hn
                rw [ht] at hOne HX
                have HT : Hid (lexL 0 s.data.toList = (lexL (k + 1 + n) (s.data.toList.drop (k + 1 + n))).pre (done ++ [⟨4, k, mkB x, 0⟩])) := by
                  show _ = _
                  rw [HR.out, lex_step hlt hOne, pre_pre, Nat.add_assoc]; rfl
                have hj1 : k < k + 1 + n := by omega
                have hj2 : k + 1 + n ≤ s.size := by omega
                clear hb hd hl hr hq hOne ht HR hn
                go_wp2_with (first | (go_at_call 108; refine ((HD1 _).out).mono ?_; rintro e w' ⟨rfl, rfl⟩) | (go_at_call 124; refine ((HL1 _).out).mono ?_; rintro e w' ⟨rfl, rfl⟩))
                refine ((HX _).out).mono ?_
                rintro e w2 ⟨hb2, rfl⟩
                have hO2 := hO.belowAll hb2
                have hz2 := hb2.size
                have hb3 := hbel.trans (hb2.mono hwz)
                go_wp2_with (at_builtin; refine wpList_append_rd (ys := toksC [⟨4, k, mkB x, 0⟩]) _ rfl (.tmp 129) (.tmp 133) _ rfl eiTok rfl (hO2.alloc _) rfl (Rd.tok ⟨4, k, mkB x, 0⟩ (by simp)) rfl (one_toks _) (by simp only [maxLen]; omega) (by omega) (by simp; omega) ?_; intro A' c' w3 ho hg hat hb)
                go_roundw
                case rel => exact ⟨k + 1 + n, c', A', _, HK.out.on _ hb3 ho hb hj1 hj2, by go_num, by simp, HT⟩
                case measure => simp [intOf]; omega
            · have hqI : ((s[k].toNat : Int) == 34) = false := by rw [beq_eq_false_iff_ne]; omega
              have HS := fun W => Lib.hid (rsign_any s k W hsm hlt)
              have hOne := one_sign hlt hb hd hl hq
              have hle := signN_le (s.data.toList.drop k)
              rw [List.length_drop, ← Lib.size_eq] at hle
              have hex : mkB ((s.data.toList.drop k).take (signN (s.data.toList.drop k))) = s.extract k (k + signN (s.data.toList.drop k)) := by
                rw [← mkB_ext, extract_toL, Nat.add_sub_cancel_left]
              rw [hex] at hOne
              generalize signN (s.data.toList.drop k) = n at *
              by_cases hn : 0 < n
              · have hnI : ((n : Int) == 0) = false := by rw [beq_eq_false_iff_ne]; omega
                have HT : Hid (lexL 0 s.data.toList = (lexL (k + n) (s.data.toList.drop (k + n))).pre (done ++ [⟨5, k, s.extract k (k + n), 0⟩])) := by
                  show _ = _
                  rw [HR.out, lex_step hlt (hOne.trans (if_pos hn)), pre_pre]
                have hj1 : k < k + n := by omega
                have hj2 : k + n ≤ s.size := by omega
                have hjI : (k : Int) + n ≤ s.size := by omega
                have hjJ : (k : Int) ≤ (k : Int) + n := by omega
                clear hb hd hl hr hq hOne HR hex hle
                go_wp2_with (first | (go_at_call 108; refine ((HD1 _).out).mono ?_; rintro e w' ⟨rfl, rfl⟩) | (go_at_call 124; refine ((HL1 _).out).mono ?_; rintro e w' ⟨rfl, rfl⟩) | (go_at_call 126; refine ((HS _).out).mono ?_; rintro e w' ⟨rfl, rfl⟩) | (at_builtin; refine wpList_append_rd (ys := toksC [⟨5, k, s.extract k (k + n), 0⟩]) _ rfl (.tmp 33) (.tmp 42) _ rfl eiTok rfl (hO.alloc _) rfl (Rd.tok ⟨5, k, s.extract k (k + n), 0⟩ (by simp)) rfl (one_toks _) (by simp only [maxLen]; omega) (by omega) (by simp; omega) ?_; intro A' c' w2 ho hg hat hb))
                go_roundw
                case rel => exact ⟨k + n, c', A', _, HK.out.on _ hbel ho hb hj1 hj2, by go_num, by simp, HT⟩
                case measure => simp [intOf]; omega
              · obtain rfl : n = 0 := by omega
                have HT : Hid (lexR s = .err k 171) := by
                  show _ = _
                  rw [HR0.out, HR.out, lex_err hlt (hOne.trans (if_neg hn))]; rfl
                clear hb hd hl hr hq hOne HR hex hle hn
                go_wp2_with (first | (go_at_call 108; refine ((HD1 _).out).mono ?_; rintro e w' ⟨rfl, rfl⟩) | (go_at_call 124; refine ((HL1 _).out).mono ?_; rintro e w' ⟨rfl, rfl⟩) | (go_at_call 126; refine ((HS _).out).mono ?_; rintro e w' ⟨rfl, rfl⟩))
                go_ret3
                exact ⟨by rw [HT.out]; rfl, hbel⟩
    · have hltI : ¬ (k : Int) < s.size := by omega
      have hke : k = s.size := by omega
      have HT : Hid (lexR s = .ok (done ++ [⟨0, s.size, mkB [], 0⟩])) := by
        show _ = _
        rw [HR0.out, HR.out, hke, drop_end]; rfl
      clear HR hke hK hlt
      go_wp2_with (at_builtin; refine wpList_append_rd (ys := toksC [⟨0, s.size, mkB [], 0⟩]) _ rfl (.tmp 136) (.tmp 140) _ rfl eiTok rfl (hO.alloc _) rfl (Rd.tok ⟨0, s.size, mkB [], 0⟩ (by simp)) rfl (one_toks _) (by simp only [maxLen]; omega) (by omega) (by simp; omega) ?_; intro A' c' w2 ho hg hat hb)
      go_ret3
      refine ⟨?_, (hbel.alloc hwz _).trans hb⟩
      rw [HT.out]
      refine ⟨A', c', by rw [List.length_append]; rfl, ?_⟩
      rw [List.length_append]
      simpa [toksC] using ho
end Go.Proofs.YtakfnojiaakfpaaGreatDoor
