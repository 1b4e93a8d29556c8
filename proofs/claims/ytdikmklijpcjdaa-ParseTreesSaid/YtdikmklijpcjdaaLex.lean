/- lex.Lex: the five passes. -/
import Derived.Test.YtdikmklijpcjdaaLexJ
namespace Go.Proofs.Ytdikmklijpcjdaa
open Go.RowKit

set_option maxRecDepth 100000 in
set_option maxHeartbeats 20000000 in
theorem lex_any (s : ByteArray) (w : World) (hs : s.size ≤ maxLen) :
    Calls Try.prog 14 #[.string s] w fun e w' => LexOk w.heap.size (lexR s) e w' ∧ Below w.heap.size w w' := by
  unfold maxLen at hs
  go_enter Try.func14, Try.ntmps14
  go_wp2_with fail
  refine wp_scope5 (lexJ s w) (lexM s) ?_ rfl rfl rfl rfl rfl ?_ ?_ ?_ ?_ ?_ ?_
  · rintro l a w' ⟨_, _, _, _, _, ⟨rfl, _⟩ | ⟨rfl, _⟩ | ⟨rfl, _⟩ | ⟨rfl, _⟩ | ⟨rfl, _⟩⟩ <;> omega
  · intro ih0 ih1 ih2 ih3 ih4
    have IH0 := Lib.hid ih0
    clear ih0 ih1 ih2 ih3 ih4
    by_cases hbig : 4096 < s.size
    · have HT : Hid (lexR s = .err 0 170) := if_pos hbig
      have hI : (4096 : Int) < s.size := by omega
      clear hbig IH0
      go_wp2_with fail
      simp only [jumps]
      go_ret3
      exact ⟨by rw [HT.out]; rfl, (Below.refl _ _).alloc (Nat.le_refl _) _⟩
    · have HT : Hid (lexR s = lexL 0 s.data.toList) := if_neg hbig
      have hI : ¬ (4096 : Int) < s.size := by omega
      go_wp2_with fail
      go_step3
      refine (‹∀ (a : Act) (w : World), _ → _› : ∀ (a : Act) (w : World), _ → _) _ _ ?_
      refine IH0.out _ _ ⟨0, _, _, _, ⟨rfl, rfl, rfl, rfl, rfl, rfl, rfl, rfl, rfl, rfl, rfl⟩, .inl ⟨rfl, [], ?_, (pre_nil _).symm⟩⟩
      exact { le := by omega, small := by omega, few := Nat.le_refl _, bel := (Below.refl _ _).alloc (Nat.le_refl _) _, tv := ⟨_, _, _, _, heap_alloc_new w _⟩, siz := by simp, out := ⟨none, 0, rfl, Own.nil_ (by omega)⟩ }
  · rintro ⟨tmps, defers⟩ w' ⟨k, vO, vS, vF, ⟨hz, hd, f0, f2, f3, f4, f5, f6, f7, f8, f9⟩, hJ⟩ ih0 ih1 ih2 ih3 ih4
    obtain ⟨u, hu, hv⟩ := frame_any tmps hz
    rw [hv] at f0 f2 f3 f4 f5 f6 f7 f8 f9
    clear hv hz
    simp only at hd
    rw [f0, f2, f3, f4, f5, f6, f7, f8, f9] at hu
    dsimp only at hu
    subst hu hd
    clear f0 f2 f3 f4 f5 f6 f7 f8 f9 ih0 ih1 ih2 ih3 ih4
    rcases hJ with ⟨_, done, hK, HR⟩ | ⟨h, _⟩ | ⟨h, _⟩ | ⟨h, _⟩ | ⟨h, _⟩
    case inr.inl | inr.inr.inl | inr.inr.inr.inl | inr.inr.inr.inr => omega
    obtain ⟨A, c, rfl, hO⟩ := hK.out
    by_cases hlt : k < s.size
    · have hltI : (k : Int) < s.size := by omega
      have hk0 : (0 : Int) ≤ k := by omega
      have hkI : ((k : Int) == s.size) = false := by rw [beq_eq_false_iff_ne]; omega
      have hsm := hK.small
      have hfew : done.length ≤ 4096 := by have := hK.few; have := hK.le; omega
      have hsz := hK.siz
      have hbel := hK.bel
      cases hb : blankB s[k] with
      | true =>
        have HR2 : Hid (lexL 0 s.data.toList = (lexL (k + 1) (s.data.toList.drop (k + 1))).pre done) := by
          show _ = _
          rw [HR, lex_step hlt (one_blank hlt hb), pre_nil]
        have hq : s[k].toNat = 32 ∨ s[k].toNat = 9 ∨ s[k].toNat = 13 ∨ s[k].toNat = 10 := by simp [blankB] at hb; omega
        clear HR hb
        rcases hq with hq | hq | hq | hq
        · have hqI : (s[k].toNat : Int) = 32 := by omega
          clear hq
          go_wp2_with fail
          go_step3
          exact ⟨⟨k + 1, _, _, _, ⟨rfl, rfl, rfl, rfl, rfl, rfl, rfl, rfl, rfl, rfl, rfl⟩, .inl ⟨rfl, done, hK.on (by omega) hlt, HR2⟩⟩, by have := hlt; simp [lexM, intOf]; omega⟩
        · have hqI : (s[k].toNat : Int) = 9 := by omega
          clear hq
          go_wp2_with fail
          go_step3
          exact ⟨⟨k + 1, _, _, _, ⟨rfl, rfl, rfl, rfl, rfl, rfl, rfl, rfl, rfl, rfl, rfl⟩, .inl ⟨rfl, done, hK.on (by omega) hlt, HR2⟩⟩, by have := hlt; simp [lexM, intOf]; omega⟩
        · have hqI : (s[k].toNat : Int) = 13 := by omega
          clear hq
          go_wp2_with fail
          go_step3
          exact ⟨⟨k + 1, _, _, _, ⟨rfl, rfl, rfl, rfl, rfl, rfl, rfl, rfl, rfl, rfl, rfl⟩, .inl ⟨rfl, done, hK.on (by omega) hlt, HR2⟩⟩, by have := hlt; simp [lexM, intOf]; omega⟩
        · have hqI : (s[k].toNat : Int) = 10 := by omega
          clear hq
          go_wp2_with fail
          go_step3
          exact ⟨⟨k + 1, _, _, _, ⟨rfl, rfl, rfl, rfl, rfl, rfl, rfl, rfl, rfl, rfl, rfl⟩, .inl ⟨rfl, done, hK.on (by omega) hlt, HR2⟩⟩, by have := hlt; simp [lexM, intOf]; omega⟩
      | false =>
        obtain ⟨n1, n2, n3, n4⟩ := blank_no hb
        cases hd : dchar s[k] with
        | true =>
          have HD1 := fun (W : World) => Lib.hid (hd ▸ digit_any s[k] W)
          have HB : Hid (∃ h : k < s.size, blankB s[k] = false ∧ dchar s[k] = true) := ⟨hlt, hb, hd⟩
          have HR2 := Lib.hid HR
          clear HR hb hd
          go_wp2_with (go_at_call 33; refine ((HD1 _).out).mono ?_; rintro e w' ⟨rfl, rfl⟩)
          go_step3
          exact ⟨⟨k, _, _, _, ⟨rfl, rfl, rfl, rfl, rfl, rfl, rfl, rfl, rfl, rfl, rfl⟩, .inr (.inl ⟨rfl, done, hK, HR2, rfl, HB⟩)⟩, by simp [lexM, intOf]⟩
        | false =>
          have HD1 := fun (W : World) => Lib.hid (hd ▸ digit_any s[k] W)
          cases hl : letB s[k] with
          | true =>
            have HL1 := fun (W : World) => Lib.hid (hl ▸ letter_any s[k] W)
            have HB : Hid (∃ h : k < s.size, blankB s[k] = false ∧ dchar s[k] = false ∧ letB s[k] = true) := ⟨hlt, hb, hd, hl⟩
            have HR2 := Lib.hid HR
            clear HR hb hd hl
            go_wp2_with (first | (go_at_call 33; refine ((HD1 _).out).mono ?_; rintro e w' ⟨rfl, rfl⟩) | (go_at_call 34; refine ((HL1 _).out).mono ?_; rintro e w' ⟨rfl, rfl⟩))
            go_step3
            exact ⟨⟨k, _, _, _, ⟨rfl, rfl, rfl, rfl, rfl, rfl, rfl, rfl, rfl, rfl, rfl⟩, .inr (.inr (.inl ⟨rfl, done, hK, HR2, rfl, HB⟩))⟩, by simp [lexM, intOf]⟩
          | false =>
            have HL1 := fun (W : World) => Lib.hid (hl ▸ letter_any s[k] W)
            by_cases hq : s[k].toNat = 34
            · have hqI : (s[k].toNat : Int) = 34 := by omega
              have HO1 : Hid (oneL k (s.data.toList.drop k) = textTok k (k + 1 + 0 - k) ([] ++ []) (textS false (s.data.toList.drop (k + 1 + 0)))) := by
                show _ = _
                rw [one_quote hlt hb hd hl hq, Nat.add_zero, Nat.add_sub_cancel_left]; rfl
              simp only [hqI] at HD1 HL1
              have HR2 := Lib.hid HR
              clear HR hb hd hl hq
              go_wp2_with (first | (go_at_call 33; refine ((HD1 _).out).mono ?_; rintro e w' ⟨rfl, rfl⟩) | (go_at_call 34; refine ((HL1 _).out).mono ?_; rintro e w' ⟨rfl, rfl⟩))
              go_step3
              exact ⟨⟨k + 1, _, _, _, ⟨rfl, rfl, rfl, rfl, rfl, rfl, rfl, rfl, rfl, rfl, rfl⟩, .inr (.inr (.inr (.inl ⟨rfl, done, k, [], none, 0, hK.on (by omega) hlt, HR2, rfl, by omega, hK.few, rfl, Own.nil_ (by omega), by simp, HO1⟩)))⟩, by have := hlt; simp [lexM, intOf]; omega⟩
            · have hqI : ((s[k].toNat : Int) == 34) = false := by rw [beq_eq_false_iff_ne]; omega
              obtain ⟨X, hX⟩ : ∃ X, signS (s.extract k s.size) = X := ⟨_, rfl⟩
              have hxl : (s.extract k s.size).data.toList = s.data.toList.drop k := by rw [extract_toL, List.take_of_length_le (by simp)]
              have hXm : X = mkB ((s.data.toList.drop k).take (signN (s.data.toList.drop k))) := by rw [← hX, signS, hxl]; rfl
              have hle := signN_le (s.data.toList.drop k)
              have hlen : (s.data.toList.drop k).length = s.size - k := by rw [List.length_drop, ← Lib.size_eq]
              have hXs : X.size = signN (s.data.toList.drop k) := by rw [hXm, Lib.size_eq]; simp [mkB]; omega
              have HS1 := fun (W : World) => Lib.hid (hX ▸ sign_any (s.extract k s.size) W (by rw [Lib.size_eq, hxl, hlen]; omega))
              have HO := one_sign hlt hb hd hl hq
              by_cases hsg : 1 ≤ X.size
              · have hem := isEmpty_no hsg
                have HR2 : Hid (lexL 0 s.data.toList = (lexL (k + X.size) (s.data.toList.drop (k + X.size))).pre (done ++ [⟨5, k, X, 0⟩])) := by
                  show _ = _
                  rw [if_pos (by omega), ← hXm, ← hXs] at HO
                  rw [HR, lex_step hlt HO, pre_pre]
                have hXI : (k : Int) + X.size ≤ s.size := by omega
                have hXw : k + X.size ≤ s.size := by omega
                clear HR hb hd hl hq HO hX hXm hxl hle hlen hXs
                go_wp2_with (first | (go_at_call 33; refine ((HD1 _).out).mono ?_; rintro e w' ⟨rfl, rfl⟩) | (go_at_call 34; refine ((HL1 _).out).mono ?_; rintro e w' ⟨rfl, rfl⟩) | (go_at_call 35; refine ((HS1 _).out).mono ?_; rintro e w' ⟨rfl, rfl⟩) | (at_builtin; refine wpList_append_rd _ rfl (.tmp 64) (.tmp 68) _ rfl eiTok rfl (hO.alloc _) rfl (Rd.new w' (xs := toksC [⟨5, k, X, 0⟩]) (toksC_sz _) _ rfl) rfl (one_toks _) (by simp only [maxLen]; omega) (by omega) (by simp; omega) ?_; intro A' c' w2 ho hg hat hb))
                go_step3
                exact ⟨⟨k + X.size, _, _, _, ⟨rfl, rfl, rfl, rfl, rfl, rfl, rfl, rfl, rfl, rfl, rfl⟩, .inl ⟨rfl, _, hK.snoc ho hb (by omega) hXw, HR2⟩⟩, by simp [lexM, intOf]; omega⟩
              · have hem := isEmpty_yes hsg
                have HT : Hid (lexR s = .err k 171) := by
                  show _ = _
                  rw [if_neg (by omega)] at HO
                  rw [lexR, if_neg (by omega), HR, lex_err hlt HO]; rfl
                clear HR hb hd hl hq HO hX hXm hxl hle hlen hXs
                go_wp2_with (first | (go_at_call 33; refine ((HD1 _).out).mono ?_; rintro e w' ⟨rfl, rfl⟩) | (go_at_call 34; refine ((HL1 _).out).mono ?_; rintro e w' ⟨rfl, rfl⟩) | (go_at_call 35; refine ((HS1 _).out).mono ?_; rintro e w' ⟨rfl, rfl⟩))
                simp only [jumps]
                go_ret3
                exact ⟨by rw [HT.out]; rfl, hbel⟩
    · have hke : k = s.size := by have := hK.le; omega
      have HT : Hid (lexR s = .ok (done ++ [⟨0, k, mkB [], 0⟩])) := by
        show lexR s = _
        rw [lexR, if_neg (by have := hK.small; omega), HR, hke, drop_end]; rfl
      have hkI : ((k : Int) == s.size) = true := by rw [beq_iff_eq]; omega
      have hsm := hK.small
      have hfew : done.length ≤ 4096 := by have := hK.few; have := hK.le; omega
      have hsz := hK.siz
      have hbel := hK.bel
      clear HR hK hke hlt
      go_wp2_with (at_builtin; refine wpList_append_rd _ rfl (.tmp 21) (.tmp 24) _ rfl eiTok rfl (hO.alloc _) rfl (Rd.new w' (xs := toksC [⟨0, k, mkB [], 0⟩]) (toksC_sz _) _ rfl) rfl (one_toks _) (by simp only [maxLen]; omega) (by omega) (by simp; omega) ?_; intro A' c' w2 ho hg hat hb)
      simp only [jumps]
      go_ret3
      refine ⟨?_, (hbel.alloc (by omega) _).trans (hb.mono (by omega))⟩
      rw [HT.out]
      refine ⟨A', c', by rw [List.length_append]; rfl, ?_⟩
      rw [List.length_append]
      simpa [toksC] using ho.lower (Nat.le_succ _)
  · rintro ⟨tmps, defers⟩ w' ⟨k, vO, vS, vF, ⟨hz, hd, f0, f2, f3, f4, f5, f6, f7, f8, f9⟩, hJ⟩ ih0 ih1 ih2 ih3 ih4
    obtain ⟨u, hu, hv⟩ := frame_any tmps hz
    rw [hv] at f0 f2 f3 f4 f5 f6 f7 f8 f9
    clear hv hz
    simp only at hd
    rw [f0, f2, f3, f4, f5, f6, f7, f8, f9] at hu
    dsimp only at hu
    subst hu hd
    clear f0 f2 f3 f4 f5 f6 f7 f8 f9 ih0 ih1 ih2 ih3 ih4
    rcases hJ with ⟨h, _⟩ | ⟨_, done, hK, HR, rfl, hB⟩ | ⟨h, _⟩ | ⟨h, _⟩ | ⟨h, _⟩
    case inl | inr.inr.inl | inr.inr.inr.inl | inr.inr.inr.inr => omega
    obtain ⟨A, c, rfl, hO⟩ := hK.out
    have hsm := hK.small
    have hkle := hK.le
    have hfew : done.length ≤ 4096 := by have := hK.few; omega
    have hsz := hK.siz
    have hbel := hK.bel
    obtain ⟨v0, v1, v2, v3, htb⟩ := hK.tv
    have HTB : TB w' w.heap.size v0 v1 v2 v3 := htb
    obtain ⟨p0, p1, p2, p3, hfz⟩ := HTB.cells
    clear htb
    have HR2 := Lib.hid HR
    have HB := Lib.hid hB
    clear HR hB
    go_wp2_with fail
    go_loop [8] (fun i => ∃ j : Nat, k ≤ j ∧ j ≤ s.size ∧ i = .int .i64 j ∧ Hid ((s.data.toList.drop k).takeWhile numC = (s.data.toList.drop k).take (j - k) ++ (s.data.toList.drop j).takeWhile numC)) (fun i => s.size - (intOf i).toNat)
    case atStart => exact ⟨k, by omega, by omega, rfl, by show _ = _; simp⟩
    case round =>
      obtain ⟨j, hkj, hjs, rfl, HJ⟩ := hrel
      have hj0 : (0 : Int) ≤ j := by omega
      have hk0 : (0 : Int) ≤ k := by omega
      by_cases hq : ∃ hlt : j < s.size, numC s[j] = true
      · obtain ⟨hlt, hn⟩ := hq
        have hltI : (j : Int) < s.size := by omega
        have HJ2 := Lib.hid (run_step hkj hlt hn HJ.out)
        clear HJ
        cases hd : dchar s[j] with
        | true =>
          have HD1 := fun (W : World) => Lib.hid (hd ▸ digit_any s[j] W)
          clear hd hn
          go_wp2_with (go_at_call 33; refine ((HD1 _).out).mono ?_; rintro e w' ⟨rfl, rfl⟩)
          go_round
          case rel => exact ⟨j + 1, by omega, by omega, by go_num, HJ2⟩
          case measure => simp [intOf]; omega
        | false =>
          have HD1 := fun (W : World) => Lib.hid (hd ▸ digit_any s[j] W)
          cases hl : letB s[j] with
          | true =>
            have HL1 := fun (W : World) => Lib.hid (hl ▸ letter_any s[j] W)
            have h58 : ((s[j].toNat : Int) != 58) = true := by
              have h46 : s[j].toNat ≠ 46 := by intro h; simp [letB, h] at hl
              simp [numC, hd, h46] at hn
              rw [bne_iff_ne]; have := hn.2; omega
            clear hd hl hn
            go_wp2_with (first | (go_at_call 33; refine ((HD1 _).out).mono ?_; rintro e w' ⟨rfl, rfl⟩) | (go_at_call 34; refine ((HL1 _).out).mono ?_; rintro e w' ⟨rfl, rfl⟩))
            go_round
            case rel => exact ⟨j + 1, by omega, by omega, by go_num, HJ2⟩
            case measure => simp [intOf]; omega
          | false =>
            have HL1 := fun (W : World) => Lib.hid (hl ▸ letter_any s[j] W)
            have h46 : ((s[j].toNat : Int) == 46) = true := by
              simp [numC, hd, hl] at hn
              rw [beq_iff_eq]; omega
            clear hd hl hn
            go_wp2_with (first | (go_at_call 33; refine ((HD1 _).out).mono ?_; rintro e w' ⟨rfl, rfl⟩) | (go_at_call 34; refine ((HL1 _).out).mono ?_; rintro e w' ⟨rfl, rfl⟩))
            go_round
            case rel => exact ⟨j + 1, by omega, by omega, by go_num, HJ2⟩
            case measure => simp [intOf]; omega
      · have HX := Lib.hid (run_stop hjs (fun hj => by cases h : numC s[j] with | false => rfl | true => exact absurd ⟨hj, h⟩ hq) HJ.out)
        have hkj1 : k < j := by
          obtain ⟨hk, _, hd⟩ := HB.out
          have h1 : ((s.data.toList.drop k).takeWhile numC).length = j - k := by rw [HX.out, ← Lib.size_eq, ext_size hkj hjs]
          rw [drop_at hk, List.takeWhile_cons, if_pos (dchar_numC hd), List.length_cons] at h1
          omega
        have HN : Hid (oneL k (s.data.toList.drop k) = numTok k (s.extract k j).data.toList) := by
          obtain ⟨hk, hb, hd⟩ := HB.out
          show _ = _
          rw [one_num hk hb hd, HX.out]
        have hkI : (k : Int) ≤ j := by omega
        have hjI : (j : Int) ≤ s.size := by omega
        have HV := fun W => Lib.hid (span_any (s.extract k j) W (by rw [ext_size hkj hjs]; omega))
        have HM := fun W => Lib.hid (number_any (s.extract k j) W (by rw [ext_size hkj hjs]; omega))
        have hcase : (¬ j < s.size) ∨ (∃ hlt : j < s.size, dchar s[j] = false ∧ letB s[j] = true ∧ s[j].toNat = 58) ∨ (∃ hlt : j < s.size, dchar s[j] = false ∧ letB s[j] = false ∧ s[j].toNat ≠ 46) := by
          by_cases hlt : j < s.size
          · have hn : numC s[j] = false := by cases h : numC s[j] with | false => rfl | true => exact absurd ⟨hlt, h⟩ hq
            simp [numC] at hn
            cases hl : letB s[j] with
            | true => exact .inr (.inl ⟨hlt, hn.1.1, hl, hn.1.2 hl⟩)
            | false => exact .inr (.inr ⟨hlt, hn.1.1, hl, hn.2⟩)
          · exact .inl hlt
        clear hq HJ HX
        obtain ⟨vN, hvN⟩ : ∃ n, spanN (s.extract k j).data.toList = n := ⟨_, rfl⟩
        rw [hvN] at HV
        obtain ⟨bN, hbN⟩ : ∃ n, numB (s.extract k j).data.toList = n := ⟨_, rfl⟩
        rw [hbN] at HM
        have HN2 : Hid (oneL k (s.data.toList.drop k) = if 0 < vN then .ok [⟨2, k, s.extract k j, vN⟩] (j - k) else if bN then .ok [⟨1, k, s.extract k j, 0⟩] (j - k) else .err k 172) := by
          show _ = _
          rw [HN.out, numTok, hvN, hbN, mkB_ext, ← Lib.size_eq, ext_size hkj hjs]
        clear HN hvN hbN
        rcases hcase with hlt | ⟨hlt, hd, hl, h58⟩ | ⟨hlt, hd, hl, h46⟩
        case' inl => have hltI : ¬ (j : Int) < s.size := by omega
        case' inr.inl =>
          have hltI : (j : Int) < s.size := by omega
          have HD1 := fun (W : World) => Lib.hid (hd ▸ digit_any s[j] W)
          have HL1 := fun (W : World) => Lib.hid (hl ▸ letter_any s[j] W)
          have h58I : ((s[j].toNat : Int) != 58) = false := by rw [h58]; rfl
          have h46I : ((s[j].toNat : Int) == 46) = false := by rw [h58]; rfl
          clear hd hl h58
        case' inr.inr =>
          have hltI : (j : Int) < s.size := by omega
          have HD1 := fun (W : World) => Lib.hid (hd ▸ digit_any s[j] W)
          have HL1 := fun (W : World) => Lib.hid (hl ▸ letter_any s[j] W)
          have h46I : ((s[j].toNat : Int) == 46) = false := by rw [beq_eq_false_iff_ne]; omega
          clear hd hl h46
        all_goals
          by_cases hv : 0 < vN
          · have hvI : (0 : Int) < vN := by omega
            have HT : Hid (lexL 0 s.data.toList = (lexL j (s.data.toList.drop j)).pre (done ++ [⟨2, k, s.extract k j, vN⟩])) := by
              show _ = _
              rw [HR2.out, lex_step HB.out.1 (HN2.out.trans (if_pos hv)), pre_pre, show k + (j - k) = j from by omega]
            clear HN2
            go_wp2_with (first | (go_at_call 33; refine ((HD1 _).out).mono ?_; rintro e w' ⟨rfl, rfl⟩) | (go_at_call 34; refine ((HL1 _).out).mono ?_; rintro e w' ⟨rfl, rfl⟩))
            have HT1 := (((HTB.set0 (.int .i64 1)).set1 (.int .i64 k)).set2 (.string (s.extract k j))).set3 (.int .i64 0)
            have HO1 := ((((hO.setBelow (a := ⟨w.heap.size, 0, none⟩) (by simp) (.int .i64 1)).setBelow (a := ⟨w.heap.size, 1, none⟩) (by simp) (.int .i64 k)).setBelow (a := ⟨w.heap.size, 2, none⟩) (by simp) (.string (s.extract k j)))).setBelow (a := ⟨w.heap.size, 3, none⟩) (by simp) (.int .i64 0)
            have hb1 := (((hbel.setCell (p := ⟨w.heap.size, 0, none⟩) (by simp) (.int .i64 1)).setCell (p := ⟨w.heap.size, 1, none⟩) (by simp) (.int .i64 k)).setCell (p := ⟨w.heap.size, 2, none⟩) (by simp) (.string (s.extract k j))).setCell (p := ⟨w.heap.size, 3, none⟩) (by simp) (.int .i64 0)
            have hz1 : w.heap.size < ((((w'.setCell ⟨w.heap.size, 0, none⟩ (.int .i64 1)).setCell ⟨w.heap.size, 1, none⟩ (.int .i64 k)).setCell ⟨w.heap.size, 2, none⟩ (.string (s.extract k j))).setCell ⟨w.heap.size, 3, none⟩ (.int .i64 0)).heap.size := by simpa using hsz
            clear p0 p1 p2 p3 hfz HTB hO hbel hsz
            generalize hw1 : ((((w'.setCell ⟨w.heap.size, 0, none⟩ (.int .i64 1)).setCell ⟨w.heap.size, 1, none⟩ (.int .i64 k)).setCell ⟨w.heap.size, 2, none⟩ (.string (s.extract k j))).setCell ⟨w.heap.size, 3, none⟩ (.int .i64 0)) = w1 at *
            clear hw1
            obtain ⟨p0, p1, p2, p3, hfz⟩ := HT1.cells
            refine ((HV _).out).mono ?_; rintro e w' ⟨rfl, rfl⟩
            go_wp2_with (at_builtin; refine wpList_append_rd (ys := toksC [⟨2, k, s.extract k j, vN⟩]) _ rfl (.tmp 124) (.tmp 126) _ rfl eiTok rfl (((HO1.setBelow (a := ⟨w.heap.size, 3, none⟩) (by simp) _).setBelow (a := ⟨w.heap.size, 0, none⟩) (by simp) _).alloc _) rfl (Rd.tok ⟨2, k, s.extract k j, vN⟩ (by simp)) rfl (one_toks _) (by simp only [maxLen]; omega) (by omega) (by simp; omega) ?_; intro A' c' w2 ho hg hat hb)
            go_step3
            exact ⟨⟨j, _, _, _, ⟨rfl, rfl, rfl, rfl, rfl, rfl, rfl, rfl, rfl, rfl, rfl⟩, .inl ⟨rfl, _, hK.snoc2 ((hb1.setCell (by simp) _).setCell (by simp) _) ((HT1.set3 _).set0 _).tv (by simpa using hz1) ho hb hkj1 hjs, HT.out⟩⟩, by simp [lexM, intOf]; omega⟩
          · obtain rfl : vN = 0 := by omega
            cases bN with
            | true =>
              have HT : Hid (lexL 0 s.data.toList = (lexL j (s.data.toList.drop j)).pre (done ++ [⟨1, k, s.extract k j, 0⟩])) := by
                show _ = _
                rw [HR2.out, lex_step HB.out.1 HN2.out, pre_pre, show k + (j - k) = j from by omega]
              clear HN2 hv
              go_wp2_with (first | (go_at_call 33; refine ((HD1 _).out).mono ?_; rintro e w' ⟨rfl, rfl⟩) | (go_at_call 34; refine ((HL1 _).out).mono ?_; rintro e w' ⟨rfl, rfl⟩))
              have HT1 := (((HTB.set0 (.int .i64 1)).set1 (.int .i64 k)).set2 (.string (s.extract k j))).set3 (.int .i64 0)
              have HO1 := ((((hO.setBelow (a := ⟨w.heap.size, 0, none⟩) (by simp) (.int .i64 1)).setBelow (a := ⟨w.heap.size, 1, none⟩) (by simp) (.int .i64 k)).setBelow (a := ⟨w.heap.size, 2, none⟩) (by simp) (.string (s.extract k j)))).setBelow (a := ⟨w.heap.size, 3, none⟩) (by simp) (.int .i64 0)
              have hb1 := (((hbel.setCell (p := ⟨w.heap.size, 0, none⟩) (by simp) (.int .i64 1)).setCell (p := ⟨w.heap.size, 1, none⟩) (by simp) (.int .i64 k)).setCell (p := ⟨w.heap.size, 2, none⟩) (by simp) (.string (s.extract k j))).setCell (p := ⟨w.heap.size, 3, none⟩) (by simp) (.int .i64 0)
              have hz1 : w.heap.size < ((((w'.setCell ⟨w.heap.size, 0, none⟩ (.int .i64 1)).setCell ⟨w.heap.size, 1, none⟩ (.int .i64 k)).setCell ⟨w.heap.size, 2, none⟩ (.string (s.extract k j))).setCell ⟨w.heap.size, 3, none⟩ (.int .i64 0)).heap.size := by simpa using hsz
              clear p0 p1 p2 p3 hfz HTB hO hbel hsz
              generalize hw1 : ((((w'.setCell ⟨w.heap.size, 0, none⟩ (.int .i64 1)).setCell ⟨w.heap.size, 1, none⟩ (.int .i64 k)).setCell ⟨w.heap.size, 2, none⟩ (.string (s.extract k j))).setCell ⟨w.heap.size, 3, none⟩ (.int .i64 0)) = w1 at *
              clear hw1
              obtain ⟨p0, p1, p2, p3, hfz⟩ := HT1.cells
              refine ((HV _).out).mono ?_; rintro e w' ⟨rfl, rfl⟩
              go_wp2_with (first | (go_at_call 37; refine ((HM _).out).mono ?_; rintro e w' ⟨rfl, rfl⟩) | (at_builtin; refine wpList_append_rd (ys := toksC [⟨1, k, s.extract k j, 0⟩]) _ rfl (.tmp 124) (.tmp 126) _ rfl eiTok rfl ((HO1.setBelow (a := ⟨w.heap.size, 3, none⟩) (by simp) _).alloc _) rfl (Rd.tok ⟨1, k, s.extract k j, 0⟩ (by simp)) rfl (one_toks _) (by simp only [maxLen]; omega) (by omega) (by simp; omega) ?_; intro A' c' w2 ho hg hat hb))
              go_step3
              exact ⟨⟨j, _, _, _, ⟨rfl, rfl, rfl, rfl, rfl, rfl, rfl, rfl, rfl, rfl, rfl⟩, .inl ⟨rfl, _, hK.snoc2 (hb1.setCell (by simp) _) (HT1.set3 _).tv (by simpa using hz1) ho hb hkj1 hjs, HT.out⟩⟩, by simp [lexM, intOf]; omega⟩
            | false =>
              have HT : Hid (lexR s = .err k 172) := by
                show _ = _
                rw [lexR, if_neg (by omega), HR2.out, lex_err HB.out.1 HN2.out]; rfl
              clear HN2 hv
              go_wp2_with (first | (go_at_call 33; refine ((HD1 _).out).mono ?_; rintro e w' ⟨rfl, rfl⟩) | (go_at_call 34; refine ((HL1 _).out).mono ?_; rintro e w' ⟨rfl, rfl⟩))
              have HT1 := (((HTB.set0 (.int .i64 1)).set1 (.int .i64 k)).set2 (.string (s.extract k j))).set3 (.int .i64 0)
              have HO1 := ((((hO.setBelow (a := ⟨w.heap.size, 0, none⟩) (by simp) (.int .i64 1)).setBelow (a := ⟨w.heap.size, 1, none⟩) (by simp) (.int .i64 k)).setBelow (a := ⟨w.heap.size, 2, none⟩) (by simp) (.string (s.extract k j)))).setBelow (a := ⟨w.heap.size, 3, none⟩) (by simp) (.int .i64 0)
              have hb1 := (((hbel.setCell (p := ⟨w.heap.size, 0, none⟩) (by simp) (.int .i64 1)).setCell (p := ⟨w.heap.size, 1, none⟩) (by simp) (.int .i64 k)).setCell (p := ⟨w.heap.size, 2, none⟩) (by simp) (.string (s.extract k j))).setCell (p := ⟨w.heap.size, 3, none⟩) (by simp) (.int .i64 0)
              have hz1 : w.heap.size < ((((w'.setCell ⟨w.heap.size, 0, none⟩ (.int .i64 1)).setCell ⟨w.heap.size, 1, none⟩ (.int .i64 k)).setCell ⟨w.heap.size, 2, none⟩ (.string (s.extract k j))).setCell ⟨w.heap.size, 3, none⟩ (.int .i64 0)).heap.size := by simpa using hsz
              clear p0 p1 p2 p3 hfz HTB hO hbel hsz
              generalize hw1 : ((((w'.setCell ⟨w.heap.size, 0, none⟩ (.int .i64 1)).setCell ⟨w.heap.size, 1, none⟩ (.int .i64 k)).setCell ⟨w.heap.size, 2, none⟩ (.string (s.extract k j))).setCell ⟨w.heap.size, 3, none⟩ (.int .i64 0)) = w1 at *
              clear hw1
              obtain ⟨p0, p1, p2, p3, hfz⟩ := HT1.cells
              refine ((HV _).out).mono ?_; rintro e w' ⟨rfl, rfl⟩
              go_wp2_with (go_at_call 37; refine ((HM _).out).mono ?_; rintro e w' ⟨rfl, rfl⟩)
              simp only [jumps]
              go_ret3
              exact ⟨by rw [HT.out]; rfl, hb1.setCell (by simp) _⟩
  · rintro ⟨tmps, defers⟩ w' ⟨k, vO, vS, vF, ⟨hz, hd, f0, f2, f3, f4, f5, f6, f7, f8, f9⟩, hJ⟩ ih0 ih1 ih2 ih3 ih4
    obtain ⟨u, hu, hv⟩ := frame_any tmps hz
    rw [hv] at f0 f2 f3 f4 f5 f6 f7 f8 f9
    clear hv hz
    simp only at hd
    rw [f0, f2, f3, f4, f5, f6, f7, f8, f9] at hu
    dsimp only at hu
    subst hu hd
    clear f0 f2 f3 f4 f5 f6 f7 f8 f9 ih0 ih1 ih2 ih3 ih4
    rcases hJ with ⟨h, _⟩ | ⟨h, _⟩ | ⟨_, done, hK, HR, rfl, hB⟩ | ⟨h, _⟩ | ⟨h, _⟩
    case inl | inr.inl | inr.inr.inr.inl | inr.inr.inr.inr => omega
    obtain ⟨A, c, rfl, hO⟩ := hK.out
    have hsm := hK.small
    have hkle := hK.le
    have hfew : done.length ≤ 4096 := by have := hK.few; omega
    have hsz := hK.siz
    have hbel := hK.bel
    have HR2 := Lib.hid HR
    have HB := Lib.hid hB
    clear HR hB
    go_wp2_with fail
    go_loop [8] (fun i => ∃ j : Nat, k ≤ j ∧ j ≤ s.size ∧ i = .int .i64 j ∧ Hid ((s.data.toList.drop k).takeWhile wordC = (s.data.toList.drop k).take (j - k) ++ (s.data.toList.drop j).takeWhile wordC)) (fun i => s.size - (intOf i).toNat)
    case atStart => exact ⟨k, by omega, by omega, rfl, by show _ = _; simp⟩
    case round =>
      obtain ⟨j, hkj, hjs, rfl, HJ⟩ := hrel
      have hj0 : (0 : Int) ≤ j := by omega
      have hk0 : (0 : Int) ≤ k := by omega
      by_cases hq : ∃ hlt : j < s.size, wordC s[j] = true
      · obtain ⟨hlt, hn⟩ := hq
        have hltI : (j : Int) < s.size := by omega
        have HJ2 := Lib.hid (run_step hkj hlt hn HJ.out)
        clear HJ
        cases hl : letB s[j] with
        | true =>
          have HL1 := fun (W : World) => Lib.hid (hl ▸ letter_any s[j] W)
          clear hl hn
          go_wp2_with (go_at_call 34; refine ((HL1 _).out).mono ?_; rintro e w' ⟨rfl, rfl⟩)
          go_round
          case rel => exact ⟨j + 1, by omega, by omega, by go_num, HJ2⟩
          case measure => simp [intOf]; omega
        | false =>
          have HL1 := fun (W : World) => Lib.hid (hl ▸ letter_any s[j] W)
          have hd : dchar s[j] = true := by simpa [wordC, hl] using hn
          have HD1 := fun (W : World) => Lib.hid (hd ▸ digit_any s[j] W)
          clear hl hn hd
          go_wp2_with (first | (go_at_call 33; refine ((HD1 _).out).mono ?_; rintro e w' ⟨rfl, rfl⟩) | (go_at_call 34; refine ((HL1 _).out).mono ?_; rintro e w' ⟨rfl, rfl⟩))
          go_round
          case rel => exact ⟨j + 1, by omega, by omega, by go_num, HJ2⟩
          case measure => simp [intOf]; omega
      · have HX := Lib.hid (run_stop hjs (fun hj => by cases h : wordC s[j] with | false => rfl | true => exact absurd ⟨hj, h⟩ hq) HJ.out)
        have hkj1 : k < j := by
          obtain ⟨hk, _, _, hl⟩ := HB.out
          have h1 : ((s.data.toList.drop k).takeWhile wordC).length = j - k := by rw [HX.out, ← Lib.size_eq, ext_size hkj hjs]
          rw [drop_at hk, List.takeWhile_cons, if_pos (letB_wordC hl), List.length_cons] at h1
          omega
        have HN : Hid (oneL k (s.data.toList.drop k) = .ok [⟨3, k, s.extract k j, 0⟩] (j - k)) := by
          obtain ⟨hk, hb, hd, hl⟩ := HB.out
          show _ = _
          rw [one_word hk hb hd hl, runN, HX.out, mkB_ext, ← Lib.size_eq, ext_size hkj hjs]
        have HT : Hid (lexL 0 s.data.toList = (lexL j (s.data.toList.drop j)).pre (done ++ [⟨3, k, s.extract k j, 0⟩])) := by
          show _ = _
          rw [HR2.out, lex_step HB.out.1 HN.out, pre_pre, show k + (j - k) = j from by omega]
        have hkI : (k : Int) ≤ j := by omega
        have hjI : (j : Int) ≤ s.size := by omega
        have hcase : (¬ j < s.size) ∨ (∃ hlt : j < s.size, letB s[j] = false ∧ dchar s[j] = false) := by
          by_cases hlt : j < s.size
          · have hn : wordC s[j] = false := by cases h : wordC s[j] with | false => rfl | true => exact absurd ⟨hlt, h⟩ hq
            exact .inr ⟨hlt, by simpa [wordC] using hn⟩
          · exact .inl hlt
        clear hq HJ HX HN
        rcases hcase with hlt | ⟨hlt, hl, hd⟩
        case' inl => have hltI : ¬ (j : Int) < s.size := by omega
        case' inr =>
          have hltI : (j : Int) < s.size := by omega
          have HD1 := fun (W : World) => Lib.hid (hd ▸ digit_any s[j] W)
          have HL1 := fun (W : World) => Lib.hid (hl ▸ letter_any s[j] W)
          clear hd hl
        all_goals
          go_wp2_with (first | (go_at_call 33; refine ((HD1 _).out).mono ?_; rintro e w' ⟨rfl, rfl⟩) | (go_at_call 34; refine ((HL1 _).out).mono ?_; rintro e w' ⟨rfl, rfl⟩) | (at_builtin; refine wpList_append_rd (ys := toksC [⟨3, k, s.extract k j, 0⟩]) _ rfl (.tmp 146) (.tmp 153) _ rfl eiTok rfl (hO.alloc _) rfl (Rd.tok ⟨3, k, s.extract k j, 0⟩ (by simp)) rfl (one_toks _) (by simp only [maxLen]; omega) (by omega) (by simp; omega) ?_; intro A' c' w2 ho hg hat hb))
          go_step3
          exact ⟨⟨j, _, _, _, ⟨rfl, rfl, rfl, rfl, rfl, rfl, rfl, rfl, rfl, rfl, rfl⟩, .inl ⟨rfl, _, hK.snoc ho hb hkj1 hjs, HT.out⟩⟩, by simp [lexM, intOf]; omega⟩
  · rintro ⟨tmps, defers⟩ w' ⟨k, vO, vS, vF, ⟨hz, hd, f0, f2, f3, f4, f5, f6, f7, f8, f9⟩, hJ⟩ ih0 ih1 ih2 ih3 ih4
    obtain ⟨u, hu, hv⟩ := frame_any tmps hz
    rw [hv] at f0 f2 f3 f4 f5 f6 f7 f8 f9
    clear hv hz
    simp only at hd
    rw [f0, f2, f3, f4, f5, f6, f7, f8, f9] at hu
    dsimp only at hu
    subst hu hd
    clear f0 f2 f3 f4 f5 f6 f7 f8 f9 ih0 ih1 ih2 ih3 ih4
    rcases hJ with ⟨h, _⟩ | ⟨h, _⟩ | ⟨h, _⟩ | ⟨_, done, f, acc, A2, c2, hK, HR, rfl, hfk, hdf, rfl, hS, hak, HO⟩ | ⟨h, _⟩
    case inl | inr.inl | inr.inr.inl | inr.inr.inr.inr => omega
    obtain ⟨A, c, rfl, hO⟩ := hK.out
    have hsm := hK.small
    have hkle := hK.le
    have hfs : f < s.size := by omega
    have hfew : done.length ≤ 4096 := by omega
    have hsz := hK.siz
    have hbel := hK.bel
    have hcap := hS.cap
    have HR2 := Lib.hid HR
    have hk0 : (0 : Int) ≤ k := by omega
    rw [Nat.add_zero] at HO
    have HE : Hid (textS false (s.data.toList.drop k) = none → lexR s = .err f 173) := by
      intro h
      rw [h] at HO
      rw [lexR, if_neg (by omega), HR, lex_err hfs HO]; rfl
    clear HR
    by_cases hlt : k < s.size
    · have hltI : (k : Int) < s.size := by omega
      have hkI : ((k : Int) == s.size) = false := by rw [beq_eq_false_iff_ne]; omega
      have hd := drop_at hlt
      by_cases h32 : s[k].toNat < 32
      · have h32I : (s[k].toNat : Int) < 32 := by omega
        have HT : Hid (lexR s = .err f 173) := HE.out (by rw [hd, textS, if_pos h32])
        clear HE HO hd h32
        go_wp2_with fail
        simp only [jumps]
        go_ret3
        exact ⟨by rw [HT.out]; rfl, hbel⟩
      · have h32I : ¬ (s[k].toNat : Int) < 32 := by omega
        by_cases h34 : s[k].toNat = 34
        · have h34I : (s[k].toNat : Int) = 34 := by omega
          have HT : Hid (lexL 0 s.data.toList = (lexL (k + 1) (s.data.toList.drop (k + 1))).pre (done ++ [⟨4, f, mkB acc, 0⟩])) := by
            rw [hd, textS, if_neg h32, if_pos h34] at HO
            have HO' : oneL f (s.data.toList.drop f) = .ok [⟨4, f, mkB acc, 0⟩] (k - f + 1) := by rw [HO, textTok, List.append_nil]
            show _ = _
            rw [HR2.out, lex_step hfs HO', pre_pre, show f + (k - f + 1) = k + 1 from by omega]
          have hcv := run_conv_rd (P := Try.prog) hS.rd 65 5 9 Try.underlying65 Try.underlying5 Try.underlying9 acc.length c2 rfl (fun _ => hS.shape)
          have HK := Lib.hid hK
          clear HE HO hd h34 h32
          go_wp2_with (at_builtin; refine wpList_append_rd (ys := toksC [⟨4, f, mkB acc, 0⟩]) _ rfl (.tmp 178) (.tmp 183) _ rfl eiTok rfl (hO.alloc _) rfl (Rd.tok ⟨4, f, mkB acc, 0⟩ (by simp)) rfl (one_toks _) (by simp only [maxLen]; omega) (by omega) (by simp; omega) ?_; intro A' c' w2 ho hg hat hb)
          go_step3
          exact ⟨⟨k + 1, _, _, _, ⟨rfl, rfl, rfl, rfl, rfl, rfl, rfl, rfl, rfl, rfl, rfl⟩, .inl ⟨rfl, _, HK.out.snoc ho hb (by omega) hlt, HT.out⟩⟩, by simp [lexM, intOf]; omega⟩
        · by_cases h92 : s[k].toNat = 92
          · have h92I : (s[k].toNat : Int) = 92 := by omega
            have HO1 : Hid (oneL f (s.data.toList.drop f) = textTok f (k + 1 - f) acc (textS true (s.data.toList.drop (k + 1)))) := by
              show _ = _
              rw [hd, textS, if_neg h32, if_neg h34, if_pos h92, text_esc] at HO
              rw [HO, show k - f + 1 = k + 1 - f from by omega]
            have HK := Lib.hid hK
            clear HE HO hd h34 h32 h92
            go_wp2_with fail
            go_step3
            exact ⟨⟨k, _, _, _, ⟨rfl, rfl, rfl, rfl, rfl, rfl, rfl, rfl, rfl, rfl, rfl⟩, .inr (.inr (.inr (.inr ⟨rfl, ⟨done, f, acc, A2, c2, HK.out, HR2.out, rfl, hfk, hdf, rfl, hS, hak, HO1.out⟩, hlt⟩)))⟩, by simp [lexM, intOf]⟩
          · have h34I : ((s[k].toNat : Int) == 34) = false := by rw [beq_eq_false_iff_ne]; omega
            have h92I : ((s[k].toNat : Int) == 92) = false := by rw [beq_eq_false_iff_ne]; omega
            have HO1 : Hid (oneL f (s.data.toList.drop f) = textTok f (k + 1 + 0 - f) (acc ++ [s[k]]) (textS false (s.data.toList.drop (k + 1 + 0)))) := by
              show _ = _
              rw [hd, textS, if_neg h32, if_neg h34, if_neg h92, text_go] at HO
              rw [HO, show k - f + 1 = k + 1 + 0 - f from by omega]
            have HK := Lib.hid hK
            clear HE HO hd h34 h32 h92
            go_wp2_with (at_builtin; refine wpList_append_rd (ys := bytesC [s[k]]) _ rfl (.tmp 170) (.tmp 172) _ rfl eiByte rfl (hS.alloc _) rfl (Rd.byte s[k] (by simp)) rfl (one_bytes _) (by simp only [maxLen]; omega) (by omega) (by simp; omega) ?_; intro A' c' w2 ho hg hat hb)
            go_step3
            exact ⟨⟨k + 1, _, _, _, ⟨rfl, rfl, rfl, rfl, rfl, rfl, rfl, rfl, rfl, rfl, rfl⟩, .inr (.inr (.inr (.inl ⟨rfl, done, f, acc ++ [s[k]], A', c', HK.out.grown hS hg hb (by omega) hlt, HR2.out, rfl, by omega, hdf, by simp, by simpa [bytesC] using ho, by simp; omega, HO1.out⟩)))⟩, by simp [lexM, intOf]; omega⟩
    · have hke : k = s.size := by omega
      have hkI : ((k : Int) == s.size) = true := by rw [beq_iff_eq]; omega
      have HT : Hid (lexR s = .err f 173) := HE.out (by rw [hke, drop_end]; rfl)
      have HK := Lib.hid hK
      clear HE HO hke
      go_wp2_with fail
      simp only [jumps]
      go_ret3
      exact ⟨by rw [HT.out]; rfl, hbel⟩
  · rintro ⟨tmps, defers⟩ w' ⟨k, vO, vS, vF, ⟨hz, hd, f0, f2, f3, f4, f5, f6, f7, f8, f9⟩, hJ⟩ ih0 ih1 ih2 ih3 ih4
    obtain ⟨u, hu, hv⟩ := frame_any tmps hz
    rw [hv] at f0 f2 f3 f4 f5 f6 f7 f8 f9
    clear hv hz
    simp only at hd
    rw [f0, f2, f3, f4, f5, f6, f7, f8, f9] at hu
    dsimp only at hu
    subst hu hd
    clear f0 f2 f3 f4 f5 f6 f7 f8 f9 ih0 ih1 ih2 ih3 ih4
    rcases hJ with ⟨h, _⟩ | ⟨h, _⟩ | ⟨h, _⟩ | ⟨h, _⟩ | ⟨_, ⟨done, f, acc, A2, c2, hK, HR, rfl, hfk, hdf, rfl, hS, hak, HO⟩, hlt⟩
    case inl | inr.inl | inr.inr.inl | inr.inr.inr.inl => omega
    obtain ⟨A, c, rfl, hO⟩ := hK.out
    have hsm := hK.small
    have hfs : f < s.size := by omega
    have hfew : done.length ≤ 4096 := by omega
    have hsz := hK.siz
    have hbel := hK.bel
    have hcap := hS.cap
    have HR2 := Lib.hid HR
    have hk0 : (0 : Int) ≤ k := by omega
    have HE : Hid (textS true (s.data.toList.drop (k + 1)) = none → lexR s = .err f 173) := by
      intro h
      rw [h] at HO
      rw [lexR, if_neg (by omega), HR, lex_err hfs HO]; rfl
    clear HR
    have hw1 : IntKind.i64.wrap ((k : Int) + 1) = ((k + 1 : Nat) : Int) := by rw [IntKind.wrap_i64]; omega
    by_cases hlt1 : k + 1 < s.size
    · have hltI : ((k + 1 : Nat) : Int) < s.size := by omega
      have hltJ : (k : Int) + 1 < s.size := by omega
      have hk1 : (0 : Int) ≤ ((k + 1 : Nat) : Int) := by omega
      have hkI : (((k + 1 : Nat) : Int) == s.size) = false := by rw [beq_eq_false_iff_ne]; omega
      have hkJ : ((k : Int) + 1 == s.size) = false := by rw [beq_eq_false_iff_ne]; omega
      have hd := drop_at hlt1
      by_cases h34 : s[k + 1].toNat = 34 ∨ s[k + 1].toNat = 92
      · have HO1 : Hid (oneL f (s.data.toList.drop f) = textTok f (k + 2 + 0 - f) (acc ++ [s[k + 1]]) (textS false (s.data.toList.drop (k + 2 + 0)))) := by
          show _ = _
          rw [hd, textS, if_pos h34, text_go] at HO
          rw [HO, show k + 1 - f + 1 = k + 2 + 0 - f from by omega]
        have HK := Lib.hid hK
        clear HE HO hd
        rcases h34 with h34 | h34
        · have h34I : (s[k + 1].toNat : Int) = 34 := by omega
          have HX : Hid (s[k + 1] = 34) := UInt8.toNat_inj.1 h34
          rw [HX.out] at HO1
          clear h34
          go_wp2_with (at_builtin; refine wpList_append_rd (ys := bytesC [34]) _ rfl (.tmp 204) (.tmp 206) _ rfl eiByte rfl (hS.alloc _) rfl (Rd.byte 34 (by simp)) rfl (one_bytes _) (by simp only [maxLen]; omega) (by omega) (by simp; omega) ?_; intro A' c' w2 ho hg hat hb)
          go_step3
          exact ⟨⟨k + 2, _, _, _, ⟨rfl, rfl, rfl, rfl, rfl, rfl, rfl, rfl, rfl, rfl, rfl⟩, .inr (.inr (.inr (.inl ⟨rfl, done, f, acc ++ [34], A', c', HK.out.grown hS hg hb (by omega) (by omega), HR2.out, rfl, by omega, hdf, by simp, by simpa [bytesC] using ho, by simp; omega, HO1.out⟩)))⟩, by simp [lexM, intOf]; omega⟩
        · have h34I : (s[k + 1].toNat : Int) = 92 := by omega
          have HX : Hid (s[k + 1] = 92) := UInt8.toNat_inj.1 h34
          rw [HX.out] at HO1
          clear h34
          go_wp2_with (at_builtin; refine wpList_append_rd (ys := bytesC [92]) _ rfl (.tmp 204) (.tmp 206) _ rfl eiByte rfl (hS.alloc _) rfl (Rd.byte 92 (by simp)) rfl (one_bytes _) (by simp only [maxLen]; omega) (by omega) (by simp; omega) ?_; intro A' c' w2 ho hg hat hb)
          go_step3
          exact ⟨⟨k + 2, _, _, _, ⟨rfl, rfl, rfl, rfl, rfl, rfl, rfl, rfl, rfl, rfl, rfl⟩, .inr (.inr (.inr (.inl ⟨rfl, done, f, acc ++ [92], A', c', HK.out.grown hS hg hb (by omega) (by omega), HR2.out, rfl, by omega, hdf, by simp, by simpa [bytesC] using ho, by simp; omega, HO1.out⟩)))⟩, by simp [lexM, intOf]; omega⟩
      · by_cases h110 : s[k + 1].toNat = 110
        · have HO1 : Hid (oneL f (s.data.toList.drop f) = textTok f (k + 2 + 0 - f) (acc ++ [10]) (textS false (s.data.toList.drop (k + 2 + 0)))) := by
            show _ = _
            rw [hd, textS, if_neg h34, if_pos h110, text_go] at HO
            rw [HO, show k + 1 - f + 1 = k + 2 + 0 - f from by omega]
          have h110I : (s[k + 1].toNat : Int) = 110 := by omega
          have HK := Lib.hid hK
          clear HE HO hd h34 h110
          go_wp2_with (at_builtin; refine wpList_append_rd (ys := bytesC [10]) _ rfl (.tmp 210) (.tmp 211) _ rfl eiByte rfl (hS.alloc _) rfl (Rd.byte 10 (by simp)) rfl (one_bytes _) (by simp only [maxLen]; omega) (by omega) (by simp; omega) ?_; intro A' c' w2 ho hg hat hb)
          go_step3
          exact ⟨⟨k + 2, _, _, _, ⟨rfl, rfl, rfl, rfl, rfl, rfl, rfl, rfl, rfl, rfl, rfl⟩, .inr (.inr (.inr (.inl ⟨rfl, done, f, acc ++ [10], A', c', HK.out.grown hS hg hb (by omega) (by omega), HR2.out, rfl, by omega, hdf, by simp, by simpa [bytesC] using ho, by simp; omega, HO1.out⟩)))⟩, by simp [lexM, intOf]; omega⟩
        · have HT : Hid (lexR s = .err f 173) := HE.out (by rw [hd, textS, if_neg h34, if_neg h110])
          have h34I : ((s[k + 1].toNat : Int) == 34) = false := by rw [beq_eq_false_iff_ne]; omega
          have h92I : ((s[k + 1].toNat : Int) == 92) = false := by rw [beq_eq_false_iff_ne]; omega
          have h110I : ((s[k + 1].toNat : Int) == 110) = false := by rw [beq_eq_false_iff_ne]; omega
          clear HE HO hd h34 h110
          go_wp2_with fail
          simp only [jumps]
          go_ret3
          exact ⟨by rw [HT.out]; rfl, hbel⟩
    · have hke : k + 1 = s.size := by omega
      have hkI : (((k + 1 : Nat) : Int) == s.size) = true := by rw [beq_iff_eq]; omega
      have hkJ : ((k : Int) + 1 == s.size) = true := by rw [beq_iff_eq]; omega
      have HT : Hid (lexR s = .err f 173) := HE.out (by rw [hke, drop_end]; rfl)
      clear HE HO hke
      go_wp2_with fail
      simp only [jumps]
      go_ret3
      exact ⟨by rw [HT.out]; rfl, hbel⟩
end Go.Proofs.Ytdikmklijpcjdaa
