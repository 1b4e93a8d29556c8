/- ParseTotal: whatever text comes, it is a tree in which each part is found, or a place in the text. -/
import Derived.Test.YtdikmklijpcjdaaParA
import Derived.Test.YtdikmklijpcjdaaPTree
namespace Go.Proofs.Ytdikmklijpcjdaa
open Go.RowKit

set_option maxHeartbeats 1000000 in
theorem partsK_any (k : Int) (w : World) : Calls Try.prog 15 #[.int .i64 k] w fun e w' => e = .returned (.int .i64 (partsK k)) ∧ w = w' := by
  by_cases h1 : k = 1
  · subst h1
    go_enter Try.func15, Try.ntmps15
    go_wp2; go_ret; exact ⟨rfl, rfl⟩
  by_cases h2 : k = 2
  · subst h2
    go_enter Try.func15, Try.ntmps15
    go_wp2; go_ret; exact ⟨rfl, rfl⟩
  by_cases h3 : k = 3
  · subst h3
    go_enter Try.func15, Try.ntmps15
    go_wp2; go_ret; exact ⟨rfl, rfl⟩
  by_cases h4 : k = 4
  · subst h4
    go_enter Try.func15, Try.ntmps15
    go_wp2; go_ret; exact ⟨rfl, rfl⟩
  by_cases h5 : k = 5
  · subst h5
    go_enter Try.func15, Try.ntmps15
    go_wp2; go_ret; exact ⟨rfl, rfl⟩
  by_cases h6 : k = 6
  · subst h6
    go_enter Try.func15, Try.ntmps15
    go_wp2; go_ret; exact ⟨rfl, rfl⟩
  by_cases h7 : k = 7
  · subst h7
    go_enter Try.func15, Try.ntmps15
    go_wp2; go_ret; exact ⟨rfl, rfl⟩
  · have HT : Hid (partsK k = -1) := by show _ = _; rw [partsK, if_neg (by omega), if_neg (by omega), if_neg h6]
    have e1 : (k == 1) = false := by rw [beq_eq_false_iff_ne]; exact h1
    have e2 : (k == 2) = false := by rw [beq_eq_false_iff_ne]; exact h2
    have e3 : (k == 3) = false := by rw [beq_eq_false_iff_ne]; exact h3
    have e4 : (k == 4) = false := by rw [beq_eq_false_iff_ne]; exact h4
    have e5 : (k == 5) = false := by rw [beq_eq_false_iff_ne]; exact h5
    have e6 : (k == 6) = false := by rw [beq_eq_false_iff_ne]; exact h6
    have e7 : (k == 7) = false := by rw [beq_eq_false_iff_ne]; exact h7
    clear h1 h2 h3 h4 h5 h6 h7
    go_enter Try.func15, Try.ntmps15
    go_wp2
    go_ret
    rw [HT.out]
    exact ⟨rfl, rfl⟩
theorem partsK_bd (k : Int) : -1 ≤ partsK k ∧ partsK k ≤ 2 := by
  unfold partsK
  split
  · omega
  · split
    · omega
    · split <;> omega
set_option maxRecDepth 100000 in
set_option maxHeartbeats 4000000 in
theorem parseTotal_any (s : ByteArray) (w : World) (hs0 : s.size ≤ 140737488351232) : Calls Try.prog 4 #[.string s] w fun e w' => e = .returned (.bool true) ∧ Below w.heap.size w w' := by
  have hs : s.size ≤ maxLen := by unfold maxLen; omega
  have H1 := Lib.hid (parse_any s w hs (fun _ _ h => lexR_err h))
  have H2 := fun (W : World) => Lib.hid (lex_any s W hs)
  have hsz := hs0
  go_enter Try.func4, Try.ntmps4
  go_wp2_with fail
  refine (H1.out).mono ?_
  rintro e w1 ⟨⟨A, c, rfl, hO⟩, hb1⟩
  go_wp2_with fail
  refine ((H2 w1).out).mono ?_
  rintro e w2 ⟨hlx, hb2⟩
  have HB2 := Lib.hid (hb1.trans (hb2.mono hb1.size))
  have HO := Lib.hid hO
  have hbx := Lib.hid hb2
  clear hb1 hb2 H1 H2 hO
  cases hlr : lexR s with
  | err p x =>
    have hx := lexR_err hlr
    have hP : parseR s = ([], (p : Int), x) := by rw [parseR, hlr]
    have hxb : (x != 0) = true := by rw [bne_iff_ne]; exact hx
    rw [hlr] at hlx
    have hlx : e = .returned (.tuple #[.slice none 0 0, .int .i64 p, .int .i64 x]) := hlx
    subst hlx
    rw [hP]
    clear hlr hx hP HO hbx
    go_wp2_with fail
    refine (pawake_any _).mono ?_
    rintro e w3 ⟨rfl, hb3⟩
    go_wp2_with fail
    go_ret
    exact ⟨rfl, HB2.out.trans (hb3.mono HB2.out.size)⟩
  | ok ts =>
    rw [hlr] at hlx
    obtain ⟨A2, c2, rfl, _⟩ := hlx
    rcases parse_told hlr with ⟨p1, p2, p3⟩ | ⟨p1, p2, p3, p4, p5⟩ | ⟨p1, p2, p3⟩
    · rw [p1, p2, p3]
      clear p1 p2 p3 hlr HO hbx
      go_wp2_with fail
      refine (pawake_any _).mono ?_
      rintro e w3 ⟨rfl, hb3⟩
      go_wp2_with fail
      go_ret
      exact ⟨rfl, HB2.out.trans (hb3.mono HB2.out.size)⟩
    · rw [p5]
      generalize (parseR s).2.2 = why at *
      generalize (parseR s).2.1 = at_ at *
      have h1 : (why == 180) = false := by rw [beq_eq_false_iff_ne]; exact p1
      have h2 : (why != 0) = true := by rw [bne_iff_ne]; exact p2
      clear p1 p2 p5 hlr HO hbx
      go_wp2_with fail
      refine (pawake_any _).mono ?_
      rintro e w3 ⟨rfl, hb3⟩
      go_wp2_with fail
      go_ret
      exact ⟨rfl, HB2.out.trans (hb3.mono HB2.out.size)⟩
    · have HO2 := HO.out
      rw [p1, p2]
      generalize (parseR s).1 = ns at *
      have hr := Lib.hid ((HO2.rd).below hbx.out)
      have hcap := HO2.choose_spec.1.cap
      have hn1 : ns.length ≤ maxLen := by omega
      unfold maxLen at hn1
      have HT := Lib.hid p3
      clear p1 p2 p3 hlr HO HO2 hcap hbx
      go_wp2_with fail
      go_loop [9, 10] (fun v9 v10 => ∃ k n : Nat, v10 = .int .i64 k ∧ v9 = .int .i64 n ∧ k ≤ ns.length ∧ n ≤ k ∧ Hid (runT n (ns.drop k) = some 1)) (fun _ v10 => ns.length - (intOf v10).toNat)
      case atStart => exact ⟨0, 0, rfl, rfl, Nat.zero_le _, Nat.le_refl _, HT⟩
      case round =>
        obtain ⟨k, n, rfl, rfl, hk, hnk, HK⟩ := hrel
        by_cases hlt : k < ns.length
        · obtain ⟨x, hx⟩ : ∃ x, ns[k]? = some x := ⟨_, List.getElem?_eq_getElem hlt⟩
          obtain ⟨b, o, Am, cm, An, cn, e1, hb, q0, q1, q2, q3, q4, q5, q6, q7, q8, q9, _⟩ := hr.out.at_ hx
          subst e1
          have hd : ns.drop k = x :: ns.drop (k + 1) := by
            rw [List.drop_eq_getElem_cons hlt]
            rw [List.getElem?_eq_getElem hlt] at hx
            injection hx with hx
            rw [hx]
          have hrun := HK.out
          rw [hd, runT] at hrun
          have hbd := partsK_bd x.kind
          split at hrun
          · cases hrun
          · rename_i hc
            have hc1 : ¬ partsK x.kind < 0 := fun h => hc (.inl h)
            have hc2 : ¬ (n : Int) < partsK x.kind := fun h => hc (.inr (.inl h))
            have hc3 : x.parts = partsK x.kind := Classical.not_not.1 fun h => hc (.inr (.inr h))
            obtain ⟨q, hq⟩ : ∃ q : Nat, partsK x.kind = q := ⟨(partsK x.kind).toNat, by omega⟩
            rw [hc3, hq] at q9
            rw [hq] at hrun hc1 hc2 hbd
            have hqn : q ≤ n := by omega
            have HPa := fun (W : World) => Lib.hid (partsK_any x.kind W)
            rw [hq] at HPa
            have HR2 : Hid (runT ((n - q + 1 : Nat) : Int) (ns.drop (k + 1)) = some 1) := by
              show _ = _
              rw [show ((n - q + 1 : Nat) : Int) = (n : Int) - q + 1 from by omega]
              exact hrun
            have hw1 : IntKind.i64.wrap ((n : Int) - (q : Int)) = ((n - q : Nat) : Int) := by rw [IntKind.wrap_i64] <;> omega
            have hw2 : IntKind.i64.wrap (((n - q : Nat) : Int) + 1) = ((n - q + 1 : Nat) : Int) := by rw [IntKind.wrap_i64] <;> omega
            have hltI : (k : Int) < ns.length := by omega
            have hqz : (0 : Int) ≤ q := by omega
            have hqnI : (q : Int) ≤ n := by omega
            clear hc hc1 hc2 hc3 hq hrun hd hx HK q1 q2 q3 q4 q5 q6 q7 q8
            go_wp2_with fail
            refine ((HPa _).out).mono ?_
            rintro e w3 ⟨rfl, rfl⟩
            go_wp2_with fail
            go_round
            case rel => exact ⟨k + 1, n - q + 1, by go_num, rfl, by omega, by omega, HR2⟩
            case measure => simp [intOf]; omega
        · have hke : k = ns.length := by omega
          have hn1 : n = 1 := by
            have h := HK.out
            rw [hke, List.drop_length, runT] at h
            injection h with h
            omega
          subst hn1
          have hltI : ¬ (k : Int) < ns.length := by omega
          clear HK
          go_wp2_with fail
          refine (pawake_any _).mono ?_
          rintro e w3 ⟨rfl, hb3⟩
          go_wp2_with fail
          go_ret
          exact ⟨rfl, HB2.out.trans (hb3.mono HB2.out.size)⟩
end Go.Proofs.Ytdikmklijpcjdaa
