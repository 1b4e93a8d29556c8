/- ParseTrees: any text is read as the tree that the document says, or refused at the place that it says. -/
import Derived.Test.YtdikmklijpcjdaaRefU
import Derived.Test.YtdikmklijpcjdaaSpoN
import Derived.Test.YtdikmklijpcjdaaParA
import Derived.Test.YtdikmklijpcjdaaNodE
namespace Go.Proofs.Ytdikmklijpcjdaa
open Go.RowKit

set_option maxRecDepth 100000 in
set_option maxHeartbeats 4000000 in
theorem parseTrees_any (s : ByteArray) (w : World) (hs0 : s.size ≤ 140737488351232) : Calls Try.prog 3 #[.string s] w fun e w' => e = .returned (.bool true) ∧ Below w.heap.size w w' := by
  have hs : s.size ≤ maxLen := by unfold maxLen; omega
  have H1 := Lib.hid (rparse_any s w hs)
  have H2 := fun (W : World) => Lib.hid (parse_any s W hs (fun _ _ h => lexR_err h))
  have hlen := parseR_len s
  have hsm := Lib.hid (parseR_smallNod s)
  rcases hr : parseR s with ⟨ns, at_, why⟩
  rw [hr] at hlen hsm
  simp only [hr] at H1 H2
  have hlen : ns.length ≤ 5000 := hlen
  obtain ⟨n, hn⟩ : ∃ n, ns.length = n := ⟨_, rfl⟩
  have hnm : n ≤ maxLen := by unfold maxLen; omega
  have Hn := Lib.hid hn
  have hx0 : ((why : Int) != why) = false := by simp
  have hp0 : ((at_ : Int) != at_) = false := by simp
  clear hr hlen
  go_enter Try.func3, Try.ntmps3
  go_wp2_with fail
  refine (H1.out).mono ?_
  rintro e w1 ⟨⟨A1, c1, h1, ho1⟩, hb1⟩
  have h1 : e = .returned (.tuple #[.slice A1 ns.length c1, .int .i64 at_, .int .i64 why]) := h1
  have ho1 : OwnNods w1 w.heap.size A1 ns.length c1 ns := ho1
  rw [hn] at h1 ho1
  subst h1
  go_wp2_with fail
  refine ((H2 w1).out).mono ?_
  rintro e w2 ⟨⟨A2, c2, h2, ho2⟩, hb2⟩
  have h2 : e = .returned (.tuple #[.slice A2 ns.length c2, .int .i64 at_, .int .i64 why]) := h2
  have ho2 : OwnNods w2 w1.heap.size A2 ns.length c2 ns := ho2
  rw [hn] at h2 ho2
  subst h2
  go_wp2_with fail
  refine ((H2 w2).out).mono ?_
  rintro e w3 ⟨⟨A3, c3, h3, ho3⟩, hb3⟩
  have h3 : e = .returned (.tuple #[.slice A3 ns.length c3, .int .i64 at_, .int .i64 why]) := h3
  have ho3 : OwnNods w3 w2.heap.size A3 ns.length c3 ns := ho3
  rw [hn] at h3 ho3
  subst h3
  have z1 := hb1.size
  have z2 := hb2.size
  have z3 := hb3.size
  have hr1 := (ho1.rd.below hb2).below (hb3.mono z2)
  have hr2 := ho2.rd.below hb3
  have HS := Lib.hid (sameNodes_any ns ns A2 A1 n n c2 c1 _ _ w3 hr2 hr1 z3 (by omega) hn hn hnm hnm)
  rw [decide_eq_true rfl] at HS
  have HO1 := Lib.hid hr1
  have HO2 := Lib.hid (ho2.nodsW (Nat.le_refl _))
  have HO3 := Lib.hid ho3
  have HB3 := Lib.hid ((hb1.trans (hb2.mono z1)).trans (hb3.mono (by omega)))
  have HB32 := Lib.hid hb3
  clear ho1 ho2 ho3 hb1 hb2 hb3 hr1 hr2 H1 H2 hn
  go_wp2_with fail
  refine (HS.out).mono ?_
  rintro e w4 ⟨rfl, hb4⟩
  have z4 := hb4.size
  have hS4 : NodsW w4 w1.heap.size w2.heap.size A2 n c2 ns 0 := by
    have hb := HB32.out.trans (hb4.mono z3)
    refine ⟨HO2.out.1.keep fun g _ hg m h => h.below hb hg, fun j x hj hx => ?_⟩
    obtain ⟨g, Am, cm, An, cn, e, d3, d7, s3, s7⟩ := HO2.out.2 j x hj hx
    have hg := (HO2.out.1.within (b := g) (by rw [e]; rfl)).2
    exact ⟨g, Am, cm, An, cn, e, (hb.cell (p := ⟨g, _, none⟩) hg).trans d3, (hb.cell (p := ⟨g, _, none⟩) hg).trans d7, s3.keep fun g _ hg m h => h.below hb hg, s7.keep fun g _ hg m h => h.below hb hg⟩
  have HSp := Lib.hid (spoilNodes_any ns A2 n c2 w1.heap.size w2.heap.size w4 hS4 Hn.out hsm.out (by omega))
  have HB4 := Lib.hid hb4
  clear hS4 hb4 HS
  go_wp2_with fail
  refine (HSp.out).mono ?_
  rintro e w5 ⟨rfl, hsp⟩
  have z5 := hsp.2.2.2.1
  have q1 : RdNods w5 w1.heap.size A1 ns := ((show RdNods w3 w1.heap.size A1 ns from HO1.out).below (HB4.out.mono (by omega))).below (hsp.below (Nat.le_refl _) (by omega))
  have q3 := (HO3.out.belowAll HB4.out).spb hsp (Nat.le_refl _)
  have HS2 := Lib.hid (sameNodes_any ns ns A3 A1 n n c3 c1 _ _ w5 q3.rd q1 (Nat.le_refl _) (by omega) Hn.out Hn.out hnm hnm)
  rw [decide_eq_true rfl] at HS2
  have HB5 : Hid (Below w.heap.size w w5) := (HB3.out.trans (HB4.out.mono (by omega))).trans (hsp.below z1 (by omega))
  clear q1 q3 hsp HSp
  go_wp2_with fail
  refine (HS2.out).mono ?_
  rintro e w6 ⟨rfl, hb6⟩
  have HB6 := Lib.hid (HB5.out.trans (hb6.mono HB5.out.size))
  clear hb6 HS2
  go_wp2_with fail
  refine (pawake_any _).mono ?_
  rintro e w7 ⟨rfl, hb7⟩
  go_wp2_with fail
  go_ret
  exact ⟨rfl, HB6.out.trans (hb7.mono HB6.out.size)⟩
end Go.Proofs.Ytdikmklijpcjdaa
