/- TypesFirst: what is wrong with a node is told by the nodes up to it; two trees side by side are none. -/
import Derived.Test.YtmhfeeomlpdnkaaTypL
namespace Go.Proofs.Ytmhfeeomlpdnkaa
open Go.RowKit

theorem MixN.rdB {w w' : World} {base n c : Nat} {A : Option Addr} {ns : List Nod} (h : MixN w base A n c ns) (hB : base ≤ w.heap.size) (hb : Below w.heap.size w w') : RdNods w' w.heap.size A ns := (h.rd hB).below hb
set_option maxRecDepth 100000 in
set_option maxHeartbeats 4000000 in
theorem typesFirst_any (ns ms : List Nod) (A1 A2 : Option Addr) (n1 c1 n2 c2 B : Nat) (w : World) (h1 : RdNods w B A1 ns) (h2 : RdNods w B A2 ms) (hn1 : ns.length = n1) (hn2 : ms.length = n2) (hB : B ≤ w.heap.size)
    (hm1 : n1 * 120 ≤ 140737488355328) (hm2 : n2 * 120 ≤ 140737488355328) (ht1 : ∀ x ∈ ns, okNodT x) (ht2 : ∀ x ∈ ms, okNodT x) (ho1 : ∀ x ∈ ns, okNod x) (ho2 : ∀ x ∈ ms, okNod x) :
    Calls Try.prog 4 #[.slice A1 n1 c1, .slice A2 n2 c2] w fun e w' => e = .returned (.bool true) ∧ Below w.heap.size w w' := by
  have R1 := Lib.hid h1
  have S1 := Lib.hid h2
  have T1 := Lib.hid ht1
  have T2 := Lib.hid ht2
  have O1 := Lib.hid ho1
  have O2 := Lib.hid ho2
  have N1 := Lib.hid hn1
  have N2 := Lib.hid hn2
  clear h1 h2 ht1 ht2 ho1 ho2 hn1 hn2
  rcases hK : checkN ns with ⟨k1, a1, e1⟩
  rcases hM : checkN ms with ⟨k2, a2, e2⟩
  rcases hJ : checkN (ns ++ ms) with ⟨k3, a3, e3⟩
  have K := Lib.hid hK
  have M := Lib.hid hM
  have J := Lib.hid hJ
  clear hK hM hJ
  have hw12 : IntKind.i64.wrap ((n1 : Int) + (n2 : Int)) = (n1 : Int) + (n2 : Int) := by rw [IntKind.wrap_i64]; omega
  go_enter Try.func4, Try.ntmps4
  go_wp2_with fail
  refine (copyNodes_any ns A1 n1 c1 B w R1.out N1.out hB hm1 O1.out).mono ?_
  rintro e w2 ⟨A, c, rfl, ho, hb2⟩
  have hs2 := hb2.size
  have R2 := Lib.hid (R1.out.below (hb2.mono hB))
  have S2 := Lib.hid (S1.out.below (hb2.mono hB))
  have C2 := Lib.hid ho.rd
  clear ho R1 S1
  go_wp2_with fail
  refine (tcheck_eq K A n1 c _ w2 C2.out N1.out (Nat.le_refl _) hm1 T1.out).mono ?_
  rintro e w3 ⟨rfl, hb3⟩
  have hs3 := hb3.size
  have R3 := Lib.hid (R2.out.below (hb3.mono (by omega)))
  have S3 := Lib.hid (S2.out.below (hb3.mono (by omega)))
  have hb03 := Lib.hid (hb2.trans (hb3.mono hs2))
  clear R2 S2 hb2 hb3 C2
  by_cases hlong : 4096 < n1 + n2
  · have hl1 : (4096 : Int) < (n1 : Int) + (n2 : Int) := by omega
    go_wp2_with fail
    refine (tawake_any _).mono ?_
    rintro e w4 ⟨rfl, hb4⟩
    go_wp2_with fail
    go_ret
    exact ⟨rfl, hb03.out.trans (hb4.mono (by omega))⟩
  have hl1 : (n1 : Int) + (n2 : Int) ≤ 4096 := by omega
  go_wp2_with fail
  refine (copyNodes_any ns A1 n1 c1 B w3 R3.out N1.out (by omega) hm1 O1.out).mono ?_
  rintro e w4 ⟨A, c, rfl, ho, hb4⟩
  have hs4 := hb4.size
  have R4 := Lib.hid (R3.out.below (hb4.mono (by omega)))
  have S4 := Lib.hid (S3.out.below (hb4.mono (by omega)))
  have M4 := Lib.hid ho.mix
  have hb04 := Lib.hid (hb03.out.trans (hb4.mono (by omega)))
  clear ho hb4 R3 S3 hb03
  go_wp2_with (at_builtin; refine wpList_append_nods rfl (.tmp 30) (.tmp 31) _ rfl eiNod rfl M4.out rfl (S4.out.more (by omega : B ≤ w3.heap.size)).src N2.out (by omega) (by omega) ?_; intro A5 c5 w5 hM5 hb5)
  have hs5 := hb5.size
  have R5 := Lib.hid (R4.out.below (hb5.mono (by omega)))
  have S5 := Lib.hid (S4.out.below (hb5.mono (by omega)))
  have M5 := Lib.hid (hM5.rd (by omega))
  have hb05 := Lib.hid (hb04.out.trans (hb5.mono (by omega)))
  clear hM5 hb5 R4 S4 M4 hb04
  refine (tcheck_eq J A5 (n1 + n2) c5 _ w5 M5.out (by rw [List.length_append, N1.out, N2.out]) (Nat.le_refl _) (by omega) (ok_app T1.out T2.out)).mono ?_
  rintro e w6 ⟨rfl, hb6⟩
  have hs6 := hb6.size
  have S6 := Lib.hid (S5.out.below (hb6.mono (by omega)))
  have hb06 := Lib.hid (hb05.out.trans (hb6.mono (by omega)))
  clear hb6 R5 S5 M5 hb05
  by_cases hfirst : e1 ≠ 0 ∧ a1 < n1
  · obtain ⟨he, ha⟩ := hfirst
    have hj := checkN_first (ms := ms) K.out he (by rw [N1.out]; exact ha)
    rw [J.out] at hj
    simp only [Prod.mk.injEq] at hj
    obtain ⟨rfl, rfl, rfl⟩ := hj
    have he1 : (e3 != 0) = true := by simpa using he
    have ha1 : (a3 : Int) < (n1 : Int) := by omega
    clear he ha K J
    go_wp2_with fail
    refine (tawake_any _).mono ?_
    rintro e w7 ⟨rfl, hb7⟩
    go_wp2_with fail
    go_ret
    exact ⟨rfl, hb06.out.trans (hb7.mono (by omega))⟩
  · have more : ∀ (Q : Prop), (e1 = 0 → Q) → ((e1 != 0) = true → (n1 : Int) ≤ (a1 : Int) → Q) → Q := fun Q h1 h2 => by
      by_cases he : e1 = 0
      · exact h1 he
      · exact h2 (by simpa using he) (by have : ¬ a1 < n1 := fun h => hfirst ⟨he, h⟩; omega)
    have More := Lib.hid more
    clear more hfirst
    refine More.out _ (fun he => ?_) (fun he1 ha1 => ?_)
    · subst he
      by_cases he2 : e2 = 0
      · subst he2
        have hj := checkN_two K.out M.out
        rw [J.out, N1.out, N2.out] at hj
        simp only [Prod.mk.injEq] at hj
        obtain ⟨rfl, ha3, rfl⟩ := hj
        have hk1 : (k1 != 0) = true := by have := (checkN_ok K.out).2.1; unfold TyOk at this; simp; omega
        have hk2 : (k2 != 0) = true := by have := (checkN_ok M.out).2.1; unfold TyOk at this; simp; omega
        have ha4 : ((a3 : Int) == (n1 : Int) + (n2 : Int)) = true := by simp; omega
        clear ha3
        go_wp2_with fail
        refine (copyNodes_any ms A2 n2 c2 B w6 S6.out N2.out (by omega) hm2 O2.out).mono ?_
        rintro e w7 ⟨A7, c7, rfl, ho, hb7⟩
        have hs7 := hb7.size
        have C7 := Lib.hid ho.rd
        have hb07 := Lib.hid (hb06.out.trans (hb7.mono (by omega)))
        clear ho hb7
        go_wp2_with fail
        refine (tcheck_eq M A7 n2 c7 _ w7 C7.out N2.out (Nat.le_refl _) hm2 T2.out).mono ?_
        rintro e w8 ⟨rfl, hb8⟩
        have hs8 := hb8.size
        have hb08 := Lib.hid (hb07.out.trans (hb8.mono (by omega)))
        go_wp2_with fail
        refine (tawake_any _).mono ?_
        rintro e w9 ⟨rfl, hb9⟩
        go_wp2_with fail
        go_ret
        exact ⟨rfl, hb08.out.trans (hb9.mono (by omega))⟩
      · have he3 : (e2 == 0) = false := by simpa using he2
        clear he2
        go_wp2_with fail
        refine (copyNodes_any ms A2 n2 c2 B w6 S6.out N2.out (by omega) hm2 O2.out).mono ?_
        rintro e w7 ⟨A7, c7, rfl, ho, hb7⟩
        have hs7 := hb7.size
        have C7 := Lib.hid ho.rd
        have hb07 := Lib.hid (hb06.out.trans (hb7.mono (by omega)))
        clear ho hb7
        go_wp2_with fail
        refine (tcheck_eq M A7 n2 c7 _ w7 C7.out N2.out (Nat.le_refl _) hm2 T2.out).mono ?_
        rintro e w8 ⟨rfl, hb8⟩
        have hs8 := hb8.size
        have hb08 := Lib.hid (hb07.out.trans (hb8.mono (by omega)))
        go_wp2_with fail
        refine (tawake_any _).mono ?_
        rintro e w9 ⟨rfl, hb9⟩
        go_wp2_with fail
        go_ret
        exact ⟨rfl, hb08.out.trans (hb9.mono (by omega))⟩
    · have he3 : (e1 == 0) = false := by simpa using he1
      go_wp2_with fail
      refine (copyNodes_any ms A2 n2 c2 B w6 S6.out N2.out (by omega) hm2 O2.out).mono ?_
      rintro e w7 ⟨A7, c7, rfl, ho, hb7⟩
      have hs7 := hb7.size
      have C7 := Lib.hid ho.rd
      have hb07 := Lib.hid (hb06.out.trans (hb7.mono (by omega)))
      clear ho hb7
      go_wp2_with fail
      refine (tcheck_eq M A7 n2 c7 _ w7 C7.out N2.out (Nat.le_refl _) hm2 T2.out).mono ?_
      rintro e w8 ⟨rfl, hb8⟩
      have hs8 := hb8.size
      have hb08 := Lib.hid (hb07.out.trans (hb8.mono (by omega)))
      go_wp2_with fail
      refine (tawake_any _).mono ?_
      rintro e w9 ⟨rfl, hb9⟩
      go_wp2_with fail
      go_ret
      exact ⟨rfl, hb08.out.trans (hb9.mono (by omega))⟩
end Go.Proofs.Ytmhfeeomlpdnkaa
