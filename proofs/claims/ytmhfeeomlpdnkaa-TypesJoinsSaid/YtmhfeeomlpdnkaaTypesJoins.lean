/- TypesJoins: of two trees an operation is what their types make of it; of one a function, a sum, a minus. -/
import Derived.Test.YtmhfeeomlpdnkaaTypL
import Derived.Test.YtmhfeeomlpdnkaaLow
import Derived.Test.YtmhfeeomlpdnkaaLexJ
namespace Go.Proofs.Ytmhfeeomlpdnkaa
open Go.RowKit

theorem low_rem (x : Int) : ∃ r k : Int, IntKind.i64.wrap ((lowI x).tmod 13) = r ∧ (lowI x).tmod 13 = r ∧ IntKind.i64.wrap r = r ∧ IntKind.i64.wrap (1 + r) = k ∧ 1 ≤ k ∧ k ≤ 13 := by
  have h := lowI_nn x
  have e := Int.tmod_eq_emod_of_nonneg (b := 13) h.1
  refine ⟨(lowI x).tmod 13, 1 + (lowI x).tmod 13, ?_, rfl, ?_, ?_, ?_, ?_⟩
  · rw [e, IntKind.wrap_i64]; omega
  · rw [e, IntKind.wrap_i64]; omega
  · rw [e, IntKind.wrap_i64]; omega
  · rw [e]; omega
  · rw [e]; omega
theorem join_iff {x y k : Int} : joinB x y k = true ↔ ((x ≠ 3 ∧ y ≠ 3) ∧ (k < 11 ∨ x = 2 ∧ y = 2) ∧ (¬ (5 ≤ k ∧ k ≤ 10) ∨ x = 2 ∨ y = 2)) := by
  simp [joinB, inB, and_assoc]
  omega
set_option maxRecDepth 100000 in
theorem frame202 (tmps : Array Value) (h : tmps.size = 202) : ∃ u : Nat → Value, tmps = #[u 0, u 1, u 2, u 3, u 4, u 5, u 6, u 7, u 8, u 9, u 10, u 11, u 12, u 13, u 14, u 15, u 16, u 17, u 18, u 19, u 20, u 21, u 22, u 23, u 24, u 25, u 26, u 27, u 28, u 29, u 30, u 31, u 32, u 33, u 34, u 35, u 36, u 37, u 38, u 39, u 40, u 41, u 42, u 43, u 44, u 45, u 46, u 47, u 48, u 49, u 50, u 51, u 52, u 53, u 54, u 55, u 56, u 57, u 58, u 59, u 60, u 61, u 62, u 63, u 64, u 65, u 66, u 67, u 68, u 69, u 70, u 71, u 72, u 73, u 74, u 75, u 76, u 77, u 78, u 79, u 80, u 81, u 82, u 83, u 84, u 85, u 86, u 87, u 88, u 89, u 90, u 91, u 92, u 93, u 94, u 95, u 96, u 97, u 98, u 99, u 100, u 101, u 102, u 103, u 104, u 105, u 106, u 107, u 108, u 109, u 110, u 111, u 112, u 113, u 114, u 115, u 116, u 117, u 118, u 119, u 120, u 121, u 122, u 123, u 124, u 125, u 126, u 127, u 128, u 129, u 130, u 131, u 132, u 133, u 134, u 135, u 136, u 137, u 138, u 139, u 140, u 141, u 142, u 143, u 144, u 145, u 146, u 147, u 148, u 149, u 150, u 151, u 152, u 153, u 154, u 155, u 156, u 157, u 158, u 159, u 160, u 161, u 162, u 163, u 164, u 165, u 166, u 167, u 168, u 169, u 170, u 171, u 172, u 173, u 174, u 175, u 176, u 177, u 178, u 179, u 180, u 181, u 182, u 183, u 184, u 185, u 186, u 187, u 188, u 189, u 190, u 191, u 192, u 193, u 194, u 195, u 196, u 197, u 198, u 199, u 200, u 201] ∧ ∀ i, tmps.getD i undef = u i := by
  refine ⟨fun i => tmps.getD i undef, ?_, fun i => rfl⟩
  have := frame_map tmps
  rw [h] at this
  exact this
/-- The code's last part stands by itself. -/
theorem cut_all {P : Program} {Q : Exit → Act → World → Prop} {r0 r1 r2 s3 r5 r6 r7 r8 r9 r10 s11 rest : Code} {a : Act} {w : World} (I : Act → World → Prop) (tail : ∀ a w, I a w → rest.wp P Q a w)
    (h : ∀ R : Code, Hid (∀ a w, I a w → R.wp P Q a w) → (r0.seq (r1.seq (r2.seq (s3.seq (r5.seq (r6.seq (r7.seq (r8.seq (r9.seq (r10.seq (s11.seq R))))))))))).wp P Q a w) :
    (r0.seq (r1.seq (r2.seq (s3.seq (r5.seq (r6.seq (r7.seq (r8.seq (r9.seq (r10.seq (s11.seq rest))))))))))).wp P Q a w := h rest tail
/-- What is left of the operation's test. -/
def joinI (ns : List Nod) (x : Int) (a1 : Nat) (A1 : Option Addr) (n1 c1 B : Nat) (w : World) (a : Act) (w' : World) : Prop :=
  a.tmps.size = 202 ∧ a.defers = [] ∧ a.tmps.getD 0 undef = .slice A1 n1 c1 ∧ a.tmps.getD 6 undef = .bool false ∧ a.tmps.getD 7 undef = .int .i64 x ∧ RdNods w' B A1 ns ∧ Below w.heap.size w w' ∧ w.heap.size ≤ w'.heap.size ∧ checkN ns = (x, a1, 0) ∧ n1 ≤ 2000
theorem one_lit {ns : List Nod} {x : Int} {a : Nat} (h : checkN ns = (x, a, 0)) (hl : ns.length ≤ 2000) :
    (x = 1 ∧ checkN (ns ++ [nodS]) = (0, ns.length, 191) ∧ checkN (ns ++ [nodR]) = (0, ns.length, 191) ∧ checkN (ns ++ [nodG]) = (1, 0, 0)) ∨
    (x = 2 ∧ checkN (ns ++ [nodS]) = (2, 0, 0) ∧ checkN (ns ++ [nodR]) = (0, ns.length, 191) ∧ checkN (ns ++ [nodG]) = (2, 0, 0)) ∨
    (x = 3 ∧ checkN (ns ++ [nodS]) = (0, ns.length, 191) ∧ checkN (ns ++ [nodR]) = (2, 0, 0) ∧ checkN (ns ++ [nodG]) = (0, ns.length, 191)) := by
  rw [check_sum h hl, check_rate h hl, check_neg h hl]
  have t := (checkN_ok h).2.1
  unfold TyOk at t
  have : x = 1 ∨ x = 2 ∨ x = 3 := by omega
  rcases this with rfl | rfl | rfl
  · exact .inl ⟨rfl, by simp, by simp, by simp⟩
  · exact .inr (.inl ⟨rfl, by simp, by simp, by simp⟩)
  · exact .inr (.inr ⟨rfl, by simp, by simp, by simp⟩)
theorem bin_lit {ns ms : List Nod} {x y k z1 z3 : Int} {a b z2 : Nat} (h : checkN ns = (x, a, 0)) (h2 : checkN ms = (y, b, 0)) (hl : ns.length + ms.length ≤ 2000) (hk1 : 1 ≤ k) (hk2 : k ≤ 13) (hz : checkN (ns ++ ms ++ [nodB k]) = (z1, z2, z3)) :
    (((x ≠ 3 ∧ y ≠ 3) ∧ (k < 11 ∨ x = 2 ∧ y = 2) ∧ (¬ (5 ≤ k ∧ k ≤ 10) ∨ x = 2 ∨ y = 2)) ∧ (max x y = 1 → z1 = 1 ∧ z3 = 0) ∧ (max x y = 2 → z1 = 2 ∧ z3 = 0)) ∨
    (¬ ((x ≠ 3 ∧ y ≠ 3) ∧ (k < 11 ∨ x = 2 ∧ y = 2) ∧ (¬ (5 ≤ k ∧ k ≤ 10) ∨ x = 2 ∨ y = 2)) ∧ z1 = 0 ∧ z3 = 192) := by
  have e := check_bin h h2 hl hk1 hk2
  rw [hz] at e
  by_cases hj : joinB x y k = true
  · rw [if_pos hj] at e
    simp only [Prod.mk.injEq] at e
    obtain ⟨rfl, _, rfl⟩ := e
    exact .inl ⟨join_iff.1 hj, fun h => ⟨h, rfl⟩, fun h => ⟨h, rfl⟩⟩
  · rw [if_neg hj] at e
    simp only [Prod.mk.injEq] at e
    exact .inr ⟨fun hh => hj (join_iff.2 hh), e.1, e.2.2⟩
set_option maxRecDepth 100000 in
set_option maxHeartbeats 16000000 in
theorem typesJoins_any (ns ms : List Nod) (op : Int) (A1 A2 : Option Addr) (n1 c1 n2 c2 B : Nat) (w : World) (h1 : RdNods w B A1 ns) (h2 : RdNods w B A2 ms) (hn1 : ns.length = n1) (hn2 : ms.length = n2) (hB : B ≤ w.heap.size)
    (hm1 : n1 * 120 ≤ 140737488355328) (hm2 : n2 * 120 ≤ 140737488355328) (ht1 : ∀ x ∈ ns, okNodT x) (ht2 : ∀ x ∈ ms, okNodT x) (ho1 : ∀ x ∈ ns, okNod x) (ho2 : ∀ x ∈ ms, okNod x) :
    Calls Try.prog 5 #[.slice A1 n1 c1, .slice A2 n2 c2, .int .i64 op] w fun e w' => e = .returned (.bool true) ∧ Below w.heap.size w w' := by
  have R1 := Lib.hid h1
  have S1 := Lib.hid h2
  have T1 := Lib.hid ht1
  have T2 := Lib.hid ht2
  have O1 := Lib.hid ho1
  have O2 := Lib.hid ho2
  have N1 := Lib.hid hn1
  have N2 := Lib.hid hn2
  clear h1 h2 ht1 ht2 ho1 ho2 hn1 hn2
  rcases hK : checkN ns with ⟨x, a1, e1⟩
  rcases hM : checkN ms with ⟨y, a2, e2⟩
  have K := Lib.hid hK
  have M := Lib.hid hM
  clear hK hM
  have hw12 : IntKind.i64.wrap ((n1 : Int) + (n2 : Int)) = (n1 : Int) + (n2 : Int) := by rw [IntKind.wrap_i64]; omega
  go_enter Try.func5, Try.ntmps5
  refine cut_all (joinI ns x a1 A1 n1 c1 B w) ?_ ?_
  · rintro ⟨tmps, defers⟩ w1 ⟨hz, hd, f0, f6, f7, hr, hb, hs1, hK, hle⟩
    obtain ⟨u, hu, hv⟩ := frame202 tmps hz
    rw [hv] at f0 f6 f7
    clear hv hz
    simp only at hd
    rw [f0, f6, f7] at hu
    dsimp only at hu
    subst hu hd
    clear f0 f6 f7
    have R1 := Lib.hid hr
    have G1 := Lib.hid hb
    clear hr hb K M
    have ONE := Lib.hid (one_lit hK (by rw [N1.out]; exact hle))
    clear hK
    rcases hS : checkN (ns ++ [nodS]) with ⟨p1, p2, p3⟩
    rcases hR : checkN (ns ++ [nodR]) with ⟨q1, q2, q3⟩
    rcases hG : checkN (ns ++ [nodG]) with ⟨m1, m2, m3⟩
    have HS := Lib.hid hS
    have HR := Lib.hid hR
    have HG := Lib.hid hG
    clear hS hR hG
    go_wp2_with fail
    refine (copyNodes_any ns A1 n1 c1 B w1 R1.out N1.out (by omega) hm1 O1.out).mono ?_
    rintro e w2 ⟨A2, c2, rfl, ho2, hb2⟩
    have hs2 := hb2.size
    have M2 := Lib.hid (ho2.mix.belowAll ((Below.refl w2.heap.size w2).alloc (Nat.le_refl _) (.cells (nodC nodS none 0 none 0).toArray 34)) hs2)
    go_wp2_with (at_builtin; refine wpList_append_nods rfl (.tmp 143) (.tmp 145) _ rfl eiNod rfl M2.out rfl (SrcN.one (base := w1.heap.size) nodS rfl rfl rfl) rfl (by omega) (by simp; omega) ?_; intro A3 c3 w3 hM3 hb3)
    have hs3 := hb3.size
    simp only [World.size_alloc] at hs3
    have hc3 : Below w1.heap.size w2 w3 := ((Below.refl w1.heap.size w2).alloc hs2 _).trans hb3
    have R3 := Lib.hid (R1.out.below ((hb2.trans hc3).mono (by omega)))
    have G3 := Lib.hid (G1.out.trans ((hb2.trans hc3).mono (by omega)))
    have C3 := Lib.hid (hM3.rd (by omega))
    clear ho2 hM3 hb2 hb3 hc3 M2 R1 G1
    refine (tcheck_eq HS A3 (n1 + 1) c3 _ w3 C3.out (by rw [List.length_append, N1.out]; rfl) (Nat.le_refl _) (by omega) (ok_app T1.out (ok_one ok_nodS))).mono ?_
    rintro e w4 ⟨rfl, hb4⟩
    have hs4 := hb4.size
    have R4 := Lib.hid (R3.out.below (hb4.mono (by omega)))
    have G4 := Lib.hid (G3.out.trans (hb4.mono (by omega)))
    clear hb4 R3 G3 C3
    go_wp2_with fail
    refine (copyNodes_any ns A1 n1 c1 B w4 R4.out N1.out (by omega) hm1 O1.out).mono ?_
    rintro e w5 ⟨A5, c5, rfl, ho5, hb5⟩
    have hs5 := hb5.size
    have M5 := Lib.hid (ho5.mix.belowAll ((Below.refl w5.heap.size w5).alloc (Nat.le_refl _) (.cells (nodC nodR none 0 none 0).toArray 34)) hs5)
    go_wp2_with (at_builtin; refine wpList_append_nods rfl (.tmp 153) (.tmp 155) _ rfl eiNod rfl M5.out rfl (SrcN.one (base := w4.heap.size) nodR rfl rfl rfl) rfl (by omega) (by simp; omega) ?_; intro A6 c6 w6 hM6 hb6)
    have hs6 := hb6.size
    simp only [World.size_alloc] at hs6
    have hc6 : Below w4.heap.size w5 w6 := ((Below.refl w4.heap.size w5).alloc hs5 _).trans hb6
    have R6 := Lib.hid (R4.out.below ((hb5.trans hc6).mono (by omega)))
    have G6 := Lib.hid (G4.out.trans ((hb5.trans hc6).mono (by omega)))
    have C6 := Lib.hid (hM6.rd (by omega))
    clear ho5 hM6 hb5 hb6 hc6 M5 R4 G4
    refine (tcheck_eq HR A6 (n1 + 1) c6 _ w6 C6.out (by rw [List.length_append, N1.out]; rfl) (Nat.le_refl _) (by omega) (ok_app T1.out (ok_one ok_nodR))).mono ?_
    rintro e w7 ⟨rfl, hb7⟩
    have hs7 := hb7.size
    have R7 := Lib.hid (R6.out.below (hb7.mono (by omega)))
    have G7 := Lib.hid (G6.out.trans (hb7.mono (by omega)))
    clear hb7 R6 G6 C6
    go_wp2_with fail
    refine (copyNodes_any ns A1 n1 c1 B w7 R7.out N1.out (by omega) hm1 O1.out).mono ?_
    rintro e w8 ⟨A8, c8, rfl, ho8, hb8⟩
    have hs8 := hb8.size
    have M8 := Lib.hid (ho8.mix.belowAll ((Below.refl w8.heap.size w8).alloc (Nat.le_refl _) (.cells (nodC nodG none 0 none 0).toArray 34)) hs8)
    go_wp2_with (at_builtin; refine wpList_append_nods rfl (.tmp 163) (.tmp 165) _ rfl eiNod rfl M8.out rfl (SrcN.one (base := w7.heap.size) nodG rfl rfl rfl) rfl (by omega) (by simp; omega) ?_; intro A9 c9 w9 hM9 hb9)
    have hs9 := hb9.size
    simp only [World.size_alloc] at hs9
    have hc9 : Below w7.heap.size w8 w9 := ((Below.refl w7.heap.size w8).alloc hs8 _).trans hb9
    have R9 := Lib.hid (R7.out.below ((hb8.trans hc9).mono (by omega)))
    have G9 := Lib.hid (G7.out.trans ((hb8.trans hc9).mono (by omega)))
    have C9 := Lib.hid (hM9.rd (by omega))
    clear ho8 hM9 hb8 hb9 hc9 M8 R7 G7
    refine (tcheck_eq HG A9 (n1 + 1) c9 _ w9 C9.out (by rw [List.length_append, N1.out]; rfl) (Nat.le_refl _) (by omega) (ok_app T1.out (ok_one ok_nodG))).mono ?_
    rintro e w10 ⟨rfl, hb10⟩
    have hs10 := hb10.size
    have R10 := Lib.hid (R9.out.below (hb10.mono (by omega)))
    have G10 := Lib.hid (G9.out.trans (hb10.mono (by omega)))
    clear hb10 R9 G9 C9
    have one := ONE.out
    rw [HS.out, HR.out, HG.out] at one
    simp only [Prod.mk.injEq] at one
    clear HS HR HG ONE
    rcases one with ⟨rfl, ⟨rfl, _, rfl⟩, ⟨rfl, _, rfl⟩, ⟨rfl, _, rfl⟩⟩ | ⟨rfl, ⟨rfl, _, rfl⟩, ⟨rfl, _, rfl⟩, ⟨rfl, _, rfl⟩⟩ | ⟨rfl, ⟨rfl, _, rfl⟩, ⟨rfl, _, rfl⟩, ⟨rfl, _, rfl⟩⟩
    all_goals
      go_wp2_with fail
      refine (tawake_any _).mono ?_
      rintro e w11 ⟨rfl, hb11⟩
      go_wp2_with fail
      go_ret
      exact ⟨rfl, G10.out.trans (hb11.mono (by omega))⟩
  intro RR TAIL
  go_wp2_with fail
  refine (copyNodes_any ns A1 n1 c1 B w R1.out N1.out hB hm1 O1.out).mono ?_
  rintro e w2 ⟨A, c, rfl, ho, hb2⟩
  have hs2 := hb2.size
  have R2 := Lib.hid (R1.out.below (hb2.mono hB))
  have S2 := Lib.hid (S1.out.below (hb2.mono hB))
  have C2 := Lib.hid ho.rd
  clear ho R1 S1
  go_wp2_with fail
  refine (tcheck_eq K A n1 c _ w2 C2.out N1.out (Nat.le_refl _) hm1 T1.out).mono ?_
  rintro e w3 ⟨rfl, hb3⟩
  have hs3 := hb3.size
  have R3 := Lib.hid (R2.out.below (hb3.mono (by omega)))
  have S3 := Lib.hid (S2.out.below (hb3.mono (by omega)))
  have hb03 := Lib.hid (hb2.trans (hb3.mono hs2))
  clear R2 S2 hb2 hb3 C2
  go_wp2_with fail
  refine (copyNodes_any ms A2 n2 c2 B w3 S3.out N2.out (by omega) hm2 O2.out).mono ?_
  rintro e w4 ⟨A4, c4, rfl, ho, hb4⟩
  have hs4 := hb4.size
  have R4 := Lib.hid (R3.out.below (hb4.mono (by omega)))
  have S4 := Lib.hid (S3.out.below (hb4.mono (by omega)))
  have C4 := Lib.hid ho.rd
  have hb04 := Lib.hid (hb03.out.trans (hb4.mono (by omega)))
  clear ho R3 S3 hb4 hb03
  go_wp2_with fail
  refine (tcheck_eq M A4 n2 c4 _ w4 C4.out N2.out (Nat.le_refl _) hm2 T2.out).mono ?_
  rintro e w5 ⟨rfl, hb5⟩
  have hs5 := hb5.size
  have R5 := Lib.hid (R4.out.below (hb5.mono (by omega)))
  have S5 := Lib.hid (S4.out.below (hb5.mono (by omega)))
  have hb05 := Lib.hid (hb04.out.trans (hb5.mono (by omega)))
  clear R4 S4 hb5 hb04 C4
  have bad : ∀ (Q : Prop), ((e1 != 0) = true → Q) → (e1 = 0 → (e2 != 0) = true → Q) → (e1 = 0 → e2 = 0 → (2000 : Int) < (n1 : Int) + (n2 : Int) → Q) → (e1 = 0 → e2 = 0 → (n1 : Int) + (n2 : Int) ≤ 2000 → Q) → Q := fun Q q1 q2 q3 q4 => by
    by_cases he : e1 = 0
    · by_cases he2 : e2 = 0
      · by_cases hl : (2000 : Int) < (n1 : Int) + (n2 : Int)
        · exact q3 he he2 hl
        · exact q4 he he2 (by omega)
      · exact q2 he (by simpa using he2)
    · exact q1 (by simpa using he)
  have Bad := Lib.hid bad
  clear bad
  refine Bad.out _ (fun he => ?_) (fun he he2 => ?_) (fun he he2 hl => ?_) (fun he he2 hl => ?_)
  · go_wp2_with fail
    refine (tawake_any _).mono ?_
    rintro e w9 ⟨rfl, hb9⟩
    go_wp2_with fail
    go_ret
    exact ⟨rfl, hb05.out.trans (hb9.mono (by omega))⟩
  · subst he
    go_wp2_with fail
    refine (tawake_any _).mono ?_
    rintro e w9 ⟨rfl, hb9⟩
    go_wp2_with fail
    go_ret
    exact ⟨rfl, hb05.out.trans (hb9.mono (by omega))⟩
  · subst he he2
    go_wp2_with fail
    refine (tawake_any _).mono ?_
    rintro e w9 ⟨rfl, hb9⟩
    go_wp2_with fail
    go_ret
    exact ⟨rfl, hb05.out.trans (hb9.mono (by omega))⟩
  subst he he2
  clear Bad
  have hle2 : n1 ≤ 2000 := by omega
  have hle3 : n1 + n2 ≤ 2000 := by omega
  obtain ⟨r, k, hr1, hr2, hr3, hr4, hk1, hk2⟩ := low_rem op
  go_wp2_with fail
  refine (low_any op w5).mono ?_
  rintro e w6 ⟨rfl, rfl⟩
  go_wp2_with fail
  refine (copyNodes_any ns A1 n1 c1 B w5 R5.out N1.out (by omega) hm1 O1.out).mono ?_
  rintro e w6 ⟨A6, c6, rfl, ho, hb6⟩
  have hs6 := hb6.size
  have R6 := Lib.hid (R5.out.below (hb6.mono (by omega)))
  have S6 := Lib.hid (S5.out.below (hb6.mono (by omega)))
  have M6 := Lib.hid ho.mix
  have hb06 := Lib.hid (hb05.out.trans (hb6.mono (by omega)))
  clear ho hb6 R5 S5 hb05
  clear hr1 hr2 hr3
  go_wp2_with (first
    | (at_builtin; refine wpList_append_nods rfl (.tmp 65) (.tmp 66) _ rfl eiNod rfl M6.out rfl (S6.out.more (by omega : B ≤ w5.heap.size)).src N2.out (by omega) (by omega) ?_; intro A7 c7 w7 hM7 hb7)
    | (at_builtin; have hs7 := hb7.size; have M7 := Lib.hid (hM7.belowAll ((Below.refl w7.heap.size w7).alloc (Nat.le_refl _) (.cells (nodC (nodB k) none 0 none 0).toArray 34)) (by omega)); refine wpList_append_nods rfl (.tmp 67) (.tmp 70) _ rfl eiNod rfl M7.out rfl (SrcN.one (base := w5.heap.size) (nodB k) rfl rfl rfl) rfl (by omega) (by simp; omega) ?_; intro A8 c8 w8 hM8 hb8))
  have hs8 := hb8.size
  simp only [World.size_alloc] at hs8
  have hc8 : Below w5.heap.size w6 w8 := (hb7.alloc (by omega) _).trans hb8
  have R8 := Lib.hid (R6.out.below (hc8.mono (by omega)))
  have G8 := Lib.hid (hb06.out.trans (hc8.mono (by omega)))
  have C8 := Lib.hid (hM8.rd (by omega))
  clear hM7 hM8 hb7 hb8 hc8 M7 M6 R6 S6 hb06
  have hone := one_lit K.out (by rw [N1.out]; exact hle2)
  have htwo := one_lit M.out (by rw [N2.out]; omega)
  have hlen : Hid ((ns ++ ms ++ [nodB k]).length = n1 + n2 + 1) := by
    show _ = _
    rw [List.length_append, List.length_append, N1.out, N2.out]; rfl
  have hx : x = 1 ∨ x = 2 ∨ x = 3 := by
    rcases hone with ⟨h, _⟩ | ⟨h, _⟩ | ⟨h, _⟩ <;> simp [h]
  have hy : y = 1 ∨ y = 2 ∨ y = 3 := by
    rcases htwo with ⟨h, _⟩ | ⟨h, _⟩ | ⟨h, _⟩ <;> simp [h]
  have hk : (¬ 5 ≤ k ∧ k ≤ 10 ∧ k < 11) ∨ (5 ≤ k ∧ k ≤ 10 ∧ k < 11) ∨ (5 ≤ k ∧ ¬ k ≤ 10 ∧ ¬ k < 11) := by omega
  clear htwo hone
  have HX := Lib.hid hx
  have HY := Lib.hid hy
  have HK := Lib.hid hk
  clear hx hy hk
  rcases hZ : checkN (ns ++ ms ++ [nodB k]) with ⟨z1, z2, z3⟩
  have Z := Lib.hid hZ
  have HBIN := Lib.hid (bin_lit K.out M.out (by rw [N1.out, N2.out]; exact hle3) hk1 hk2 hZ)
  clear hZ
  refine (tcheck_eq Z A8 (n1 + n2 + 1) c8 _ w8 C8.out hlen.out (Nat.le_refl _) (by omega) (ok_app (ok_app T1.out T2.out) (ok_one (ok_nodB _)))).mono ?_
  rintro e w9 ⟨rfl, hb9⟩
  have hs9 := hb9.size
  have R9 := Lib.hid (R8.out.below (hb9.mono (by omega)))
  have G9 := Lib.hid (G8.out.trans (hb9.mono (by omega)))
  clear hb9 R8 G8 C8 hlen
  have hbin := HBIN.out
  have hx := HX.out
  have hy := HY.out
  have hk := HK.out
  clear HX HY HK HBIN Z
  rcases hx with rfl | rfl | rfl <;> rcases hy with rfl | rfl | rfl <;> rcases hk with ⟨g1, g2, g3⟩ | ⟨g1, g2, g3⟩ | ⟨g1, g2, g3⟩ <;> rcases hbin with ⟨hP, hz1, hz2⟩ | ⟨hP, rfl, rfl⟩
  all_goals try (exfalso; omega)
  all_goals
    try (first | obtain ⟨rfl, rfl⟩ := hz1 rfl | obtain ⟨rfl, rfl⟩ := hz2 rfl)
    try clear hz1 hz2
    clear hP
    go_wp2_with fail
    refine TAIL.out _ _ ?_
    exact ⟨rfl, rfl, rfl, rfl, rfl, R9.out, G9.out, by omega, K.out, hle2⟩
end Go.Proofs.Ytmhfeeomlpdnkaa
