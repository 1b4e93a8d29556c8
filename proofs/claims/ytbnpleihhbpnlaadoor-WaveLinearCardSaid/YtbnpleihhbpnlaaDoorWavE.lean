/- wave.twiddles, wave.line: one line of a spectrum. -/
import Derived.Test.YtbnpleihhbpnlaaDoorWavD
import Derived.Test.YtbnpleihhbpnlaaDoorMem2
import Derived.Test.YtbnpleihhbpnlaaDoorScope
namespace Go.Proofs.YtbnpleihhbpnlaaDoor
open Go.RowKit

/-- Words as cells. -/
def wrdC (l : List Nat) : List (List Value) := l.map fun (x : Nat) => [.int .u64 (x : Int)]
theorem wrdC_at {l : List Nat} {k x : Nat} (h : l[k]? = some x) : (wrdC l)[k]? = some [.int .u64 (x : Int)] := by unfold wrdC; rw [List.getElem?_map, h]; rfl
theorem wrdC_len (l : List Nat) : (wrdC l).length = l.length := List.length_map ..
theorem wrdC_append (l m : List Nat) : wrdC (l ++ m) = wrdC l ++ wrdC m := List.map_append
theorem wrdC_sz (l : List Nat) : ∀ x ∈ wrdC l, x.length = 1 := by
  intro x hx
  obtain ⟨a, _, rfl⟩ := List.mem_map.1 hx
  rfl
theorem run_neg (x : Nat) (w : World) : (Op.unary .neg (.float .f64 x)).run Tryd.prog w = .ok (.float .f64 (negW x)) w := rfl
/-- The twiddles lie in block N. -/
def TwAt (w : World) (N : Nat) : Prop := ∀ i, i < 8 → w.cell? ⟨N, i, none⟩ = some (.complex .f64 (twR i) (twI i))
set_option maxRecDepth 100000 in
set_option maxHeartbeats 1000000 in
theorem twiddles_any (w : World) : Calls Tryd.prog 30 #[] w fun e w' => e = .returned (.slice (some ⟨w.heap.size, 0, none⟩) 8 8) ∧ TwAt w' w.heap.size ∧ Below w.heap.size w w' := by
  have HO := fun v W => Lib.hid (of_any v W)
  have HN := run_neg
  go_enter Tryd.func30, Tryd.ntmps30
  go_wp2_with (first | (go_at_call 26; refine ((HO _ _).out).mono ?_; rintro e w' ⟨rfl, rfl⟩) | simp only [HN])
  go_ret
  refine ⟨rfl, ?_, (Below.refl _ _).alloc (Nat.le_refl _) _⟩
  intro i hi
  have hrd : Rd (w.alloc (.cells #[.complex .f64 4607182418800017408 0, .complex .f64 4604544271217802189 (negW 4604544271217802189), .complex .f64 0 13830554455654793216, .complex .f64 (negW 4604544271217802189) (negW 4604544271217802189), .complex .f64 13830554455654793216 0, .complex .f64 (negW 4604544271217802189) 4604544271217802189, .complex .f64 0 4607182418800017408, .complex .f64 4604544271217802189 4604544271217802189] 46)) (w.heap.size + 1) 1 (some ⟨w.heap.size, 0, none⟩) ((List.range 8).map fun i => [Value.complex .f64 (twR i) (twI i)]) :=
    Rd.new w (by intro x hx; obtain ⟨_, _, rfl⟩ := List.mem_map.1 hx; rfl) _ rfl
  obtain ⟨b, o, h1, _, h2⟩ := hrd.at1 (k := i) (v0 := .complex .f64 (twR i) (twI i)) (by rw [List.getElem?_map, List.getElem?_range hi]; rfl)
  injection h1 with h1
  injection h1 with e1 e2 e3
  subst e1 e2
  rw [Nat.zero_add] at h2
  exact h2
/-- The k-th word. -/
def xg (xs : List Nat) (k : Nat) : Nat := xs.getD k 0
theorem wp_scope1 {P : Program} {a : Act} {w : World} {Q : Exit → Act → World → Prop} {c r0 : Code} (J : Nat → Act → World → Prop) (μ : Nat → Act → World → Nat) (only : ∀ l a w, J l a w → l = 0)
    (hf0 : findLabel c 0 = some (.seq .skip r0)) (first : (∀ a' w', J 0 a' w' → r0.wp P (jumps J Q) a' w') → c.wp P (jumps J Q) a w)
    (pass0 : ∀ a w, J 0 a w → r0.wp P (jumps (fun l' a' w' => J l' a' w' ∧ μ l' a' w' < μ 0 a w) Q) a w) : (Code.scope c).wp P Q a w := by
  refine wp_scope_fall J μ (fun _ => r0) ?_ (fun ih => first (ih 0)) ?_
  · intro l a w h
    have hl := only l a w h
    subst hl
    exact hf0
  · intro l a w h _
    have hl := only l a w h
    subst hl
    exact pass0 a w h
theorem twk_lt {n j k : Nat} (hn : sizeN n) (hj : j < n) (hk : k < n) : twk n j k < 8 := by
  unfold twk
  have h := Nat.mod_lt (j * k) (show 0 < n by omega)
  rcases hn with rfl | rfl | rfl | rfl <;> omega
theorem twk_int {n j k : Nat} (hn : sizeN n) (hj : j < n) (hk : k < n) : ∃ m q i : Nat, q ≤ 8 ∧ IntKind.i64.wrap (q : Int) = (q : Int) ∧ IntKind.i64.wrap ((j : Int) * (k : Int)) = (j : Int) * (k : Int) ∧ Int.tmod ((j : Int) * (k : Int)) (n : Int) = (m : Int) ∧ Int.tdiv 8 (n : Int) = (q : Int) ∧
    IntKind.i64.wrap ((m : Int) * (q : Int)) = (i : Int) ∧ i < 8 ∧ twk n j k = i := by
  have h8 := size_le hn
  have hjk : j * k ≤ 8 * 8 := Nat.mul_le_mul (by omega) (by omega)
  have hlt := twk_lt hn hj hk
  have hq8 : 8 / n ≤ 8 := Nat.div_le_self 8 n
  have hw8 : ∀ q : Nat, q ≤ 8 → IntKind.i64.wrap (q : Int) = (q : Int) := fun q h => by rw [IntKind.wrap_i64]; omega
  refine ⟨j * k % n, 8 / n, twk n j k, hq8, hw8 _ hq8, ?_, ?_, ?_, ?_, hlt, rfl⟩
  · rw [← Int.natCast_mul, IntKind.wrap_i64]; omega
  · rw [← Int.natCast_mul, Int.ofNat_tmod]
  · rw [show (8 : Int) = ((8 : Nat) : Int) from rfl, Int.ofNat_tdiv]
  · unfold twk at hlt ⊢
    rw [← Int.natCast_mul]
    generalize j * k % n * (8 / n) = z at *
    rw [IntKind.wrap_i64]; omega
def lineRk (xs : List Nat) (n j k : Nat) : Nat := accF (xg xs) (fun i => twR (twk n j i)) k
def lineIk (xs : List Nat) (n j k : Nat) : Nat := accF (xg xs) (fun i => twI (twk n j i)) k
theorem lineRk_add (xs : List Nat) (n j k : Nat) : lineRk xs n j (k + 1) = opF .add (lineRk xs n j k) (opF .mul (xg xs k) (twR (twk n j k))) := rfl
theorem lineIk_add (xs : List Nat) (n j k : Nat) : lineIk xs n j (k + 1) = opF .add (lineIk xs n j k) (opF .mul (xg xs k) (twI (twk n j k))) := rfl
/-- What is known at the label: k words are done; N: the twiddles' block. -/
def LinAt (xs : List Nat) (n j N : Nat) (w : World) (k re im : Nat) (w' : World) : Prop := EqN re (lineRk xs n j k) ∧ EqN im (lineIk xs n j k) ∧ TwAt w' N ∧ Below w.heap.size w w'
theorem linAt_add {xs : List Nat} {n j N k re im x i : Nat} {w w' : World} (h : LinAt xs n j N w k re im w') (hx : xs[k]? = some x) (hi : twk n j k = i) {W1 W2 W3 W4 : World} {d : Nat} :
    Hid (LinAt xs n j N w (k + 1) (rawF .add re (rawF .mul x (twR i) W1) W2) (rawF .add im (rawF .mul x (twI i) W3) W4) (w'.drewN d)) := by
  obtain ⟨h1, h2, h3, h4⟩ := h
  have hg : xg xs k = x := by unfold xg; rw [List.getD_eq_getElem?_getD, hx]; rfl
  refine ⟨?_, ?_, fun i hi => h3 i hi, below_drewN h4 d⟩
  · rw [lineRk_add, hg, hi]
    exact eqN_op h1 (eqN_op (EqN.rfl_ _) (EqN.rfl_ _))
  · rw [lineIk_add, hg, hi]
    exact eqN_op h2 (eqN_op (EqN.rfl_ _) (EqN.rfl_ _))
def linJ (xs : List Nat) (A : Option Addr) (n c j N : Nat) (w : World) (l : Nat) (a : Act) (w' : World) : Prop :=
  l = 0 ∧ ∃ (k re im : Nat) (u2 u3 u8 u9 u10 u11 u12 u13 u14 u15 u16 u17 u18 u19 u20 u21 u22 u23 u24 u25 u26 u27 u28 u29 u30 u31 u32 u33 u34 u35 u36 u37 u38 u39 u40 u41 u42 u43 u44 u45 u46 u47 u48 u49 u50 : Value), k ≤ n ∧ Hid (LinAt xs n j N w k re im w') ∧ a = { tmps := #[.slice A n c, .int .i64 j, u2, u3, .complex .f64 0 0, .slice (some ⟨N, 0, none⟩) 8 8, .complex .f64 re im, .int .i64 k, u8, u9, u10, u11, u12, u13, u14, u15, u16, u17, u18, u19, u20, u21, u22, u23, u24, u25, u26, u27, u28, u29, u30, u31, u32, u33, u34, u35, u36, u37, u38, u39, u40, u41, u42, u43, u44, u45, u46, u47, u48, u49, u50], defers := [] }
def linM (n : Nat) (_ : Nat) (a : Act) (_ : World) : Nat := n - (intOf (a.tmps.getD 7 undef)).toNat
set_option maxRecDepth 100000 in
set_option maxHeartbeats 1000000 in
theorem line_any (xs : List Nat) (A : Option Addr) (n c B j : Nat) (w : World) (hn : sizeN n) (hl : xs.length = n) (hr : Rd w B 1 A (wrdC xs)) (hB : B ≤ w.heap.size) (hj : j < n) :
    Calls Tryd.prog 21 #[.slice A n c, .int .i64 j] w fun e w' => ∃ re im, e = .returned (.complex .f64 re im) ∧ EqN re (lineR (xg xs) n j) ∧ EqN im (lineI (xg xs) n j) ∧ Below w.heap.size w w' := by
  have HT := Lib.hid (twiddles_any w)
  have HO := fun v W => Lib.hid (of_any v W)
  have hA := fun t x y W => run_float (P := Tryd.prog) .add rfl t x y W
  have hM := fun t x y W => run_float (P := Tryd.prog) .mul rfl t x y W
  have Hl := Lib.hid hl
  have Hr := Lib.hid hr
  have Hn := Lib.hid hn
  clear hl hr hn
  go_enter Tryd.func21, Tryd.ntmps21
  go_wp2_with fail
  refine wp_scope1 (linJ xs A n c j w.heap.size w) (linM n) ?_ rfl ?_ ?_
  · intro l a w' h; exact h.1
  · intro ih0
    have IH0 := Lib.hid ih0
    clear ih0
    go_wp2_with (go_at_call 30; refine (HT.out).mono ?_; rintro e w' ⟨rfl, hT, hb⟩; replace hT := Lib.hid hT; replace hb := Lib.hid hb)
    go_step3
    refine (‹∀ (a : Act) (w : World), _ → _› : ∀ (a : Act) (w : World), _ → _) _ _ ?_
    exact IH0.out _ _ ⟨rfl, 0, 0, 0, _, _, _, _, _, _, _, _, _, _, _, _, _, _, _, _, _, _, _, _, _, _, _, _, _, _, _, _, _, _, _, _, _, _, _, _, _, _, _, _, _, _, _, _, _, by omega, ⟨EqN.rfl_ _, EqN.rfl_ _, hT.out, hb.out⟩, rfl⟩
  · rintro a w' ⟨_, k, re, im, u2, u3, u8, u9, u10, u11, u12, u13, u14, u15, u16, u17, u18, u19, u20, u21, u22, u23, u24, u25, u26, u27, u28, u29, u30, u31, u32, u33, u34, u35, u36, u37, u38, u39, u40, u41, u42, u43, u44, u45, u46, u47, u48, u49, u50, hk, HL, rfl⟩
    by_cases hlt : k < n
    · have hltB : ((k : Int) == (n : Int)) = false := by rw [beq_eq_false_iff_ne]; omega
      obtain ⟨x, hx⟩ := get_lt Hl hlt
      obtain ⟨b0, o0, rfl, hb0, hc0⟩ := ((Hr.out).below ((HL.out.2.2.2).mono hB)).at1 (wrdC_at hx)
      obtain ⟨m, q, i, hq8, a0, a1, a2, a3, a4, h8, hi⟩ := twk_int Hn.out hj hlt
      have Hi := Lib.hid hi
      clear hi
      have hc1 := HL.out.2.2.1 _ h8
      have hltI : (k : Int) < (n : Int) := by omega
      have h8I : (i : Int) < 8 := by omega
      have hn0 : ¬ (n : Int) = 0 := by omega
      have hn1 : ¬ n = 0 := by omega
      have hk1 : IntKind.i64.wrap ((k : Int) + 1) = ((k + 1 : Nat) : Int) := by have := size_le Hn.out; rw [IntKind.wrap_i64]; omega
      have Hx := Lib.hid hx
      clear hx
      go_wp2_with fail
      go_quiet ((go_at_call 26; exact quiet_same1 (HO _ _).out))
      go_wp2_with (simp only [hA, hM])
      go_step3
      exact ⟨⟨rfl, k + 1, _, _, _, _, _, _, _, _, _, _, _, _, _, _, _, _, _, _, _, _, _, _, _, _, _, _, _, _, _, _, _, _, _, _, _, _, _, _, _, _, _, _, _, _, _, _, _, by omega, linAt_add HL.out Hx.out Hi.out, rfl⟩, by simp [linM, intOf]; omega⟩
    · have hkn : k = n := by omega
      subst hkn
      go_wp2_with fail
      simp only [jumps]
      go_ret
      exact ⟨re, im, rfl, HL.out.1, HL.out.2.1, HL.out.2.2.2⟩
end Go.Proofs.YtbnpleihhbpnlaaDoor
