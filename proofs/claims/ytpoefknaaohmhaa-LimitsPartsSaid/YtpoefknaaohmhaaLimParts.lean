/- LimitsParts as a call. -/
import Derived.Test.YtpoefknaaohmhaaLimLaws
import Derived.Test.YtpoefknaaohmhaaLow
import Derived.Deep.RegionHeld3
namespace Go.Proofs.Ytpoefknaaohmhaa
open Go.RowKit

theorem limFrom_ok {L : Int} : ∀ {ss : List Samp} {k : Int}, (limFrom L k ss).2 = 0 → ∀ s ∈ ss, sampErr L s = 0
  | [], _, _, s, hs => by simp at hs
  | x :: r, k, h, s, hs => by
    simp only [limFrom] at h
    by_cases hx : sampErr L x = 0
    · rw [if_pos hx] at h
      rcases List.mem_cons.1 hs with rfl | hs
      · exact hx
      · exact limFrom_ok h s hs
    · rw [if_neg hx] at h
      exact absurd h hx
theorem limFrom_all {L : Int} : ∀ {ss : List Samp} {k : Int}, (∀ s ∈ ss, sampErr L s = 0) → limFrom L k ss = (0, 0)
  | [], _, _ => rfl
  | x :: r, k, h => by
    simp only [limFrom]
    rw [if_pos (h x (by simp))]
    exact limFrom_all fun s hs => h s (by simp [hs])
theorem limFrom_set {L : Int} {bad : Samp} (hb : sampErr L bad ≠ 0) : ∀ {ss : List Samp} {k : Nat} {i : Int}, (∀ s ∈ ss, sampErr L s = 0) → k < ss.length → limFrom L i (ss.set k bad) = (i + k, sampErr L bad)
  | [], k, i, _, hk => by simp at hk
  | x :: r, 0, i, _, _ => by simp only [List.set_cons_zero, limFrom]; rw [if_neg hb]; simp
  | x :: r, k + 1, i, h, hk => by
    simp only [List.set_cons_succ, limFrom]
    rw [if_pos (h x (by simp)), limFrom_set hb (fun s hs => h s (by simp [hs])) (by simpa using hk)]
    congr 1; omega
def tenA : ByteArray := ⟨#[97]⟩
theorem tenA_ok : tenantB tenA = true := by decide +kernel
theorem limL_ok {ss : List Samp} {L P : Int} (h : (limL tenA ss L P).2 = 0) : 0 < ss.length ∧ (ss.length : Int) ≤ P ∧ ss.length ≤ 256 ∧ ∀ s ∈ ss, sampErr L s = 0 := by
  rw [limL, if_neg (by simp [tenA_ok])] at h
  by_cases hc : ss.length = 0 ∨ P < ss.length ∨ 256 < ss.length
  · rw [if_pos hc] at h; simp at h
  · rw [if_neg hc] at h
    exact ⟨by omega, by omega, by omega, limFrom_ok h⟩
theorem limL_all {ss : List Samp} {L P : Int} (h0 : 0 < ss.length) (h1 : (ss.length : Int) ≤ P) (h2 : ss.length ≤ 256) (h : ∀ s ∈ ss, sampErr L s = 0) : limL tenA ss L P = (0, 0) := by
  rw [limL, if_neg (by simp [tenA_ok]), if_neg (by omega)]
  exact limFrom_all h
theorem limL_one {bad : Samp} {L P : Int} (h1 : 1 ≤ P) : limL tenA [bad] L P = (0, sampErr L bad) := by
  rw [limL, if_neg (by simp [tenA_ok]), if_neg (by simp; omega)]
  simp only [limFrom]
  by_cases hb : sampErr L bad = 0
  · rw [if_pos hb, hb]
  · rw [if_neg hb]
theorem limL_set {ss : List Samp} {bad : Samp} {L P : Int} {k : Nat} (h0 : k < ss.length) (h1 : (ss.length : Int) ≤ P) (h2 : ss.length ≤ 256) (h : ∀ s ∈ ss, sampErr L s = 0) : limL tenA (ss.set k bad) L P = (if sampErr L bad = 0 then (0 : Int) else k, sampErr L bad) := by
  rw [limL, if_neg (by simp [tenA_ok]), if_neg (by rw [List.length_set]; omega)]
  by_cases hb : sampErr L bad = 0
  · rw [if_pos hb, hb]
    refine limFrom_all fun s hs => ?_
    rcases List.mem_or_eq_of_mem_set hs with hs | rfl
    · exact h s hs
    · exact hb
  · rw [if_neg hb, limFrom_set hb h h0]
    simp

theorem RdSamps.take {w : World} {B : Nat} {A : Option Addr} {ss : List Samp} (h : RdSamps w B A ss) (k : Nat) : RdSamps w B A (ss.take k) := by
  obtain ⟨cs, h1, h2, h3⟩ := h
  refine ⟨cs.take k, ⟨fun x hx => h1.1 x (List.mem_of_mem_take hx), fun hn => ?_⟩, by simp [h2], fun j s hs => ?_⟩
  · obtain ⟨b, o, e, hb, hc⟩ := h1.2 (by rintro rfl; simp at hn)
    refine ⟨b, o, e, hb, fun i x j v hx hv => hc i x j v ?_ hv⟩
    rw [List.getElem?_take] at hx
    split at hx
    · exact hx
    · cases hx
  · rw [List.getElem?_take] at hs
    split at hs
    · rename_i hj
      obtain ⟨x, hx, hs'⟩ := h3 j s hs
      exact ⟨x, by rw [List.getElem?_take, if_pos hj]; exact hx, hs'⟩
    · cases hs
theorem RdSamps.drop {w : World} {B b o : Nat} {ss : List Samp} (h : RdSamps w B (some ⟨b, o, none⟩) ss) (k : Nat) : RdSamps w B (some ⟨b, o + k * 3, none⟩) (ss.drop k) := by
  obtain ⟨cs, h1, h2, h3⟩ := h
  refine ⟨cs.drop k, ⟨fun x hx => h1.1 x (List.mem_of_mem_drop hx), fun hn => ?_⟩, by simp [h2], fun j s hs => ?_⟩
  · obtain ⟨b', o', e, hb, hc⟩ := h1.2 (by rintro rfl; simp at hn)
    injection e with e
    injection e with e1 e2
    subst e1 e2
    refine ⟨b, o + k * 3, rfl, hb, fun i x j v hx hv => ?_⟩
    rw [List.getElem?_drop] at hx
    have := hc (k + i) x j v hx hv
    rw [show o + k * 3 + i * 3 + j = o + (k + i) * 3 + j from by omega]
    exact this
  · rw [List.getElem?_drop] at hs
    obtain ⟨x, hx, hs'⟩ := h3 (k + j) s hs
    exact ⟨x, by rw [List.getElem?_drop]; exact hx, hs'⟩

theorem flat_set3 {α : Type} (a b c : α) : ∀ (cs : List (List α)) (k : Nat), (∀ x ∈ cs, x.length = 3) → k < cs.length → ((cs.flatten.set (k * 3) a).set (k * 3 + 1) b).set (k * 3 + 2) c = (cs.set k [a, b, c]).flatten
  | [], k, _, h => by simp at h
  | x :: r, 0, hx, _ => by
    match x, hx x (by simp) with
    | [p, q, s], _ => rfl
  | x :: r, k + 1, hx, h => by
    match x, hx x (by simp) with
    | [p, q, s], _ =>
      have := flat_set3 a b c r k (fun x hm => hx x (by simp [hm])) (by simpa using h)
      rw [show (k + 1) * 3 = k * 3 + 1 + 1 + 1 from by omega]
      simp only [List.flatten_cons, List.cons_append, List.nil_append, List.set_cons_succ, this]
/-- A sample put over another of the call's own row. -/
theorem OwnSamps.put {w : World} {base n c g k B cb : Nat} {ss : List Samp} {bad : Samp} {Ab : Option Addr} (h : OwnSamps w base (some ⟨g, 0, none⟩) n c ss) (hk : k < n) (hr : Rd w B 2 Ab (labsC bad.ls)) (hB : B ≤ base) (hc1 : bad.ls.length ≤ cb) (hc2 : cb ≤ maxLen) :
    RdSamps (((w.setCell ⟨g, k * 3, none⟩ (.slice Ab bad.ls.length cb)).setCell ⟨g, k * 3 + 1, none⟩ (.int .i64 bad.t)).setCell ⟨g, k * 3 + 2, none⟩ (.int .u64 bad.v)) w.heap.size (some ⟨g, 0, none⟩) (ss.set k bad) ∧
    w.grownBy (((w.setCell ⟨g, k * 3, none⟩ (.slice Ab bad.ls.length cb)).setCell ⟨g, k * 3 + 1, none⟩ (.int .i64 bad.t)).setCell ⟨g, k * 3 + 2, none⟩ (.int .u64 bad.v)) (some g) := by
  obtain ⟨cs, ho1, ho2, ho3⟩ := h
  have hbl := (ho1.block (b := g) rfl)
  obtain ⟨s1, g1⟩ := World.ownsRow.stored ho1.2.2.2 (k * 3) (.slice Ab bad.ls.length cb)
  obtain ⟨s2, g2⟩ := s1.stored (k * 3 + 1) (.int .i64 bad.t)
  obtain ⟨s3, g3⟩ := s2.stored (k * 3 + 2) (.int .u64 bad.v)
  rw [flat_set3 _ _ _ cs k ho1.2.1 (by rw [ho1.len]; exact hk)] at s3
  have hg := (g1.trans g2).trans g3
  have hl3 : ∀ x ∈ cs.set k [.slice Ab bad.ls.length cb, .int .i64 bad.t, .int .u64 bad.v], x.length = 3 := fun x hx => by
    rcases List.mem_or_eq_of_mem_set hx with hx | rfl
    · exact ho1.2.1 x hx
    · rfl
  refine ⟨⟨cs.set k [.slice Ab bad.ls.length cb, .int .i64 bad.t, .int .u64 bad.v], ?_, by rw [List.length_set, List.length_set, ho1.len, ho2], fun j r hr' => ?_⟩, hg⟩
  · have := Rd.of_own (by omega) hl3 s3
    simpa using this
  · by_cases hj : k = j
    · subst hj
      rw [List.getElem?_set_self (by omega)] at hr'
      injection hr' with hr'
      subst hr'
      exact ⟨_, List.getElem?_set_self (by rw [ho1.len]; exact hk), Ab, cb, rfl, (hr.grown hg (by omega) (fun x hx => by injection hx with hx; omega)).more (by omega), hc1, hc2⟩
    · rw [List.getElem?_set_ne hj] at hr'
      obtain ⟨A', c', hx, ho⟩ := ho3 j r hr'
      refine ⟨_, (List.getElem?_set_ne hj).trans hx, A', c', rfl, ?_, ho.cap.1, ho.cap.2⟩
      have := (ho.grown hg (ho.ne_ ho1 (by decide))).rd
      simpa using this
theorem OwnSamps.cells {w : World} {base n c k : Nat} {A : Option Addr} {ss : List Samp} (h : OwnSamps w base A n c ss) (hk : k < n) :
    ∃ g, A = some ⟨g, 0, none⟩ ∧ base ≤ g ∧ g < w.heap.size ∧ (∃ v0 v1 v2, w.cell? ⟨g, k * 3, none⟩ = some v0 ∧ w.cell? ⟨g, k * 3 + 1, none⟩ = some v1 ∧ w.cell? ⟨g, k * 3 + 2, none⟩ = some v2) ∧ (∀ j, w.frozen? ⟨g, j, none⟩ = false) ∧ n ≤ c ∧ c ≤ maxLen := by
  have hr := h.rd
  obtain ⟨cs, ho1, ho2, ho3⟩ := h
  rcases ho1.form with ⟨_, h0, _⟩ | ⟨g, rfl, hg1, hg2⟩
  · omega
  · obtain ⟨b, o, A', c', e, _, p1, p2, p3, _⟩ := hr.at_ (k := k) (s := ss[k]'(by omega)) (by rw [List.getElem?_eq_getElem])
    injection e with e
    injection e with e1 e2
    subst e1 e2
    rw [Nat.zero_add] at p1 p2 p3
    exact ⟨g, rfl, hg1, hg2, ⟨_, _, _, p1, p2, p3⟩, fun j => ho1.2.2.2.frozenAt j, ho1.cap⟩
def badBox (Ab : Option Addr) (nb cb : Nat) (t v : Int) : Obj := .cells #[.slice Ab nb cb, .int .i64 t, .int .u64 v] 37
set_option maxRecDepth 100000 in
set_option maxHeartbeats 4000000 in
theorem limitsParts_any (ss : List Samp) (bad : Samp) (A1 Ab : Option Addr) (n1 c1 cb B1 : Nat) (se L P : Int) (ha : Bool) (at_ : Int) (w : World) (h1 : RdSamps w B1 A1 ss) (hn1 : ss.length = n1) (hc1 : n1 ≤ c1) (hB : B1 ≤ w.heap.size) (hok : okSamps ss)
    (hbad : Rd w B1 2 Ab (labsC bad.ls)) (hbl : bad.ls.length ≤ cb) (hbc : cb ≤ maxLen) (hbok : okLabs bad.ls) (hm1 : n1 * 40 ≤ 140737488355328) (hml : ∀ s ∈ ss, s.ls.length * 32 ≤ 140737488355328) :
    Calls Try.prog 4 #[.slice A1 n1 c1, .agg #[.int .i64 se, .int .i64 L, .int .i64 P, .bool ha], .agg #[.slice Ab bad.ls.length cb, .int .i64 bad.t, .int .u64 bad.v], .int .i64 at_] w fun e w' => e = .returned (.bool true) ∧ Below w.heap.size w w' := by
  have hA := fun (W : World) => Lib.hid (limAwake_any W)
  have hLo := fun (W : World) => Lib.hid (low_any at_ W)
  have HN := Lib.hid hn1
  clear hn1
  have hb0 : Below w.heap.size w ((w.alloc (limBox se L P ha)).alloc (badBox Ab bad.ls.length cb bad.t bad.v)) := ((Below.refl _ _).alloc (Nat.le_refl _) _).alloc (by simp) _
  have c0 : ((w.alloc (limBox se L P ha)).alloc (badBox Ab bad.ls.length cb bad.t bad.v)).cell? ⟨w.heap.size, 0, none⟩ = some (.int .i64 se) := by simp [go_sem, limBox]
  have c1' : ((w.alloc (limBox se L P ha)).alloc (badBox Ab bad.ls.length cb bad.t bad.v)).cell? ⟨w.heap.size, 1, none⟩ = some (.int .i64 L) := by simp [go_sem, limBox]
  have c2' : ((w.alloc (limBox se L P ha)).alloc (badBox Ab bad.ls.length cb bad.t bad.v)).cell? ⟨w.heap.size, 2, none⟩ = some (.int .i64 P) := by simp [go_sem, limBox]
  have c3' : ((w.alloc (limBox se L P ha)).alloc (badBox Ab bad.ls.length cb bad.t bad.v)).cell? ⟨w.heap.size, 3, none⟩ = some (.bool ha) := by simp [go_sem, limBox]
  have d0 : ((w.alloc (limBox se L P ha)).alloc (badBox Ab bad.ls.length cb bad.t bad.v)).cell? ⟨w.heap.size + 1, 0, none⟩ = some (.slice Ab bad.ls.length cb) := by simp [go_sem, badBox]
  have d1 : ((w.alloc (limBox se L P ha)).alloc (badBox Ab bad.ls.length cb bad.t bad.v)).cell? ⟨w.heap.size + 1, 1, none⟩ = some (.int .i64 bad.t) := by simp [go_sem, badBox]
  have d2 : ((w.alloc (limBox se L P ha)).alloc (badBox Ab bad.ls.length cb bad.t bad.v)).cell? ⟨w.heap.size + 1, 2, none⟩ = some (.int .u64 bad.v) := by simp [go_sem, badBox]
  have hs0 : w.heap.size + 1 < ((w.alloc (limBox se L P ha)).alloc (badBox Ab bad.ls.length cb bad.t bad.v)).heap.size := by simp
  go_enter Try.func4, Try.ntmps4
  go_wp2_with fail
  change Code.wp _ _ _ _ ((w.alloc (limBox se L P ha)).alloc (badBox Ab bad.ls.length cb bad.t bad.v))
  generalize (w.alloc (limBox se L P ha)).alloc (badBox Ab bad.ls.length cb bad.t bad.v) = W0 at *
  have hB0 : B1 ≤ W0.heap.size := by omega
  have h10 := h1.below (hb0.mono hB)
  have hbad0 := hbad.below (hb0.mono hB)
  go_region_held3 (fun w' => w'.cell? ⟨w.heap.size, 0, none⟩ = some (.int .i64 se) ∧ w'.cell? ⟨w.heap.size, 1, none⟩ = some (.int .i64 L) ∧ w'.cell? ⟨w.heap.size, 2, none⟩ = some (.int .i64 P) ∧ w'.cell? ⟨w.heap.size, 3, none⟩ = some (.bool ha))
    (first | go_keep | (go_split_ands; refine ⟨?_, ?_, ?_, ?_⟩ <;> (rw [hb2.cell (by simp; omega)]; assumption)) | (go_split_ands; refine ⟨?_, ?_, ?_, ?_⟩ <;> (rw [hb1.cell (by simp; omega)]; assumption)) | (go_split_ands; refine ⟨?_, ?_, ?_, ?_⟩ <;> (rw [hb2.cell (by have := hb1.size; simp at this ⊢; omega)]; assumption)))
    (first
      | (go_at_call 7; refine (copySamples_any ss A1 n1 c1 B1 _ ?q1 HN.out ?q2 hm1 hml).mono ?_; (case q1 => exact h10); (case q2 => (simp; omega)); rintro e w1 ⟨A2, c2, rfl, ho1, hb1⟩)
      | (go_at_call 8; refine (limCheck_any tenA ss A2 n1 c2 w1.heap.size se L P ha _ ?q1 ?q2 HN.out ?q3 hok).mono ?_; (case q1 => decide +kernel); (case q2 => exact ho1.rd); (case q3 => exact Nat.le_refl _); rintro e w2 ⟨rfl, hb2⟩))
  have hz1 : W0.heap.size ≤ w1.heap.size := by have := hb1.size; simp at this; exact this
  have g2 : Below W0.heap.size W0 w2 := ((Below.refl _ W0).drew.trans hb1).trans (hb2.mono hz1)
  have hz2 := g2.size
  clear hb1 hb2 ho1
  have e0 := (g2.cell (p := ⟨w.heap.size, 0, none⟩) (by simp; omega)).trans c0
  have e1 := (g2.cell (p := ⟨w.heap.size, 1, none⟩) (by simp; omega)).trans c1'
  have e2 := (g2.cell (p := ⟨w.heap.size, 2, none⟩) (by simp; omega)).trans c2'
  have e3 := (g2.cell (p := ⟨w.heap.size, 3, none⟩) (by simp; omega)).trans c3'
  have f0 := (g2.cell (p := ⟨w.heap.size + 1, 0, none⟩) (by simp; omega)).trans d0
  have f1 := (g2.cell (p := ⟨w.heap.size + 1, 1, none⟩) (by simp; omega)).trans d1
  have f2 := (g2.cell (p := ⟨w.heap.size + 1, 2, none⟩) (by simp; omega)).trans d2
  have h12 := h10.below (g2.mono hB0)
  have hbad2 := hbad0.below (g2.mono hB0)
  have hb2 := hb0.trans (g2.mono (by omega))
  clear c0 c1' c2' c3' d0 d1 d2 h10 hbad0
  by_cases he : (limL tenA ss L P).2 = 0
  · have he' : ((limL tenA ss L P).2 != 0) = false := by rw [he]; rfl
    obtain ⟨p0, p1, p2, p3⟩ := limL_ok he
    have P3 := Lib.hid p3
    rw [HN.out] at p0 p1 p2
    have hn0 : (0 : Int) < (n1 : Int) := by omega
    obtain ⟨k, hk⟩ : ∃ k : Nat, lowI at_ % (n1 : Int) = (k : Int) := ⟨(lowI at_ % (n1 : Int)).toNat, (Int.toNat_of_nonneg (Int.emod_nonneg _ (by omega))).symm⟩
    have hk1 : k < n1 := by have := Int.emod_lt_of_pos (lowI at_) hn0; omega
    have hl0 := (lowI_nn at_).1
    have hl1 := (lowI_nn at_).2
    have F1 : Hid (limL tenA (ss.take (k + 1)) L P = (0, 0)) := limL_all (by rw [List.length_take, HN.out]; omega) (by rw [List.length_take, HN.out]; omega) (by rw [List.length_take, HN.out]; omega) fun s hs => P3.out s (List.mem_of_mem_take hs)
    have F2 : Hid (limL tenA (ss.drop k) L P = (0, 0)) := limL_all (by rw [List.length_drop, HN.out]; omega) (by rw [List.length_drop, HN.out]; omega) (by rw [List.length_drop, HN.out]; omega) fun s hs => P3.out s (List.mem_of_mem_drop hs)
    have F3 : Hid (limL tenA [bad] L P = (0, sampErr L bad)) := limL_one (by omega)
    have F4 : Hid (limL tenA (ss.set k bad) L P = (if sampErr L bad = 0 then (0 : Int) else k, sampErr L bad)) := limL_set (by rw [HN.out]; exact hk1) (by rw [HN.out]; exact p1) (by rw [HN.out]; exact p2) P3.out
    obtain ⟨b, o, A0', c0', hAb, hbB, _⟩ := h12.at_ (k := 0) (s := ss[0]'(by rw [HN.out]; exact p0)) (by rw [List.getElem?_eq_getElem])
    subst hAb
    have hkI : (k : Int) + 1 ≤ (c1 : Int) := by omega
    have hkw : IntKind.i64.wrap ((k : Int) + 1) = ((k + 1 : Nat) : Int) := by rw [IntKind.wrap_i64]; omega
    have hkI2 : ((k + 1 : Nat) : Int) ≤ (c1 : Int) := by omega
    have hk0 : (0 : Int) ≤ ((k + 1 : Nat) : Int) := by omega
    have hk00 : (0 : Int) ≤ (k : Int) := by omega
    have hk01 : (0 : Int) ≤ (k : Int) + 1 := by omega
    have hkm : ((n1 - k : Nat) : Int) ≤ (256 : Int) := by omega
    have hkJ : (k : Int) ≤ (n1 : Int) := by omega
    have hnc : (n1 : Int) ≤ (c1 : Int) := by omega
    have hne : ¬ c1 = k := by omega
    clear he p3
    go_wp2_with (go_at_call 15; refine ((hLo _).out).mono ?_; rintro e w' ⟨rfl, rfl⟩)
    go_region_held3 (fun w' => w'.cell? ⟨w.heap.size, 0, none⟩ = some (.int .i64 se) ∧ w'.cell? ⟨w.heap.size, 1, none⟩ = some (.int .i64 L) ∧ w'.cell? ⟨w.heap.size, 2, none⟩ = some (.int .i64 P) ∧ w'.cell? ⟨w.heap.size, 3, none⟩ = some (.bool ha))
      (first | go_keep | (go_split_ands; refine ⟨?_, ?_, ?_, ?_⟩ <;> (rw [hb4.cell (by simp; omega)]; assumption)) | (go_split_ands; refine ⟨?_, ?_, ?_, ?_⟩ <;> (rw [hb3.cell (by simp; omega)]; assumption)) | (go_split_ands; refine ⟨?_, ?_, ?_, ?_⟩ <;> (rw [hb4.cell (by have := hb3.size; simp at this ⊢; omega)]; assumption)))
      (first
        | (go_at_call 7; refine (copySamples_any (ss.take (k + 1)) (some ⟨b, o, none⟩) (k + 1) c1 B1 _ ?q1 (by rw [List.length_take, HN.out]; omega) ?q2 (by omega) (fun s hs => hml s (List.mem_of_mem_take hs))).mono ?_; (case q1 => exact h12.take (k + 1)); (case q2 => (simp; omega)); rintro e w3 ⟨A3, c3, rfl, ho3, hb3⟩)
        | (go_at_call 8; have C := limCheck_any tenA (ss.take (k + 1)) A3 (k + 1) c3 w3.heap.size se L P ha w3 (by decide +kernel) ho3.rd (by rw [List.length_take, HN.out]; omega) (Nat.le_refl _) (fun s hs => hok s (List.mem_of_mem_take hs)); rw [F1.out] at C; refine C.mono ?_; rintro e w4 ⟨rfl, hb4⟩))
    have i4 : Below w2.heap.size w2 w4 := ((Below.refl _ w2).drew.trans hb3).trans (hb4.mono hb3.size)
    have hz4 : w2.heap.size ≤ w4.heap.size := i4.size
    clear hb3 hb4 ho3 C
    replace e0 := (i4.cell (p := ⟨w.heap.size, 0, none⟩) (by simp; omega)).trans e0
    replace e1 := (i4.cell (p := ⟨w.heap.size, 1, none⟩) (by simp; omega)).trans e1
    replace e2 := (i4.cell (p := ⟨w.heap.size, 2, none⟩) (by simp; omega)).trans e2
    replace e3 := (i4.cell (p := ⟨w.heap.size, 3, none⟩) (by simp; omega)).trans e3
    replace f0 := (i4.cell (p := ⟨w.heap.size + 1, 0, none⟩) (by simp; omega)).trans f0
    replace f1 := (i4.cell (p := ⟨w.heap.size + 1, 1, none⟩) (by simp; omega)).trans f1
    replace f2 := (i4.cell (p := ⟨w.heap.size + 1, 2, none⟩) (by simp; omega)).trans f2
    replace h12 := h12.below (i4.mono (by omega))
    replace hbad2 := hbad2.below (i4.mono (by omega))
    replace hb2 := hb2.trans (i4.mono (by omega))
    go_wp2_with fail
    go_region_held3 (fun w' => w'.cell? ⟨w.heap.size, 0, none⟩ = some (.int .i64 se) ∧ w'.cell? ⟨w.heap.size, 1, none⟩ = some (.int .i64 L) ∧ w'.cell? ⟨w.heap.size, 2, none⟩ = some (.int .i64 P) ∧ w'.cell? ⟨w.heap.size, 3, none⟩ = some (.bool ha))
      (first | go_keep | (go_split_ands; refine ⟨?_, ?_, ?_, ?_⟩ <;> (rw [hb6.cell (by simp; omega)]; assumption)) | (go_split_ands; refine ⟨?_, ?_, ?_, ?_⟩ <;> (rw [hb5.cell (by simp; omega)]; assumption)) | (go_split_ands; refine ⟨?_, ?_, ?_, ?_⟩ <;> (rw [hb6.cell (by have := hb5.size; simp at this ⊢; omega)]; assumption)))
      (first
        | (go_at_call 7; refine (copySamples_any (ss.drop k) (some ⟨b, o + k * 3, none⟩) (n1 - k) (c1 - k) B1 _ ?q1 (by rw [List.length_drop, HN.out]) ?q2 (by omega) (fun s hs => hml s (List.mem_of_mem_drop hs))).mono ?_; (case q1 => exact h12.drop k); (case q2 => (simp; omega)); rintro e w5 ⟨A5, c5, rfl, ho5, hb5⟩)
        | (go_at_call 8; have C := limCheck_any tenA (ss.drop k) A5 (n1 - k) c5 w5.heap.size se L P ha w5 (by decide +kernel) ho5.rd (by rw [List.length_drop, HN.out]) (Nat.le_refl _) (fun s hs => hok s (List.mem_of_mem_drop hs)); rw [F2.out] at C; refine C.mono ?_; rintro e w6 ⟨rfl, hb6⟩))
    have i6 : Below w4.heap.size w4 w6 := ((Below.refl _ w4).drew.trans hb5).trans (hb6.mono hb5.size)
    have hz6 : w4.heap.size ≤ w6.heap.size := i6.size
    clear hb5 hb6 ho5 C
    replace e0 := (i6.cell (p := ⟨w.heap.size, 0, none⟩) (by simp; omega)).trans e0
    replace e1 := (i6.cell (p := ⟨w.heap.size, 1, none⟩) (by simp; omega)).trans e1
    replace e2 := (i6.cell (p := ⟨w.heap.size, 2, none⟩) (by simp; omega)).trans e2
    replace e3 := (i6.cell (p := ⟨w.heap.size, 3, none⟩) (by simp; omega)).trans e3
    replace f0 := (i6.cell (p := ⟨w.heap.size + 1, 0, none⟩) (by simp; omega)).trans f0
    replace f1 := (i6.cell (p := ⟨w.heap.size + 1, 1, none⟩) (by simp; omega)).trans f1
    replace f2 := (i6.cell (p := ⟨w.heap.size + 1, 2, none⟩) (by simp; omega)).trans f2
    replace h12 := h12.below (i6.mono (by omega))
    replace hbad2 := hbad2.below (i6.mono (by omega))
    replace hb2 := hb2.trans (i6.mono (by omega))
    have S1 : RdSamps (w6.alloc (badBox Ab bad.ls.length cb bad.t bad.v)) (w6.heap.size + 1) (some ⟨w6.heap.size, 0, none⟩) [bad] :=
      ⟨[[.slice Ab bad.ls.length cb, .int .i64 bad.t, .int .u64 bad.v]], Rd.new w6 (by simp) _ rfl, rfl, fun j r hr => by
        match j, hr with
        | 0, hr =>
          injection hr with hr
          subst hr
          exact ⟨_, rfl, Ab, cb, rfl, (hbad2.below (((Below.refl w6.heap.size w6).alloc (Nat.le_refl _) _).mono (by omega))).more (by omega), hbl, hbc⟩⟩
    have C7 := fun (_ : Unit) => limCheck_any tenA [bad] (some ⟨w6.heap.size, 0, none⟩) 1 1 (w6.heap.size + 1) se L P ha (w6.alloc (badBox Ab bad.ls.length cb bad.t bad.v)) (by decide +kernel) S1 rfl (by simp) (fun s hs => by simp at hs; rw [hs]; exact hbok)
    simp only [F3.out] at C7
    unfold badBox at C7
    have HC7 := fun (W : Unit) => Lib.hid (C7 W)
    clear C7 S1
    have hl6 : w.heap.size < w6.heap.size := by omega
    have hl6' : w.heap.size + 1 < w6.heap.size := by omega
    go_wp2_with (first
      | (go_at_call 8; refine ((HC7 ()).out).mono ?_; rintro e w8 ⟨rfl, hb8⟩; have i8 := ((Below.refl w6.heap.size w6).alloc (Nat.le_refl _) _).trans (hb8.mono (by simp))))
    refine (copySamples_any ss (some ⟨b, o, none⟩) n1 c1 B1 _ (h12.below (i8.mono (by omega))) HN.out (by have := i8.size; simp; omega) hm1 hml).mono ?_; rintro e w10 ⟨A9, c9, rfl, ho9, hb9⟩
    have i10 := i8.trans (hb9.mono i8.size)
    obtain ⟨g, rfl, hg1, hg2, ⟨v0, v1, v2, q0, q1, q2⟩, hfz, hnc9, hcm9⟩ := ho9.cells hk1
    have z8 := i8.size
    have z10 := i10.size
    replace e0 := (i10.cell (p := ⟨w.heap.size, 0, none⟩) (by simp; omega)).trans e0
    replace e1 := (i10.cell (p := ⟨w.heap.size, 1, none⟩) (by simp; omega)).trans e1
    replace e2 := (i10.cell (p := ⟨w.heap.size, 2, none⟩) (by simp; omega)).trans e2
    replace e3 := (i10.cell (p := ⟨w.heap.size, 3, none⟩) (by simp; omega)).trans e3
    replace f0 := (i10.cell (p := ⟨w.heap.size + 1, 0, none⟩) (by simp; omega)).trans f0
    replace f1 := (i10.cell (p := ⟨w.heap.size + 1, 1, none⟩) (by simp; omega)).trans f1
    replace f2 := (i10.cell (p := ⟨w.heap.size + 1, 2, none⟩) (by simp; omega)).trans f2
    have hg3 : ¬ g = w.heap.size := by omega
    have hg4 : ¬ g = w.heap.size + 1 := by omega
    have hg5 : ¬ w.heap.size = g := by omega
    have hkI3 : (k : Int) < (n1 : Int) := by omega
    have fz0 := hfz (k * 3)
    have fz1 := hfz (k * 3 + 1)
    have fz2 := hfz (k * 3 + 2)
    clear hb8 hb9 HC7 P3 F1 F2 F3 hfz hLo hb0 hl0 hl1 hkw hkI2 hk0 hk01 hkm hm1 hml
    set_option maxHeartbeats 200000 in go_wp2_with fail
    have hbad10 := hbad2.below (i10.mono (by omega))
    obtain ⟨R, hg⟩ := ho9.put (cb := cb) hk1 hbad10 (by omega) hbl hbc
    have hbF := hb2.trans (i10.mono (by omega))
    have bF := hbF.grown hg (by omega) (fun x hx => by injection hx with hx; omega)
    have C := limCheck_any tenA (ss.set k bad) (some ⟨g, 0, none⟩) n1 c9 w10.heap.size se L P ha _ (by decide +kernel) R (by rw [List.length_set, HN.out]) (by simp) (fun s hs => by
      rcases List.mem_or_eq_of_mem_set hs with hs | rfl
      · exact hok s hs
      · exact hbok)
    rw [F4.out] at C
    refine C.mono ?_
    clear C R hg
    rintro e w11 ⟨rfl, hb11⟩
    have z11 := bF.size
    have bG := bF.trans (hb11.mono bF.size)
    clear hb11 bF F4
    by_cases hE : sampErr L bad = 0
    · have hE1 : (sampErr L bad == (0 : Int)) = true := by rw [hE]; rfl
      rw [if_pos hE]
      clear hE
      go_wp2_with (go_at_call 14; refine ((hA _).out).mono ?_; rintro e w12 ⟨rfl, hb12⟩)
      go_ret
      exact ⟨by simp, bG.trans (hb12.mono bG.size)⟩
    · have hE1 : (sampErr L bad == (0 : Int)) = false := beq_eq_false_iff_ne.2 hE
      rw [if_neg hE]
      clear hE
      go_wp2_with (go_at_call 14; refine ((hA _).out).mono ?_; rintro e w12 ⟨rfl, hb12⟩)
      go_ret
      exact ⟨by simp, bG.trans (hb12.mono bG.size)⟩
  · have he' : ((limL tenA ss L P).2 != 0) = true := by rw [bne_iff_ne]; exact he
    go_wp2_with (go_at_call 14; refine ((hA _).out).mono ?_; rintro e w4 ⟨rfl, hb4⟩)
    go_ret
    exact ⟨rfl, hb2.trans (hb4.mono (by omega))⟩
end Go.Proofs.Ytpoefknaaohmhaa
