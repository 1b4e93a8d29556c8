/- Nodes are spoilt. -/
import Derived.Test.YtdikmklijpcjdaaMatL
import Derived.Test.YtdikmklijpcjdaaTextsL
import Derived.Test.YtdikmklijpcjdaaPQuery
import Derived.Test.YtdikmklijpcjdaaNodC
import Derived.Test.YtdikmklijpcjdaaParW
namespace Go.Proofs.Ytdikmklijpcjdaa
section
/-! ## MatP -/
open Go.RowKit

set_option maxRecDepth 100000 in
set_option maxHeartbeats 2000000 in
theorem spoilMatchers_any (xs : List (List Value)) (A : Option Addr) (n c base : Nat) (w : World) (hO : Own w base 45 3 A n c xs) (hn : (n + 1) * 40 ≤ 140737488355328) (hbase : base ≤ w.heap.size) :
    Calls Try.prog 31 #[.slice A n c] w fun e w' => e = .returned (.tuple #[]) ∧ w.grownBy w' (A.map Addr.block) := by
  have hE : EI Try.prog 34 45 3 40 := EI.mk' Try.underlying34 (z := .agg #[.int .i64 0, .string ByteArray.empty, .string ByteArray.empty]) (by kernel_rfl) rfl (by omega)
  have hcap := hO.cap
  go_enter Try.func31, Try.ntmps31
  go_wp2_with (at_builtin; refine wpList_append_ex (ys := [[.int .i64 77, .string ByteArray.empty, .string ByteArray.empty]]) _ rfl (.tmp 5) (.tmp 7) _ rfl hE rfl (hO.alloc _) rfl (Rd.new w (xs := [[.int .i64 77, .string ByteArray.empty, .string ByteArray.empty]]) (by simp) _ rfl) rfl (by simp [Value.oneCell']) (by simp only [maxLen]; omega) (by omega) (by simp; omega) ?_; intro A' c' w2 ho hg hat hb)
  have hgr : w.grownBy w2 (A.map Addr.block) := ⟨hg.os, hg.tape, hg.output, by have := hg.size; simp at this; omega, fun k hk hr => (hg.block k (by simp; omega) hr).trans (Below.heap_alloc w _ k hk)⟩
  obtain ⟨g', rfl, hg'⟩ : ∃ g', A' = some ⟨g', 0, none⟩ ∧ (some g' = A.map Addr.block ∨ w.heap.size ≤ g') := by
    rcases ho.form with ⟨_, h0, _⟩ | ⟨g', h, _⟩
    · omega
    · refine ⟨g', h, ?_⟩
      rcases hat with ⟨h1, _⟩ | ⟨h1, _⟩
      · left; rw [← h1, h]; rfl
      · right; rw [h] at h1; injection h1 with h1; injection h1 with h1; simp at h1; omega
  obtain ⟨_, _, hW1⟩ := ho.wr _ _ rfl
  have hW2 : ∀ b o, A = some ⟨b, o, none⟩ → o = 0 ∧ Wr w2 b 45 (n * 3) := by
    intro b o hA
    obtain ⟨h1, _, h2⟩ := hO.wr _ _ hA
    refine ⟨h1, ?_⟩
    rcases hat with ⟨h3, h4⟩ | ⟨_, h3⟩
    · rw [hA] at h3
      injection h3 with h3
      injection h3 with h3
      subst h3 h4
      exact hW1.less (Nat.mul_le_mul_right _ hcap.1)
    · exact ((h2.alloc _).grown h3 (by simp)).less (Nat.mul_le_mul_right _ hcap.1)
  have hcap' := ho.cap
  have hW1 := hW1.less (m' := (n + 1) * 3) (Nat.mul_le_mul_right _ hcap'.1)
  clear hg hat hb ho
  have hn1 : (0 : Int) ≤ n := by omega
  go_loopw [3] (fun i wr => ∃ k : Nat, k ≤ n + 1 ∧ i = .int .i64 k ∧ w.grownBy wr (A.map Addr.block) ∧ Wr wr g' 45 ((n + 1) * 3) ∧ (∀ b o, A = some ⟨b, o, none⟩ → o = 0 ∧ Wr wr b 45 (n * 3))) (fun i _ => n + 1 - (intOf i).toNat)
  case atStart => exact ⟨0, by omega, rfl, hgr, hW1, hW2⟩
  case round =>
    clear hgr hW1 hW2
    obtain ⟨k, hk, rfl, hgr, hW1, hW2⟩ := hrel
    have hk0 : (0 : Int) ≤ k := by omega
    by_cases hlt : k < n + 1
    · have hltI : (k : Int) < (n : Int) + 1 := by omega
      have hltJ : (k : Int) < ((n + 1 : Nat) : Int) := by omega
      obtain ⟨v0, p0⟩ := hW1.cell (j := k * 3) (by omega)
      obtain ⟨v1, p1⟩ := hW1.cell (j := k * 3 + 1) (by omega)
      obtain ⟨v2, p2⟩ := hW1.cell (j := k * 3 + 2) (by omega)
      have hfz := hW1.frozen
      have HW1 := Lib.hid hW1
      have HW2 := Lib.hid hW2
      clear hW1 hW2
      go_wp2
      go_roundw
      case rel => exact ⟨k + 1, by omega, by go_num, (grownBy_setCell (grownBy_setCell (grownBy_setCell hgr (by simpa using hg') _) (by simpa using hg') _) (by simpa using hg') _), (((HW1.out.setCell _ _).setCell _ _).setCell _ _), fun b o hA => ⟨(HW2.out b o hA).1, ((((HW2.out b o hA).2.setCell _ _).setCell _ _).setCell _ _)⟩⟩
      case measure => simp [intOf]; omega
    · have hltI : ¬ (k : Int) < (n : Int) + 1 := by omega
      have hltJ : ¬ (k : Int) < ((n + 1 : Nat) : Int) := by omega
      go_wp2
      go_loopw [4] (fun i wr => ∃ k : Nat, k ≤ n ∧ i = .int .i64 k ∧ w.grownBy wr (A.map Addr.block) ∧ (∀ b o, A = some ⟨b, o, none⟩ → o = 0 ∧ Wr wr b 45 (n * 3))) (fun i _ => n - (intOf i).toNat)
      case atStart => exact ⟨0, by omega, rfl, hgr, hW2⟩
      case round =>
        clear hgr hW1 hW2 hltI hltJ hlt hk hk0
        obtain ⟨k, hk, rfl, hgr, hW2⟩ := hrel
        have hk0 : (0 : Int) ≤ k := by omega
        by_cases hlt : k < n
        · have hltI : (k : Int) < (n : Int) := by omega
          obtain ⟨g, rfl⟩ : ∃ g, A = some ⟨g, 0, none⟩ := by
            rcases hO.form with ⟨_, h0, _⟩ | ⟨g, h, _⟩
            · omega
            · exact ⟨g, h⟩
          have hW1 := (hW2 g 0 rfl).2
          obtain ⟨v0, p0⟩ := hW1.cell (j := k * 3) (by omega)
          obtain ⟨v1, p1⟩ := hW1.cell (j := k * 3 + 1) (by omega)
          obtain ⟨v2, p2⟩ := hW1.cell (j := k * 3 + 2) (by omega)
          have hfz := hW1.frozen
          have HW1 := Lib.hid hW1
          clear hW1 hW2
          go_wp2
          go_roundw
          case rel => exact ⟨k + 1, by omega, by go_num, (grownBy_setCell (grownBy_setCell (grownBy_setCell hgr (by simp) _) (by simp) _) (by simp) _), fun b o hA => by injection hA with hA; injection hA with e1 e2; subst e1 e2; exact ⟨rfl, (((HW1.out.setCell _ _).setCell _ _).setCell _ _)⟩⟩
          case measure => simp [intOf]; omega
        · have hltI : ¬ (k : Int) < (n : Int) := by omega
          clear hW2
          go_wp2
          go_end0
          exact ⟨rfl, hgr⟩
end
section
/-! ## TextsP -/
open Go.RowKit

set_option maxRecDepth 100000 in
set_option maxHeartbeats 2000000 in
theorem spoilTexts_any (xs : List (List Value)) (A : Option Addr) (n c base : Nat) (w : World) (hO : Own w base 9 1 A n c xs) (hn : (n + 1) * 16 ≤ 140737488355328) (hbase : base ≤ w.heap.size) :
    Calls Try.prog 32 #[.slice A n c] w fun e w' => e = .returned (.tuple #[]) ∧ w.grownBy w' (A.map Addr.block) := by
  have hcap := hO.cap
  go_enter Try.func32, Try.ntmps32
  go_wp2_with (at_builtin; refine wpList_append_ex (ys := [[.string ⟨#[115, 112, 111, 105, 108, 116]⟩]]) _ rfl (.tmp 5) (.tmp 6) _ rfl eiTexts rfl (hO.alloc _) rfl (Rd.new w (xs := [[.string ⟨#[115, 112, 111, 105, 108, 116]⟩]]) (by simp) _ rfl) rfl (by simp [Value.oneCell']) (by simp only [maxLen]; omega) (by omega) (by simp; omega) ?_; intro A' c' w2 ho hg hat hb)
  have hgr : w.grownBy w2 (A.map Addr.block) := ⟨hg.os, hg.tape, hg.output, by have := hg.size; simp at this; omega, fun k hk hr => (hg.block k (by simp; omega) hr).trans (Below.heap_alloc w _ k hk)⟩
  obtain ⟨g', rfl, hg'⟩ : ∃ g', A' = some ⟨g', 0, none⟩ ∧ (some g' = A.map Addr.block ∨ w.heap.size ≤ g') := by
    rcases ho.form with ⟨_, h0, _⟩ | ⟨g', h, _⟩
    · omega
    · refine ⟨g', h, ?_⟩
      rcases hat with ⟨h1, _⟩ | ⟨h1, _⟩
      · left; rw [← h1, h]; rfl
      · right; rw [h] at h1; injection h1 with h1; injection h1 with h1; simp at h1; omega
  obtain ⟨_, _, hW1⟩ := ho.wr _ _ rfl
  have hW2 : ∀ b o, A = some ⟨b, o, none⟩ → o = 0 ∧ Wr w2 b 9 (n * 1) := by
    intro b o hA
    obtain ⟨h1, _, h2⟩ := hO.wr _ _ hA
    refine ⟨h1, ?_⟩
    rcases hat with ⟨h3, h4⟩ | ⟨_, h3⟩
    · rw [hA] at h3
      injection h3 with h3
      injection h3 with h3
      subst h3 h4
      exact hW1.less (Nat.mul_le_mul_right _ hcap.1)
    · exact ((h2.alloc _).grown h3 (by simp)).less (Nat.mul_le_mul_right _ hcap.1)
  have hcap' := ho.cap
  have hW1 := hW1.less (m' := (n + 1) * 1) (Nat.mul_le_mul_right _ hcap'.1)
  clear hg hat hb ho
  have hn1 : (0 : Int) ≤ n := by omega
  go_loopw [3] (fun i wr => ∃ k : Nat, k ≤ n + 1 ∧ i = .int .i64 k ∧ w.grownBy wr (A.map Addr.block) ∧ Wr wr g' 9 ((n + 1) * 1) ∧ (∀ b o, A = some ⟨b, o, none⟩ → o = 0 ∧ Wr wr b 9 (n * 1))) (fun i _ => n + 1 - (intOf i).toNat)
  case atStart => exact ⟨0, by omega, rfl, hgr, hW1, hW2⟩
  case round =>
    clear hgr hW1 hW2
    obtain ⟨k, hk, rfl, hgr, hW1, hW2⟩ := hrel
    have hk0 : (0 : Int) ≤ k := by omega
    by_cases hlt : k < n + 1
    · have hltI : (k : Int) < (n : Int) + 1 := by omega
      have hltJ : (k : Int) < ((n + 1 : Nat) : Int) := by omega
      obtain ⟨v0, p0⟩ := hW1.cell (j := k) (by omega)
      have hfz := hW1.frozen
      have HW1 := Lib.hid hW1
      have HW2 := Lib.hid hW2
      clear hW1 hW2
      go_wp2
      go_roundw
      case rel => exact ⟨k + 1, by omega, by go_num, grownBy_setCell hgr (by simpa using hg') _, HW1.out.setCell _ _, fun b o hA => ⟨(HW2.out b o hA).1, (HW2.out b o hA).2.setCell _ _⟩⟩
      case measure => simp [intOf]; omega
    · have hltI : ¬ (k : Int) < (n : Int) + 1 := by omega
      have hltJ : ¬ (k : Int) < ((n + 1 : Nat) : Int) := by omega
      go_wp2
      go_loopw [4] (fun i wr => ∃ k : Nat, k ≤ n ∧ i = .int .i64 k ∧ w.grownBy wr (A.map Addr.block) ∧ (∀ b o, A = some ⟨b, o, none⟩ → o = 0 ∧ Wr wr b 9 (n * 1))) (fun i _ => n - (intOf i).toNat)
      case atStart => exact ⟨0, by omega, rfl, hgr, hW2⟩
      case round =>
        clear hgr hW1 hW2 hltI hltJ hlt hk hk0
        obtain ⟨k, hk, rfl, hgr, hW2⟩ := hrel
        have hk0 : (0 : Int) ≤ k := by omega
        by_cases hlt : k < n
        · have hltI : (k : Int) < (n : Int) := by omega
          obtain ⟨g, rfl⟩ : ∃ g, A = some ⟨g, 0, none⟩ := by
            rcases hO.form with ⟨_, h0, _⟩ | ⟨g, h, _⟩
            · omega
            · exact ⟨g, h⟩
          have hW1 := (hW2 g 0 rfl).2
          obtain ⟨v0, p0⟩ := hW1.cell (j := k) (by omega)
          have hfz := hW1.frozen
          have HW1 := Lib.hid hW1
          clear hW1 hW2
          go_wp2
          go_roundw
          case rel => exact ⟨k + 1, by omega, by go_num, grownBy_setCell hgr (by simp) _, fun b o hA => by injection hA with hA; injection hA with e1 e2; subst e1 e2; exact ⟨rfl, HW1.out.setCell _ _⟩⟩
          case measure => simp [intOf]; omega
        · have hltI : ¬ (k : Int) < (n : Int) := by omega
          clear hW2
          go_wp2
          go_end0
          exact ⟨rfl, hgr⟩
end
section
/-! ## PLaid -/
open Go.RowKit

theorem numF_in (w : ByteArray) : ∀ (l : List ByteArray) (st : Nat), numF st l w = 0 ∨ ((st : Int) ≤ numF st l w ∧ numF st l w < ((st + l.length : Nat) : Int))
  | [], st => by simp [numF]
  | x :: r, st => by
    rw [numF]
    split
    · right; simp only [List.length_cons]; omega
    · have := numF_in w r (st + 1)
      simp only [List.length_cons]
      omega
theorem numW_lt {l : List ByteArray} {w : ByteArray} {n : Nat} (hn : l.length = n) (h : 1 ≤ n) : numW l w < n := by
  have := numF_in w l 0
  unfold numW
  rw [hn] at this
  omega
/-- What holds of a node of each kind, given what holds of tokens. -/
structure Lays (T : Tok → Prop) (N : Nod → Prop) : Prop where
  num : ∀ t, T t → t.kind = 1 → N (numN t.text)
  sel : ∀ ms k w b, matCode ms = 0 → (k = 2 ∧ w = 0 ∨ k = 3 ∧ ∃ t, T t ∧ t.kind = 2 ∧ w = (t.span : Int)) → (b = 0 ∨ ∃ t, T t ∧ t.kind = 2 ∧ b = (t.span : Int)) → N (selN k ms w b)
  call : ∀ f, 1 ≤ f → f ≤ 12 → N (callN f)
  agg : ∀ a g l, 1 ≤ a → a ≤ 5 → (g = 0 ∧ l = [] ∨ g = 1 ∨ g = 2) → l.all nameB = true → l.length ≤ 5000 → N (aggN a g l)
  bin : ∀ op g l c, 1 ≤ op → op ≤ 13 → (g = 0 ∧ l = [] ∨ g = 3 ∨ g = 4) → l.all nameB = true → l.length ≤ 5000 → (c = true → 5 ≤ op ∧ op ≤ 10) → N (binN op g l c)
  neg : N negN
section
variable {T : Tok → Prop} {N : Nod → Prop}
structure AllS (T : Tok → Prop) (N : Nod → Prop) (s : PS) : Prop where
  toks : ∀ t ∈ s.toks, T t
  out : ∀ x ∈ s.out, N x
theorem AllS.on {s : PS} (h : AllS T N s) : AllS T N s.on := ⟨fun t ht => h.toks t (List.mem_of_mem_tail ht), h.out⟩
theorem AllS.hd {s : PS} (h : AllS T N s) {M : Nat} (hg : PGood M s) : T s.hd := by
  apply h.toks
  rw [hg.cons]
  exact List.mem_cons_self
theorem AllS.lay {s : PS} (h : AllS T N s) {x : Nod} (hx : N x) : AllS T N (s.lay x) := ⟨h.toks, fun y hy => by
  simp only [PS.lay, List.mem_append, List.mem_singleton] at hy
  rcases hy with hy | rfl
  · exact h.out y hy
  · exact hx⟩
theorem comma_all {s s1 : PS} {b : Bool} (hs : s.comma b = .ok s1) (h : AllS T N s) : AllS T N s1 := by
  unfold PS.comma at hs
  split at hs
  · injection hs with hs; subst hs; exact h
  · rw [(sign_step hs).1]; exact h.on
theorem namesF_all : ∀ (m : Nat) (s s1 : PS) (acc l : List ByteArray), namesF m s acc = .ok (s1, l) → AllS T N s → acc.all nameB = true → AllS T N s1 ∧ l.all nameB = true
  | 0, s, s1, acc, l, hs, _, _ => by simp [namesF] at hs
  | m + 1, s, s1, acc, l, hs, h, ha => by
    rw [namesF] at hs
    split at hs
    · injection hs with hs
      injection hs with h1 h2
      subst h1 h2
      exact ⟨h.on, ha⟩
    · split at hs
      · cases hs
      · rename_i s2 hc
        split at hs
        · cases hs
        · rename_i s3 x hn
          obtain ⟨e1, e2, _, e4, _⟩ := name_step hn
          refine namesF_all m s3 s1 _ l hs ?_ ?_
          · rw [e1]; exact (comma_all hc h).on
          · rw [List.all_append, ha, e2]; simp [e4]
theorem names_all {s s1 : PS} {l : List ByteArray} (hs : s.names = .ok (s1, l)) (h : AllS T N s) : AllS T N s1 ∧ l.all nameB = true := by
  unfold PS.names at hs
  split at hs
  · cases hs
  · rename_i s2 hc
    exact namesF_all _ _ _ _ _ hs (by rw [(sign_step hc).1]; exact h.on) rfl
theorem group_all {s s1 : PS} {w1 w2 : ByteArray} {k1 k2 g : Int} {l : List ByteArray} (hs : s.group w1 w2 k1 k2 = .ok (s1, g, l)) (h : AllS T N s) : AllS T N s1 ∧ l.all nameB = true ∧ (g = 0 ∧ l = [] ∨ g = k1 ∨ g = k2) := by
  unfold PS.group at hs
  split at hs
  · split at hs
    · cases hs
    · rename_i s2 l2 hn
      injection hs with hs
      injection hs with e1 e2
      injection e2 with e2 e3
      subst e1 e2 e3
      obtain ⟨a1, a2⟩ := names_all hn h.on
      exact ⟨a1, a2, .inr (.inl rfl)⟩
  · split at hs
    · split at hs
      · cases hs
      · rename_i s2 l2 hn
        injection hs with hs
        injection hs with e1 e2
        injection e2 with e2 e3
        subst e1 e2 e3
        obtain ⟨a1, a2⟩ := names_all hn h.on
        exact ⟨a1, a2, .inr (.inr rfl)⟩
    · injection hs with hs
      injection hs with e1 e2
      injection e2 with e2 e3
      subst e1 e2 e3
      exact ⟨h, rfl, .inl ⟨rfl, rfl⟩⟩
theorem matchersF_all : ∀ (m : Nat) (b : Bool) (s s1 : PS) (ms l : List Mat), matchersF m b s ms = .ok (s1, l) → AllS T N s → matCode ms = 0 → AllS T N s1 ∧ matCode l = 0
  | 0, b, s, s1, ms, l, hs, _, _ => by simp [matchersF] at hs
  | m + 1, b, s, s1, ms, l, hs, h, hm => by
    rw [matchersF] at hs
    split at hs
    · injection hs with hs
      injection hs with h1 h2
      subst h1 h2
      exact ⟨h.on, hm⟩
    · split at hs
      · cases hs
      · rename_i s2 hc
        split at hs
        · cases hs
        · rename_i s3 x hn
          split at hs
          · cases hs
          · split at hs
            · cases hs
            · split at hs
              · cases hs
              · rename_i ms2 ha
                refine matchersF_all m false _ s1 ms2 l hs ?_ (addM_ok ha).2
                have := (comma_all hc h).on
                rw [← (name_step hn).1] at this
                exact this.on.on
theorem span_all {s s1 : PS} {v : Int} (hs : s.span = .ok (s1, v)) (h : AllS T N s) {M : Nat} (hg : PGood M s) : AllS T N s1 ∧ ∃ t, T t ∧ t.kind = 2 ∧ v = (t.span : Int) := by
  unfold PS.span at hs
  split at hs
  · rename_i hk
    injection hs with hs
    injection hs with h1 h2
    subst h1 h2
    exact ⟨h.on, s.hd, h.hd hg, hk, rfl⟩
  · cases hs
theorem choose_all (hL : Lays T N) {s s1 : PS} (hs : chooseP s = .ok s1) (h : AllS T N s) {M : Nat} (hg : PGood M s) : AllS T N s1 := by
  unfold chooseP at hs
  split at hs
  · cases hs
  · rename_i t1 m1 h1
    have a1 : AllS T N t1 ∧ matCode m1 = 0 ∧ PGood M t1 := by
      unfold PS.sel1 at h1
      split at h1
      · rename_i hw
        split at h1
        · cases h1
        · rename_i ms ha
          injection h1 with h1
          injection h1 with e1 e2
          subst e1 e2
          exact ⟨h.on, (addM_ok ha).2, hg.on (word_kind hw)⟩
      · injection h1 with h1
        injection h1 with e1 e2
        subst e1 e2
        exact ⟨h, rfl, hg⟩
    split at hs
    · cases hs
    · rename_i t2 m2 h2
      have a2 : AllS T N t2 ∧ matCode m2 = 0 ∧ PGood M t2 := by
        unfold PS.sel2 at h2
        split at h2
        · rename_i hi
          have g1 := a1.2.2.on (by rw [is_kind hi]; decide)
          obtain ⟨b1, b2⟩ := matchersF_all _ _ _ _ _ _ h2 a1.1.on a1.2.1
          exact ⟨b1, b2, ((matchersF_step _ _ _ _ _ _ h2).good M g1).more (by omega)⟩
        · split at h2
          · injection h2 with h2
            injection h2 with e1 e2
            subst e1 e2
            exact a1
          · cases h2
      split at hs
      · cases hs
      · rename_i t3 k w h3
        have a3 : AllS T N t3 ∧ (k = 2 ∧ w = 0 ∨ k = 3 ∧ ∃ t, T t ∧ t.kind = 2 ∧ w = (t.span : Int)) ∧ PGood M t3 := by
          unfold PS.sel3 at h3
          split at h3
          · rename_i hi
            split at h3
            · cases h3
            · rename_i t5 w5 h5
              split at h3
              · cases h3
              · rename_i t6 h6
                injection h3 with h3
                injection h3 with e1 e2
                injection e2 with e2 e3
                subst e1 e2 e3
                have g1 := a2.2.2.on (by rw [is_kind hi]; decide)
                obtain ⟨b1, b2⟩ := span_all h5 a2.1.on g1
                have g5 := ((span_step h5).good M g1).more (Nat.sub_le _ _)
                have g6 := ((sign_step h6).2.2.good M g5).more (Nat.sub_le _ _)
                refine ⟨by rw [(sign_step h6).1]; exact b1.on, .inr ⟨rfl, b2⟩, g6⟩
          · injection h3 with h3
            injection h3 with e1 e2
            injection e2 with e2 e3
            subst e1 e2 e3
            exact ⟨a2.1, .inl ⟨rfl, rfl⟩, a2.2.2⟩
        split at hs
        · cases hs
        · rename_i t4 b h4
          injection hs with hs
          subst hs
          have a4 : AllS T N t4 ∧ (b = 0 ∨ ∃ t, T t ∧ t.kind = 2 ∧ b = (t.span : Int)) := by
            unfold PS.sel4 at h4
            split at h4
            · rename_i hi
              have g1 := a3.2.2.on (by rw [is_kind hi]; decide)
              obtain ⟨b1, b2⟩ := span_all h4 a3.1.on g1
              exact ⟨b1, .inr b2⟩
            · injection h4 with h4
              injection h4 with e1 e2
              subst e1 e2
              exact ⟨a3.1, .inl rfl⟩
          exact a4.1.lay (hL.sel _ _ _ _ a2.2.1 a3.2.1 a4.2)
/-- A part of the grammar. -/
def PartAll (T : Tok → Prop) (N : Nod → Prop) (f : PS → Rp PS) : Prop := ∀ s s1, f s = .ok s1 → AllS T N s → (∃ M, M ≤ 5000 ∧ PGood M s) → AllS T N s1
theorem rowF_all (hL : Lays T N) {part : PS → Rp PS} (hp : PartAll T N part) (hok : PartOk part) {lo hi : Int} (hlo : 1 ≤ lo) (hhi : hi ≤ 13) : ∀ (m : Nat) (s s1 : PS), rowF part lo hi m s = .ok s1 → AllS T N s → (∃ M, M ≤ 5000 ∧ PGood M s) → AllS T N s1
  | 0, s, s1, hs, h, _ => by
    simp only [rowF] at hs
    injection hs with hs
    subst hs
    exact h
  | m + 1, s, s1, hs, h, ⟨M, hM5, hM⟩ => by
    rw [rowF] at hs
    split at hs
    · injection hs with hs
      subst hs
      exact h
    · rename_i hend
      have hk : s.hd.kind ≠ 0 := by
        intro h0
        apply hend
        simp [PS.rowEnd, h0]
      have hop : lo ≤ numW opsL s.hd.text ∧ numW opsL s.hd.text ≤ hi := by
        have e : ∀ a b c d : Bool, ¬ (a || b || c || d) = true → b = false ∧ c = false := by decide
        obtain ⟨e1, e2⟩ := e _ _ _ _ hend
        have e1 := of_decide_eq_false e1
        have e2 := of_decide_eq_false e2
        omega
      split at hs
      · cases hs
      · rename_i s3 g l hg
        split at hs
        · cases hs
        · rename_i s4 hp4
          have h1 := Step.on hk
          have h2 : Step 0 s.on (if s.on.boolN (numW opsL s.hd.text) = true then s.on.on else s.on) := by
            split
            · rename_i hb
              simp only [PS.boolN, Bool.and_eq_true] at hb
              exact (Step.on (by rw [is_kind hb.2]; decide)).less (by omega)
            · exact Step.refl _
          have hA2 : AllS T N (if s.on.boolN (numW opsL s.hd.text) = true then s.on.on else s.on) := by
            split
            · exact h.on.on
            · exact h.on
          have h12 := h1.trans h2
          have h13 := h12.trans (group_step hg).1
          obtain ⟨a1, a2, a3⟩ := group_all hg hA2
          have hln := (group_step hg).2 _ (h12.good M hM)
          have hl2 := h12.len M hM
          have hro := hM.room
          have g3 := h13.good M hM
          have h4 := hp _ _ hp4 a1 ⟨_, by omega, g3⟩
          obtain ⟨_, k2⟩ := hok _ _ hp4
          obtain ⟨g4, _⟩ := k2 _ g3
          refine rowF_all hL hp hok hlo hhi m _ s1 hs (h4.lay (hL.bin _ _ _ _ (by omega) (by omega) a3 a2 (by omega) fun hb => ?_)) ⟨M, hM5, PGood.lay (g4.more (by omega)) _⟩
          simp only [PS.boolN, Bool.and_eq_true, decide_eq_true_eq] at hb
          exact hb.1
theorem rowP_all (hL : Lays T N) {part : PS → Rp PS} (hp : PartAll T N part) (hok : PartOk part) {lo hi : Int} (hlo : 1 ≤ lo) (hhi : hi ≤ 13) : PartAll T N (rowP part lo hi) := by
  intro s s1 hs h hg
  unfold rowP at hs
  split at hs
  · cases hs
  · rename_i s2 h2
    obtain ⟨M, hM5, hM⟩ := hg
    obtain ⟨_, k2⟩ := hok _ _ h2
    exact rowF_all hL hp hok hlo hhi _ _ _ hs (hp _ _ h2 h ⟨M, hM5, hM⟩) ⟨M, hM5, (k2 M hM).1⟩
theorem orP_all (hL : Lays T N) {u : PS → Rp PS} (hp : PartAll T N u) (hok : PartOk u) : PartAll T N (orP u) :=
  rowP_all hL (rowP_all hL (rowP_all hL (rowP_all hL (rowP_all hL hp hok (by decide) (by decide)) (rowP_ok hok _ _) (by decide) (by decide)) (rowP_ok (rowP_ok hok _ _) _ _) (by decide) (by decide)) (rowP_ok (rowP_ok (rowP_ok hok _ _) _ _) _ _) (by decide) (by decide)) (rowP_ok (rowP_ok (rowP_ok (rowP_ok hok _ _) _ _) _ _) _ _) (by decide) (by decide)
theorem openP_all {part : PS → Rp PS} (hp : PartAll T N part) {s s1 : PS} (hs : openP part s = .ok s1) (h : AllS T N s) (hk : s.hd.kind ≠ 0) (hg : ∃ M, M ≤ 5000 ∧ PGood M s) : AllS T N s1 := by
  unfold openP at hs
  split at hs
  · cases hs
  · rename_i hd
    split at hs
    · cases hs
    · rename_i s2 h2
      injection hs with hs
      subst hs
      obtain ⟨M, hM5, hM⟩ := hg
      have g := hM.on1 hk
      have hdl := hM.deep
      have g' : PGood (M - 1) ⟨s.toks.tail, s.deep + 1, s.out⟩ := ⟨g.ends, g.room, by show s.deep + 1 ≤ 64; omega, g.text⟩
      have := hp _ _ h2 ⟨h.on.toks, h.out⟩ ⟨M - 1, by omega, g'⟩
      exact ⟨this.toks, this.out⟩
theorem innerP_all {e : PS → Rp PS} (he : PartAll T N e) : PartAll T N (innerP e) := by
  intro s s1 hs h hg
  unfold innerP at hs
  split at hs
  · cases hs
  · rename_i s2 h2
    rw [(sign_step hs).1]
    exact (he _ _ h2 h hg).on
theorem bracketP_all {e : PS → Rp PS} (he : PartAll T N e) : PartAll T N (bracketP e) := by
  intro s s1 hs h hg
  unfold bracketP at hs
  split at hs
  · rename_i hi
    exact openP_all (innerP_all he) hs h (by rw [is_kind hi]; decide) hg
  · cases hs
theorem oneP_all (hL : Lays T N) {e : PS → Rp PS} (he : PartAll T N e) : PartAll T N (oneP e) := by
  intro s s1 hs h hg
  obtain ⟨M, hM5, hM⟩ := hg
  unfold oneP at hs
  split at hs
  · rename_i h1
    injection hs with hs
    subst hs
    exact h.on.lay (hL.num _ (h.hd hM) h1)
  · split at hs
    · exact bracketP_all he _ _ hs h ⟨M, hM5, hM⟩
    · split at hs
      · rename_i h1
        have hk : s.hd.kind ≠ 0 := by rw [h1.1]; decide
        split at hs
        · cases hs
        · rename_i s2 h2
          injection hs with hs
          subst hs
          exact (bracketP_all he _ _ h2 h.on ⟨M, hM5, hM.on hk⟩).lay (hL.call _ (by omega) (by
            have : numW funcsL s.hd.text < 13 := numW_lt (n := 13) rfl (by decide)
            omega))
      · split at hs
        · rename_i h1
          have hk : s.hd.kind ≠ 0 := by rw [h1.1]; decide
          split at hs
          · cases hs
          · rename_i s2 g l hgr
            split at hs
            · cases hs
            · rename_i s3 h3
              injection hs with hs
              subst hs
              obtain ⟨a1, a2, a3⟩ := group_all hgr h.on
              have hst := (Step.on hk).trans (group_step hgr).1
              have hln := (group_step hgr).2 _ (hM.on1 hk)
              have hl2 := (Step.on hk).len M hM
              have hro := hM.room
              refine (bracketP_all he _ _ h3 a1 ⟨_, by omega, hst.good M hM⟩).lay (hL.agg _ _ _ (by omega) ?_ a3 a2 (by omega))
              have : numW aggsL s.hd.text < 6 := numW_lt (n := 6) rfl (by decide)
              omega
        · exact choose_all hL hs h hM
theorem unaryP_all (hL : Lays T N) : ∀ n, PartAll T N (unaryP n)
  | 0 => fun s s1 hs _ _ => by simp [unaryP] at hs
  | n + 1 => fun s s1 hs h hg => by
    have ih := unaryP_all hL n
    rw [unaryP] at hs
    split at hs
    · rename_i hi
      split at hs
      · cases hs
      · rename_i s2 h2
        injection hs with hs
        subst hs
        exact (openP_all ih h2 h (by rw [is_kind hi]; decide) hg).lay hL.neg
    · exact oneP_all hL (orP_all hL ih (unaryP_ok n)) _ _ hs h hg
end
/-- What is read: all that is laid. -/
theorem parseR_all {T : Tok → Prop} {N : Nod → Prop} (hL : Lays T N) {s : ByteArray} (hT : ∀ x, lexR s = .ok x → ∀ t ∈ x, T t) : ∀ x ∈ (parseR s).1, N x := by
  unfold parseR
  split
  · intro x hx; cases hx
  · rename_i ts hl
    split
    · intro x hx; cases hx
    · rename_i st hr
      split
      · exact (orP_all hL (unaryP_all hL ts.length) (unaryP_ok _) _ _ hr ⟨hT ts hl, fun x hx => by cases hx⟩ ⟨5000, Nat.le_refl _, lexR_good hl⟩).out
      · intro x hx; cases hx
theorem parseR_len (s : ByteArray) : (parseR s).1.length ≤ 5000 := by
  unfold parseR
  split
  · simp
  · rename_i ts hl
    split
    · simp
    · rename_i st hr
      split
      · have := ((orP_ok (unaryP_ok ts.length) _ _ hr).2 5000 (lexR_good hl)).1.room
        dsimp only
        omega
      · simp
theorem okNod_lays : Lays (fun _ => True) okNod where
  num _ _ _ := ⟨by simp [numN], by simp [numN]⟩
  sel ms k w b hm _ _ := ⟨by
    have : ms.length ≤ 8 := by
      rcases Nat.lt_or_ge 8 ms.length with h | h
      · rw [matCode, if_pos h] at hm; simp at hm
      · exact h
    simp only [selN]; omega, by simp [selN]⟩
  call _ _ _ := ⟨by simp [callN], by simp [callN]⟩
  agg _ _ l _ _ _ _ hl := ⟨by simp [aggN], by simp only [aggN]; omega⟩
  bin _ _ l _ _ _ _ _ hl _ := ⟨by simp [binN], by simp only [binN]; omega⟩
  neg := ⟨by simp [negN], by simp [negN]⟩
theorem parseR_okNod (s : ByteArray) : ∀ x ∈ (parseR s).1, okNod x := parseR_all okNod_lays fun _ _ _ _ => trivial
end
section
/-! ## SpoM -/
open Go.RowKit

/-- The block g has just m cells, and may be written. -/
def WrX (w : World) (g : Nat) (e : TypeId) (m : Nat) : Prop := ∃ cur, w.heap[g]? = some (.cells cur e (0, 0)) ∧ cur.size = m
section
variable {w w' : World} {g m B base hi sz n c : Nat} {e : TypeId} {A : Option Addr} {xs : List (List Value)}
theorem WrX.lt (h : WrX w g e m) : g < w.heap.size := by obtain ⟨cur, h, _⟩ := h; exact (Array.getElem?_eq_some_iff.1 h).1
theorem WrX.wr (h : WrX w g e m) : Wr w g e m := by obtain ⟨cur, h, hm⟩ := h; exact ⟨cur, h, by omega⟩
theorem WrX.keep (h : WrX w g e m) (hk : w'.heap[g]? = w.heap[g]?) : WrX w' g e m := by obtain ⟨cur, h, hm⟩ := h; exact ⟨cur, hk.trans h, hm⟩
theorem WrX.setCell (h : WrX w g e m) (a : Addr) (u : Value) : WrX (w.setCell a u) g e m := by
  by_cases ha : g = a.block
  · obtain ⟨cur, h, hm⟩ := h
    obtain ⟨b, o, sp⟩ := a
    simp only at ha
    subst ha
    simp only [WrX, World.setCell, Array.getElem?_modify, h, if_true, Option.map_some]
    cases sp <;> exact ⟨_, rfl, by simpa using hm⟩
  · exact h.keep (Below.heap_setCell w a u g ha)
theorem WrX.grown {row : Option Nat} (h : WrX w g e m) (hg : w.grownBy w' row) (hr : some g ≠ row) : WrX w' g e m := h.keep (hg.block g h.lt hr)
theorem WrX.below (h : WrX w g e m) (hb : Below B w w') (hg : g < B) : WrX w' g e m := h.keep (hb.block g hg)
theorem WrX.one {e2 : TypeId} {m2 : Nat} (h : WrX w g e m) (k : WrX w g e2 m2) : e = e2 ∧ m = m2 := by
  obtain ⟨c1, h1, h2⟩ := h
  obtain ⟨c2, k1, k2⟩ := k
  rw [h1] at k1
  injection k1 with k1
  injection k1 with k1 k3
  subst k1
  exact ⟨k3, by omega⟩
theorem Own.wrx (h : Own w base e sz A n c xs) {b o : Nat} (hA : A = some ⟨b, o, none⟩) : o = 0 ∧ WrX w b e (c * sz) := by
  rcases h.2.2.2.2 with ⟨hv, _⟩ | ⟨g, cap, cur, hv, _, hg, _, _, hcs, _⟩
  · injection hv with h1; rw [hA] at h1; cases h1
  · injection hv with h1 _ h3
    rw [hA] at h1
    injection h1 with h1
    injection h1 with e1 e2
    subst e1 e2 h3
    exact ⟨rfl, cur, hg, hcs⟩
/-- A slice that may be written, whatever it says. -/
def Slot (w : World) (base hi : Nat) (e : TypeId) (sz : Nat) (A : Option Addr) (n c : Nat) : Prop :=
  0 < sz ∧ n ≤ c ∧ c ≤ maxLen ∧ ((A = none ∧ n = 0 ∧ c = 0) ∨ ∃ g, A = some ⟨g, 0, none⟩ ∧ base ≤ g ∧ g < hi ∧ WrX w g e (c * sz))
theorem chunks {sz : Nat} : ∀ (n : Nat) (l : List Value), l.length = n * sz → ∃ xs : List (List Value), (∀ x ∈ xs, x.length = sz) ∧ xs.length = n ∧ xs.flatten = l
  | 0, l, h => ⟨[], by simp, rfl, by
    have : l.length = 0 := by simpa using h
    rw [List.eq_nil_of_length_eq_zero this]; rfl⟩
  | n + 1, l, h => by
    rw [Nat.succ_mul] at h
    obtain ⟨xs, h1, h2, h3⟩ := chunks n (l.drop sz) (by rw [List.length_drop, h, Nat.add_sub_cancel])
    refine ⟨l.take sz :: xs, fun x hx => ?_, by simp [h2], by simp [h3]⟩
    rcases List.mem_cons.1 hx with h4 | h4
    · rw [h4, List.length_take, h]; exact Nat.min_eq_left (Nat.le_add_left _ _)
    · exact h1 x h4
theorem Slot.own (h : Slot w base hi e sz A n c) : ∃ xs, Own w base e sz A n c xs := by
  obtain ⟨h1, h2, h3, h4⟩ := h
  rcases h4 with ⟨rfl, rfl, rfl⟩ | ⟨g, rfl, h5, _, cur, h6, h7⟩
  · exact ⟨[], Own.nil_ h1⟩
  · have hl : (cur.toList.take (n * sz)).length = n * sz := by
      rw [List.length_take, Array.length_toList, h7]
      exact Nat.min_eq_left (Nat.mul_le_mul_right _ h2)
    obtain ⟨xs, k1, k2, k3⟩ := chunks n _ hl
    exact ⟨xs, h1, k1, k2, by rw [k3]; exact hl, .inr ⟨g, c, cur, rfl, h5, h6, h2, h3, h7, k3.symm⟩⟩
theorem Own.slot (h : Own w base e sz A n c xs) (hh : w.heap.size ≤ hi) : Slot w base hi e sz A n c := by
  refine ⟨h.1, h.cap.1, h.cap.2, ?_⟩
  rcases h.form with h1 | ⟨g, h1, h2, h3⟩
  · exact .inl h1
  · exact .inr ⟨g, h1, h2, by omega, (h.wrx h1).2⟩
theorem Slot.keep (h : Slot w base hi e sz A n c) (hk : ∀ g, base ≤ g → g < hi → ∀ m, WrX w g e m → WrX w' g e m) : Slot w' base hi e sz A n c := by
  obtain ⟨h1, h2, h3, h4⟩ := h
  refine ⟨h1, h2, h3, ?_⟩
  rcases h4 with h4 | ⟨g, h4, h5, h6, h7⟩
  · exact .inl h4
  · exact .inr ⟨g, h4, h5, h6, hk g h5 h6 _ h7⟩
theorem Slot.within (h : Slot w base hi e sz A n c) {b : Nat} (hb : A.map Addr.block = some b) : base ≤ b ∧ b < hi := by
  rcases h.2.2.2 with ⟨rfl, _⟩ | ⟨g, rfl, h5, h6, _⟩
  · cases hb
  · injection hb with hb; subst hb; exact ⟨h5, h6⟩
theorem spoil_kept (hO : Own w base e sz A n c xs) (hg : w.grownBy w' (A.map Addr.block)) (hW : ∀ b o, A = some ⟨b, o, none⟩ → o = 0 ∧ WrX w' b e (c * sz)) : ∀ g e2 m, WrX w g e2 m → WrX w' g e2 m := by
  intro g e2 m h
  by_cases hr : some g = A.map Addr.block
  · cases A with
    | none => cases hr
    | some a =>
      rcases hO.form with ⟨h1, _⟩ | ⟨g2, h1, _⟩
      · cases h1
      · injection h1 with h1
        subst h1
        injection hr with hr
        subst hr
        obtain ⟨r1, r2⟩ := h.one (hO.wrx rfl).2
        rw [r1, r2]
        exact (hW _ _ rfl).2
  · exact h.grown hg hr
end
set_option maxRecDepth 100000 in
set_option maxHeartbeats 2000000 in
theorem spoilMatchers2_any (A : Option Addr) (n c base hi : Nat) (w : World) (hS : Slot w base hi 45 3 A n c) (hn : (n + 1) * 40 ≤ 140737488355328) (hbase : base ≤ w.heap.size) :
    Calls Try.prog 31 #[.slice A n c] w fun e w' => e = .returned (.tuple #[]) ∧ w.grownBy w' (A.map Addr.block) ∧ (∀ g e m, WrX w g e m → WrX w' g e m) := by
  obtain ⟨xs, hO⟩ := hS.own
  have HO := Lib.hid hO
  have hE : EI Try.prog 34 45 3 40 := EI.mk' Try.underlying34 (z := .agg #[.int .i64 0, .string ByteArray.empty, .string ByteArray.empty]) (by kernel_rfl) rfl (by omega)
  have hcap := hO.cap
  go_enter Try.func31, Try.ntmps31
  go_wp2_with (at_builtin; refine wpList_append_ex (ys := [[.int .i64 77, .string ByteArray.empty, .string ByteArray.empty]]) _ rfl (.tmp 5) (.tmp 7) _ rfl hE rfl (hO.alloc _) rfl (Rd.new w (xs := [[.int .i64 77, .string ByteArray.empty, .string ByteArray.empty]]) (by simp) _ rfl) rfl (by simp [Value.oneCell']) (by simp only [maxLen]; omega) (by omega) (by simp; omega) ?_; intro A' c' w2 ho hg hat hb)
  have hgr : w.grownBy w2 (A.map Addr.block) := ⟨hg.os, hg.tape, hg.output, by have := hg.size; simp at this; omega, fun k hk hr => (hg.block k (by simp; omega) hr).trans (Below.heap_alloc w _ k hk)⟩
  obtain ⟨g', rfl, hg'⟩ : ∃ g', A' = some ⟨g', 0, none⟩ ∧ (some g' = A.map Addr.block ∨ w.heap.size ≤ g') := by
    rcases ho.form with ⟨_, h0, _⟩ | ⟨g', h, _⟩
    · omega
    · refine ⟨g', h, ?_⟩
      rcases hat with ⟨h1, _⟩ | ⟨h1, _⟩
      · left; rw [← h1, h]; rfl
      · right; rw [h] at h1; injection h1 with h1; injection h1 with h1; simp at h1; omega
  obtain ⟨_, _, hW1⟩ := ho.wr _ _ rfl
  have hW2 : ∀ b o, A = some ⟨b, o, none⟩ → o = 0 ∧ WrX w2 b 45 (c * 3) := by
    intro b o hA
    obtain ⟨h1, h2⟩ := hO.wrx hA
    refine ⟨h1, ?_⟩
    rcases hat with ⟨h3, h4⟩ | ⟨_, h3⟩
    · rw [hA] at h3
      obtain ⟨_, h5⟩ := ho.wrx h3
      rw [h4] at h5
      exact h5
    · exact (h2.keep (Below.heap_alloc w _ b h2.lt)).grown h3 (by simp)
  have hcap' := ho.cap
  have hW1 := hW1.less (m' := (n + 1) * 3) (Nat.mul_le_mul_right _ hcap'.1)
  clear hg hat hb ho
  have hn1 : (0 : Int) ≤ n := by omega
  go_loopw [3] (fun i wr => ∃ k : Nat, k ≤ n + 1 ∧ i = .int .i64 k ∧ w.grownBy wr (A.map Addr.block) ∧ Wr wr g' 45 ((n + 1) * 3) ∧ (∀ b o, A = some ⟨b, o, none⟩ → o = 0 ∧ WrX wr b 45 (c * 3))) (fun i _ => n + 1 - (intOf i).toNat)
  case atStart => exact ⟨0, by omega, rfl, hgr, hW1, hW2⟩
  case round =>
    clear hgr hW1 hW2
    obtain ⟨k, hk, rfl, hgr, hW1, hW2⟩ := hrel
    have hk0 : (0 : Int) ≤ k := by omega
    by_cases hlt : k < n + 1
    · have hltI : (k : Int) < (n : Int) + 1 := by omega
      have hltJ : (k : Int) < ((n + 1 : Nat) : Int) := by omega
      obtain ⟨v0, p0⟩ := hW1.cell (j := k * 3) (by omega)
      obtain ⟨v1, p1⟩ := hW1.cell (j := k * 3 + 1) (by omega)
      obtain ⟨v2, p2⟩ := hW1.cell (j := k * 3 + 2) (by omega)
      have hfz := hW1.frozen
      have HW1 := Lib.hid hW1
      have HW2 := Lib.hid hW2
      clear hW1 hW2
      go_wp2
      go_roundw
      case rel => exact ⟨k + 1, by omega, by go_num, (grownBy_setCell (grownBy_setCell (grownBy_setCell hgr (by simpa using hg') _) (by simpa using hg') _) (by simpa using hg') _), (((HW1.out.setCell _ _).setCell _ _).setCell _ _), fun b o hA => ⟨(HW2.out b o hA).1, ((((HW2.out b o hA).2.setCell _ _).setCell _ _).setCell _ _)⟩⟩
      case measure => simp [intOf]; omega
    · have hltI : ¬ (k : Int) < (n : Int) + 1 := by omega
      have hltJ : ¬ (k : Int) < ((n + 1 : Nat) : Int) := by omega
      go_wp2
      go_loopw [4] (fun i wr => ∃ k : Nat, k ≤ n ∧ i = .int .i64 k ∧ w.grownBy wr (A.map Addr.block) ∧ (∀ b o, A = some ⟨b, o, none⟩ → o = 0 ∧ WrX wr b 45 (c * 3))) (fun i _ => n - (intOf i).toNat)
      case atStart => exact ⟨0, by omega, rfl, hgr, hW2⟩
      case round =>
        clear hgr hW1 hW2 hltI hltJ hlt hk hk0
        obtain ⟨k, hk, rfl, hgr, hW2⟩ := hrel
        have hk0 : (0 : Int) ≤ k := by omega
        by_cases hlt : k < n
        · have hltI : (k : Int) < (n : Int) := by omega
          obtain ⟨g, rfl⟩ : ∃ g, A = some ⟨g, 0, none⟩ := by
            rcases hO.form with ⟨_, h0, _⟩ | ⟨g, h, _⟩
            · omega
            · exact ⟨g, h⟩
          have hX1 := (hW2 g 0 rfl).2
          have hW1 := hX1.wr.less (m' := n * 3) (Nat.mul_le_mul_right _ hcap.1)
          obtain ⟨v0, p0⟩ := hW1.cell (j := k * 3) (by omega)
          obtain ⟨v1, p1⟩ := hW1.cell (j := k * 3 + 1) (by omega)
          obtain ⟨v2, p2⟩ := hW1.cell (j := k * 3 + 2) (by omega)
          have hfz := hW1.frozen
          have HW1 := Lib.hid hX1
          clear hW1 hW2 hX1
          go_wp2
          go_roundw
          case rel => exact ⟨k + 1, by omega, by go_num, (grownBy_setCell (grownBy_setCell (grownBy_setCell hgr (by simp) _) (by simp) _) (by simp) _), fun b o hA => by injection hA with hA; injection hA with e1 e2; subst e1 e2; exact ⟨rfl, (((HW1.out.setCell _ _).setCell _ _).setCell _ _)⟩⟩
          case measure => simp [intOf]; omega
        · have hltI : ¬ (k : Int) < (n : Int) := by omega
          have HW2 := Lib.hid hW2
          clear hW2
          go_wp2
          go_end0
          exact ⟨rfl, hgr, spoil_kept HO.out hgr HW2.out⟩
set_option maxRecDepth 100000 in
set_option maxHeartbeats 2000000 in
theorem spoilTexts2_any (A : Option Addr) (n c base hi : Nat) (w : World) (hS : Slot w base hi 9 1 A n c) (hn : (n + 1) * 16 ≤ 140737488355328) (hbase : base ≤ w.heap.size) :
    Calls Try.prog 32 #[.slice A n c] w fun e w' => e = .returned (.tuple #[]) ∧ w.grownBy w' (A.map Addr.block) ∧ (∀ g e m, WrX w g e m → WrX w' g e m) := by
  obtain ⟨xs, hO⟩ := hS.own
  have HO := Lib.hid hO
  have hcap := hO.cap
  go_enter Try.func32, Try.ntmps32
  go_wp2_with (at_builtin; refine wpList_append_ex (ys := [[.string ⟨#[115, 112, 111, 105, 108, 116]⟩]]) _ rfl (.tmp 5) (.tmp 6) _ rfl eiTexts rfl (hO.alloc _) rfl (Rd.new w (xs := [[.string ⟨#[115, 112, 111, 105, 108, 116]⟩]]) (by simp) _ rfl) rfl (by simp [Value.oneCell']) (by simp only [maxLen]; omega) (by omega) (by simp; omega) ?_; intro A' c' w2 ho hg hat hb)
  have hgr : w.grownBy w2 (A.map Addr.block) := ⟨hg.os, hg.tape, hg.output, by have := hg.size; simp at this; omega, fun k hk hr => (hg.block k (by simp; omega) hr).trans (Below.heap_alloc w _ k hk)⟩
  obtain ⟨g', rfl, hg'⟩ : ∃ g', A' = some ⟨g', 0, none⟩ ∧ (some g' = A.map Addr.block ∨ w.heap.size ≤ g') := by
    rcases ho.form with ⟨_, h0, _⟩ | ⟨g', h, _⟩
    · omega
    · refine ⟨g', h, ?_⟩
      rcases hat with ⟨h1, _⟩ | ⟨h1, _⟩
      · left; rw [← h1, h]; rfl
      · right; rw [h] at h1; injection h1 with h1; injection h1 with h1; simp at h1; omega
  obtain ⟨_, _, hW1⟩ := ho.wr _ _ rfl
  have hW2 : ∀ b o, A = some ⟨b, o, none⟩ → o = 0 ∧ WrX w2 b 9 (c * 1) := by
    intro b o hA
    obtain ⟨h1, h2⟩ := hO.wrx hA
    refine ⟨h1, ?_⟩
    rcases hat with ⟨h3, h4⟩ | ⟨_, h3⟩
    · rw [hA] at h3
      obtain ⟨_, h5⟩ := ho.wrx h3
      rw [h4] at h5
      exact h5
    · exact (h2.keep (Below.heap_alloc w _ b h2.lt)).grown h3 (by simp)
  have hcap' := ho.cap
  have hW1 := hW1.less (m' := (n + 1) * 1) (Nat.mul_le_mul_right _ hcap'.1)
  clear hg hat hb ho
  have hn1 : (0 : Int) ≤ n := by omega
  go_loopw [3] (fun i wr => ∃ k : Nat, k ≤ n + 1 ∧ i = .int .i64 k ∧ w.grownBy wr (A.map Addr.block) ∧ Wr wr g' 9 ((n + 1) * 1) ∧ (∀ b o, A = some ⟨b, o, none⟩ → o = 0 ∧ WrX wr b 9 (c * 1))) (fun i _ => n + 1 - (intOf i).toNat)
  case atStart => exact ⟨0, by omega, rfl, hgr, hW1, hW2⟩
  case round =>
    clear hgr hW1 hW2
    obtain ⟨k, hk, rfl, hgr, hW1, hW2⟩ := hrel
    have hk0 : (0 : Int) ≤ k := by omega
    by_cases hlt : k < n + 1
    · have hltI : (k : Int) < (n : Int) + 1 := by omega
      have hltJ : (k : Int) < ((n + 1 : Nat) : Int) := by omega
      obtain ⟨v0, p0⟩ := hW1.cell (j := k) (by omega)
      have hfz := hW1.frozen
      have HW1 := Lib.hid hW1
      have HW2 := Lib.hid hW2
      clear hW1 hW2
      go_wp2
      go_roundw
      case rel => exact ⟨k + 1, by omega, by go_num, grownBy_setCell hgr (by simpa using hg') _, HW1.out.setCell _ _, fun b o hA => ⟨(HW2.out b o hA).1, (HW2.out b o hA).2.setCell _ _⟩⟩
      case measure => simp [intOf]; omega
    · have hltI : ¬ (k : Int) < (n : Int) + 1 := by omega
      have hltJ : ¬ (k : Int) < ((n + 1 : Nat) : Int) := by omega
      go_wp2
      go_loopw [4] (fun i wr => ∃ k : Nat, k ≤ n ∧ i = .int .i64 k ∧ w.grownBy wr (A.map Addr.block) ∧ (∀ b o, A = some ⟨b, o, none⟩ → o = 0 ∧ WrX wr b 9 (c * 1))) (fun i _ => n - (intOf i).toNat)
      case atStart => exact ⟨0, by omega, rfl, hgr, hW2⟩
      case round =>
        clear hgr hW1 hW2 hltI hltJ hlt hk hk0
        obtain ⟨k, hk, rfl, hgr, hW2⟩ := hrel
        have hk0 : (0 : Int) ≤ k := by omega
        by_cases hlt : k < n
        · have hltI : (k : Int) < (n : Int) := by omega
          obtain ⟨g, rfl⟩ : ∃ g, A = some ⟨g, 0, none⟩ := by
            rcases hO.form with ⟨_, h0, _⟩ | ⟨g, h, _⟩
            · omega
            · exact ⟨g, h⟩
          have hX1 := (hW2 g 0 rfl).2
          have hW1 := hX1.wr.less (m' := n * 1) (Nat.mul_le_mul_right _ hcap.1)
          obtain ⟨v0, p0⟩ := hW1.cell (j := k) (by omega)
          have hfz := hW1.frozen
          have HW1 := Lib.hid hX1
          clear hW1 hW2 hX1
          go_wp2
          go_roundw
          case rel => exact ⟨k + 1, by omega, by go_num, grownBy_setCell hgr (by simp) _, fun b o hA => by injection hA with hA; injection hA with e1 e2; subst e1 e2; exact ⟨rfl, HW1.out.setCell _ _⟩⟩
          case measure => simp [intOf]; omega
        · have hltI : ¬ (k : Int) < (n : Int) := by omega
          have HW2 := Lib.hid hW2
          clear hW2
          go_wp2
          go_end0
          exact ⟨rfl, hgr, spoil_kept HO.out hgr HW2.out⟩
end
section
/-! ## SpoN -/
open Go.RowKit

theorem cell_far {w : World} {g o o' : Nat} {u : Value} (h : o ≠ o') : (w.setCell ⟨g, o, none⟩ u).cell? ⟨g, o', none⟩ = w.cell? ⟨g, o', none⟩ := World.cell?_setCell_other w _ _ _ (by intro e; injection e with _ e2; exact h e2)
/-- Only blocks from lo up to hi, and new ones, have turned. -/
def SpB (lo hi : Nat) (w w' : World) : Prop := w'.os = w.os ∧ w'.tape = w.tape ∧ w'.output = w.output ∧ w.heap.size ≤ w'.heap.size ∧ ∀ b, b < w.heap.size → ¬ (lo ≤ b ∧ b < hi) → w'.heap[b]? = w.heap[b]?
section
variable {w w' w2 : World} {lo hi B : Nat}
theorem SpB.refl (lo hi : Nat) (w : World) : SpB lo hi w w := ⟨rfl, rfl, rfl, Nat.le_refl _, fun _ _ _ => rfl⟩
theorem SpB.grown {row : Option Nat} (h : SpB lo hi w w') (hg : w'.grownBy w2 row) (hr : ∀ g, row = some g → lo ≤ g ∧ g < hi) : SpB lo hi w w2 := by
  obtain ⟨h1, h2, h3, h4, h5⟩ := h
  exact ⟨hg.os.trans h1, hg.tape.trans h2, hg.output.trans h3, Nat.le_trans h4 hg.size, fun b hb hn => (hg.block b (by omega) (fun e => hn (hr b e.symm))).trans (h5 b hb hn)⟩
theorem SpB.setCell (h : SpB lo hi w w') {a : Addr} (ha : lo ≤ a.block ∧ a.block < hi) (u : Value) : SpB lo hi w (w'.setCell a u) := by
  obtain ⟨h1, h2, h3, h4, h5⟩ := h
  exact ⟨h1, h2, h3, by simpa using h4, fun b hb hn => (Below.heap_setCell w' a u b (by rintro rfl; exact hn ha)).trans (h5 b hb hn)⟩
theorem SpB.below (h : SpB lo hi w w') (hB : B ≤ lo) (hs : B ≤ w.heap.size) : Below B w w' := by
  obtain ⟨h1, h2, h3, h4, h5⟩ := h
  exact ⟨h1, h2, h3, h4, fun b hb => h5 b (by omega) (by omega)⟩
theorem OwnNods.spb {base n c : Nat} {A : Option Addr} {ns : List Nod} (h : OwnNods w base A n c ns) (hs : SpB lo hi w w') (hb : hi ≤ base) : OwnNods w' base A n c ns := by
  obtain ⟨cs, h1, h2, h3⟩ := h
  have hk : ∀ {e : TypeId} {sz n c : Nat} {A : Option Addr} {xs : List (List Value)}, Own w base e sz A n c xs → Own w' base e sz A n c xs := fun h => h.same fun b hb' => hs.2.2.2.2 b (h.block hb').2 (by have := (h.block hb').1; omega)
  refine ⟨cs, hk h1, h2, fun k s hs => ?_⟩
  obtain ⟨Am, cm, An, cn, hx, ho, hp⟩ := h3 k s hs
  exact ⟨Am, cm, An, cn, hx, hk ho, hk hp⟩
end
def smallNod (x : Nod) : Prop := x.mat.length ≤ 5000 ∧ x.names.length ≤ 5000
theorem smallNod_lays : Lays (fun _ => True) smallNod where
  num _ _ _ := ⟨by simp [numN], by simp [numN]⟩
  sel ms k w b hm _ _ := ⟨by
    have : ms.length ≤ 8 := by
      rcases Nat.lt_or_ge 8 ms.length with h | h
      · rw [matCode, if_pos h] at hm; simp at hm
      · exact h
    simp only [selN]; omega, by simp [selN]⟩
  call _ _ _ := ⟨by simp [callN], by simp [callN]⟩
  agg _ _ l _ _ _ _ hl := ⟨by simp [aggN], by simp only [aggN]; omega⟩
  bin _ _ l _ _ _ _ _ hl _ := ⟨by simp [binN], by simp only [binN]; omega⟩
  neg := ⟨by simp [negN], by simp [negN]⟩
theorem parseR_smallNod (s : ByteArray) : ∀ x ∈ (parseR s).1, smallNod x := parseR_all smallNod_lays fun _ _ _ _ => trivial
/-- Nodes from k on may be written over. -/
def NodsW (w : World) (base hi : Nat) (A : Option Addr) (n c : Nat) (ns : List Nod) (k : Nat) : Prop :=
  Slot w base hi 37 10 A n c ∧ ∀ (j : Nat) (x : Nod), k ≤ j → ns[j]? = some x → ∃ g Am cm An cn, A = some ⟨g, 0, none⟩ ∧ w.cell? ⟨g, j * 10 + 3, none⟩ = some (.slice Am x.mat.length cm) ∧ w.cell? ⟨g, j * 10 + 7, none⟩ = some (.slice An x.names.length cn) ∧
    Slot w base hi 45 3 Am x.mat.length cm ∧ Slot w base hi 9 1 An x.names.length cn
theorem OwnNods.nodsW {w : World} {base hi n c : Nat} {A : Option Addr} {ns : List Nod} (h : OwnNods w base A n c ns) (hh : w.heap.size ≤ hi) : NodsW w base hi A n c ns 0 := by
  obtain ⟨cs, h1, h2, h3⟩ := h
  refine ⟨h1.slot hh, fun j x _ hx => ?_⟩
  obtain ⟨Am, cm, An, cn, hy, ho, hp⟩ := h3 j x hx
  rcases h1.form with ⟨_, h0, _⟩ | ⟨g, hA, _⟩
  · have := (List.getElem?_eq_some_iff.1 hx).1
    omega
  · obtain ⟨b, o, e, _, hc⟩ := h1.rd.2 (by rintro rfl; simp at hy)
    rw [hA] at e
    injection e with e
    injection e with e1 e2
    subst e1 e2
    exact ⟨g, Am, cm, An, cn, hA, by simpa using hc j _ 3 _ hy rfl, by simpa using hc j _ 7 _ hy rfl, ho.slot hh, hp.slot hh⟩
theorem NodsW.keep {w w' : World} {base hi n c k k' : Nat} {A : Option Addr} {ns : List Nod} (h : NodsW w base hi A n c ns k) (hk : k ≤ k') (hW : ∀ g e m, WrX w g e m → WrX w' g e m) (hc : ∀ g, A = some ⟨g, 0, none⟩ → ∀ j, k' ≤ j → w'.cell? ⟨g, j * 10 + 3, none⟩ = w.cell? ⟨g, j * 10 + 3, none⟩ ∧ w'.cell? ⟨g, j * 10 + 7, none⟩ = w.cell? ⟨g, j * 10 + 7, none⟩) : NodsW w' base hi A n c ns k' := by
  obtain ⟨h1, h2⟩ := h
  refine ⟨h1.keep fun g _ _ m => hW g _ m, fun j x hj hx => ?_⟩
  obtain ⟨g, Am, cm, An, cn, e, c3, c7, s3, s7⟩ := h2 j x (by omega) hx
  obtain ⟨d3, d7⟩ := hc g e j hj
  exact ⟨g, Am, cm, An, cn, e, d3.trans c3, d7.trans c7, s3.keep fun g _ _ m => hW g _ m, s7.keep fun g _ _ m => hW g _ m⟩
theorem NodsW.grown {w w' : World} {base hi n c k : Nat} {A X : Option Addr} {ns : List Nod} (h : NodsW w base hi A n c ns k) (hW : ∀ g e m, WrX w g e m → WrX w' g e m) (hg : w.grownBy w' (X.map Addr.block)) {sz n2 c2 : Nat} {e : TypeId} (hX : Slot w base hi e sz X n2 c2) (he : e ≠ 37) : NodsW w' base hi A n c ns k := by
  refine h.keep (Nat.le_refl _) hW fun g hA j _ => ?_
  have hne : some g ≠ X.map Addr.block := by
    intro hh
    rcases hX.2.2.2 with ⟨rfl, _⟩ | ⟨g2, rfl, _, _, hx⟩
    · cases hh
    · injection hh with hh
      subst hh
      rcases h.1.2.2.2 with ⟨h0, _⟩ | ⟨g3, h0, _, _, hn⟩
      · rw [hA] at h0; cases h0
      · rw [hA] at h0
        injection h0 with h0
        injection h0 with h0
        subst h0
        exact he (hx.one hn).1
  have hlt : g < w.heap.size := by
    rcases h.1.2.2.2 with ⟨h0, _⟩ | ⟨g3, h0, _, _, hn⟩
    · rw [hA] at h0; cases h0
    · rw [hA] at h0
      injection h0 with h0
      injection h0 with h0
      subst h0
      exact hn.lt
  exact ⟨World.cell?_of_block (hg.block g hlt hne), World.cell?_of_block (hg.block g hlt hne)⟩
theorem NodsW.one {w : World} {base hi n c k o : Nat} {g : Nat} {ns : List Nod} (h : NodsW w base hi (some ⟨g, 0, none⟩) n c ns k) (ho : o < (k + 1) * 10) (u : Value) : NodsW (w.setCell ⟨g, o, none⟩ u) base hi (some ⟨g, 0, none⟩) n c ns (k + 1) :=
  h.keep (Nat.le_succ _) (fun _ _ _ h => h.setCell _ _) fun g' hA j hj => by
    injection hA with hA
    injection hA with hA
    subst hA
    exact ⟨cell_far (by omega), cell_far (by omega)⟩
theorem NodsW.more {w : World} {base hi n c k o : Nat} {g : Nat} {ns : List Nod} (h : NodsW w base hi (some ⟨g, 0, none⟩) n c ns (k + 1)) (ho : o < (k + 1) * 10) (u : Value) : NodsW (w.setCell ⟨g, o, none⟩ u) base hi (some ⟨g, 0, none⟩) n c ns (k + 1) :=
  h.keep (Nat.le_refl _) (fun _ _ _ h => h.setCell _ _) fun g' hA j hj => by
    injection hA with hA
    injection hA with hA
    subst hA
    exact ⟨cell_far (by omega), cell_far (by omega)⟩
theorem NodsW.spoilt {w : World} {base hi n c k : Nat} {g : Nat} {ns : List Nod} (h : NodsW w base hi (some ⟨g, 0, none⟩) n c ns k) (v0 v1 v2 v3 v4 v5 v6 v7 v8 v9 : Value) :
    NodsW ((((((((((w.setCell ⟨g, k * 10, none⟩ v0).setCell ⟨g, k * 10 + 1, none⟩ v1).setCell ⟨g, k * 10 + 2, none⟩ v2).setCell ⟨g, k * 10 + 3, none⟩ v3).setCell ⟨g, k * 10 + 4, none⟩ v4).setCell ⟨g, k * 10 + 5, none⟩ v5).setCell ⟨g, k * 10 + 6, none⟩ v6).setCell ⟨g, k * 10 + 7, none⟩ v7).setCell ⟨g, k * 10 + 8, none⟩ v8).setCell ⟨g, k * 10 + 9, none⟩ v9) base hi (some ⟨g, 0, none⟩) n c ns (k + 1) :=
  (((((((((h.one (by omega) v0).more (by omega) v1).more (by omega) v2).more (by omega) v3).more (by omega) v4).more (by omega) v5).more (by omega) v6).more (by omega) v7).more (by omega) v8).more (by omega) v9
set_option maxRecDepth 100000 in
set_option maxHeartbeats 4000000 in
theorem spoilNodes_any (ns : List Nod) (A : Option Addr) (n c base hi : Nat) (w : World) (hS : NodsW w base hi A n c ns 0) (hn : ns.length = n) (hx : ∀ x ∈ ns, smallNod x) (hbase : base ≤ w.heap.size) :
    Calls Try.prog 12 #[.slice A n c] w fun e w' => e = .returned (.tuple #[]) ∧ SpB base hi w w' := by
  have Hn := Lib.hid hn
  have HX := Lib.hid hx
  have hcap := hS.1.2.1
  have hmax := hS.1.2.2.1
  have HS := Lib.hid hS
  unfold maxLen at hmax
  clear hn hx hS
  go_enter Try.func12, Try.ntmps12
  go_wp2_with fail
  go_loopw [2] (fun i wr => ∃ k : Nat, i = .int .i64 k ∧ k ≤ n ∧ Hid (NodsW wr base hi A n c ns k) ∧ SpB base hi w wr) (fun i _ => n - (intOf i).toNat)
  case atStart => exact ⟨0, rfl, Nat.zero_le _, HS, SpB.refl _ _ _⟩
  case round =>
    clear HS
    obtain ⟨k, rfl, hk, HW, hsp⟩ := hrel
    have HSp := Lib.hid hsp
    have hk0 : (0 : Int) ≤ k := by omega
    by_cases hlt : k < n
    · obtain ⟨x, hx⟩ := get_lt Hn hlt
      obtain ⟨sm1, sm2⟩ := HX.out x (List.mem_of_getElem? hx)
      obtain ⟨g, Am, cm, An, cn, rfl, c3, c7, s3, s7⟩ := HW.out.2 k x (Nat.le_refl _) hx
      have hltI : (k : Int) < (n : Int) := by omega
      have HC3 := Lib.hid (spoilMatchers2_any Am x.mat.length cm base hi wr s3 (by omega) (Nat.le_trans hbase hsp.2.2.2.1))
      have S3 := Lib.hid s3
      have HKx := Lib.hid hx
      clear hx s3 s7 hsp c7
      go_wp2_with fail
      refine (HC3.out).mono ?_
      rintro e w2 ⟨rfl, hg2, hw2⟩
      have W2 := Lib.hid (HW.out.grown hw2 hg2 S3.out (by decide))
      have P2 := Lib.hid (HSp.out.grown hg2 (fun b hb => S3.out.within hb))
      obtain ⟨g', Am', cm', An', cn', e1, d3, d7, u3, u7⟩ := W2.out.2 k x (Nat.le_refl _) HKx.out
      injection e1 with e1
      injection e1 with e1
      subst e1
      have HC7 := Lib.hid (spoilTexts2_any An' x.names.length cn' base hi w2 u7 (by omega) (Nat.le_trans hbase P2.out.2.2.2.1))
      have S7 := Lib.hid u7
      clear hg2 hw2 HW HSp c3 d3 u3 u7 HC3 S3
      go_wp2_with fail
      refine (HC7.out).mono ?_
      rintro e w3 ⟨rfl, hg3, hw3⟩
      have W3 := Lib.hid (W2.out.grown hw3 hg3 S7.out (by decide))
      have P3 := Lib.hid (P2.out.grown hg3 (fun b hb => S7.out.within hb))
      clear hg3 hw3 W2 P2 d7 HC7 S7
      have hw10 : WrX w3 g 37 (c * 10) := by
        rcases W3.out.1.2.2.2 with ⟨h0, _⟩ | ⟨g3, h0, _, _, hn⟩
        · cases h0
        · injection h0 with h0
          injection h0 with h0
          subst h0
          exact hn
      have hgin := W3.out.1.within (b := g) rfl
      have hwr := hw10.wr
      obtain ⟨v0, p0⟩ := hwr.cell (j := k * 10) (by omega)
      obtain ⟨v1, p1⟩ := hwr.cell (j := k * 10 + 1) (by omega)
      obtain ⟨v2, p2⟩ := hwr.cell (j := k * 10 + 2) (by omega)
      obtain ⟨v3, p3⟩ := hwr.cell (j := k * 10 + 3) (by omega)
      obtain ⟨v4, p4⟩ := hwr.cell (j := k * 10 + 4) (by omega)
      obtain ⟨v5, p5⟩ := hwr.cell (j := k * 10 + 5) (by omega)
      obtain ⟨v6, p6⟩ := hwr.cell (j := k * 10 + 6) (by omega)
      obtain ⟨v7, p7⟩ := hwr.cell (j := k * 10 + 7) (by omega)
      obtain ⟨v8, p8⟩ := hwr.cell (j := k * 10 + 8) (by omega)
      obtain ⟨v9, p9⟩ := hwr.cell (j := k * 10 + 9) (by omega)
      have hfz := hwr.frozen
      clear hwr hw10
      go_wp2_with fail
      go_roundw
      case rel =>
        exact ⟨k + 1, by go_num, by omega, W3.out.spoilt _ _ _ _ _ _ _ _ _ _, ((((((((((P3.out.setCell hgin _).setCell hgin _).setCell hgin _).setCell hgin _).setCell hgin _).setCell hgin _).setCell hgin _).setCell hgin _).setCell hgin _).setCell hgin _)⟩
      case measure => simp [intOf]; omega
    · have hltI : ¬ (k : Int) < (n : Int) := by omega
      clear HW hsp
      go_wp2_with fail
      go_end0
      exact ⟨rfl, HSp.out⟩
end
end Go.Proofs.Ytdikmklijpcjdaa
