/- How a query is read: what is laid is a tree. Plain. -/
import Derived.Test.YtdikmklijpcjdaaPTotal
namespace Go.Proofs.Ytdikmklijpcjdaa
open Go.RowKit

/-- How many parts a node of a kind has. -/
def partsK (k : Int) : Int := if k = 1 ∨ k = 2 ∨ k = 3 then 0 else if k = 4 ∨ k = 5 ∨ k = 7 then 1 else if k = 6 then 2 else -1
/-- A row of nodes over n parts that lie already: how many parts then lie. -/
def runT : Int → List Nod → Option Int
  | n, [] => some n
  | n, x :: r => if partsK x.kind < 0 ∨ n < partsK x.kind ∨ x.parts ≠ partsK x.kind then none else runT (n - partsK x.kind + 1) r
theorem runT_app : ∀ (a b : List Nod) (n m : Int), runT n a = some m → runT n (a ++ b) = runT m b
  | [], b, n, m, h => by
    simp only [runT] at h
    injection h with h
    rw [h]; rfl
  | x :: a, b, n, m, h => by
    rw [runT] at h
    split at h
    · cases h
    · rename_i hc
      rw [List.cons_append, runT, if_neg hc]
      exact runT_app a b _ m h
/-- A tree: over whatever lies already it lays one part more. -/
def TreeL (l : List Nod) : Prop := ∀ n : Int, 0 ≤ n → runT n l = some (n + 1)
theorem TreeL.leaf {x : Nod} (hk : partsK x.kind = 0) (hp : x.parts = 0) : TreeL [x] := by
  intro n hn
  rw [runT, if_neg (by rw [hk, hp]; omega), hk]
  simp [runT]
theorem TreeL.one {l : List Nod} {x : Nod} (h : TreeL l) (hk : partsK x.kind = 1) (hp : x.parts = 1) : TreeL (l ++ [x]) := by
  intro n hn
  rw [runT_app _ _ _ _ (h n hn), runT, if_neg (by rw [hk, hp]; omega), hk]
  simp [runT]
theorem TreeL.two {a b : List Nod} {x : Nod} (h : TreeL a) (h2 : TreeL b) (hk : partsK x.kind = 2) (hp : x.parts = 2) : TreeL (a ++ (b ++ [x])) := by
  intro n hn
  rw [runT_app _ _ _ _ (h n hn), runT_app _ _ _ _ (h2 (n + 1) (by omega)), runT, if_neg (by rw [hk, hp]; omega), hk]
  simp [runT]; omega
/-- A part of the grammar lays a tree. -/
def PartT (f : PS → Rp PS) : Prop := ∀ s s', f s = .ok s' → ∃ l, s'.out = s.out ++ l ∧ TreeL l
theorem rowF_T {part : PS → Rp PS} (hp : PartT part) (lo hi : Int) : ∀ (m : Nat) (s s' : PS) (o a : List Nod), s.out = o ++ a → TreeL a → rowF part lo hi m s = .ok s' → ∃ l, s'.out = o ++ l ∧ TreeL l
  | 0, s, s', o, a, ho, ha, h => by
    simp only [rowF] at h
    injection h with h
    subst h
    exact ⟨a, ho, ha⟩
  | m + 1, s, s', o, a, ho, ha, h => by
    rw [rowF] at h
    split at h
    · injection h with h
      subst h
      exact ⟨a, ho, ha⟩
    · rename_i hend
      have hk : s.hd.kind ≠ 0 := by
        intro h0
        apply hend
        simp [PS.rowEnd, h0]
      split at h
      · cases h
      · rename_i s3 g l hg
        split at h
        · cases h
        · rename_i s4 hp4
          have h2 : (if s.on.boolN (numW opsL s.hd.text) = true then s.on.on else s.on).out = s.out := by split <;> rfl
          have h3 := (group_step hg).1.out
          obtain ⟨b, hb, tb⟩ := hp _ _ hp4
          refine rowF_T hp lo hi m _ _ o (a ++ (b ++ [binN (numW opsL s.hd.text) g l (s.on.boolN (numW opsL s.hd.text))])) ?_ (ha.two tb (by simp [binN, partsK]) rfl) h
          show s4.out ++ _ = _
          rw [hb, h3, h2, ho]
          simp
theorem rowP_T {part : PS → Rp PS} (hp : PartT part) (lo hi : Int) : PartT (rowP part lo hi) := by
  intro s s' h
  unfold rowP at h
  split at h
  · cases h
  · rename_i s1 h1
    obtain ⟨a, ha, ta⟩ := hp _ _ h1
    exact rowF_T hp lo hi _ _ _ s.out a ha ta h
theorem orP_T {u : PS → Rp PS} (hu : PartT u) : PartT (orP u) := rowP_T (rowP_T (rowP_T (rowP_T (rowP_T hu _ _) _ _) _ _) _ _) _ _
theorem openP_T {part : PS → Rp PS} (hp : PartT part) : PartT (openP part) := by
  intro s s' h
  unfold openP at h
  split at h
  · cases h
  · split at h
    · cases h
    · rename_i s1 h1
      injection h with h
      subst h
      obtain ⟨l, hl, tl⟩ := hp _ _ h1
      exact ⟨l, hl, tl⟩
theorem bracketP_T {e : PS → Rp PS} (he : PartT e) : PartT (bracketP e) := by
  intro s s' h
  unfold bracketP at h
  split at h
  · refine openP_T ?_ s s' h
    intro s s' h
    unfold innerP at h
    split at h
    · cases h
    · rename_i s1 h1
      obtain ⟨l, hl, tl⟩ := he _ _ h1
      exact ⟨l, (sign_step h).2.2.out.trans hl, tl⟩
  · cases h
theorem sel3_kind {s s' : PS} {k w : Int} (h : s.sel3 = .ok (s', k, w)) : k = 3 ∨ k = 2 := by
  unfold PS.sel3 at h
  split at h
  · split at h
    · cases h
    · split at h
      · cases h
      · injection h with h
        injection h with h1 h2
        injection h2 with h2 h3
        exact .inl h2.symm
  · injection h with h
    injection h with h1 h2
    injection h2 with h2 h3
    exact .inr h2.symm
theorem chooseP_kind {s s' : PS} (h : chooseP s = .ok s') : ∃ (s4 : PS) (k : Int) (m : List Mat) (w b : Int), s' = s4.lay (selN k m w b) ∧ (k = 3 ∨ k = 2) := by
  unfold chooseP at h
  split at h
  · cases h
  · split at h
    · cases h
    · split at h
      · cases h
      · rename_i s3 k w h3
        split at h
        · cases h
        · rename_i s4 b h4
          injection h with h
          exact ⟨s4, k, _, w, b, h.symm, sel3_kind h3⟩
theorem chooseP_T : PartT chooseP := by
  intro s s' h
  obtain ⟨s4, k, m, w, b, rfl, hs⟩ := chooseP_step h
  obtain ⟨s5, k', m', w', b', e, hk⟩ := chooseP_kind h
  have e2 := congrArg PS.out e
  simp only [PS.lay] at e2
  have e3 := (List.append_inj' e2 rfl).2
  injection e3 with e3
  have e4 : k = k' := congrArg Nod.kind e3
  refine ⟨[selN k m w b], ?_, TreeL.leaf ?_ rfl⟩
  · show s4.out ++ _ = _
    rw [hs.out]
  · rw [e4]
    show partsK k' = 0
    rcases hk with rfl | rfl <;> rfl
theorem oneP_T {e : PS → Rp PS} (he : PartT e) : PartT (oneP e) := by
  intro s s' h
  unfold oneP at h
  split at h
  · injection h with h
    subst h
    exact ⟨[numN s.hd.text], rfl, TreeL.leaf rfl rfl⟩
  · split at h
    · exact bracketP_T he _ _ h
    · split at h
      · split at h
        · cases h
        · rename_i s1 h1
          injection h with h
          subst h
          obtain ⟨l, hl, tl⟩ := bracketP_T he _ _ h1
          refine ⟨l ++ [callN (numW funcsL s.hd.text)], ?_, tl.one rfl rfl⟩
          show s1.out ++ _ = _
          rw [hl, List.append_assoc]; rfl
      · split at h
        · split at h
          · cases h
          · rename_i s1 g l hg
            split at h
            · cases h
            · rename_i s2 h2
              injection h with h
              subst h
              obtain ⟨b, hb, tb⟩ := bracketP_T he _ _ h2
              refine ⟨b ++ [aggN (numW aggsL s.hd.text) g l], ?_, tb.one rfl rfl⟩
              show s2.out ++ _ = _
              rw [hb, (group_step hg).1.out, List.append_assoc]; rfl
        · exact chooseP_T _ _ h
theorem unaryP_T : ∀ n, PartT (unaryP n)
  | 0 => fun s s' h => by simp [unaryP] at h
  | n + 1 => fun s s' h => by
    rw [unaryP] at h
    split at h
    · split at h
      · cases h
      · rename_i s1 h1
        injection h with h
        subst h
        obtain ⟨l, hl, tl⟩ := openP_T (unaryP_T n) _ _ h1
        refine ⟨l ++ [negN], ?_, tl.one rfl rfl⟩
        show s1.out ++ _ = _
        rw [hl, List.append_assoc]
    · exact oneP_T (orP_T (unaryP_T n)) s s' h
/-- What the reader answers to a text that is cut. -/
theorem parse_told {s : ByteArray} {ts : List Tok} (hl : lexR s = .ok ts) : ((parseR s).2.2 = 180 ∧ (parseR s).2.1 = s.size ∧ (parseR s).1 = []) ∨
    ((parseR s).2.2 ≠ 180 ∧ (parseR s).2.2 ≠ 0 ∧ 0 ≤ (parseR s).2.1 ∧ (parseR s).2.1 < s.size ∧ (parseR s).1 = []) ∨ ((parseR s).2.2 = 0 ∧ (parseR s).2.1 = 0 ∧ runT 0 (parseR s).1 = some 1) := by
  obtain ⟨h1, h2, h3⟩ := lexR_toks hl
  have hT : ToksN s.size ⟨ts, 0, []⟩ := ⟨h1, fun t ht => (h3 t ht).1⟩
  have hE := orP_E (unaryP_E (N := s.size) ts.length) _ hT
  rw [parseR, hl]
  dsimp only
  cases ho : orP (unaryP ts.length) ⟨ts, 0, []⟩ with
  | error x =>
    obtain ⟨why, at_⟩ := x
    rw [ho] at hE
    rcases hE with ⟨e1, e2⟩ | ⟨e1, e2, e3, e4⟩
    · exact .inl ⟨e1, e2, rfl⟩
    · exact .inr (.inl ⟨e1, e2, e3, e4, rfl⟩)
  | ok st =>
    rw [ho] at hE
    have hE : ToksN s.size st := hE
    dsimp only
    by_cases hk : st.hd.kind = 0
    · rw [if_pos hk]
      obtain ⟨l, hl2, tl⟩ := orP_T (unaryP_T ts.length) _ _ ho
      refine .inr (.inr ⟨rfl, rfl, ?_⟩)
      show runT 0 st.out = _
      rw [hl2]
      exact tl 0 (Int.le_refl _)
    · rw [if_neg hk]
      rcases hE.stuck with ⟨e1, e2⟩ | ⟨e1, e2, e3, e4⟩
      · exact .inl ⟨e1, e2, rfl⟩
      · exact .inr (.inl ⟨e1, e2, e3, e4, rfl⟩)
end Go.Proofs.Ytdikmklijpcjdaa
