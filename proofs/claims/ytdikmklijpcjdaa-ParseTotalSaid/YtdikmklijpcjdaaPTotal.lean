/- How a query is read: where it gives up; what is laid is a tree. Plain. -/
import Derived.Test.YtdikmklijpcjdaaPar0
namespace Go.Proofs.Ytdikmklijpcjdaa
open Go.RowKit

def ErrN (N : Nat) (x : Int × Int) : Prop := (x.1 = 180 ∧ x.2 = N) ∨ (x.1 ≠ 180 ∧ x.1 ≠ 0 ∧ 0 ≤ x.2 ∧ x.2 < N)
structure ToksN (N : Nat) (s : PS) : Prop where
  ends : Ends s.toks
  tok : ∀ t ∈ s.toks, TokN N t
theorem ToksN.hd {N : Nat} {s : PS} (h : ToksN N s) : TokN N s.hd := by
  apply h.tok
  have := h.ends.ne
  cases hs : s.toks with
  | nil => exact absurd hs this
  | cons t r => simp [PS.hd, hs]
theorem ToksN.on {N : Nat} {s : PS} (h : ToksN N s) (hk : s.hd.kind ≠ 0) : ToksN N s.on := by
  have hne := h.ends.ne
  refine ⟨?_, fun t ht => h.tok t (List.mem_of_mem_tail ht)⟩
  cases hs : s.toks with
  | nil => exact absurd hs hne
  | cons t r =>
    have he := h.ends
    rw [hs] at he
    have : s.on.toks = r := by simp [PS.on, hs]
    rw [this]
    exact he.tail (by simpa [PS.hd, hs] using hk)
theorem ToksN.stuck {N : Nat} {s : PS} (h : ToksN N s) : ErrN N s.stuck := by
  unfold PS.stuck
  rcases h.hd with ⟨h1, h2⟩ | ⟨h1, h2⟩
  · rw [if_pos h1, h2]; exact .inl ⟨rfl, rfl⟩
  · rw [if_neg h1]; exact .inr ⟨by simp, by simp, by simp, by simp; omega⟩
theorem ToksN.at {N : Nat} {s : PS} (h : ToksN N s) (hk : s.hd.kind ≠ 0) (w : Int) (h1 : w ≠ 180) (h2 : w ≠ 0) : ErrN N (w, (s.hd.at_ : Int)) := by
  rcases h.hd with ⟨k1, _⟩ | ⟨_, k2⟩
  · exact absurd k1 hk
  · exact .inr ⟨h1, h2, by simp, by simp; omega⟩
/-- How a piece ends: where it gives up, or the tokens left. -/
def QN {α : Type} (N : Nat) (st : α → PS) : Rp α → Prop
  | .error x => ErrN N x
  | .ok a => ToksN N (st a)
theorem sign_QN {N : Nat} {s : PS} (h : ToksN N s) (t : ByteArray) : QN N id (s.sign t) := by
  unfold PS.sign
  split
  · rename_i hi; exact h.on (by rw [is_kind hi]; decide)
  · exact h.stuck
theorem name_QN {N : Nat} {s : PS} (h : ToksN N s) : QN N Prod.fst s.name := by
  unfold PS.name
  split
  · rename_i hi; exact h.on (by rw [hi.1]; decide)
  · exact h.stuck
theorem comma_QN {N : Nat} {s : PS} (h : ToksN N s) (b : Bool) : QN N id (s.comma b) := by
  unfold PS.comma
  split
  · exact h
  · exact sign_QN h _
theorem span_QN {N : Nat} {s : PS} (h : ToksN N s) : QN N Prod.fst s.span := by
  unfold PS.span
  split
  · rename_i hi; exact h.on (by rw [hi]; decide)
  · exact h.stuck
theorem namesF_QN {N : Nat} : ∀ (m : Nat) (s : PS) (acc : List ByteArray), ToksN N s → QN N Prod.fst (namesF m s acc)
  | 0, s, acc, h => h.stuck
  | m + 1, s, acc, h => by
    rw [namesF]
    split
    · rename_i hi; exact h.on (by rw [is_kind hi]; decide)
    · have hc := comma_QN h acc.isEmpty
      cases hs : s.comma acc.isEmpty with
      | error x => rw [hs] at hc; exact hc
      | ok s1 =>
        rw [hs] at hc
        have hn := name_QN (s := s1) hc
        dsimp only
        cases hs2 : s1.name with
        | error x => rw [hs2] at hn; exact hn
        | ok q =>
          rw [hs2] at hn
          exact namesF_QN m q.1 _ hn
theorem names_QN {N : Nat} {s : PS} (h : ToksN N s) : QN N Prod.fst s.names := by
  unfold PS.names
  have hc := sign_QN h sO
  cases hs : s.sign sO with
  | error x => rw [hs] at hc; exact hc
  | ok s1 => rw [hs] at hc; exact namesF_QN _ _ _ hc
theorem group_QN {N : Nat} {s : PS} (h : ToksN N s) (w1 w2 : ByteArray) (k1 k2 : Int) : QN N Prod.fst (s.group w1 w2 k1 k2) := by
  unfold PS.group
  split
  · rename_i hi
    have hn := names_QN (h.on (by rw [is_kind hi]; decide))
    cases hs : s.on.names with
    | error x => rw [hs] at hn; exact hn
    | ok q => rw [hs] at hn; exact hn
  · split
    · rename_i hi
      have hn := names_QN (h.on (by rw [is_kind hi]; decide))
      cases hs : s.on.names with
      | error x => rw [hs] at hn; exact hn
      | ok q => rw [hs] at hn; exact hn
    · exact h
theorem addM_QN {N : Nat} {s : PS} (h : ToksN N s) (hk : s.hd.kind ≠ 0) (ms : List Mat) (m : Mat) {x : Int × Int} (he : addM ms m s.hd.at_ = .error x) : ErrN N x := by
  unfold addM at he
  split at he
  · cases he
  · injection he with he
    subst he
    exact h.at hk 183 (by decide) (by decide)
theorem matchersF_QN {N : Nat} : ∀ (m : Nat) (b : Bool) (s : PS) (ms : List Mat), ToksN N s → QN N Prod.fst (matchersF m b s ms)
  | 0, b, s, ms, h => h.stuck
  | m + 1, b, s, ms, h => by
    rw [matchersF]
    split
    · rename_i hi; exact h.on (by rw [is_kind hi]; decide)
    · have hc := comma_QN h b
      cases hs : s.comma b with
      | error x => rw [hs] at hc; exact hc
      | ok s1 =>
        rw [hs] at hc
        have hn := name_QN (s := s1) hc
        dsimp only
        cases hs2 : s1.name with
        | error x => rw [hs2] at hn; exact hn
        | ok q =>
          obtain ⟨s2, nm⟩ := q
          rw [hs2] at hn
          have hn : ToksN N s2 := hn
          dsimp only
          split
          · exact hn.stuck
          · rename_i h5
            have hk2 : s2.hd.kind = 5 := Classical.not_not.1 fun h' => h5 (.inl h')
            have h6 := hn.on (by rw [hk2]; decide)
            split
            · exact h6.stuck
            · rename_i h4
              have hk4 : s2.on.hd.kind = 4 := Classical.not_not.1 h4
              have hk0 : s2.on.hd.kind ≠ 0 := by rw [hk4]; decide
              cases ha : addM ms ⟨numW matsL s2.hd.text, nm, s2.on.hd.text⟩ s2.on.hd.at_ with
              | error x => exact addM_QN h6 hk0 _ _ ha
              | ok ms2 => exact matchersF_QN m false _ _ (h6.on hk0)
theorem word_kind {s : PS} (h : s.wordB = true) : s.hd.kind ≠ 0 := by
  simp only [PS.wordB, Bool.and_eq_true, decide_eq_true_eq] at h
  rw [h.1]; decide
theorem choose_QN {N : Nat} {s : PS} (h : ToksN N s) : QN N id (chooseP s) := by
  have a1 : QN N Prod.fst s.sel1 := by
    unfold PS.sel1
    split
    · rename_i hw
      cases ha : addM [] ⟨1, sNameN, s.hd.text⟩ s.hd.at_ with
      | error x => exact addM_QN h (word_kind hw) _ _ ha
      | ok ms => exact h.on (word_kind hw)
    · exact h
  unfold chooseP
  cases h1 : s.sel1 with
  | error x => rw [h1] at a1; exact a1
  | ok q =>
    obtain ⟨s1, m1⟩ := q
    rw [h1] at a1
    have a1 : ToksN N s1 := a1
    have a2 : QN N Prod.fst (s1.sel2 s.wordB m1) := by
      unfold PS.sel2
      split
      · rename_i hi; exact matchersF_QN _ _ _ _ (a1.on (by rw [is_kind hi]; decide))
      · split
        · exact a1
        · exact a1.stuck
    dsimp only
    cases h2 : s1.sel2 s.wordB m1 with
    | error x => rw [h2] at a2; exact a2
    | ok q =>
      obtain ⟨s2, m2⟩ := q
      rw [h2] at a2
      have a2 : ToksN N s2 := a2
      have a3 : QN N Prod.fst s2.sel3 := by
        unfold PS.sel3
        split
        · rename_i hi
          have hs := span_QN (a2.on (by rw [is_kind hi]; decide))
          cases hsp : s2.on.span with
          | error x => rw [hsp] at hs; exact hs
          | ok q =>
            obtain ⟨s5, w5⟩ := q
            rw [hsp] at hs
            have hg := sign_QN (s := s5) hs sUnsq
            dsimp only
            cases hsg : s5.sign sUnsq with
            | error x => rw [hsg] at hg; exact hg
            | ok s6 => rw [hsg] at hg; exact hg
        · exact a2
      dsimp only
      cases h3 : s2.sel3 with
      | error x => rw [h3] at a3; exact a3
      | ok q =>
        obtain ⟨s3, k, w⟩ := q
        rw [h3] at a3
        have a3 : ToksN N s3 := a3
        have a4 : QN N Prod.fst s3.sel4 := by
          unfold PS.sel4
          split
          · rename_i hi; exact span_QN (a3.on (by rw [is_kind hi]; decide))
          · exact a3
        dsimp only
        cases h4 : s3.sel4 with
        | error x => rw [h4] at a4; exact a4
        | ok q => rw [h4] at a4; exact ⟨a4.ends, a4.tok⟩
/-- A part of the grammar: where it gives up, or the tokens left. -/
def PartE (N : Nat) (f : PS → Rp PS) : Prop := ∀ s, ToksN N s → QN N id (f s)
theorem rowF_E {N : Nat} {part : PS → Rp PS} (hp : PartE N part) (lo hi : Int) : ∀ (m : Nat) (s : PS), ToksN N s → QN N id (rowF part lo hi m s)
  | 0, s, h => h
  | m + 1, s, h => by
    rw [rowF]
    split
    · exact h
    · rename_i hend
      have hk : s.hd.kind ≠ 0 := by
        intro h0
        apply hend
        simp [PS.rowEnd, h0]
      have h2 : ToksN N (if s.on.boolN (numW opsL s.hd.text) = true then s.on.on else s.on) := by
        split
        · rename_i hb
          simp only [PS.boolN, Bool.and_eq_true] at hb
          exact (h.on hk).on (by rw [is_kind hb.2]; decide)
        · exact h.on hk
      have hg := group_QN h2 sOn sIgn 3 4
      cases hgr : (if s.on.boolN (numW opsL s.hd.text) = true then s.on.on else s.on).group sOn sIgn 3 4 with
      | error x => rw [hgr] at hg; exact hg
      | ok q =>
        obtain ⟨s3, g, l⟩ := q
        rw [hgr] at hg
        have h3 := hp s3 hg
        dsimp only
        cases hs : part s3 with
        | error x => rw [hs] at h3; exact h3
        | ok s4 =>
          rw [hs] at h3
          exact rowF_E hp lo hi m _ ⟨h3.ends, h3.tok⟩
theorem rowP_E {N : Nat} {part : PS → Rp PS} (hp : PartE N part) (lo hi : Int) : PartE N (rowP part lo hi) := by
  intro s h
  unfold rowP
  have h1 := hp s h
  cases hs : part s with
  | error x => rw [hs] at h1; exact h1
  | ok s1 => rw [hs] at h1; exact rowF_E hp lo hi _ _ h1
theorem orP_E {N : Nat} {u : PS → Rp PS} (hu : PartE N u) : PartE N (orP u) := rowP_E (rowP_E (rowP_E (rowP_E (rowP_E hu _ _) _ _) _ _) _ _) _ _
theorem openP_E {N : Nat} {part : PS → Rp PS} (hp : PartE N part) {s : PS} (h : ToksN N s) (hk : s.hd.kind ≠ 0) : QN N id (openP part s) := by
  unfold openP
  split
  · exact h.at hk 182 (by decide) (by decide)
  · have h1 := hp ⟨s.toks.tail, s.deep + 1, s.out⟩ ⟨(h.on hk).ends, (h.on hk).tok⟩
    cases hs : part ⟨s.toks.tail, s.deep + 1, s.out⟩ with
    | error x => rw [hs] at h1; exact h1
    | ok s1 => rw [hs] at h1; exact ⟨h1.ends, h1.tok⟩
theorem innerP_E {N : Nat} {e : PS → Rp PS} (he : PartE N e) : PartE N (innerP e) := by
  intro s h
  unfold innerP
  have h1 := he s h
  cases hs : e s with
  | error x => rw [hs] at h1; exact h1
  | ok s1 => rw [hs] at h1; exact sign_QN h1 sC
theorem bracketP_E {N : Nat} {e : PS → Rp PS} (he : PartE N e) : PartE N (bracketP e) := by
  intro s h
  unfold bracketP
  split
  · rename_i hi; exact openP_E (innerP_E he) h (by rw [is_kind hi]; decide)
  · exact h.stuck
theorem oneP_E {N : Nat} {e : PS → Rp PS} (he : PartE N e) : PartE N (oneP e) := by
  intro s h
  unfold oneP
  split
  · rename_i h1; exact ⟨(h.on (by rw [h1]; decide)).ends, (h.on (by rw [h1]; decide)).tok⟩
  · split
    · exact bracketP_E he s h
    · split
      · rename_i h1
        have h2 := bracketP_E he s.on (h.on (by rw [h1.1]; decide))
        cases hs : bracketP e s.on with
        | error x => rw [hs] at h2; exact h2
        | ok s1 => rw [hs] at h2; exact ⟨h2.ends, h2.tok⟩
      · split
        · rename_i h1
          have hg := group_QN (h.on (by rw [h1.1]; decide)) sBy sWithout 1 2
          cases hgr : s.on.group sBy sWithout 1 2 with
          | error x => rw [hgr] at hg; exact hg
          | ok q =>
            obtain ⟨s1, g, l⟩ := q
            rw [hgr] at hg
            have h2 := bracketP_E he s1 hg
            dsimp only
            cases hs : bracketP e s1 with
            | error x => rw [hs] at h2; exact h2
            | ok s2 => rw [hs] at h2; exact ⟨h2.ends, h2.tok⟩
        · exact choose_QN h
theorem unaryP_E {N : Nat} : ∀ n, PartE N (unaryP n)
  | 0 => fun s h => h.stuck
  | n + 1 => fun s h => by
    rw [unaryP]
    split
    · rename_i h1
      have h2 := openP_E (unaryP_E n) h (by rw [is_kind h1]; decide)
      cases hs : openP (unaryP n) s with
      | error x => rw [hs] at h2; exact h2
      | ok s1 => rw [hs] at h2; exact ⟨h2.ends, h2.tok⟩
    · exact oneP_E (orP_E (unaryP_E n)) s h
end Go.Proofs.Ytdikmklijpcjdaa
