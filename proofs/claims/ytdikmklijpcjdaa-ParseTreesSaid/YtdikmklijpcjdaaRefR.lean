/- How the document reads a query: a row of operations. -/
import Derived.Test.YtdikmklijpcjdaaRefO
import Derived.Test.YtdikmklijpcjdaaRefI
namespace Go.Proofs.Ytdikmklijpcjdaa
section
/-! ## RefT -/
open Go.RowKit

/-- No word is a sign, no sign a word. -/
def OpTok (t : Tok) : Prop := (t.kind = 3 → numW opsL t.text = 0 ∨ 11 ≤ numW opsL t.text) ∧ (t.kind = 5 → numW opsL t.text ≤ 10)
theorem numF_get (w : ByteArray) : ∀ (l : List ByteArray) (st : Nat), numF st l w = 0 ∨ ∃ k : Nat, l[k]? = some w ∧ numF st l w = ((st + k : Nat) : Int)
  | [], st => .inl rfl
  | x :: r, st => by
    rw [numF]
    split
    · rename_i h
      exact .inr ⟨0, by simp [h.1], by simp⟩
    · rcases numF_get w r (st + 1) with h | ⟨k, h1, h2⟩
      · exact .inl h
      · exact .inr ⟨k + 1, by simpa using h1, by rw [h2]; congr 1; omega⟩
theorem ops_first : ((List.range 14).all fun k => (if k = 0 then true else if k ≤ 10 then (match (opsL.getD k ByteArray.empty).data.toList with | c :: _ => !letB c | [] => false) else (match (opsL.getD k ByteArray.empty).data.toList with | [_] => false | [c, d] => !sign2 [c, d] | [] => false | _ => true))) = true := by kernel_rfl
theorem ops_word {w : ByteArray} {c : UInt8} {r : List UInt8} (hw : w.data.toList = c :: r) (hc : letB c = true) : numW opsL w = 0 ∨ 11 ≤ numW opsL w := by
  rcases numF_get w opsL 0 with h | ⟨k, h1, h2⟩
  · exact .inl h
  · have hk : k < 14 := (List.getElem?_eq_some_iff.1 h1).1
    have h := List.all_eq_true.1 ops_first k (List.mem_range.2 hk)
    rw [List.getD_eq_getElem?_getD, h1, Option.getD_some, hw] at h
    rw [numW, h2]
    by_cases h0 : k = 0
    · left; omega
    · rw [if_neg h0] at h
      by_cases h10 : k ≤ 10
      · rw [if_pos h10] at h
        simp [hc] at h
      · right; omega
theorem ops_sign {w : ByteArray} (hw : (∃ c, w.data.toList = [c]) ∨ ∃ c d, w.data.toList = [c, d] ∧ sign2 [c, d] = true) : numW opsL w ≤ 10 := by
  rcases numF_get w opsL 0 with h | ⟨k, h1, h2⟩
  · rw [numW, h]; decide
  · have hk : k < 14 := (List.getElem?_eq_some_iff.1 h1).1
    have h := List.all_eq_true.1 ops_first k (List.mem_range.2 hk)
    rw [List.getD_eq_getElem?_getD, h1, Option.getD_some] at h
    rw [numW, h2]
    by_cases h10 : k ≤ 10
    · omega
    · exfalso
      rw [if_neg (by omega), if_neg h10] at h
      rcases hw with ⟨c, hw⟩ | ⟨c, d, hw, hs⟩
      · rw [hw] at h; cases h
      · rw [hw] at h; simp [hs] at h
theorem oneL_ops {p n : Nat} {l : List UInt8} {ts : List Tok} (h : oneL p l = .ok ts n) : ∀ t ∈ ts, OpTok t := by
  cases l with
  | nil => simp [oneL] at h
  | cons c r =>
    simp only [oneL] at h
    split at h
    · injection h with h; subst h; intro t ht; cases ht
    split at h
    · simp only [numTok] at h
      split at h
      · injection h with h; subst h; intro t ht; simp at ht; subst ht; exact ⟨fun h => by simp at h, fun h => by simp at h⟩
      split at h
      · injection h with h; subst h; intro t ht; simp at ht; subst ht; exact ⟨fun h => by simp at h, fun h => by simp at h⟩
      · cases h
    split at h
    · rename_i hl
      injection h with h; subst h; intro t ht; simp at ht; subst ht
      refine ⟨fun _ => ?_, fun h => by simp at h⟩
      have e : (mkB ((c :: r).takeWhile wordC)).data.toList = c :: r.takeWhile wordC := by
        rw [List.takeWhile_cons, if_pos (letB_wordC hl)]; simp [mkB]
      exact ops_word e hl
    split at h
    · cases ht : textS false r with
      | none => rw [ht] at h; cases h
      | some y =>
        obtain ⟨y, m⟩ := y
        rw [ht] at h
        simp only [textTok] at h
        injection h with h; subst h; intro t ht; simp at ht; subst ht; exact ⟨fun h => by simp at h, fun h => by simp at h⟩
    split at h
    · injection h with h; subst h; intro t ht; simp at ht; subst ht
      refine ⟨fun h => by simp at h, fun _ => ops_sign ?_⟩
      simp only [mkB]
      unfold signN
      split
      · rename_i hs
        rw [Bool.and_eq_true, decide_eq_true_eq] at hs
        cases r with
        | nil => simp at hs
        | cons d r => exact .inr ⟨c, d, by simp, by simpa using hs.2⟩
      · split
        · exact .inl ⟨c, by simp⟩
        · rename_i hx1 hx2 hx3
          exfalso
          have : signN (c :: r) = 0 := by unfold signN; rw [if_neg hx2, if_neg hx3]
          omega
    · cases h
theorem lexL_ops : ∀ (m p : Nat) (l : List UInt8) (y : List Tok), l.length ≤ m → lexL p l = .ok y → ∀ t ∈ y, OpTok t := by
  have h0 : ∀ p, OpTok ⟨0, p, mkB [], 0⟩ := fun p => ⟨fun h => by simp at h, fun h => by simp at h⟩
  intro m
  induction m with
  | zero => intro p l y hl h; cases l with
    | nil => rw [lexL_nil] at h; injection h with h; subst h; intro t ht; simp at ht; subst ht; exact h0 p
    | cons c r => simp at hl
  | succ m ih =>
    intro p l y hl h
    cases l with
    | nil => rw [lexL_nil] at h; injection h with h; subst h; intro t ht; simp at ht; subst ht; exact h0 p
    | cons c r =>
      rw [lexL_cons] at h
      cases ho : oneL p (c :: r) with
      | err q e => rw [ho] at h; cases h
      | ok ts k =>
        have hk := oneL_n ho
        rw [ho] at h
        replace h : (lexL (p + k) ((c :: r).drop k)).pre ts = .ok y := h
        cases hr : lexL (p + k) ((c :: r).drop k) with
        | err q e => rw [hr] at h; cases h
        | ok z =>
          rw [hr] at h
          injection h with h
          subst h
          intro t ht
          rcases List.mem_append.1 ht with h | h
          · exact oneL_ops ho t h
          · exact ih (p + k) _ z (by rw [List.length_drop]; simp only [List.length_cons] at hl ⊢; omega) hr t h
theorem lexR_ops {s : ByteArray} {x : List Tok} (h : lexR s = .ok x) : ∀ t ∈ x, OpTok t := by
  rw [lexR] at h
  split at h
  · cases h
  · exact lexL_ops _ 0 _ x (Nat.le_refl _) h
/-- The rows of the document, and how the reader tells them. -/
def RowIs (row lo hi : Int) : Prop := (row = 5 ∧ lo = 3 ∧ hi = 4) ∨ (row = 4 ∧ lo = 1 ∧ hi = 2) ∨ (row = 3 ∧ lo = 5 ∧ hi = 10) ∨ (row = 2 ∧ lo = 11 ∧ hi = 13) ∨ (row = 1 ∧ lo = 12 ∧ hi = 12)
theorem opT_row {s : PS} {row lo hi : Int} (h : OpTok s.hd) (hr : RowIs row lo hi) : opT s.hd.kind s.hd.text row = if s.rowEnd lo hi = true then 0 else numW opsL s.hd.text := by
  have hn := ops_num s.hd.text
  have hb := idxF_bd s.hd.text opsQ 0
  change -1 ≤ idxI opsQ s.hd.text ∧ idxI opsQ s.hd.text < ((0 + 13 : Nat) : Int) at hb
  have hN : 0 ≤ numW opsL s.hd.text ∧ numW opsL s.hd.text ≤ 13 := by omega
  obtain ⟨h3, h5⟩ := h
  unfold opT PS.rowEnd
  clear hn hb
  generalize numW opsL s.hd.text = N at *
  generalize s.hd.kind = k at *
  have hNN : N = 0 ∨ N = 1 ∨ N = 2 ∨ N = 3 ∨ N = 4 ∨ N = 5 ∨ N = 6 ∨ N = 7 ∨ N = 8 ∨ N = 9 ∨ N = 10 ∨ N = 11 ∨ N = 12 ∨ N = 13 := by omega
  by_cases k3 : k = 3
  · subst k3
    have h3 := h3 rfl
    clear h5
    rcases hr with ⟨rfl, rfl, rfl⟩ | ⟨rfl, rfl, rfl⟩ | ⟨rfl, rfl, rfl⟩ | ⟨rfl, rfl, rfl⟩ | ⟨rfl, rfl, rfl⟩ <;> rcases hNN with rfl | rfl | rfl | rfl | rfl | rfl | rfl | rfl | rfl | rfl | rfl | rfl | rfl | rfl <;> first | (exfalso; omega) | rfl | decide
  · by_cases k5 : k = 5
    · subst k5
      have h5 := h5 rfl
      clear h3
      rcases hr with ⟨rfl, rfl, rfl⟩ | ⟨rfl, rfl, rfl⟩ | ⟨rfl, rfl, rfl⟩ | ⟨rfl, rfl, rfl⟩ | ⟨rfl, rfl, rfl⟩ <;> rcases hNN with rfl | rfl | rfl | rfl | rfl | rfl | rfl | rfl | rfl | rfl | rfl | rfl | rfl | rfl <;> first | (exfalso; omega) | rfl | decide
    · rw [if_pos ⟨k3, k5⟩]
      simp [k3, k5]
end
section
/-! ## RefB -/
open Go.RowKit

/-- What a row's loop still comes to. -/
def tailB (part : PS → Rp PS) (lo hi : Int) (rc : Rp PS) (tr : Rp PS) : Prop := match rc with
  | .ok s => ∃ m, s.toks.length ≤ m ∧ rowF part lo hi m s = tr
  | .error x => tr = .error x
/-- Behind an operation, and behind 'bool'. -/
def afterOp (s : PS) : PS := if s.on.boolN (numW opsL s.hd.text) = true then s.on.on else s.on
/-- One operation more, with its part. -/
def stepB (part : PS → Rp PS) (s : PS) : Rp PS := match groupQ (.ok (afterOp s)) with
  | .error e => .error e
  | .ok (s3, g, l) => layR (part s3) (binN (numW opsL s.hd.text) g l (s.on.boolN (numW opsL s.hd.text)))
theorem tailB_end {part : PS → Rp PS} {lo hi : Int} {s : PS} {tr : Rp PS} (h : tailB part lo hi (.ok s) tr) (he : s.rowEnd lo hi = true) : tr = .ok s := by
  obtain ⟨m, _, h2⟩ := h
  rw [← h2]
  exact rowF_end he m
theorem afterOp_step {s : PS} (hk : s.hd.kind ≠ 0) : Step 1 s (afterOp s) := by
  unfold afterOp
  split
  · rename_i hc
    simp only [PS.boolN, Bool.and_eq_true] at hc
    exact ((Step.on hk).trans (Step.on (by rw [is_kind hc.2]; decide))).less (by omega)
  · exact Step.on hk
theorem rowEnd_kind {s : PS} {lo hi : Int} (he : s.rowEnd lo hi = false) : s.hd.kind ≠ 0 := by
  intro h0
  simp [PS.rowEnd, h0] at he
theorem tailB_step {part : PS → Rp PS} (hok : PartOk part) {lo hi : Int} {s : PS} {tr : Rp PS} {M : Nat} (hg : PGood M s) (h : tailB part lo hi (.ok s) tr) (he : s.rowEnd lo hi = false) :
    tailB part lo hi (stepB part s) tr ∧ ∀ s', stepB part s = .ok s' → PGood M s' ∧ s'.toks.length < s.toks.length := by
  obtain ⟨m, hm, hrow⟩ := h
  have hpos := hg.pos.2
  obtain ⟨m, rfl⟩ : ∃ k, m = k + 1 := ⟨m - 1, by omega⟩
  rw [rowF, if_neg (by rw [he]; decide)] at hrow
  have hst := afterOp_step (rowEnd_kind he)
  change (match (afterOp s).group sOn sIgn 3 4 with | .error e => Except.error e | .ok (s3, g, l) => match part s3 with | .error e => Except.error e | .ok s4 => rowF part lo hi m (s4.lay (binN (numW opsL s.hd.text) g l (s.on.boolN (numW opsL s.hd.text))))) = tr at hrow
  cases hgr : (afterOp s).group sOn sIgn 3 4 with
  | error e =>
    have hS : stepB part s = .error e := by
      have hq : groupQ (.ok (afterOp s)) = .error e := hgr
      rw [stepB, hq]
    rw [hgr] at hrow
    dsimp only at hrow
    rw [hS]
    exact ⟨hrow.symm, fun s' hs => by cases hs⟩
  | ok q =>
    obtain ⟨s3, g, l⟩ := q
    have hS : stepB part s = layR (part s3) (binN (numW opsL s.hd.text) g l (s.on.boolN (numW opsL s.hd.text))) := by
      have hq : groupQ (.ok (afterOp s)) = .ok (s3, g, l) := hgr
      rw [stepB, hq]
    rw [hgr] at hrow
    dsimp only at hrow
    have hst3 := hst.trans (group_step hgr).1
    have hg3 := hst3.good M hg
    have hl3 := hst3.len M hg
    rw [hS]
    cases hp : part s3 with
    | error e =>
      rw [hp] at hrow
      dsimp only at hrow
      exact ⟨hrow.symm, fun s' hs => by cases hs⟩
    | ok s4 =>
      rw [hp] at hrow
      dsimp only at hrow
      obtain ⟨_, k2⟩ := hok _ _ hp
      obtain ⟨k3, k4⟩ := k2 _ hg3
      refine ⟨⟨m, ?_, hrow⟩, fun s' hs => ?_⟩
      · show s4.toks.length ≤ m
        omega
      · simp only [layR] at hs
        injection hs with hs
        subst hs
        exact ⟨PGood.lay (k3.more (by omega)) _, by show s4.toks.length < _; omega⟩
end
section
/-! ## RefR -/
open Go.RowKit
attribute [local go_sem ↓] Go.wp_at_zero Go.wp_at_succ tok_f0 tok_f2 tok_f3

def atW (P : Nat) (w : World) : Nat := match w.cell? ⟨P, 1, none⟩ with
  | some (.int _ n) => n.toNat
  | _ => 0
theorem TAt.atW {P : Nat} {T : List Tok} {R : Option Addr × Nat} {O : List Nod} {w : World} {s : PS} (h : TAt w P T R O (.ok s)) : T.length - atW P w = s.toks.length := by
  obtain ⟨q, ⟨b, o, ct, h1, _⟩, ⟨_, h2, _⟩, _⟩ := h
  have := h1.cell (j := 1) rfl
  rw [h2, List.length_drop]
  simp [Go.Proofs.Ytdikmklijpcjdaa.atW, this]
theorem opV_none {s : PS} {row lo hi : Int} (h : OpTok s.hd) (hr : RowIs row lo hi) (he : s.rowEnd lo hi = true) : opV (.ok s) row = 0 := by
  show opT s.hd.kind s.hd.text row = 0
  rw [opT_row h hr, if_pos he]
theorem rowEnd_lo {s : PS} {row lo hi : Int} (hr : RowIs row lo hi) (he : s.rowEnd lo hi = false) : lo ≤ numW opsL s.hd.text ∧ numW opsL s.hd.text ≤ hi ∧ 1 ≤ lo := by
  have e : ∀ a b c d : Bool, (a || b || c || d) = false → b = false ∧ c = false := by decide
  obtain ⟨e1, e2⟩ := e _ _ _ _ he
  have e1 := of_decide_eq_false e1
  have e2 := of_decide_eq_false e2
  rcases hr with ⟨rfl, rfl, rfl⟩ | ⟨rfl, rfl, rfl⟩ | ⟨rfl, rfl, rfl⟩ | ⟨rfl, rfl, rfl⟩ | ⟨rfl, rfl, rfl⟩ <;> omega
theorem opV_some {s : PS} {row lo hi : Int} (h : OpTok s.hd) (hr : RowIs row lo hi) (he : s.rowEnd lo hi = false) : opV (.ok s) row = numW opsL s.hd.text ∧ numW opsL s.hd.text ≠ 0 := by
  have hl := rowEnd_lo hr he
  refine ⟨?_, by omega⟩
  show opT s.hd.kind s.hd.text row = _
  rw [opT_row h hr, he, if_neg (by decide)]
set_option maxRecDepth 100000 in
set_option maxHeartbeats 4000000 in
theorem rrow_any {P : Nat} {T : List Tok} {M : Nat} {part : PS → Rp PS} {row lo hi : Int} (hM6 : M ≤ 1000000) (hsub : PartQ P T M 23 #[.pointer (some ⟨P, 0, none⟩), .int .i64 (row + 1)] part) (hok : PartOk part) (hr : RowIs row lo hi) (hE : Ends T) (hTs : ∀ t ∈ T, t.text.size ≤ 1000000) (hTl : T.length ≤ 1000000) (hops : ∀ t ∈ T, OpTok t) :
    PartQ P T M 23 #[.pointer (some ⟨P, 0, none⟩), .int .i64 row] (rowP part lo hi) := by
  intro M' R O r w hM' hg h
  have hrow : 1 ≤ row ∧ row ≤ 5 := by
    rcases hr with ⟨rfl, _, _⟩ | ⟨rfl, _, _⟩ | ⟨rfl, _, _⟩ | ⟨rfl, _, _⟩ | ⟨rfl, _, _⟩ <;> decide
  have hrI : ¬ (5 : Int) < row := by omega
  have hw1 : IntKind.i64.wrap (row + 1) = row + 1 := by rw [IntKind.wrap_i64] <;> omega
  have HB := fun (R : Option Addr × Nat) (O : List Nod) (r : Rp PS) (W : World) (hg : ∀ s, r = .ok s → PGood M' s) (h : TAt W P T R O r) => Lib.hid (hsub M' R O r W hM' hg h)
  have HOp := fun (R : Option Addr × Nat) (O : List Nod) (r : Rp PS) (W : World) (h : TAt W P T R O r) => Lib.hid (rop_any h row)
  have HG1 : Hid (∀ s, bindR r part = .ok s → PGood M' s) := by
    intro s hs
    cases r with
    | error x => cases hs
    | ok s0 => exact ((hok _ _ hs).2 M' (hg s0 rfl)).1
  have HT1 : Hid (tailB part lo hi (bindR r part) (bindR r (rowP part lo hi))) := by
    show tailB _ _ _ _ _
    cases r with
    | error x => exact (rfl : (Except.error x : Rp PS) = Except.error x)
    | ok s0 =>
      show tailB part lo hi (part s0) (rowP part lo hi s0)
      rw [rowP]
      cases hp : part s0 with
      | error x => exact (rfl : (Except.error x : Rp PS) = Except.error x)
      | ok s1 => exact ⟨s1.toks.length, Nat.le_refl _, rfl⟩
  go_enter Try.func23, Try.ntmps23
  go_wp2_with fail
  refine ((HB R O r w hg h).out).mono ?_
  generalize hr1 : bindR r part = r1 at *
  obtain ⟨tr, htr⟩ : ∃ tr, bindR r (rowP part lo hi) = tr := ⟨_, rfl⟩
  rw [htr] at HT1
  have HTR := Lib.hid htr
  rintro e w1 ⟨rfl, R1, O1, t1, f1, m1⟩
  go_wp2_with fail
  refine ((HOp R1 O1 r1 w1 t1).out).mono ?_
  rintro e w2 ⟨rfl, q2⟩
  have HI : Hid (TSt P T R w r1 w2) := ⟨R1, O1, q2.1, f1.trans m1 q2.2.weak, m1⟩
  clear t1 f1 m1 q2 hg h hr1 htr hsub
  go_wp2_with fail
  go_loopw [4] (fun v4 wr => ∃ rc : Rp PS, v4 = .int .i64 (opV rc row) ∧ TSt P T R w rc wr ∧ (∀ s, rc = .ok s → PGood M' s) ∧ Hid (tailB part lo hi rc tr)) (fun v4 wr => if intOf v4 = 0 then 0 else T.length - atW P wr + 1)
  case atStart => exact ⟨r1, rfl, HI.out, HG1.out, HT1⟩
  case round =>
    obtain ⟨rc, rfl, hst, hgc, HTl⟩ := hrel
    have hcase : (opV rc row = 0 ∧ tr = rc) ∨ ∃ s, rc = .ok s ∧ s.rowEnd lo hi = false := by
      cases rc with
      | error x => exact .inl ⟨rfl, HTl.out⟩
      | ok s =>
        obtain ⟨R2, O2, t2, _⟩ := hst
        have hop := hops _ (t2.toks hE).1
        cases he : s.rowEnd lo hi with
        | true => exact .inl ⟨opV_none hop hr he, tailB_end HTl.out he⟩
        | false => exact .inr ⟨s, rfl, he⟩
    rcases hcase with ⟨h0, htr⟩ | ⟨s, rfl, he⟩
    · have HS := Lib.hid hst
      have HE := Lib.hid htr
      rw [h0]
      clear h0 htr hst hgc HTl
      go_wp2_with fail
      first | go_end0 | refine bodyPost_ret (results_none rfl _ _ _) rfl ?_
      rw [HTR.out, HE.out]
      exact ⟨rfl, HS.out⟩
    · obtain ⟨R2, O2, t2, f2, m2⟩ := hst
      have hop := hops _ (t2.toks hE).1
      obtain ⟨v1, v2⟩ := opV_some hop hr he
      have hk := rowEnd_kind he
      have hg2 := hgc s rfl
      obtain ⟨HN1, HN2⟩ := tailB_step hok hg2 HTl.out he
      have HN := Lib.hid HN1
      have HNg := Lib.hid HN2
      rw [v1]
      have hlen := t2.atW
      obtain ⟨op, hopE⟩ : ∃ op, op = numW opsL s.hd.text := ⟨_, rfl⟩
      rw [← hopE] at v1 v2 ⊢
      have HOE := Lib.hid hopE
      have V1 := Lib.hid v1
      clear hopE v1
      have hob : (op != 0) = true := by rw [bne_iff_ne]; exact v2
      have HNx := fun (W : World) (h : TAt W P T R2 O2 (.ok s)) => Lib.hid (rnext_any h (fun s' h => by injection h with h; subst h; exact hk) hE)
      have hP2 := t2.lt
      have hNP : wr.heap.size ≠ P := by omega
      have H2 := Lib.hid t2
      have bN : Blk (wr.alloc (.cells (nodC (binN op 0 [] false) none 0 none 0).toArray 37)) wr.heap.size 37 (nodC (binN op 0 [] false) none 0 none 0) := Blk.new wr _ _
      have t3 := t2.below (w' := wr.alloc (.cells (nodC (binN op 0 [] false) none 0 none 0).toArray 37)) ((Below.refl _ _).alloc (Nat.le_refl _) _)
      have hb3 : Below wr.heap.size wr (wr.alloc (.cells (nodC (binN op 0 [] false) none 0 none 0).toArray 37)) := (Below.refl _ _).alloc (Nat.le_refl _) _
      go_upto_region 7 with fail
      generalize hW : World.alloc _ _ = W3
      have hW' : wr.alloc (.cells (nodC (binN op 0 [] false) none 0 none 0).toArray 37) = W3 := hW
      rw [hW'] at bN t3 hb3
      clear hW hW'
      go_wp2_with fail
      refine ((HNx _ t3).out).mono ?_
      rintro e w4 ⟨rfl, h4⟩
      have b4 := bN.keep (h4.2.block wr.heap.size bN.lt hNP (by simp))
      have f4 : Fr P none wr w4 := (Fr.of_below hb3).transN h4.2
      have BN4 := Lib.hid b4
      have T4 := Lib.hid h4.1
      have F4 := Lib.hid f4
      clear bN t3 hb3 h4 b4 f4 HNx
      have hll := rowEnd_lo hr he
      obtain ⟨b, hbE⟩ : ∃ b, b = s.on.boolN (numW opsL s.hd.text) := ⟨_, rfl⟩
      have hbR : b = (decide (row = 3) && isR (.ok s.on) 3 sBool) := by
        rw [hbE]
        show PS.boolN s.on _ = (_ && s.on.is 3 sBool)
        unfold PS.boolN
        congr 1
        rcases hr with ⟨rfl, rfl, rfl⟩ | ⟨rfl, rfl, rfl⟩ | ⟨rfl, rfl, rfl⟩ | ⟨rfl, rfl, rfl⟩ | ⟨rfl, rfl, rfl⟩
        · rw [decide_eq_false (by omega : ¬ (5 : Int) ≤ numW opsL s.hd.text)]; rfl
        · rw [decide_eq_false (by omega : ¬ (5 : Int) ≤ numW opsL s.hd.text)]; rfl
        · rw [decide_eq_true (by omega : (5 : Int) ≤ numW opsL s.hd.text), decide_eq_true (by omega : numW opsL s.hd.text ≤ 10)]; rfl
        · rw [decide_eq_false (by omega : ¬ numW opsL s.hd.text ≤ 10), Bool.and_false]; rfl
        · rw [decide_eq_false (by omega : ¬ numW opsL s.hd.text ≤ 10), Bool.and_false]; rfl
      have HBE := Lib.hid hbE
      have HBR := Lib.hid hbR
      clear hbE hbR hll
      have HWd := fun (W : World) (h : TAt W P T R2 O2 (.ok s.on)) (t : ByteArray) => Lib.hid (rword_q (TQ.start h) t)
      have T5 : Hid (TAt w4 P T R2 O2 (.ok s.on)) := T4.out
      clear T4
      go_upto_region 8 with fail
      go_cut [31] (fun v wx => v = .bool b ∧ Hid (TAt wx P T R2 O2 (.ok s.on)) ∧ Hid (Blk wx wr.heap.size 37 (nodC (binN op 0 [] false) none 0 none 0)) ∧ Hid (Fr P none wr wx))
      case first =>
        by_cases h3 : row = 3
        · have h3b : (row == 3) = true := by rw [beq_iff_eq]; exact h3
          have HB3 : Hid (b = isR (.ok s.on) 3 sBool) := by show _ = _; rw [HBR.out, decide_eq_true h3]; rfl
          clear h3
          go_wp2_with fail
          refine ((HWd _ T5.out sBool).out).mono ?_
          rintro e w5 ⟨rfl, h5⟩
          have b5 := BN4.out.keep (h5.2.block wr.heap.size BN4.out.lt hNP (by simp))
          have F5 := Lib.hid (F4.out.transN h5.2)
          have T6 := Lib.hid h5.1
          have B5 := Lib.hid b5
          clear h5 b5
          go_wp2_with fail
          go_meet
          exact ⟨by rw [HB3.out], T6, B5, F5⟩
        · have h3b : (row == 3) = false := by rw [beq_eq_false_iff_ne]; exact h3
          have HB3 : Hid (b = false) := by show _ = _; rw [HBR.out, decide_eq_false h3]; rfl
          clear h3
          go_wp2_with fail
          go_meet
          exact ⟨by rw [HB3.out], T5, BN4, F4⟩
      case rest =>
        obtain ⟨rfl, T6, B6, F6⟩ := hcut
        clear T5 BN4 F4
        go_upto_if 31 with fail
        go_cut [32] (fun _ wx => Hid (TAt wx P T R2 O2 (.ok (afterOp s)) ∧ Blk wx wr.heap.size 37 (nodC (binN op 0 [] b) none 0 none 0) ∧ Fr P none wr wx))
        case first =>
          cases b with
          | false =>
            have HA : Hid (afterOp s = s.on) := by show _ = _; rw [afterOp, ← HBE.out]; rfl
            go_wp2_with fail
            go_meet
            exact ⟨by rw [HA.out]; exact T6.out, B6.out, F6.out⟩
          | true =>
            have HA : Hid (afterOp s = s.on.on) := by show _ = _; rw [afterOp, ← HBE.out]; rfl
            have hkb : s.on.hd.kind ≠ 0 := by
              have h1 : s.on.boolN (numW opsL s.hd.text) = true := HBE.out.symm
              simp only [PS.boolN, Bool.and_eq_true] at h1
              rw [is_kind h1.2]; decide
            have hq : TQ P T R2 O2 wr (.ok s.on) wc := ⟨T6.out, F6.out⟩
            have Q7 := Lib.hid (hq.setNew H2.out (Nat.le_refl _) 8 (.bool true))
            have B7 := Lib.hid (B6.out.set 8 (.bool true))
            have n8 := B6.out.cell (j := 8) rfl
            have fN := B6.out.frozen
            have HNb := fun (W : World) (h : TAt W P T R2 O2 (.ok s.on)) => Lib.hid (rnext_any h (fun s' h => by injection h with h; subst h; exact hkb) hE)
            clear hkb hq
            go_wp2_with fail
            refine ((HNb _ Q7.out.1).out).mono ?_
            rintro e w8 ⟨rfl, h8⟩
            have b8 := B7.out.keep (h8.2.block wr.heap.size B7.out.lt hNP (by simp))
            have f8 := Q7.out.2.transN h8.2
            have H8 := Lib.hid h8.1
            have B8 := Lib.hid b8
            have F8 := Lib.hid f8
            clear h8 b8 f8
            go_wp2_with fail
            go_meet
            exact ⟨by rw [HA.out]; exact H8.out, B8.out, F8.out⟩
        case rest =>
          obtain ⟨t7, b7, f7⟩ := hcut.out
          have HM := Lib.hid (rmatch_any t7 hE hTs hTl (binN op 0 [] b) rfl rfl rfl)
          have hRb : ∀ x, R2.1.map Addr.block = some x → x < wr.heap.size := fun x hx => by
            obtain ⟨q', hq', _⟩ := H2.out
            exact (hq'.above (b := x) hx).2
          have n0 := b7.cell (j := 0) rfl
          have n1 := b7.cell (j := 1) rfl
          have n2 := b7.cell (j := 2) rfl
          have n3 := b7.cell (j := 3) rfl
          have n4 := b7.cell (j := 4) rfl
          have n5 := b7.cell (j := 5) rfl
          have n6 := b7.cell (j := 6) rfl
          have n7 := b7.cell (j := 7) rfl
          have n8 := b7.cell (j := 8) rfl
          have n9 := b7.cell (j := 9) rfl
          have fN := b7.frozen
          have B7 := Lib.hid b7
          have F7 := Lib.hid f7
          clear b7 f7 T6 B6 F6 hcut t7
          generalize hsB : stepB part s = rn at *
          have HSB := Lib.hid hsB
          clear hsB
          go_wp2_with fail
          refine (HM.out).mono ?_
          cases hgq : groupQ (.ok (afterOp s)) with
          | error z =>
            rintro e w9 ⟨y, Am, cm, An, cn, rfl, h9⟩
            have HO9 : Hid (Own w9 wr.heap.size 9 1 none 0 0 (textsC [])) := Own.nil_ (by decide)
            have hneA : some wr.heap.size ≠ (none : Option Addr).map Addr.block := by simp
            have b9 := B7.out.keep (h9.2.block wr.heap.size B7.out.lt hNP (by simp))
            have hq9 : TQ P T R2 O2 wr (.error z) w9 := ⟨h9.1, F7.out.transN h9.2⟩
            have n0 := b9.cell (j := 0) rfl
            have n1 := b9.cell (j := 1) rfl
            have n2 := b9.cell (j := 2) rfl
            have n3 := b9.cell (j := 3) rfl
            have n4 := b9.cell (j := 4) rfl
            have n5 := b9.cell (j := 5) rfl
            have n6 := b9.cell (j := 6) rfl
            have n7 := b9.cell (j := 7) rfl
            have n8 := b9.cell (j := 8) rfl
            have n9 := b9.cell (j := 9) rfl
            have fN := b9.frozen
            have HQ9 := Lib.hid hq9
            have B9 := Lib.hid b9
            clear b9 hq9 h9 B7 F7 HM
            dsimp only [nodV, nodC]
            go_wp2_with fail
            generalize hW : World.setCell _ _ _ = W10
            have hb10 : Blk W10 wr.heap.size 37 (nodC y Am cm An cn) ∧ TQ P T R2 O2 wr (.error z) W10 ∧ Own W10 wr.heap.size 9 1 none 0 0 (textsC []) := by
              rw [← hW]
              exact ⟨((((((((((B9.out.set 0 _).set 1 _).set 2 _).set 3 _).set 4 _).set 5 _).set 6 _).set 7 _).set 8 _).set 9 _), ((((((((((HQ9.out.setNew H2.out (Nat.le_refl _) 0 _).setNew H2.out (Nat.le_refl _) 1 _).setNew H2.out (Nat.le_refl _) 2 _).setNew H2.out (Nat.le_refl _) 3 _).setNew H2.out (Nat.le_refl _) 4 _).setNew H2.out (Nat.le_refl _) 5 _).setNew H2.out (Nat.le_refl _) 6 _).setNew H2.out (Nat.le_refl _) 7 _).setNew H2.out (Nat.le_refl _) 8 _).setNew H2.out (Nat.le_refl _) 9 _), ((((((((((HO9.out.setOther hneA 0 _).setOther hneA 1 _).setOther hneA 2 _).setOther hneA 3 _).setOther hneA 4 _).setOther hneA 5 _).setOther hneA 6 _).setOther hneA 7 _).setOther hneA 8 _).setOther hneA 9 _)⟩
            obtain ⟨b10, q10, o10⟩ := hb10
            clear hW B9 HQ9 HO9 hneA
            refine ((HB R2 O2 (.error z) W10 (fun s h => by cases h) q10.1).out).mono ?_
            rintro e w11 ⟨rfl, R9, O9, t9, f9, m9⟩
            have b11 := b10.keep (f9.block wr.heap.size b10.lt hNP (fun e => by have := hRb _ e; omega))
            have k0 := b11.cell (j := 0) rfl
            have k1 := b11.cell (j := 1) rfl
            have k2 := b11.cell (j := 2) rfl
            have k3 := b11.cell (j := 3) rfl
            have k4 := b11.cell (j := 4) rfl
            have k5 := b11.cell (j := 5) rfl
            have k6 := b11.cell (j := 6) rfl
            have k7 := b11.cell (j := 7) rfl
            have k8 := b11.cell (j := 8) rfl
            have k9 := b11.cell (j := 9) rfl
            have O11 : Hid (Own w11 wr.heap.size 9 1 none 0 0 (textsC [])) := o10.same (fun x hx => f9.block x (o10.block hx).2 (by have := (o10.block hx).1; omega) (fun e => (by simp at hx)))
            have F11 := Lib.hid ((f2.trans m2 q10.2.weak).trans m2 f9)
            have M11 := Lib.hid (m2.trans m9 (by have h1 := f2.size; have h2 := q10.2.size; omega))
            have hEq : layR (bindR (.error z) part) y = rn := by rw [← HSB.out, stepB, hgq]; rfl
            have HLy := Lib.hid (rlay_any t9 y Am An cm cn (fun s h => by cases h) (fun s h => by cases h) (fun s h => by cases h))
            rw [hEq] at HLy
            have BB := Lib.hid b11
            clear hEq t9 f9 m9 b10 q10 o10 b11
            go_wp2_with fail
            refine (HLy.out).mono ?_
            rintro e w12 ⟨rfl, R12, O12, t12, f12, m12⟩
            have HS12 : Hid (Fr P R.1 w w12) := F11.out.trans M11.out f12
            have HM12 : Hid (Mv R.1 R12.1 w) := M11.out.trans m12 F11.out.size
            clear f12 m12 k0 k1 k2 k3 k4 k5 k6 k7 k8 k9
            go_wp2_with fail
            refine ((HOp R12 O12 rn w12 t12).out).mono ?_
            rintro e w13 ⟨rfl, q13⟩
            have HST : Hid (TSt P T R w rn w13) := ⟨R12, O12, q13.1, HS12.out.trans HM12.out q13.2.weak, HM12.out⟩
            have HMe : Hid (∀ s', rn = .ok s' → T.length - atW P w13 < T.length - atW P wr) := fun s' hs => by
              have h1 := (HNg.out s' hs).2
              have h2 := (show TAt w13 P T R12 O12 (.ok s') from hs ▸ q13.1).atW
              omega
            clear q13 t12
            go_wp2_with fail
            go_roundw
            case rel => exact ⟨rn, rfl, HST.out, fun s' hs => (HNg.out s' hs).1, HN⟩
            case measure =>
              show (if opV rn row = 0 then 0 else T.length - atW P w13 + 1) < (if op = 0 then 0 else T.length - atW P wr + 1)
              rw [if_neg v2]
              split
              · omega
              · cases hrn : rn with
                | error x => rename_i hh; rw [hrn] at hh; exact absurd rfl hh
                | ok s' => have := HMe.out s' hrn; omega
          | ok q9 =>
            obtain ⟨s3, g, l⟩ := q9
            rintro e w9 ⟨An, cn, rfl, hO9, h9⟩
            have hst3 := (afterOp_step hk).trans (group_step (show (afterOp s).group sOn sIgn 3 4 = .ok (s3, g, l) from hgq)).1
            have hg3 := (hst3.good M' hg2).more (Nat.sub_le _ _)
            have hg3' : Hid (PGood M' s3) := hg3
            have b9' := B7.out.keep (h9.2.block wr.heap.size B7.out.lt hNP (by simp))
            have hneA := own_ne_blk hO9 b9' (by decide)
            have HO9 := Lib.hid (hO9.lower F7.out.size)
            clear hst3 hg3 b9' hO9
            have b9 := B7.out.keep (h9.2.block wr.heap.size B7.out.lt hNP (by simp))
            have hq9 : TQ P T R2 O2 wr (.ok s3) w9 := ⟨h9.1, F7.out.transN h9.2⟩
            have n0 := b9.cell (j := 0) rfl
            have n1 := b9.cell (j := 1) rfl
            have n2 := b9.cell (j := 2) rfl
            have n3 := b9.cell (j := 3) rfl
            have n4 := b9.cell (j := 4) rfl
            have n5 := b9.cell (j := 5) rfl
            have n6 := b9.cell (j := 6) rfl
            have n7 := b9.cell (j := 7) rfl
            have n8 := b9.cell (j := 8) rfl
            have n9 := b9.cell (j := 9) rfl
            have fN := b9.frozen
            have HQ9 := Lib.hid hq9
            have B9 := Lib.hid b9
            clear b9 hq9 h9 B7 F7 HM
            dsimp only [nodV, nodC]
            go_wp2_with fail
            generalize hW : World.setCell _ _ _ = W10
            have hb10 : Blk W10 wr.heap.size 37 (nodC (setG (binN op 0 [] b) g l) none 0 An cn) ∧ TQ P T R2 O2 wr (.ok s3) W10 ∧ Own W10 wr.heap.size 9 1 An l.length cn (textsC l) := by
              rw [← hW]
              exact ⟨((((((((((B9.out.set 0 _).set 1 _).set 2 _).set 3 _).set 4 _).set 5 _).set 6 _).set 7 _).set 8 _).set 9 _), ((((((((((HQ9.out.setNew H2.out (Nat.le_refl _) 0 _).setNew H2.out (Nat.le_refl _) 1 _).setNew H2.out (Nat.le_refl _) 2 _).setNew H2.out (Nat.le_refl _) 3 _).setNew H2.out (Nat.le_refl _) 4 _).setNew H2.out (Nat.le_refl _) 5 _).setNew H2.out (Nat.le_refl _) 6 _).setNew H2.out (Nat.le_refl _) 7 _).setNew H2.out (Nat.le_refl _) 8 _).setNew H2.out (Nat.le_refl _) 9 _), ((((((((((HO9.out.setOther hneA 0 _).setOther hneA 1 _).setOther hneA 2 _).setOther hneA 3 _).setOther hneA 4 _).setOther hneA 5 _).setOther hneA 6 _).setOther hneA 7 _).setOther hneA 8 _).setOther hneA 9 _)⟩
            obtain ⟨b10, q10, o10⟩ := hb10
            clear hW B9 HQ9 HO9 hneA
            refine ((HB R2 O2 (.ok s3) W10 (fun s' h => by injection h with h; rw [← h]; exact hg3'.out) q10.1).out).mono ?_
            rintro e w11 ⟨rfl, R9, O9, t9, f9, m9⟩
            have b11 := b10.keep (f9.block wr.heap.size b10.lt hNP (fun e => by have := hRb _ e; omega))
            have k0 := b11.cell (j := 0) rfl
            have k1 := b11.cell (j := 1) rfl
            have k2 := b11.cell (j := 2) rfl
            have k3 := b11.cell (j := 3) rfl
            have k4 := b11.cell (j := 4) rfl
            have k5 := b11.cell (j := 5) rfl
            have k6 := b11.cell (j := 6) rfl
            have k7 := b11.cell (j := 7) rfl
            have k8 := b11.cell (j := 8) rfl
            have k9 := b11.cell (j := 9) rfl
            have O11 : Hid (Own w11 wr.heap.size 9 1 An l.length cn (textsC l)) := o10.same (fun x hx => f9.block x (o10.block hx).2 (by have := (o10.block hx).1; omega) (fun e => (by have z1 := hRb _ e; have z2 := (o10.block hx).1; omega)))
            have F11 := Lib.hid ((f2.trans m2 q10.2.weak).trans m2 f9)
            have M11 := Lib.hid (m2.trans m9 (by have h1 := f2.size; have h2 := q10.2.size; omega))
            have hEq : layR (bindR (.ok s3) part) (setG (binN op 0 [] b) g l) = rn := by rw [← HSB.out, stepB, hgq]; (rw [HOE.out, HBE.out]; rfl)
            have HLy := Lib.hid (rlay_any t9 (setG (binN op 0 [] b) g l) none An 0 cn (fun _ _ => Own.nil_ (by decide)) (fun _ _ => O11.out.lower (by omega)) (fun s' hs => by have h6 := ((show TAt w11 P T R9 O9 (.ok s') from hs ▸ t9).toks hE).2.2.2.2; rw [← h6]; have hb : part s3 = .ok s' := hs; have z1 := ((hok _ _ hb).2 M' hg3'.out).1.room; omega))
            rw [hEq] at HLy
            have BB := Lib.hid b11
            clear hEq t9 f9 m9 b10 q10 o10 b11
            go_wp2_with fail
            refine (HLy.out).mono ?_
            rintro e w12 ⟨rfl, R12, O12, t12, f12, m12⟩
            have HS12 : Hid (Fr P R.1 w w12) := F11.out.trans M11.out f12
            have HM12 : Hid (Mv R.1 R12.1 w) := M11.out.trans m12 F11.out.size
            clear f12 m12 k0 k1 k2 k3 k4 k5 k6 k7 k8 k9
            go_wp2_with fail
            refine ((HOp R12 O12 rn w12 t12).out).mono ?_
            rintro e w13 ⟨rfl, q13⟩
            have HST : Hid (TSt P T R w rn w13) := ⟨R12, O12, q13.1, HS12.out.trans HM12.out q13.2.weak, HM12.out⟩
            have HMe : Hid (∀ s', rn = .ok s' → T.length - atW P w13 < T.length - atW P wr) := fun s' hs => by
              have h1 := (HNg.out s' hs).2
              have h2 := (show TAt w13 P T R12 O12 (.ok s') from hs ▸ q13.1).atW
              omega
            clear q13 t12
            go_wp2_with fail
            go_roundw
            case rel => exact ⟨rn, rfl, HST.out, fun s' hs => (HNg.out s' hs).1, HN⟩
            case measure =>
              show (if opV rn row = 0 then 0 else T.length - atW P w13 + 1) < (if op = 0 then 0 else T.length - atW P wr + 1)
              rw [if_neg v2]
              split
              · omega
              · cases hrn : rn with
                | error x => rename_i hh; rw [hrn] at hh; exact absurd rfl hh
                | ok s' => have := HMe.out s' hrn; omega
end
end Go.Proofs.Ytdikmklijpcjdaa
