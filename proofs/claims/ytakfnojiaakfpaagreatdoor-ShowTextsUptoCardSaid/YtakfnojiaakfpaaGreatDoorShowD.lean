/- Plain laws: two trees with one text are one; a span is shown in its greatest unit. -/
import Derived.Test.YtakfnojiaakfpaaGreatDoorPQuery
import Derived.Test.YtakfnojiaakfpaaGreatDoorTypSrc
import Derived.Lib.ItoaNum
namespace Go.Proofs.YtakfnojiaakfpaaGreatDoor
section
open Go.RowKit
theorem tw_all {q : UInt8 → Bool} {x : UInt8} (hx : q x = false) (b : List UInt8) : ∀ l : List UInt8, l.all q = true → (l ++ x :: b).takeWhile q = l
  | [], _ => by simp [hx]
  | c :: r, h => by
    rw [List.all_cons, Bool.and_eq_true] at h
    rw [List.cons_append, List.takeWhile_cons, if_pos h.1, tw_all hx b r h.2]
theorem tw_full {q : UInt8 → Bool} : ∀ l : List UInt8, l.all q = true → l.takeWhile q = l
  | [], _ => rfl
  | c :: r, h => by
    rw [List.all_cons, Bool.and_eq_true] at h
    rw [List.takeWhile_cons, if_pos h.1, tw_full r h.2]
/-- A byte that begins a sign. -/
def sgB (c : UInt8) : Bool := !blankB c && !dchar c && !letB c && !decide (c.toNat = 34)
theorem lex_sign {c : UInt8} (hc : sgB c = true) (p n : Nat) (r : List UInt8) (hn : signN (c :: r) = n) (h1 : 1 ≤ n) : lexL p (c :: r) = (lexL (p + n) ((c :: r).drop n)).pre [⟨5, p, mkB ((c :: r).take n), 0⟩] := by
  simp only [sgB, Bool.and_eq_true, Bool.not_eq_true', decide_eq_false_iff_not] at hc
  obtain ⟨⟨⟨h2, h3⟩, h4⟩, h5⟩ := hc
  rw [lexL_cons]
  simp only [oneL]
  rw [if_neg (by rw [h2]; decide), if_neg (by rw [h3]; decide), if_neg (by rw [h4]; decide), if_neg h5, if_pos (by rw [hn]; exact h1), hn]
end
section
open Go.RowKit
/-- A part's text, its row, and how deep it is nested. -/
structure Sd where
  text : ByteArray
  row : Int
  deep : Int
def sBlank : ByteArray := ⟨#[32]⟩
def sCommaB : ByteArray := ⟨#[44, 32]⟩
def sQuote : ByteArray := ⟨#[34]⟩
def sDay : ByteArray := ⟨#[100]⟩
def sHour : ByteArray := ⟨#[104]⟩
def sMin : ByteArray := ⟨#[109]⟩
def sSec : ByteArray := ⟨#[115]⟩
def sOffsetB : ByteArray := ⟨#[32, 111, 102, 102, 115, 101, 116, 32]⟩
def sBoolB : ByteArray := ⟨#[32, 98, 111, 111, 108]⟩
def sOnB : ByteArray := ⟨#[32, 111, 110, 32]⟩
def sIgnB : ByteArray := ⟨#[32, 105, 103, 110, 111, 114, 105, 110, 103, 32]⟩
def sByB : ByteArray := ⟨#[32, 98, 121, 32]⟩
def sWithoutB : ByteArray := ⟨#[32, 119, 105, 116, 104, 111, 117, 116, 32]⟩
/-- A part in brackets behind a word. -/
def Sd.inside (s : Sd) (w : ByteArray) : Sd := ⟨w ++ sO ++ s.text ++ sC, 7, s.deep + 1⟩
/-- A part, in brackets if its row is below one. -/
def Sd.within (s : Sd) (k : Int) : Sd := if k ≤ s.row then s else s.inside ByteArray.empty
def decT (v : Int) : ByteArray := mkB (Lib.decDigits v.toNat)
def spanT (v : Int) : ByteArray :=
  if v % 86400 = 0 then decT (v / 86400) ++ sDay else if v % 3600 = 0 then decT (v / 3600) ++ sHour else if v % 60 = 0 then decT (v / 60) ++ sMin else decT v ++ sSec
/-- Texts with a comma and a blank between them. -/
def joinT : List ByteArray → ByteArray
  | [] => ByteArray.empty
  | [x] => x
  | x :: y :: r => x ++ sCommaB ++ joinT (y :: r)
def namesT (l : List ByteArray) : ByteArray := sO ++ joinT l ++ sC
/-- A byte in quotes. -/
def escT (c : UInt8) : List UInt8 := if c.toNat = 92 then [92, 92] else if c.toNat = 34 then [92, 34] else if c.toNat = 10 then [92, 110] else [c]
def quoT (s : ByteArray) : ByteArray := sQuote ++ mkB (s.data.toList.flatMap escT) ++ sQuote
def matcherT (m : Mat) : ByteArray := m.name ++ matsL.getD m.kind.toNat ByteArray.empty ++ quoT m.val
/-- Is it a word? -/
def wordT (s : ByteArray) : Bool := (match s.data.toList with
  | [] => false
  | c :: _ => !dchar c) && s.data.toList.all wordC
/-- Can a select's first matcher stand as a word? -/
def namedT : List Mat → Bool
  | [] => false
  | m :: _ => decide (m.kind = 1) && decide (m.name = sNameN) && wordT m.val && !keptB m.val
def headT (ms : List Mat) : ByteArray := if namedT ms = true then (ms.headD ⟨0, ByteArray.empty, ByteArray.empty⟩).val else ByteArray.empty
def restT (ms : List Mat) : List Mat := if namedT ms = true then ms.tail else ms
def bracesT (ms : List Mat) : ByteArray := sCurl ++ joinT (ms.map matcherT) ++ sUncurl
def sel0 (ms : List Mat) : ByteArray := if namedT ms = true ∧ restT ms = [] then headT ms else headT ms ++ bracesT (restT ms)
def sel1T (n : Nod) : ByteArray := if n.kind = 3 then sel0 n.mat ++ sSq ++ spanT n.width ++ sUnsq else sel0 n.mat
/-- A select's text. -/
def selT (n : Nod) : ByteArray := if 0 < n.back then sel1T n ++ sOffsetB ++ spanT n.back else sel1T n
def rowN (op : Int) : Int := if op = 12 then 1 else if setB op = true then 2 else if cmpB op = true then 3 else if op = 1 ∨ op = 2 then 4 else 5
def opT (op : Int) : ByteArray := opsL.getD op.toNat ByteArray.empty
def binMid (n : Nod) : ByteArray :=
  (if n.cmp = true then sBlank ++ opT n.op ++ sBoolB else sBlank ++ opT n.op) ++ (if n.grp = 3 then sOnB ++ namesT n.names else if n.grp = 4 then sIgnB ++ namesT n.names else ByteArray.empty)
def binT (n : Nod) (a b : Sd) : Sd :=
  ⟨(a.within (rowN n.op)).text ++ binMid n ++ sBlank ++ (b.within (rowN n.op + 1)).text, rowN n.op, max (a.within (rowN n.op)).deep (b.within (rowN n.op + 1)).deep⟩
def aggW (n : Nod) : ByteArray :=
  aggsL.getD n.op.toNat ByteArray.empty ++ (if n.grp = 1 then sByB ++ namesT n.names ++ sBlank else if n.grp = 2 then sWithoutB ++ namesT n.names ++ sBlank else ByteArray.empty)
def negT (a : Sd) : Sd := ⟨sMinus ++ (a.within 6).text, 6, (a.within 6).deep + 1⟩
def sd0 : Sd := ⟨ByteArray.empty, 0, 0⟩
/-- A node over its parts. -/
def sayT (n : Nod) (p : List Sd) : Sd :=
  if n.kind = 1 then ⟨n.text, 7, 0⟩
  else if n.kind = 2 ∨ n.kind = 3 then ⟨selT n, 7, 0⟩
  else if n.kind = 4 then (p.getD 0 sd0).inside (funcsL.getD n.op.toNat ByteArray.empty)
  else if n.kind = 5 then (p.getD 0 sd0).inside (aggW n)
  else if n.kind = 6 then binT n (p.getD 0 sd0) (p.getD 1 sd0)
  else negT (p.getD 0 sd0)
def cutT (st : List Sd) (n : Nod) : Nat := st.length - n.parts.toNat
def Sd.over (s : Sd) : Bool := decide (4096 < s.text.size) || decide (64 < s.deep)
def showF : List Nod → List Sd → Option (List Sd)
  | [], st => some st
  | n :: r, st => if (sayT n (st.drop (cutT st n))).over = true then none else showF r (st.take (cutT st n) ++ [sayT n (st.drop (cutT st n))])
/-- Can a value be written? -/
def cleanB (s : ByteArray) : Bool := s.data.toList.all fun c => decide (32 ≤ c.toNat) || decide (c.toNat = 10)
def mayB (ns : List Nod) : Bool := ns.all fun n => n.mat.all fun m => cleanB m.val
/-- Any tree is written, or refused. -/
def showT (ns : List Nod) : ByteArray × Int :=
  if (checkN ns).2.2 ≠ 0 ∨ mayB ns = false then (ByteArray.empty, 200)
  else match showF ns [] with
    | none => (ByteArray.empty, 200)
    | some st => ((st.getD 0 sd0).text, 0)
end
section
open Go.RowKit
abbrev Key := Int × ByteArray × Nat
theorem mkB_toList (l : List UInt8) : (mkB l).data.toList = l := by simp [mkB]
theorem app_data (a b : ByteArray) : (a ++ b).data.toList = a.data.toList ++ b.data.toList := by simp [ByteArray.data_append]
/-- A text is cut into these, if what stands behind begins with such a byte. -/
def Lx (P : UInt8 → Prop) (l : List UInt8) (ks : List Key) : Prop :=
  ∀ (p : Nat) (b : List UInt8), (∀ x r, b = x :: r → P x) → ∃ ts : List Tok, ts.map Tok.key = ks ∧ lexL p (l ++ b) = (lexL (p + l.length) b).pre ts
def AnyP : UInt8 → Prop := fun _ => True
def WordP : UInt8 → Prop := fun x => wordC x = false
def NumP : UInt8 → Prop := fun x => numC x = false
theorem Lx.mono {P Q : UInt8 → Prop} {l : List UInt8} {ks : List Key} (h : Lx P l ks) (hq : ∀ x, Q x → P x) : Lx Q l ks := fun p b hb => h p b fun x r e => hq x (hb x r e)
theorem Lx.any {Q : UInt8 → Prop} {l : List UInt8} {ks : List Key} (h : Lx AnyP l ks) : Lx Q l ks := h.mono fun _ _ => trivial
theorem Lx.word {l : List UInt8} {ks : List Key} (h : Lx WordP l ks) : Lx Cuts l ks := h.mono fun _ hx => hx.word
theorem Lx.num {l : List UInt8} {ks : List Key} (h : Lx NumP l ks) : Lx Cuts l ks := h.mono fun _ hx => hx.num
theorem Lx.nil {P : UInt8 → Prop} : Lx P [] [] := fun p b _ => ⟨[], rfl, by simp [pre_nil]⟩
theorem Lx.app {P Q : UInt8 → Prop} {a b : List UInt8} {ka kb : List Key} (h1 : Lx P a ka) (h2 : Lx Q b kb) (hb : ∀ x r, b = x :: r → P x) (hn : b ≠ []) : Lx Q (a ++ b) (ka ++ kb) := by
  intro p c hc
  obtain ⟨t1, e1, f1⟩ := h1 p (b ++ c) (by
    intro x r e
    cases b with
    | nil => exact absurd rfl hn
    | cons y s =>
      rw [List.cons_append] at e
      injection e with e _
      subst e
      exact hb _ s rfl)
  obtain ⟨t2, e2, f2⟩ := h2 (p + a.length) c hc
  refine ⟨t1 ++ t2, by rw [List.map_append, e1, e2], ?_⟩
  rw [List.append_assoc, f1, f2, pre_pre, List.length_append, Nat.add_assoc]
theorem Lx.app_any {Q : UInt8 → Prop} {a b : List UInt8} {ka kb : List Key} (h1 : Lx AnyP a ka) (h2 : Lx Q b kb) : Lx Q (a ++ b) (ka ++ kb) := by
  intro p c hc
  obtain ⟨t1, e1, f1⟩ := h1 p (b ++ c) fun _ _ _ => trivial
  obtain ⟨t2, e2, f2⟩ := h2 (p + a.length) c hc
  refine ⟨t1 ++ t2, by rw [List.map_append, e1, e2], ?_⟩
  rw [List.append_assoc, f1, f2, pre_pre, List.length_append, Nat.add_assoc]
/-- One byte that is a sign whatever stands behind it. -/
theorem lx_sign (c : UInt8) (h : (sgB c && sign1 c) = true) (h2 : ∀ x, sign2 [c, x] = false) : Lx AnyP [c] [(5, mkB [c], 0)] := by
  intro p b _
  simp only [Bool.and_eq_true] at h
  have hn : signN (c :: b) = 1 := by
    cases b with
    | nil => simp [signN, h.2]
    | cons x b => simp [signN, h.2, h2]
  refine ⟨[⟨5, p, mkB [c], 0⟩], rfl, ?_⟩
  show lexL p (c :: b) = _
  rw [lex_sign h.1 p 1 _ hn (by decide)]
  simp
theorem lx_open : Lx AnyP [40] [openK] := lx_sign 40 (by decide) fun x => by simp [sign2]
theorem lx_close : Lx AnyP [41] [closeK] := lx_sign 41 (by decide) fun x => by simp [sign2]
theorem let_all : ∀ n : Nat, n < 256 → letB (UInt8.ofNat n) = true → blankB (UInt8.ofNat n) = false ∧ dchar (UInt8.ofNat n) = false := by decide +kernel
theorem let_is {c : UInt8} (h : letB c = true) : blankB c = false ∧ dchar c = false := by
  have := let_all c.toNat c.toNat_lt
  rw [UInt8.ofNat_toNat] at this
  exact this h
theorem tw_end {q : UInt8 → Bool} {l b : List UInt8} (hl : l.all q = true) (hb : ∀ x r, b = x :: r → q x = false) : (l ++ b).takeWhile q = l := by
  cases b with
  | nil => rw [List.append_nil]; exact tw_full l hl
  | cons x b => exact tw_all (hb x b rfl) b l hl
/-- A word. -/
theorem lx_word {w : ByteArray} (h : wordT w = true) : Lx WordP w.data.toList [wordK w] := by
  intro p b hb
  simp only [wordT, Bool.and_eq_true] at h
  obtain ⟨h1, h2⟩ := h
  have ht := tw_end h2 hb
  cases hl : w.data.toList with
  | nil => rw [hl] at h1; cases h1
  | cons c r =>
    have hw : mkB (c :: r) = w := by rw [← hl]; rfl
    rw [hl] at h1 h2 ht
    simp only [Bool.not_eq_true'] at h1
    rw [List.all_cons, Bool.and_eq_true] at h2
    have h3 : letB c = true := by
      have := h2.1
      simp only [wordC, h1, Bool.or_false] at this
      exact this
    refine ⟨[⟨3, p, w, 0⟩], rfl, ?_⟩
    rw [List.cons_append] at ht
    rw [List.cons_append, lexL_cons]
    simp only [oneL, runN, ht]
    rw [if_neg (by rw [(let_is h3).1]; decide), if_neg (by rw [h1]; decide), if_pos h3]
    dsimp only
    rw [← List.cons_append, List.drop_left, hw]
theorem dd_len : ∀ (k u : Nat), u < 10 ^ (k + 1) → (Lib.decDigits u).length ≤ k + 1
  | 0, u, h => by
    rw [Lib.decDigits, dif_pos (by simpa using h)]
    simp
  | k + 1, u, h => by
    rw [Lib.decDigits]
    split
    · simp
    · have := dd_len k (u / 10) (by rw [Nat.pow_succ] at h; omega)
      rw [List.length_append, List.length_singleton]
      omega
theorem named_word {ms : List Mat} (h : namedT ms = true) : ∃ m r, ms = m :: r ∧ m.kind = 1 ∧ m.name = sNameN ∧ wordT m.val = true ∧ keptB m.val = false ∧ headT ms = m.val ∧ restT ms = r := by
  cases ms with
  | nil => cases h
  | cons m r =>
    have hh := h
    simp only [namedT, Bool.and_eq_true, decide_eq_true_eq, Bool.not_eq_true'] at hh
    exact ⟨m, r, rfl, hh.1.1.1, hh.1.1.2, hh.1.2, hh.2, by rw [headT, if_pos h]; rfl, by rw [restT, if_pos h]; rfl⟩
theorem rest_sub {ms : List Mat} : ∀ m ∈ restT ms, m ∈ ms := by
  intro m hm
  unfold restT at hm
  split at hm
  · exact List.mem_of_mem_tail hm
  · exact hm
end
section
open Go.RowKit
def LP (l n : Nat) : PS → Rp PS :=
  if l = 1 then orP (unaryP n) else if l = 2 then andP (unaryP n) else if l = 3 then cmpP (unaryP n) else if l = 4 then sumP (unaryP n) else if l = 5 then termP (unaryP n) else unaryP n
def loL (l : Nat) : Int := if l = 1 then 12 else if l = 2 then 11 else if l = 3 then 5 else if l = 4 then 1 else 3
def hiL (l : Nat) : Int := if l = 1 then 12 else if l = 2 then 13 else if l = 3 then 10 else if l = 4 then 2 else 4
theorem LP_eq {l : Nat} (h1 : 1 ≤ l) (h5 : l ≤ 5) (n : Nat) : LP l n = rowP (LP (l + 1) n) (loL l) (hiL l) := by
  rcases (by omega : l = 1 ∨ l = 2 ∨ l = 3 ∨ l = 4 ∨ l = 5) with h | h | h | h | h <;> subst h <;> rfl
theorem LP_one (n : Nat) : LP 1 n = orP (unaryP n) := rfl
/-- Does a token follow an operand? -/
def StopZ (z : Tok) : Prop := z.kind = 0 ∨ (z.kind = 5 ∧ z.text = sC) ∨ ((z.kind = 5 ∨ z.kind = 3) ∧ 1 ≤ numW opsL z.text)
def tokRow (z : Tok) : Int := if (z.kind = 5 ∨ z.kind = 3) ∧ 1 ≤ numW opsL z.text then rowN (numW opsL z.text) else 0
theorem ops_range (w : ByteArray) : 0 ≤ numW opsL w ∧ numW opsL w ≤ 13 := by
  rcases numF_in w opsL 0 with h | ⟨h1, h2⟩
  · rw [numW, h]; decide
  · have : opsL.length = 14 := by decide
    rw [this] at h2
    simp only [numW]
    omega
def rowChk (k l : Nat) : Bool := decide (1 ≤ rowN (k : Int)) && decide (rowN (k : Int) ≤ 5) && (decide (¬ rowN (k : Int) < (l : Int)) || decide ((k : Int) < loL l) || decide (hiL l < (k : Int)) || (decide (loL l = 11) && decide ((k : Int) = 12))) &&
  (decide (¬ rowN (k : Int) = (l : Int)) || (decide (¬ (k : Int) < loL l) && decide (¬ hiL l < (k : Int)) && !(decide (loL l = 11) && decide ((k : Int) = 12))))
theorem row_all : ((List.range 14).all fun k => (List.range 6).all fun l => k == 0 || l == 0 || rowChk k l) = true := by decide +kernel
theorem row_at {k : Int} (h1 : 1 ≤ k) (h2 : k ≤ 13) {l : Nat} (hl1 : 1 ≤ l) (hl : l ≤ 5) : 1 ≤ rowN k ∧ rowN k ≤ 5 ∧ (rowN k < (l : Int) → k < loL l ∨ hiL l < k ∨ (loL l = 11 ∧ k = 12)) ∧
    (rowN k = (l : Int) → ¬ k < loL l ∧ ¬ hiL l < k ∧ ¬ (loL l = 11 ∧ k = 12)) := by
  have h := List.all_eq_true.1 (List.all_eq_true.1 row_all k.toNat (List.mem_range.2 (by omega))) l (List.mem_range.2 (by omega))
  have e1 : (k.toNat == 0) = false := by simp; omega
  have e2 : (l == 0) = false := by simp; omega
  rw [e1, e2, Bool.false_or, Bool.false_or] at h
  simp only [rowChk, show ((k.toNat : Nat) : Int) = k by omega, Bool.and_eq_true, Bool.or_eq_true, decide_eq_true_eq, Bool.not_eq_true', Bool.and_eq_false_iff, decide_eq_false_iff_not] at h
  obtain ⟨⟨⟨h1, h2⟩, h3⟩, h4⟩ := h
  refine ⟨h1, h2, fun h => ?_, fun h => ?_⟩
  · rcases h3 with ((h3 | h3) | h3) | h3
    · exact absurd h h3
    · exact .inl h3
    · exact .inr (.inl h3)
    · exact .inr (.inr h3)
  · rcases h4 with h4 | ⟨⟨h4, h5⟩, h6⟩
    · exact absurd h h4
    · exact ⟨h4, h5, fun ⟨x, y⟩ => h6.elim (fun z => z x) fun z => z y⟩
theorem lo_pos (l : Nat) : 1 ≤ loL l := by
  unfold loL
  split
  · decide
  split
  · decide
  split
  · decide
  split <;> decide
theorem rowEnd_low {z : Tok} {r : List Tok} {d : Nat} {o : List Nod} {l : Nat} (h1 : 1 ≤ l) (h5 : l ≤ 5) (hz : tokRow z < (l : Int)) : PS.rowEnd ⟨z :: r, d, o⟩ (loL l) (hiL l) = true := by
  have hh : PS.hd ⟨z :: r, d, o⟩ = z := rfl
  rw [PS.rowEnd, hh]
  simp only [Bool.or_eq_true, Bool.and_eq_true, decide_eq_true_eq]
  by_cases hk : (z.kind = 5 ∨ z.kind = 3) ∧ 1 ≤ numW opsL z.text
  · rw [tokRow, if_pos hk] at hz
    rcases (row_at hk.2 (ops_range _).2 h1 h5).2.2.1 hz with h | h | h
    · exact .inl (.inl (.inr h))
    · exact .inl (.inr h)
    · exact .inr h
  · by_cases hk2 : z.kind = 5 ∨ z.kind = 3
    · have : ¬ 1 ≤ numW opsL z.text := fun h => hk ⟨hk2, h⟩
      have h0 := lo_pos l
      exact .inl (.inl (.inr (by omega)))
    · exact .inl (.inl (.inl ⟨fun h => hk2 (.inl h), fun h => hk2 (.inr h)⟩))
/-- What stands ahead is read at a level, up to what stands behind. -/
def AtL (l n : Nat) (s : PS) (Z : List Tok) (o' : List Nod) : Prop :=
  if 6 ≤ l then unaryP n s = .ok ⟨Z, s.deep, o'⟩ else ∃ m, Z.length ≤ m ∧ LP l n s = rowF (LP (l + 1) n) (loL l) (hiL l) m ⟨Z, s.deep, o'⟩
theorem AtL.ok {l n : Nat} {s : PS} {z : Tok} {zr : List Tok} {o' : List Nod} (h : AtL l n s (z :: zr) o') (h1 : 1 ≤ l) (h6 : l ≤ 6) (hz : tokRow z < (l : Int)) : LP l n s = .ok ⟨z :: zr, s.deep, o'⟩ := by
  unfold AtL at h
  by_cases h7 : 6 ≤ l
  · rw [if_pos h7] at h
    obtain rfl : l = 6 := by omega
    exact h
  · rw [if_neg h7] at h
    obtain ⟨m, _, hm⟩ := h
    rw [hm]
    exact rowF_end (rowEnd_low h1 (by omega) hz) m
theorem AtL.down {l n : Nat} {s : PS} {z : Tok} {zr : List Tok} {o' : List Nod} (h : AtL (l + 1) n s (z :: zr) o') (h1 : 1 ≤ l) (h5 : l ≤ 5) (hz : tokRow z ≤ (l : Int)) : AtL l n s (z :: zr) o' := by
  have hk := h.ok (by omega) (by omega) (by omega)
  unfold AtL
  rw [if_neg (by omega)]
  refine ⟨(z :: zr).length, Nat.le_refl _, ?_⟩
  rw [LP_eq h1 h5, rowP, hk]
/-- Tokens that are read as a tree, of such a row and so deep. -/
structure Rdd (ks : List Key) (r dp : Nat) (seg : List Nod) : Prop where
  row : 1 ≤ r ∧ r ≤ 7
  len : dp < ks.length
  head : ∃ k t, ks = k :: t ∧ (k.1 = 3 → k.2.1 ≠ sBool ∧ k.2.1 ≠ sOn ∧ k.2.1 ≠ sIgn)
  read : ∀ (n d : Nat) (o : List Nod) (toks : List Tok) (z : Tok) (zr : List Tok), toks.map Tok.key = ks → dp < n → d + dp ≤ 64 → StopZ z → tokRow z ≤ (r : Int) → AtL (min r 6) n ⟨toks ++ z :: zr, d, o⟩ (z :: zr) (o ++ seg)
theorem Rdd.at {ks : List Key} {r dp : Nat} {seg : List Nod} (h : Rdd ks r dp seg) {n d : Nat} {o : List Nod} {toks : List Tok} {z : Tok} {zr : List Tok} (hk : toks.map Tok.key = ks) (hn : dp < n) (hd : d + dp ≤ 64) (hs : StopZ z) :
    ∀ (j l : Nat), l + j = min r 6 → 1 ≤ l → tokRow z ≤ (l : Int) → AtL l n ⟨toks ++ z :: zr, d, o⟩ (z :: zr) (o ++ seg)
  | 0, l, hl, _, hz => by
    have := h.read n d o toks z zr hk hn hd hs (by omega)
    rw [Nat.add_zero] at hl
    rw [hl]
    exact this
  | j + 1, l, hl, h1, hz => (Rdd.at h hk hn hd hs j (l + 1) (by omega) (by omega) (by omega)).down h1 (by omega) hz
theorem Rdd.lev {ks : List Key} {r dp : Nat} {seg : List Nod} (h : Rdd ks r dp seg) {n d : Nat} {o : List Nod} {toks : List Tok} {z : Tok} {zr : List Tok} (hk : toks.map Tok.key = ks) (hn : dp < n) (hd : d + dp ≤ 64) (hs : StopZ z)
    {l : Nat} (h1 : 1 ≤ l) (h2 : l ≤ r) (h6 : l ≤ 6) (hz : tokRow z ≤ (l : Int)) : AtL l n ⟨toks ++ z :: zr, d, o⟩ (z :: zr) (o ++ seg) :=
  h.at hk hn hd hs (min r 6 - l) l (by omega) h1 hz
theorem AtL.six {n r : Nat} (hr : 6 ≤ r) {s : PS} {Z : List Tok} {o' : List Nod} (h : unaryP n s = .ok ⟨Z, s.deep, o'⟩) : AtL (min r 6) n s Z o' := by
  rw [show min r 6 = 6 by omega, AtL, if_pos (Nat.le_refl _)]
  exact h
theorem tokRow_close {c : Tok} (h : c.key = closeK) : tokRow c = 0 := by
  obtain ⟨_, h2⟩ := key_close h
  have hn : numW opsL sC = 0 := by kernel_rfl
  rw [tokRow, h2, hn, if_neg (by omega)]
theorem stopZ_close {c : Tok} (h : c.key = closeK) : StopZ c := .inr (.inl (key_close h))
/-- Brackets around what is read. -/
theorem Rdd.bracket {ks : List Key} {r dp : Nat} {seg : List Nod} (h : Rdd ks r dp seg) {x : List Tok} (hx : x.map Tok.key = openK :: (ks ++ [closeK])) {n d : Nat} (hn : dp < n) (hd : d + (dp + 1) ≤ 64) (o : List Nod) (zr : List Tok) :
    bracketP (orP (unaryP n)) ⟨x ++ zr, d, o⟩ = .ok ⟨zr, d, o ++ seg⟩ ∧ ∃ a y, x = a :: y ∧ a.key = openK := by
  obtain ⟨a, y, rfl, ha, hy⟩ := keys_cons hx
  obtain ⟨b, c1, rfl, hb, hcc⟩ := keys_app hy
  obtain ⟨c, c2, rfl, hc, hc2⟩ := keys_cons hcc
  obtain rfl := keys_nil hc2
  refine ⟨?_, a, _, rfl, ha⟩
  obtain ⟨h1, h2⟩ := key_open ha
  obtain ⟨h3, h4⟩ := key_close hc
  have e2 : PS.is ⟨a :: (b ++ [c]) ++ zr, d, o⟩ 5 sO = true := by simp [PS.is, PS.hd, h1, h2]
  have h5 := (h.lev hb hn (d := d + 1) (by omega) (o := o) (stopZ_close hc) (zr := zr) (l := 1) (by decide) h.row.1 (by decide) (by rw [tokRow_close hc]; decide)).ok (by decide) (by decide) (by rw [tokRow_close hc]; decide)
  rw [LP_one] at h5
  rw [bracketP, if_pos e2, openP, if_neg (by show ¬ d = 64; omega)]
  have e3 : (a :: (b ++ [c]) ++ zr).tail = b ++ c :: zr := by simp
  simp only [e3, innerP, h5]
  simp [PS.sign, PS.is, PS.hd, PS.on, h3, h4]
theorem rdd_bracket {ks : List Key} {r dp : Nat} {seg : List Nod} (h : Rdd ks r dp seg) : Rdd (openK :: (ks ++ [closeK])) 7 (dp + 1) seg where
  row := by decide
  len := by have := h.len; simp only [List.length_cons, List.length_append, List.length_nil]; omega
  head := ⟨_, _, rfl, fun h => by cases h⟩
  read := by
    intro n d o toks z zr hk hn hd hs hz
    obtain ⟨n, rfl⟩ : ∃ m, n = m + 1 := ⟨n - 1, by omega⟩
    refine AtL.six (by decide) ?_
    obtain ⟨hb, a, y, rfl, ha⟩ := h.bracket hk (n := n) (by omega) hd o (z :: zr)
    obtain ⟨h1, h2⟩ := key_open ha
    have e1 : PS.is ⟨a :: y ++ z :: zr, d, o⟩ 5 sMinus = false := by simp [PS.is, PS.hd, h1, h2, sO, sMinus]
    have e2 : PS.is ⟨a :: y ++ z :: zr, d, o⟩ 5 sO = true := by simp [PS.is, PS.hd, h1, h2]
    rw [unaryP, e1, if_neg (by decide), oneP, if_neg (by simp [PS.hd, h1]), if_pos e2, hb]
end
section
open Go.RowKit
theorem matCode_iff {ms : List Mat} : matCode ms = 0 ↔ ms.length ≤ 8 ∧ ms.all matB = true := by
  unfold matCode
  split
  · constructor
    · intro h; cases h
    · rintro ⟨h, _⟩; omega
  · split
    · rename_i h1 h2; exact ⟨fun _ => ⟨by omega, h2⟩, fun _ => rfl⟩
    · rename_i h1 h2
      constructor
      · intro h; cases h
      · rintro ⟨_, h⟩; exact absurd h h2
end
section
open Go.RowKit
/-- A part's text is cut, and read as these nodes. -/
def SdOk (s : Sd) (seg : List Nod) : Prop := ∃ (ks : List Key) (r dp : Nat), s.row = (r : Int) ∧ s.deep = (dp : Int) ∧ Lx Cuts s.text.data.toList ks ∧ Rdd ks r dp seg
theorem lx_inside {w : List UInt8} {kw : List Key} (hw : Lx Cuts w kw) {t : List UInt8} {ks : List Key} (h : Lx Cuts t ks) : Lx Cuts (w ++ ([40] ++ (t ++ [41]))) (kw ++ (openK :: (ks ++ [closeK]))) :=
  (hw.app (lx_open.app_any (h.app lx_close (fun z s e => by injection e with e _; subst e; exact cuts_41) (by simp))) (fun z s e => by injection e with e _; subst e; exact cuts_40) (List.cons_ne_nil _ _)).any
theorem inside_data (s : Sd) (w : ByteArray) : (s.inside w).text.data.toList = w.data.toList ++ ([40] ++ (s.text.data.toList ++ [41])) := by
  show (w ++ sO ++ s.text ++ sC).data.toList = _
  rw [app_data, app_data, app_data, List.append_assoc, List.append_assoc]
  rfl
theorem SdOk.within {s : Sd} {seg : List Nod} (h : SdOk s seg) (k : Int) (hk : k ≤ 7) : ∃ (ks : List Key) (r dp : Nat), (s.within k).row = (r : Int) ∧ (s.within k).deep = (dp : Int) ∧ Lx Cuts (s.within k).text.data.toList ks ∧ Rdd ks r dp seg ∧ k ≤ (r : Int) := by
  obtain ⟨ks, r, dp, h1, h2, h3, h4⟩ := h
  unfold Sd.within
  by_cases hr : k ≤ s.row
  · rw [if_pos hr]
    exact ⟨ks, r, dp, h1, h2, h3, h4, by omega⟩
  · rw [if_neg hr]
    refine ⟨_, 7, dp + 1, rfl, by show s.deep + 1 = _; rw [h2]; rfl, ?_, rdd_bracket h4, by omega⟩
    rw [inside_data]
    exact lx_inside (kw := []) Lx.nil h3
/-- A blank, and what stands behind. -/
def Bl (l : List UInt8) : Prop := ∃ r, l = 32 :: r
theorem Bl.ne {l : List UInt8} (h : Bl l) : l ≠ [] := by obtain ⟨r, rfl⟩ := h; simp
theorem form_node {n : Nod} (h : formB n = true) :
    (n = numN n.text ∧ numB n.text.data.toList = true) ∨
    ((n.kind = 2 ∨ n.kind = 3) ∧ n = selN n.kind n.mat n.width n.back ∧ ((n.kind = 2 ∧ n.width = 0) ∨ (n.kind = 3 ∧ 1 ≤ n.width ∧ n.width < 2147483648)) ∧ 0 ≤ n.back ∧ n.back < 2147483648) ∨
    (n = callN n.op ∧ inB 1 12 n.op = true) ∨
    (n = aggN n.op n.grp n.names ∧ inB 1 5 n.op = true ∧ n.names.all nameB = true ∧ (n.grp = 1 ∨ n.grp = 2 ∨ (n.grp = 0 ∧ n.names = []))) ∨
    (n = binN n.op n.grp n.names n.cmp ∧ inB 1 13 n.op = true ∧ n.names.all nameB = true ∧ (n.grp = 3 ∨ n.grp = 4 ∨ (n.grp = 0 ∧ n.names = [])) ∧ (n.cmp = true → cmpB n.op = true)) ∨
    n = negN := by
  obtain ⟨kind, op, text, mat, width, back, grp, names, cmp, parts⟩ := n
  simp only [formB, Bool.and_eq_true] at h
  obtain ⟨⟨⟨h1, h2⟩, h3⟩, h4⟩ := h
  unfold kindOk at h4
  unfold plainB bareN at h1
  unfold nodeNames at h2
  simp only [Bool.and_eq_true, Bool.or_eq_true, decide_eq_true_eq, Bool.not_eq_true', decide_eq_false_iff_not] at h1 h2 h3 h4
  by_cases k1 : kind = 1
  · subst k1
    simp at h1 h2 h3 h4
    obtain ⟨rfl, rfl, rfl, rfl, rfl, rfl⟩ : op = 0 ∧ width = 0 ∧ back = 0 ∧ grp = 0 ∧ cmp = false ∧ parts = 0 := by simp_all
    refine .inl ⟨?_, h4⟩
    simp [numN, h3]
    simpa using h2.2
  by_cases k23 : kind = 2 ∨ kind = 3
  · refine .inr (.inl ⟨k23, ?_⟩)
    rcases k23 with rfl | rfl
    · simp [spanB] at h1 h2 h3 h4
      simp_all [selN]
    · simp [spanB] at h1 h2 h3 h4
      simp_all [selN]
  have k2 : ¬ kind = 2 := fun h => k23 (.inl h)
  have k3 : ¬ kind = 3 := fun h => k23 (.inr h)
  have hm : mat = [] := by rcases h3 with (h | h) | h; exact h; exact absurd h k2; exact absurd h k3
  subst hm
  by_cases k4 : kind = 4
  · subst k4
    simp at h1 h2 h4
    refine .inr (.inr (.inl ?_))
    simp_all [callN]
  by_cases k5 : kind = 5
  · subst k5
    simp at h1 h2 h4
    refine .inr (.inr (.inr (.inl ?_)))
    simp_all [aggN]
    have h5 := h4.2
    simp only [inB, Bool.and_eq_true, decide_eq_true_eq] at h5
    have h6 : grp = 0 ∨ grp = 1 ∨ grp = 2 := by omega
    rcases h6 with h | h | h
    · exact .inr (.inr ⟨h, h2.2.resolve_right fun g => g h⟩)
    · exact .inl h
    · exact .inr (.inl h)
  by_cases k6 : kind = 6
  · subst k6
    simp at h1 h2 h4
    refine .inr (.inr (.inr (.inr (.inl ?_))))
    simp_all [binN]
    refine ⟨?_, fun hc => h4.2.resolve_left (by rw [hc]; decide)⟩
    rcases h4.1.2 with (h | h) | h
    · exact .inr (.inr ⟨h, h2.2.resolve_right fun g => g h⟩)
    · exact .inl h
    · exact .inr (.inl h)
  by_cases k7 : kind = 7
  · subst k7
    simp at h1 h2 h4
    refine .inr (.inr (.inr (.inr (.inr ?_))))
    simp_all [negN]
  simp [k1, k2, k3, k4, k5, k6, k7] at h4
theorem stepN_parts {st : List Int} {n : Nod} (h : (stepN st n).1 = 0) : formB n = true ∧ matCode n.mat = 0 ∧ n.parts ≤ (st.length : Int) ∧ (stepN st n).2.length = st.length - n.parts.toNat + 1 := by
  unfold stepN at h ⊢
  by_cases h1 : formB n = false ∨ (st.length : Int) < n.parts
  · rw [if_pos h1] at h; simp at h
  rw [if_neg h1] at h ⊢
  by_cases h2 : matCode n.mat ≠ 0
  · rw [if_pos h2] at h; simp at h
  rw [if_neg h2] at h ⊢
  refine ⟨by cases hh : formB n with
    | false => exact absurd (.inl hh) h1
    | true => rfl, by simpa using h2, by omega, ?_⟩
  simp only [List.length_append, List.length_take, List.length_singleton]
  omega
end
section
open Go.RowKit
theorem spanT_size {v : Int} (h0 : 0 ≤ v) (h : v < 2147483648) : (spanT v).size ≤ 11 := by
  have key : ∀ (k : Int) (u : ByteArray), 1 ≤ k → u.size = 1 → (decT (v / k) ++ u).size ≤ 11 := by
    intro k u hk hu
    have h1 : (v / k).toNat < 10 ^ (9 + 1) := by
      have h2 : v / k ≤ v := Int.ediv_le_self _ h0
      omega
    have h3 := dd_len 9 _ h1
    have h4 : (decT (v / k)).size = (Lib.decDigits (v / k).toNat).length := by rw [Lib.size_eq, decT, mkB_toList]
    rw [ByteArray.size_append, hu]
    omega
  unfold spanT
  split
  · exact key _ _ (by decide) rfl
  split
  · exact key _ _ (by decide) rfl
  split
  · exact key _ _ (by decide) rfl
  · have := key 1 sSec (by decide) rfl
    rw [Int.ediv_one] at this
    exact this
end
end Go.Proofs.YtakfnojiaakfpaaGreatDoor
