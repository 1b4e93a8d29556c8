/- How a query is read: where it gives up; read amid others; in brackets; two with an operation between. Plain. -/
import Derived.Test.YtakfnojiaakfpaaGreatDoorLexSpec
import Derived.Test.YtakfnojiaakfpaaGreatDoorNodS
import Derived.Test.YtakfnojiaakfpaaGreatDoorMatK
namespace Go.Proofs.YtakfnojiaakfpaaGreatDoor
section
open Go.RowKit
/-- What the reader has left, how deep it is, and what it has laid. -/
structure PS where
  toks : List Tok
  deep : Nat
  out : List Nod
/-- Why and where it gives up. -/
abbrev Rp (α : Type) := Except (Int × Int) α
def tok0 : Tok := ⟨0, 0, ByteArray.empty, 0⟩
def PS.hd (s : PS) : Tok := s.toks.headD tok0
def PS.on (s : PS) : PS := ⟨s.toks.tail, s.deep, s.out⟩
def PS.is (s : PS) (k : Int) (t : ByteArray) : Bool := decide (s.hd.kind = k) && decide (s.hd.text = t)
def PS.stuck (s : PS) : Int × Int := (if s.hd.kind = 0 then 180 else 181, (s.hd.at_ : Int))
def PS.sign (s : PS) (t : ByteArray) : Rp PS := if s.is 5 t = true then .ok s.on else .error s.stuck
def PS.lay (s : PS) (n : Nod) : PS := ⟨s.toks, s.deep, s.out ++ [n]⟩
def numF : Nat → List ByteArray → ByteArray → Int
  | _, [], _ => 0
  | k, x :: r, w => if x = w ∧ w ≠ ByteArray.empty then k else numF (k + 1) r w
/-- The place of a word in a list, or 0. -/
def numW (l : List ByteArray) (w : ByteArray) : Int := numF 0 l w
def sO : ByteArray := ⟨#[40]⟩
def sC : ByteArray := ⟨#[41]⟩
def sComma : ByteArray := ⟨#[44]⟩
def sMinus : ByteArray := ⟨#[45]⟩
def sCurl : ByteArray := ⟨#[123]⟩
def sUncurl : ByteArray := ⟨#[125]⟩
def sSq : ByteArray := ⟨#[91]⟩
def sUnsq : ByteArray := ⟨#[93]⟩
def sBool : ByteArray := ⟨#[98, 111, 111, 108]⟩
def sOn : ByteArray := ⟨#[111, 110]⟩
def sIgn : ByteArray := ⟨#[105, 103, 110, 111, 114, 105, 110, 103]⟩
def sBy : ByteArray := ⟨#[98, 121]⟩
def sWithout : ByteArray := ⟨#[119, 105, 116, 104, 111, 117, 116]⟩
def sOffset : ByteArray := ⟨#[111, 102, 102, 115, 101, 116]⟩
def sAnd : ByteArray := ⟨#[97, 110, 100]⟩
def sOr : ByteArray := ⟨#[111, 114]⟩
def sUnless : ByteArray := ⟨#[117, 110, 108, 101, 115, 115]⟩
def sNameN : ByteArray := ⟨#[95, 95, 110, 97, 109, 101, 95, 95]⟩
def opsL : List ByteArray := [ByteArray.empty, ⟨#[43]⟩, ⟨#[45]⟩, ⟨#[42]⟩, ⟨#[47]⟩, ⟨#[61, 61]⟩, ⟨#[33, 61]⟩, ⟨#[60]⟩, ⟨#[60, 61]⟩, ⟨#[62]⟩, ⟨#[62, 61]⟩, sAnd, sOr, sUnless]
def funcsL : List ByteArray := [ByteArray.empty, ⟨#[114, 97, 116, 101]⟩, ⟨#[105, 110, 99, 114, 101, 97, 115, 101]⟩, ⟨#[100, 101, 108, 116, 97]⟩, ⟨#[115, 117, 109, 95, 111, 118, 101, 114, 95, 116, 105, 109, 101]⟩, ⟨#[97, 118, 103, 95, 111, 118, 101, 114, 95, 116, 105, 109, 101]⟩, ⟨#[109, 105, 110, 95, 111, 118, 101, 114, 95, 116, 105, 109, 101]⟩, ⟨#[109, 97, 120, 95, 111, 118, 101, 114, 95, 116, 105, 109, 101]⟩,
  ⟨#[99, 111, 117, 110, 116, 95, 111, 118, 101, 114, 95, 116, 105, 109, 101]⟩, ⟨#[108, 97, 115, 116, 95, 111, 118, 101, 114, 95, 116, 105, 109, 101]⟩, ⟨#[119, 97, 118, 101]⟩, ⟨#[97, 98, 115]⟩, ⟨#[102, 108, 111, 111, 114]⟩]
def aggsL : List ByteArray := [ByteArray.empty, ⟨#[115, 117, 109]⟩, ⟨#[109, 105, 110]⟩, ⟨#[109, 97, 120]⟩, ⟨#[97, 118, 103]⟩, ⟨#[99, 111, 117, 110, 116]⟩]
def matsL : List ByteArray := [ByteArray.empty, ⟨#[61]⟩, ⟨#[33, 61]⟩, ⟨#[61, 126]⟩, ⟨#[33, 126]⟩]
def keptL : List ByteArray := [sOr, sAnd, sUnless, sBool, sOn, sIgn, sBy, sWithout, sOffset]
def keptB (w : ByteArray) : Bool := keptL.any (fun x => decide (w = x)) || decide (0 < numW funcsL w) || decide (0 < numW aggsL w)
def PS.name (s : PS) : Rp (PS × ByteArray) := if s.hd.kind = 3 ∧ nameB s.hd.text = true then .ok (s.on, s.hd.text) else .error s.stuck
/-- Is a comma wanted? Then it must be there. -/
def PS.comma (s : PS) (first : Bool) : Rp PS := if first = true then .ok s else s.sign sComma
def namesF : Nat → PS → List ByteArray → Rp (PS × List ByteArray)
  | 0, s, _ => .error s.stuck
  | m + 1, s, acc =>
    if s.is 5 sC = true then .ok (s.on, acc)
    else match s.comma acc.isEmpty with
      | .error e => .error e
      | .ok s1 => match s1.name with
        | .error e => .error e
        | .ok (s2, x) => namesF m s2 (acc ++ [x])
def PS.names (s : PS) : Rp (PS × List ByteArray) := match s.sign sO with
  | .error e => .error e
  | .ok s1 => namesF s1.toks.length s1 []
/-- By which labels is grouped. -/
def PS.group (s : PS) (w1 w2 : ByteArray) (k1 k2 : Int) : Rp (PS × Int × List ByteArray) :=
  if s.is 3 w1 = true then match s.on.names with
    | .error e => .error e
    | .ok (s1, l) => .ok (s1, k1, l)
  else if s.is 3 w2 = true then match s.on.names with
    | .error e => .error e
    | .ok (s1, l) => .ok (s1, k2, l)
  else .ok (s, 0, [])
/-- Does a row of operations end here? -/
def PS.rowEnd (s : PS) (lo hi : Int) : Bool :=
  (decide (s.hd.kind ≠ 5) && decide (s.hd.kind ≠ 3)) || decide (numW opsL s.hd.text < lo) || decide (hi < numW opsL s.hd.text) || (decide (lo = 11) && decide (numW opsL s.hd.text = 12))
def PS.boolN (s : PS) (op : Int) : Bool := decide (5 ≤ op) && decide (op ≤ 10) && s.is 3 sBool
def binN (op g : Int) (l : List ByteArray) (b : Bool) : Nod := ⟨6, op, ByteArray.empty, [], 0, 0, g, l, b, 2⟩
def rowF (part : PS → Rp PS) (lo hi : Int) : Nat → PS → Rp PS
  | 0, s => .ok s
  | m + 1, s =>
    if s.rowEnd lo hi = true then .ok s
    else match (if s.on.boolN (numW opsL s.hd.text) = true then s.on.on else s.on).group sOn sIgn 3 4 with
      | .error e => .error e
      | .ok (s3, g, l) => match part s3 with
        | .error e => .error e
        | .ok s4 => rowF part lo hi m (s4.lay (binN (numW opsL s.hd.text) g l (s.on.boolN (numW opsL s.hd.text))))
def rowP (part : PS → Rp PS) (lo hi : Int) (s : PS) : Rp PS := match part s with
  | .error e => .error e
  | .ok s1 => rowF part lo hi s1.toks.length s1
def termP (u : PS → Rp PS) : PS → Rp PS := rowP u 3 4
def sumP (u : PS → Rp PS) : PS → Rp PS := rowP (termP u) 1 2
def cmpP (u : PS → Rp PS) : PS → Rp PS := rowP (sumP u) 5 10
def andP (u : PS → Rp PS) : PS → Rp PS := rowP (cmpP u) 11 13
def orP (u : PS → Rp PS) : PS → Rp PS := rowP (andP u) 12 12
def openP (part : PS → Rp PS) (s : PS) : Rp PS :=
  if s.deep = 64 then .error (182, (s.hd.at_ : Int)) else match part ⟨s.toks.tail, s.deep + 1, s.out⟩ with
    | .error e => .error e
    | .ok s1 => .ok ⟨s1.toks, s1.deep - 1, s1.out⟩
def innerP (e : PS → Rp PS) (s : PS) : Rp PS := match e s with
  | .error x => .error x
  | .ok s1 => s1.sign sC
def bracketP (e : PS → Rp PS) (s : PS) : Rp PS := if s.is 5 sO = true then openP (innerP e) s else .error s.stuck
def PS.span (s : PS) : Rp (PS × Int) := if s.hd.kind = 2 then .ok (s.on, (s.hd.span : Int)) else .error s.stuck
/-- One more matcher, if it may be. -/
def addM (ms : List Mat) (m : Mat) (at_ : Int) : Rp (List Mat) := if matCode (ms ++ [m]) = 0 then .ok (ms ++ [m]) else .error (183, at_)
def matchersF : Nat → Bool → PS → List Mat → Rp (PS × List Mat)
  | 0, _, s, _ => .error s.stuck
  | f + 1, first, s, ms =>
    if s.is 5 sUncurl = true then .ok (s.on, ms)
    else match s.comma first with
      | .error e => .error e
      | .ok s1 => match s1.name with
        | .error e => .error e
        | .ok (s2, nm) =>
          if s2.hd.kind ≠ 5 ∨ numW matsL s2.hd.text = 0 then .error s2.stuck
          else if s2.on.hd.kind ≠ 4 then .error s2.on.stuck
          else match addM ms ⟨numW matsL s2.hd.text, nm, s2.on.hd.text⟩ s2.on.hd.at_ with
            | .error e => .error e
            | .ok ms2 => matchersF f false s2.on.on ms2
def PS.matchers (s : PS) (ms : List Mat) : Rp (PS × List Mat) := matchersF s.toks.length true s ms
def PS.wordB (s : PS) : Bool := decide (s.hd.kind = 3) && !keptB s.hd.text
def selN (k : Int) (ms : List Mat) (w b : Int) : Nod := ⟨k, 0, ByteArray.empty, ms, w, b, 0, [], false, 0⟩
/-- A select: its word. -/
def PS.sel1 (s : PS) : Rp (PS × List Mat) := if s.wordB = true then match addM [] ⟨1, sNameN, s.hd.text⟩ s.hd.at_ with
    | .error e => .error e
    | .ok ms => .ok (s.on, ms)
  else .ok (s, [])
/-- Its braces. -/
def PS.sel2 (s : PS) (word : Bool) (ms : List Mat) : Rp (PS × List Mat) :=
  if s.is 5 sCurl = true then s.on.matchers ms else if word = true then .ok (s, ms) else .error s.stuck
/-- Its span: kind and width. -/
def PS.sel3 (s : PS) : Rp (PS × Int × Int) := if s.is 5 sSq = true then match s.on.span with
    | .error e => .error e
    | .ok (s1, w) => match s1.sign sUnsq with
      | .error e => .error e
      | .ok s2 => .ok (s2, 3, w)
  else .ok (s, 2, 0)
/-- Its offset. -/
def PS.sel4 (s : PS) : Rp (PS × Int) := if s.is 3 sOffset = true then s.on.span else .ok (s, 0)
def chooseP (s : PS) : Rp PS := match s.sel1 with
  | .error e => .error e
  | .ok (s1, m1) => match s1.sel2 s.wordB m1 with
    | .error e => .error e
    | .ok (s2, m2) => match s2.sel3 with
      | .error e => .error e
      | .ok (s3, k, w) => match s3.sel4 with
        | .error e => .error e
        | .ok (s4, b) => .ok (s4.lay (selN k m2 w b))
def numN (t : ByteArray) : Nod := ⟨1, 0, t, [], 0, 0, 0, [], false, 0⟩
def callN (f : Int) : Nod := ⟨4, f, ByteArray.empty, [], 0, 0, 0, [], false, 1⟩
def aggN (a g : Int) (l : List ByteArray) : Nod := ⟨5, a, ByteArray.empty, [], 0, 0, g, l, false, 1⟩
def negN : Nod := ⟨7, 0, ByteArray.empty, [], 0, 0, 0, [], false, 1⟩
def oneP (e : PS → Rp PS) (s : PS) : Rp PS :=
  if s.hd.kind = 1 then .ok (s.on.lay (numN s.hd.text))
  else if s.is 5 sO = true then bracketP e s
  else if s.hd.kind = 3 ∧ 0 < numW funcsL s.hd.text then match bracketP e s.on with
    | .error x => .error x
    | .ok s1 => .ok (s1.lay (callN (numW funcsL s.hd.text)))
  else if s.hd.kind = 3 ∧ 0 < numW aggsL s.hd.text then match s.on.group sBy sWithout 1 2 with
    | .error x => .error x
    | .ok (s1, g, l) => match bracketP e s1 with
      | .error x => .error x
      | .ok s2 => .ok (s2.lay (aggN (numW aggsL s.hd.text) g l))
  else chooseP s
def unaryP : Nat → PS → Rp PS
  | 0, s => .error s.stuck
  | n + 1, s => if s.is 5 sMinus = true then match openP (unaryP n) s with
      | .error e => .error e
      | .ok s1 => .ok (s1.lay negN)
    else oneP (orP (unaryP n)) s
/-- A row of tokens ends with the end. -/
def Ends (l : List Tok) : Prop := ∃ e, l.getLast? = some e ∧ e.kind = 0
theorem Ends.ne {l : List Tok} (h : Ends l) : l ≠ [] := by
  obtain ⟨e, h, _⟩ := h
  rintro rfl
  simp at h
theorem Ends.tail {t : Tok} {r : List Tok} (h : Ends (t :: r)) (hk : t.kind ≠ 0) : Ends r := by
  obtain ⟨e, h1, h2⟩ := h
  cases r with
  | nil =>
    simp at h1
    subst h1
    exact absurd h2 hk
  | cons u r => exact ⟨e, by simpa using h1, h2⟩
/-- What every state of the reader is. -/
structure PGood (M : Nat) (s : PS) : Prop where
  ends : Ends s.toks
  room : s.out.length + s.toks.length ≤ M
  deep : s.deep ≤ 64
  text : ∀ t ∈ s.toks, t.text.size ≤ 1000000
theorem PGood.cons {M : Nat} {s : PS} (h : PGood M s) : s.toks = s.hd :: s.toks.tail := by
  have := h.ends.ne
  cases hs : s.toks with
  | nil => exact absurd hs this
  | cons t r => simp [PS.hd, hs]
theorem PGood.on {M : Nat} {s : PS} (h : PGood M s) (hk : s.hd.kind ≠ 0) : PGood M s.on := by
  have hc := h.cons
  refine ⟨?_, ?_, h.deep, fun t ht => h.text t (List.mem_of_mem_tail ht)⟩
  · have he := h.ends
    rw [hc] at he
    exact he.tail hk
  · have := h.room
    simp only [PS.on, List.length_tail]
    omega
theorem PGood.on_len {M : Nat} {s : PS} (h : PGood M s) : s.on.toks.length + 1 = s.toks.length := by
  have := List.length_pos_iff.2 h.ends.ne
  simp only [PS.on, List.length_tail]
  omega
theorem is_kind {s : PS} {k : Int} {t : ByteArray} (h : s.is k t = true) : s.hd.kind = k := by
  simp [PS.is] at h
  exact h.1
theorem is_text {s : PS} {k : Int} {t : ByteArray} (h : s.is k t = true) : s.hd.text = t := by
  simp [PS.is] at h
  exact h.2
/-- A part has been read: tokens are gone, and what is laid grows by no more than them; no deeper than before. -/
structure Adv (s s' : PS) : Prop where
  len : s'.toks.length ≤ s.toks.length
  suf : ∃ j, s'.toks = s.toks.drop j
  deep : s'.deep = s.deep
  out : ∃ l, s'.out = s.out ++ l
theorem Adv.refl (s : PS) : Adv s s := ⟨Nat.le_refl _, ⟨0, rfl⟩, rfl, ⟨[], by simp⟩⟩
theorem Adv.trans {a b c : PS} (h : Adv a b) (k : Adv b c) : Adv a c := by
  obtain ⟨j1, e1⟩ := h.suf
  obtain ⟨j2, e2⟩ := k.suf
  obtain ⟨l1, f1⟩ := h.out
  obtain ⟨l2, f2⟩ := k.out
  exact ⟨Nat.le_trans k.len h.len, ⟨j1 + j2, by rw [e2, e1, List.drop_drop]⟩, k.deep.trans h.deep, ⟨l1 ++ l2, by rw [f2, f1, List.append_assoc]⟩⟩
theorem Adv.on (s : PS) : Adv s s.on := ⟨by simp [PS.on], ⟨1, by simp [PS.on]⟩, rfl, ⟨[], by simp [PS.on]⟩⟩
end
section
open Go.RowKit
theorem PGood.on1 {M : Nat} {s : PS} (h : PGood M s) (hk : s.hd.kind ≠ 0) : PGood (M - 1) s.on := by
  have h1 := h.on hk
  have h2 := h.on_len
  have h3 := h.room
  refine ⟨h1.ends, ?_, h1.deep, h1.text⟩
  have : s.on.out = s.out := rfl
  rw [this]
  omega
theorem PGood.pos {M : Nat} {s : PS} (h : PGood M s) : 1 ≤ M ∧ 1 ≤ s.toks.length := by
  have := List.length_pos_iff.2 h.ends.ne
  have := h.room
  omega
theorem PGood.lay {M : Nat} {s : PS} (h : PGood (M - 1) s) (n : Nod) : PGood M (s.lay n) := by
  have := h.pos
  refine ⟨h.ends, ?_, h.deep, h.text⟩
  have := h.room
  simp only [PS.lay, List.length_append, List.length_cons, List.length_nil]
  omega
theorem PGood.more {M M' : Nat} {s : PS} (h : PGood M s) (hM : M ≤ M') : PGood M' s := ⟨h.ends, Nat.le_trans h.room hM, h.deep, h.text⟩
/-- A step: the state stays good, as deep as it was; so many tokens at the least are gone; nothing is laid. -/
structure Step (d : Nat) (s s' : PS) : Prop where
  good : ∀ M, PGood M s → PGood (M - d) s'
  deep : s'.deep = s.deep
  len : ∀ M, PGood M s → s'.toks.length + d ≤ s.toks.length
  out : s'.out = s.out
theorem Step.refl (s : PS) : Step 0 s s := ⟨fun _ h => h, rfl, fun _ _ => Nat.le_refl _, rfl⟩
theorem Step.trans {d1 d2 : Nat} {a b c : PS} (h : Step d1 a b) (k : Step d2 b c) : Step (d1 + d2) a c :=
  ⟨fun M hg => by have := k.good _ (h.good M hg); rw [Nat.sub_sub] at this; exact this, k.deep.trans h.deep, fun M hg => by have h1 := h.len M hg; have h2 := k.len _ (h.good M hg); omega, k.out.trans h.out⟩
theorem Step.on {s : PS} (hk : s.hd.kind ≠ 0) : Step 1 s s.on := ⟨fun _ h => h.on1 hk, rfl, fun _ h => by have := h.on_len; omega, rfl⟩
theorem sign_step {s s' : PS} {t : ByteArray} (h : s.sign t = .ok s') : s' = s.on ∧ s.is 5 t = true ∧ Step 1 s s' := by
  unfold PS.sign at h
  split at h
  · rename_i h1
    injection h with h
    subst h
    exact ⟨rfl, h1, Step.on (by rw [is_kind h1]; decide)⟩
  · cases h
theorem name_step {s s' : PS} {x : ByteArray} (h : s.name = .ok (s', x)) : s' = s.on ∧ x = s.hd.text ∧ s.hd.kind = 3 ∧ nameB s.hd.text = true ∧ Step 1 s s' := by
  unfold PS.name at h
  split at h
  · rename_i h1
    injection h with h
    injection h with h2 h3
    subst h2 h3
    exact ⟨rfl, rfl, h1.1, h1.2, Step.on (by rw [h1.1]; decide)⟩
  · cases h
theorem Step.part {d : Nat} {s s1 : PS} (h : Step d s s1) (n : Nod) (hd : 1 ≤ d) : (s1.lay n).deep = s.deep ∧ ∀ M, PGood M s → PGood M (s1.lay n) ∧ (s1.lay n).toks.length < s.toks.length :=
  ⟨h.deep, fun M hg => ⟨((h.good M hg).more (by omega)).lay n, by have := h.len M hg; show s1.toks.length < _; omega⟩⟩
end
section
open Go.RowKit
theorem textS_sz : ∀ (l : List UInt8) (b : Bool) (x : List UInt8) (n : Nat), textS b l = some (x, n) → x.length + 1 ≤ n
  | [], b, x, n, h => by cases b <;> simp [textS] at h
  | c :: r, false, x, n, h => by
    rw [textS] at h
    split at h
    · cases h
    · split at h
      · injection h with h; injection h with h1 h2; subst h1 h2; simp
      · split at h
        all_goals
          simp only [Option.map_eq_some_iff] at h
          obtain ⟨⟨y, m⟩, hy, he⟩ := h
          injection he with h1 h2
          have := textS_sz r _ y m hy
          subst h1 h2
          simp; omega
  | c :: r, true, x, n, h => by
    rw [textS] at h
    split at h
    · simp only [Option.map_eq_some_iff] at h
      obtain ⟨⟨y, m⟩, hy, he⟩ := h
      injection he with h1 h2
      have := textS_sz r _ y m hy
      subst h1 h2
      simp; omega
    · split at h
      · simp only [Option.map_eq_some_iff] at h
        obtain ⟨⟨y, m⟩, hy, he⟩ := h
        injection he with h1 h2
        have := textS_sz r _ y m hy
        subst h1 h2
        simp; omega
      · cases h
theorem mkB_size (l : List UInt8) : (mkB l).size = l.length := by
  rw [Lib.size_eq]
  simp [mkB]
/-- One step: at most one token, at its place, no longer than what it takes. -/
theorem oneL_tok {at_ : Nat} {l : List UInt8} {ts : List Tok} {n : Nat} (h : oneL at_ l = .ok ts n) : ts.length ≤ 1 ∧ ∀ t ∈ ts, t.kind ≠ 0 ∧ t.at_ = at_ ∧ t.text.size ≤ n := by
  cases l with
  | nil => simp [oneL] at h
  | cons c r =>
    rw [oneL] at h
    by_cases h1 : blankB c = true
    · rw [if_pos h1] at h; injection h with h _; subst h; simp
    rw [if_neg h1] at h
    by_cases h2 : dchar c = true
    · rw [if_pos h2, numTok] at h
      split at h
      · injection h with h hn; subst h hn; simp [mkB_size]
      · split at h
        · injection h with h hn; subst h hn; simp [mkB_size]
        · cases h
    rw [if_neg h2] at h
    by_cases h3 : letB c = true
    · rw [if_pos h3] at h
      injection h with h hn; subst h hn; simp [mkB_size, runN]
    rw [if_neg h3] at h
    by_cases h4 : c.toNat = 34
    · rw [if_pos h4] at h
      cases ht : textS false r with
      | none => rw [ht, textTok] at h; cases h
      | some x =>
        obtain ⟨x, m⟩ := x
        rw [ht, textTok] at h
        have := textS_sz r _ x m ht
        injection h with h hn; subst h hn; simp [mkB_size]; omega
    rw [if_neg h4] at h
    by_cases h5 : 0 < signN (c :: r)
    · rw [if_pos h5] at h
      injection h with h hn; subst h hn; simp [mkB_size]; omega
    · rw [if_neg h5] at h; cases h
/-- A token off a text whose end is at N. -/
def TokN (N : Nat) (t : Tok) : Prop := (t.kind = 0 ∧ t.at_ = N) ∨ (t.kind ≠ 0 ∧ t.at_ < N)
theorem lexL_toks : ∀ (m p : Nat) (l : List UInt8) (x : List Tok), l.length ≤ m → lexL p l = .ok x → Ends x ∧ x.length ≤ l.length + 1 ∧ ∀ t ∈ x, TokN (p + l.length) t ∧ t.text.size ≤ l.length := by
  intro m
  induction m with
  | zero =>
    intro p l x hl h
    cases l with
    | nil =>
      rw [lexL_nil] at h
      injection h with h
      subst h
      exact ⟨⟨_, rfl, rfl⟩, by simp, fun t ht => by simp at ht; subst ht; exact ⟨.inl ⟨rfl, rfl⟩, by simp [mkB_size]⟩⟩
    | cons c r => simp at hl
  | succ m ih =>
    intro p l x hl h
    cases l with
    | nil =>
      rw [lexL_nil] at h
      injection h with h
      subst h
      exact ⟨⟨_, rfl, rfl⟩, by simp, fun t ht => by simp at ht; subst ht; exact ⟨.inl ⟨rfl, rfl⟩, by simp [mkB_size]⟩⟩
    | cons c r =>
      rw [lexL_cons] at h
      cases ho : oneL p (c :: r) with
      | err q e => rw [ho] at h; cases h
      | ok ts n =>
        rw [ho] at h
        dsimp only at h
        have hn := oneL_n ho
        obtain ⟨t1, t2⟩ := oneL_tok ho
        have hdl : ((c :: r).drop n).length = (c :: r).length - n := List.length_drop
        cases hr : lexL (p + n) ((c :: r).drop n) with
        | err q e => rw [hr] at h; cases h
        | ok y =>
          simp only [hr, LexR.pre] at h
          injection h with h
          subst h
          obtain ⟨⟨e, i1, i1'⟩, i2, i3⟩ := ih (p + n) _ y (by rw [hdl]; simp at hl ⊢; omega) hr
          refine ⟨⟨e, by rw [List.getLast?_append, i1]; rfl, i1'⟩, by rw [List.length_append]; omega, fun t ht => ?_⟩
          rcases List.mem_append.1 ht with ht | ht
          · obtain ⟨k1, k2, k3⟩ := t2 t ht
            exact ⟨.inr ⟨k1, by omega⟩, by omega⟩
          · obtain ⟨k1, k2⟩ := i3 t ht
            rw [hdl] at k1 k2
            rw [show p + n + ((c :: r).length - n) = p + (c :: r).length from by omega] at k1
            exact ⟨k1, by omega⟩
theorem lexR_toks {s : ByteArray} {x : List Tok} (h : lexR s = .ok x) : Ends x ∧ x.length ≤ 4097 ∧ ∀ t ∈ x, TokN s.size t ∧ t.text.size ≤ 4096 := by
  rw [lexR] at h
  split at h
  · cases h
  · rename_i h4
    obtain ⟨h1, h2, h3⟩ := lexL_toks _ 0 _ x (Nat.le_refl _) h
    have hs : s.data.toList.length = s.size := (Lib.size_eq s).symm
    rw [hs] at h2 h3
    refine ⟨h1, by omega, fun t ht => ?_⟩
    obtain ⟨k1, k2⟩ := h3 t ht
    rw [Nat.zero_add] at k1
    exact ⟨k1, by omega⟩
end
section
open Go.RowKit
theorem numTok_err {at_ : Nat} {x : List UInt8} {q : Nat} {e : Int} (h : numTok at_ x = .err q e) : e ≠ 0 := by
  unfold numTok at h
  split at h
  · cases h
  · split at h
    · cases h
    · injection h with _ h; rw [← h]; decide
theorem textTok_err {at_ k : Nat} {acc : List UInt8} {o : Option (List UInt8 × Nat)} {q : Nat} {e : Int} (h : textTok at_ k acc o = .err q e) : e ≠ 0 := by
  cases o with
  | none => simp only [textTok] at h; injection h with _ h; rw [← h]; decide
  | some x => obtain ⟨x, n⟩ := x; simp only [textTok] at h; cases h
theorem oneL_err {at_ : Nat} {c : UInt8} {r : List UInt8} {q : Nat} {e : Int} (h : oneL at_ (c :: r) = .err q e) : e ≠ 0 := by
  rw [oneL] at h
  split at h
  · cases h
  · split at h
    · exact numTok_err h
    · split at h
      · cases h
      · split at h
        · exact textTok_err h
        · split at h
          · cases h
          · injection h with _ h; rw [← h]; decide
theorem lexL_err : ∀ (m p : Nat) (l : List UInt8) (q : Nat) (e : Int), l.length ≤ m → lexL p l = .err q e → e ≠ 0 := by
  intro m
  induction m with
  | zero =>
    intro p l q e hl h
    cases l with
    | nil => rw [lexL_nil] at h; cases h
    | cons c r => simp at hl
  | succ m ih =>
    intro p l q e hl h
    cases l with
    | nil => rw [lexL_nil] at h; cases h
    | cons c r =>
      rw [lexL_cons] at h
      cases ho : oneL p (c :: r) with
      | err q' e' =>
        rw [ho] at h
        dsimp only at h
        injection h with h1 h2
        subst h2
        exact oneL_err ho
      | ok ts n =>
        rw [ho] at h
        dsimp only at h
        have hn := oneL_n ho
        cases hr : lexL (p + n) ((c :: r).drop n) with
        | ok y => rw [hr] at h; simp only [LexR.pre] at h; cases h
        | err q' e' =>
          rw [hr] at h
          simp only [LexR.pre] at h
          injection h with h1 h2
          subst h2
          refine ih _ _ _ _ ?_ hr
          rw [List.length_drop]
          simp at hl ⊢; omega
theorem lexR_err {s : ByteArray} {q : Nat} {e : Int} (h : lexR s = .err q e) : e ≠ 0 := by
  rw [lexR] at h
  split at h
  · injection h with _ h; rw [← h]; decide
  · exact lexL_err _ _ _ _ _ (Nat.le_refl _) h
def ErrN (N : Nat) (x : Int × Int) : Prop := (x.1 = 180 ∧ x.2 = N) ∨ (x.1 ≠ 180 ∧ x.1 ≠ 0 ∧ 0 ≤ x.2 ∧ x.2 < N)
structure ToksN (N : Nat) (s : PS) : Prop where
  ends : Ends s.toks
  tok : ∀ t ∈ s.toks, TokN N t
theorem ToksN.hd {N : Nat} {s : PS} (h : ToksN N s) : TokN N s.hd := by
  apply h.tok
  have := h.ends.ne
  cases hs : s.toks with
  | nil => exact absurd hs this
  | cons t r => simp [PS.hd, hs]
theorem ToksN.on {N : Nat} {s : PS} (h : ToksN N s) (hk : s.hd.kind ≠ 0) : ToksN N s.on := by
  have hne := h.ends.ne
  refine ⟨?_, fun t ht => h.tok t (List.mem_of_mem_tail ht)⟩
  cases hs : s.toks with
  | nil => exact absurd hs hne
  | cons t r =>
    have he := h.ends
    rw [hs] at he
    have : s.on.toks = r := by simp [PS.on, hs]
    rw [this]
    exact he.tail (by simpa [PS.hd, hs] using hk)
theorem ToksN.stuck {N : Nat} {s : PS} (h : ToksN N s) : ErrN N s.stuck := by
  unfold PS.stuck
  rcases h.hd with ⟨h1, h2⟩ | ⟨h1, h2⟩
  · rw [if_pos h1, h2]; exact .inl ⟨rfl, rfl⟩
  · rw [if_neg h1]; exact .inr ⟨by simp, by simp, by simp, by simp; omega⟩
theorem ToksN.at {N : Nat} {s : PS} (h : ToksN N s) (hk : s.hd.kind ≠ 0) (w : Int) (h1 : w ≠ 180) (h2 : w ≠ 0) : ErrN N (w, (s.hd.at_ : Int)) := by
  rcases h.hd with ⟨k1, _⟩ | ⟨_, k2⟩
  · exact absurd k1 hk
  · exact .inr ⟨h1, h2, by simp, by simp; omega⟩
theorem word_kind {s : PS} (h : s.wordB = true) : s.hd.kind ≠ 0 := by
  simp only [PS.wordB, Bool.and_eq_true, decide_eq_true_eq] at h
  rw [h.1]; decide
/-- A byte that ends whatever was begun. -/
structure Cuts (x : UInt8) : Prop where
  num : numC x = false
  word : wordC x = false
  sign : ∀ c, sign2 [c, x] = false
theorem cuts_41 : Cuts 41 := ⟨by decide, by decide, fun c => by simp [sign2]⟩
theorem cuts_40 : Cuts 40 := ⟨by decide, by decide, fun c => by simp [sign2]⟩
/-- A token without its place. -/
def Tok.key (t : Tok) : Int × ByteArray × Nat := (t.kind, t.text, t.span)
theorem key_eq {t u : Tok} (h : t.key = u.key) : t.kind = u.kind ∧ t.text = u.text ∧ t.span = u.span := by
  simp only [Tok.key, Prod.mk.injEq] at h
  exact h
def StopT (z : Tok) : Prop := z.kind = 0 ∨ (z.kind = 5 ∧ z.text = sC)
/-- What stands behind begins with a token that ends a query. -/
def StopL (zr : List Tok) : Prop := ∃ z r, zr = z :: r ∧ StopT z
structure Sim (d : Nat) (o : List Nod) (zr : List Tok) (s s' : PS) : Prop where
  toks : ∃ A A' e, s.toks = A ++ [e] ∧ e.kind = 0 ∧ s'.toks = A' ++ zr ∧ A'.map Tok.key = A.map Tok.key ∧ ∀ t ∈ A, t.kind ≠ 0
  deep : s'.deep = s.deep + d
  out : s'.out = o ++ s.out
  stop : StopL zr
section
variable {d : Nat} {o : List Nod} {zr : List Tok} {s s' : PS}
theorem Sim.ends (h : Sim d o zr s s') : Ends s.toks := by
  obtain ⟨A, A', e, h1, h2, _⟩ := h.toks
  exact ⟨e, by rw [h1]; simp, h2⟩
theorem Sim.hd (h : Sim d o zr s s') : s'.hd.key = s.hd.key ∨ (s.hd.kind = 0 ∧ StopT s'.hd) := by
  obtain ⟨A, A', e, h1, h2, h3, h4, h5⟩ := h.toks
  obtain ⟨z, r, hz, hs⟩ := h.stop
  cases A with
  | nil =>
    have : A' = [] := by simpa using h4
    subst this
    refine .inr ⟨by simp [PS.hd, h1, h2], ?_⟩
    simp only [PS.hd, h3, hz, List.nil_append, List.headD_cons]
    exact hs
  | cons a A =>
    cases A' with
    | nil => simp at h4
    | cons a' A' =>
      simp only [List.map_cons, List.cons.injEq] at h4
      refine .inl ?_
      simp only [PS.hd, h1, h3, List.cons_append, List.headD_cons]
      exact h4.1
theorem Sim.on (h : Sim d o zr s s') (hk : s.hd.kind ≠ 0) : Sim d o zr s.on s'.on := by
  obtain ⟨A, A', e, h1, h2, h3, h4, h5⟩ := h.toks
  cases A with
  | nil => exact absurd (by simp [PS.hd, h1, h2]) hk
  | cons a A =>
    cases A' with
    | nil => simp at h4
    | cons a' A' =>
      simp only [List.map_cons, List.cons.injEq] at h4
      exact ⟨⟨A, A', e, by simp [PS.on, h1], h2, by simp [PS.on, h3], h4.2, fun t ht => h5 t (List.mem_cons_of_mem _ ht)⟩, h.deep, h.out, h.stop⟩
theorem Sim.key (h : Sim d o zr s s') (hk : s.hd.kind ≠ 0) : s'.hd.kind = s.hd.kind ∧ s'.hd.text = s.hd.text ∧ s'.hd.span = s.hd.span := by
  rcases h.hd with h1 | ⟨h1, _⟩
  · exact key_eq h1
  · exact absurd h1 hk
theorem Sim.len (h : Sim d o zr s s') : s.toks.length ≤ s'.toks.length := by
  obtain ⟨A, A', e, h1, h2, h3, h4, h5⟩ := h.toks
  obtain ⟨z, r, hz, hs⟩ := h.stop
  have := congrArg List.length h4
  simp only [List.length_map] at this
  rw [h1, h3, hz]
  simp only [List.length_append, List.length_cons, List.length_nil]
  omega
theorem Sim.pos (h : Sim d o zr s s') : 1 ≤ s.toks.length := List.length_pos_iff.2 h.ends.ne
theorem Sim.lay (h : Sim d o zr s s') (n : Nod) : Sim d o zr (s.lay n) (s'.lay n) := ⟨h.toks, h.deep, by simp [PS.lay, h.out], h.stop⟩
theorem Sim.is_of (h : Sim d o zr s s') {k : Int} {t : ByteArray} (hk : k ≠ 0) (hi : s.is k t = true) : s'.is k t = true := by
  have h1 := is_kind hi
  have h2 := is_text hi
  obtain ⟨e1, e2, _⟩ := h.key (by rw [h1]; exact hk)
  simp [PS.is, e1, e2, h1, h2]
theorem Sim.is_no (h : Sim d o zr s s') {k : Int} {t : ByteArray} (hk : k ≠ 0) (ht : k ≠ 5 ∨ t ≠ sC) (hi : ¬ s.is k t = true) : ¬ s'.is k t = true := by
  intro hi'
  rcases h.hd with h1 | ⟨_, h2 | ⟨h2, h3⟩⟩
  · obtain ⟨e1, e2, _⟩ := key_eq h1
    apply hi
    have h2 := is_kind hi'
    have h3 := is_text hi'
    rw [e1] at h2
    rw [e2] at h3
    simp [PS.is, h2, h3]
  · exact hk ((is_kind hi').symm.trans h2)
  · have h4 := is_kind hi'
    have h5 := is_text hi'
    rw [h2] at h4
    rw [h3] at h5
    rcases ht with ht | ht
    · exact ht h4.symm
    · exact ht h5.symm
theorem Sim.sign (h : Sim d o zr s s') {t : ByteArray} {s1 : PS} (hs : s.sign t = .ok s1) : ∃ s1', s'.sign t = .ok s1' ∧ Sim d o zr s1 s1' := by
  obtain ⟨rfl, hi, _⟩ := sign_step hs
  refine ⟨s'.on, ?_, h.on (by rw [is_kind hi]; decide)⟩
  unfold PS.sign
  rw [if_pos (h.is_of (by decide) hi)]
theorem Sim.name (h : Sim d o zr s s') {x : ByteArray} {s1 : PS} (hs : s.name = .ok (s1, x)) : ∃ s1', s'.name = .ok (s1', x) ∧ Sim d o zr s1 s1' := by
  obtain ⟨rfl, rfl, hk, hn, _⟩ := name_step hs
  obtain ⟨e1, e2, _⟩ := h.key (by rw [hk]; decide)
  refine ⟨s'.on, ?_, h.on (by rw [hk]; decide)⟩
  unfold PS.name
  rw [if_pos ⟨by rw [e1, hk], by rw [e2]; exact hn⟩, e2]
theorem Sim.span (h : Sim d o zr s s') {x : Int} {s1 : PS} (hs : s.span = .ok (s1, x)) : ∃ s1', s'.span = .ok (s1', x) ∧ Sim d o zr s1 s1' := by
  unfold PS.span at hs
  split at hs
  · rename_i hk
    injection hs with hs
    injection hs with h1 h2
    subst h1 h2
    obtain ⟨e1, _, e3⟩ := h.key (by rw [hk]; decide)
    refine ⟨s'.on, ?_, h.on (by rw [hk]; decide)⟩
    unfold PS.span
    rw [if_pos (by rw [e1, hk]), e3]
  · cases hs
theorem Sim.comma (h : Sim d o zr s s') {b : Bool} {s1 : PS} (hs : s.comma b = .ok s1) : ∃ s1', s'.comma b = .ok s1' ∧ Sim d o zr s1 s1' := by
  unfold PS.comma at hs ⊢
  split at hs
  · rename_i hb
    rw [if_pos hb]
    injection hs with hs
    subst hs
    exact ⟨s', rfl, h⟩
  · rename_i hb
    rw [if_neg hb]
    exact h.sign hs
end
theorem namesF_sim {d : Nat} {o : List Nod} {zr : List Tok} : ∀ (m m' : Nat) (s s' s1 : PS) (acc l : List ByteArray), m ≤ m' → Sim d o zr s s' → namesF m s acc = .ok (s1, l) → ∃ s1', namesF m' s' acc = .ok (s1', l) ∧ Sim d o zr s1 s1'
  | 0, m', s, s', s1, acc, l, _, _, hs => by simp [namesF] at hs
  | m + 1, 0, s, s', s1, acc, l, hm, _, _ => by omega
  | m + 1, m' + 1, s, s', s1, acc, l, hm, h, hs => by
    rw [namesF] at hs ⊢
    split at hs
    · rename_i hi
      injection hs with hs
      injection hs with h1 h2
      subst h1 h2
      rw [if_pos (h.is_of (by decide) hi)]
      exact ⟨s'.on, rfl, h.on (by rw [is_kind hi]; decide)⟩
    · rename_i hi
      split at hs
      · cases hs
      · rename_i s2 hc
        split at hs
        · cases hs
        · rename_i s3 x hn
          have hno : ¬ s'.is 5 sC = true := by
            intro hi'
            rcases h.hd with h1 | ⟨h1, _⟩
            · obtain ⟨e1, e2, _⟩ := key_eq h1
              apply hi
              have k1 := is_kind hi'
              have k2 := is_text hi'
              rw [e1] at k1
              rw [e2] at k2
              simp [PS.is, k1, k2]
            · unfold PS.comma at hc
              split at hc
              · injection hc with hc
                subst hc
                have := (name_step hn).2.2.1
                omega
              · have := is_kind (sign_step hc).2.1
                omega
          rw [if_neg hno]
          obtain ⟨s2', c1, c2⟩ := h.comma hc
          obtain ⟨s3', n1, n2⟩ := c2.name hn
          rw [c1]
          dsimp only
          rw [n1]
          exact namesF_sim m m' s3 s3' s1 _ l (by omega) n2 hs
section
variable {d : Nat} {o : List Nod} {zr : List Tok} {s s' : PS}
theorem Sim.names (h : Sim d o zr s s') {l : List ByteArray} {s1 : PS} (hs : s.names = .ok (s1, l)) : ∃ s1', s'.names = .ok (s1', l) ∧ Sim d o zr s1 s1' := by
  unfold PS.names at hs ⊢
  split at hs
  · cases hs
  · rename_i s2 hc
    obtain ⟨s2', c1, c2⟩ := h.sign hc
    rw [c1]
    exact namesF_sim _ _ _ _ _ _ _ c2.len c2 hs
theorem Sim.group (h : Sim d o zr s s') {w1 w2 : ByteArray} {k1 k2 g : Int} {l : List ByteArray} {s1 : PS} (hs : s.group w1 w2 k1 k2 = .ok (s1, g, l)) : ∃ s1', s'.group w1 w2 k1 k2 = .ok (s1', g, l) ∧ Sim d o zr s1 s1' := by
  unfold PS.group at hs ⊢
  split at hs
  · rename_i hi
    rw [if_pos (h.is_of (by decide) hi)]
    split at hs
    · cases hs
    · rename_i s2 l2 hn
      injection hs with hs
      injection hs with e1 e2
      injection e2 with e2 e3
      subst e1 e2 e3
      obtain ⟨s2', c1, c2⟩ := (h.on (by rw [is_kind hi]; decide)).names hn
      rw [c1]
      exact ⟨s2', rfl, c2⟩
  · rename_i hno
    rw [if_neg (h.is_no (by decide) (.inl (by decide)) hno)]
    split at hs
    · rename_i hi
      rw [if_pos (h.is_of (by decide) hi)]
      split at hs
      · cases hs
      · rename_i s2 l2 hn
        injection hs with hs
        injection hs with e1 e2
        injection e2 with e2 e3
        subst e1 e2 e3
        obtain ⟨s2', c1, c2⟩ := (h.on (by rw [is_kind hi]; decide)).names hn
        rw [c1]
        exact ⟨s2', rfl, c2⟩
    · rename_i hno
      rw [if_neg (h.is_no (by decide) (.inl (by decide)) hno)]
      injection hs with hs
      injection hs with e1 e2
      injection e2 with e2 e3
      subst e1 e2 e3
      exact ⟨s', rfl, h⟩
end
theorem addM_at {ms l : List Mat} {m : Mat} {a b : Int} (h : addM ms m a = .ok l) : addM ms m b = .ok l := by
  unfold addM at h ⊢
  split at h
  · rename_i hc; rw [if_pos hc]; exact h
  · cases h
theorem matchersF_sim {d : Nat} {o : List Nod} {zr : List Tok} : ∀ (m m' : Nat) (b : Bool) (s s' s1 : PS) (ms l : List Mat), m ≤ m' → Sim d o zr s s' → matchersF m b s ms = .ok (s1, l) → ∃ s1', matchersF m' b s' ms = .ok (s1', l) ∧ Sim d o zr s1 s1'
  | 0, m', b, s, s', s1, ms, l, _, _, hs => by simp [matchersF] at hs
  | m + 1, 0, b, s, s', s1, ms, l, hm, _, _ => by omega
  | m + 1, m' + 1, b, s, s', s1, ms, l, hm, h, hs => by
    rw [matchersF] at hs ⊢
    split at hs
    · rename_i hi
      injection hs with hs
      injection hs with h1 h2
      subst h1 h2
      rw [if_pos (h.is_of (by decide) hi)]
      exact ⟨s'.on, rfl, h.on (by rw [is_kind hi]; decide)⟩
    · rename_i hi
      rw [if_neg (h.is_no (by decide) (.inr (by decide)) hi)]
      split at hs
      · cases hs
      · rename_i s2 hc
        split at hs
        · cases hs
        · rename_i s3 x hn
          obtain ⟨s2', c1, c2⟩ := h.comma hc
          obtain ⟨s3', n1, n2⟩ := c2.name hn
          rw [c1]
          dsimp only
          rw [n1]
          dsimp only
          split at hs
          · cases hs
          · rename_i hk2
            split at hs
            · cases hs
            · rename_i hk3
              split at hs
              · cases hs
              · rename_i ms2 ha
                have hk5 : s3.hd.kind = 5 := Classical.not_not.1 fun h' => hk2 (.inl h')
                have hk4 : s3.on.hd.kind = 4 := Classical.not_not.1 hk3
                obtain ⟨a1, a2, _⟩ := n2.key (by rw [hk5]; decide)
                have n3 := n2.on (by rw [hk5]; decide)
                obtain ⟨b1, b2, _⟩ := n3.key (by rw [hk4]; decide)
                rw [if_neg (by rw [a1, a2]; exact hk2), if_neg (by rw [b1]; exact hk3), a2, b2, addM_at ha]
                exact matchersF_sim m m' false _ _ s1 _ l (by omega) (n3.on (by rw [hk4]; decide)) hs
section
variable {d : Nat} {o : List Nod} {zr : List Tok} {s s' : PS}
theorem Sim.wordB (h : Sim d o zr s s') : s'.wordB = s.wordB := by
  unfold PS.wordB
  rcases h.hd with h1 | ⟨h1, h2 | ⟨h2, _⟩⟩
  · obtain ⟨e1, e2, _⟩ := key_eq h1
    rw [e1, e2]
  · rw [h1, h2]; rfl
  · rw [h1, h2]; rfl
theorem Sim.choose (h : Sim d o zr s s') {s1 : PS} (hs : chooseP s = .ok s1) : ∃ s1', chooseP s' = .ok s1' ∧ Sim d o zr s1 s1' := by
  unfold chooseP at hs ⊢
  split at hs
  · cases hs
  · rename_i t1 m1 h1
    obtain ⟨t1', a1, b1⟩ : ∃ t1', s'.sel1 = .ok (t1', m1) ∧ Sim d o zr t1 t1' := by
      unfold PS.sel1 at h1 ⊢
      rw [h.wordB]
      split at h1
      · rename_i hw
        rw [if_pos hw]
        split at h1
        · cases h1
        · rename_i ms ha
          injection h1 with h1
          injection h1 with e1 e2
          subst e1 e2
          obtain ⟨_, e2, _⟩ := h.key (word_kind hw)
          rw [e2, addM_at ha]
          exact ⟨s'.on, rfl, h.on (word_kind hw)⟩
      · rename_i hw
        rw [if_neg hw]
        injection h1 with h1
        injection h1 with e1 e2
        subst e1 e2
        exact ⟨s', rfl, h⟩
    rw [a1]
    dsimp only
    rw [h.wordB]
    split at hs
    · cases hs
    · rename_i t2 m2 h2
      obtain ⟨t2', a2, b2⟩ : ∃ t2', t1'.sel2 s.wordB m1 = .ok (t2', m2) ∧ Sim d o zr t2 t2' := by
        unfold PS.sel2 at h2 ⊢
        split at h2
        · rename_i hi
          rw [if_pos (b1.is_of (by decide) hi)]
          have b1' := b1.on (by rw [is_kind hi]; decide)
          exact matchersF_sim _ _ _ _ _ _ _ _ b1'.len b1' h2
        · rename_i hi
          rw [if_neg (b1.is_no (by decide) (.inr (by decide)) hi)]
          split at h2
          · rename_i hw
            rw [if_pos hw]
            injection h2 with h2
            injection h2 with e1 e2
            subst e1 e2
            exact ⟨t1', rfl, b1⟩
          · cases h2
      rw [a2]
      dsimp only
      split at hs
      · cases hs
      · rename_i t3 k w h3
        obtain ⟨t3', a3, b3⟩ : ∃ t3', t2'.sel3 = .ok (t3', k, w) ∧ Sim d o zr t3 t3' := by
          unfold PS.sel3 at h3 ⊢
          split at h3
          · rename_i hi
            rw [if_pos (b2.is_of (by decide) hi)]
            split at h3
            · cases h3
            · rename_i t5 w5 h5
              split at h3
              · cases h3
              · rename_i t6 h6
                injection h3 with h3
                injection h3 with e1 e2
                injection e2 with e2 e3
                subst e1 e2 e3
                obtain ⟨t5', c1, c2⟩ := (b2.on (by rw [is_kind hi]; decide)).span h5
                obtain ⟨t6', d1, d2⟩ := c2.sign h6
                rw [c1]
                dsimp only
                rw [d1]
                exact ⟨t6', rfl, d2⟩
          · rename_i hi
            rw [if_neg (b2.is_no (by decide) (.inr (by decide)) hi)]
            injection h3 with h3
            injection h3 with e1 e2
            injection e2 with e2 e3
            subst e1 e2 e3
            exact ⟨t2', rfl, b2⟩
        rw [a3]
        dsimp only
        split at hs
        · cases hs
        · rename_i t4 b h4
          injection hs with hs
          subst hs
          obtain ⟨t4', a4, b4⟩ : ∃ t4', t3'.sel4 = .ok (t4', b) ∧ Sim d o zr t4 t4' := by
            unfold PS.sel4 at h4 ⊢
            split at h4
            · rename_i hi
              rw [if_pos (b3.is_of (by decide) hi)]
              exact (b3.on (by rw [is_kind hi]; decide)).span h4
            · rename_i hi
              rw [if_neg (b3.is_no (by decide) (.inl (by decide)) hi)]
              injection h4 with h4
              injection h4 with e1 e2
              subst e1 e2
              exact ⟨t3', rfl, b3⟩
          rw [a4]
          exact ⟨_, rfl, b4.lay _⟩
end
section
variable {d : Nat} {o : List Nod} {zr : List Tok}
theorem Sim.rowEnd {s s' : PS} (h : Sim d o zr s s') {lo hi : Int} (hlo : 1 ≤ lo) : s'.rowEnd lo hi = s.rowEnd lo hi := by
  rcases h.hd with h1 | ⟨h1, h2 | ⟨h2, h3⟩⟩
  · obtain ⟨e1, e2, _⟩ := key_eq h1
    unfold PS.rowEnd
    rw [e1, e2]
  · unfold PS.rowEnd
    rw [h1, h2]
    simp
  · have hn : numW opsL sC = 0 := by kernel_rfl
    unfold PS.rowEnd
    rw [h1, h2, h3, hn]
    have : decide ((0 : Int) < lo) = true := decide_eq_true (by omega)
    simp [this]
end
def openK : Int × ByteArray × Nat := (5, sO, 0)
def closeK : Int × ByteArray × Nat := (5, sC, 0)
theorem key_open {a : Tok} (h : a.key = openK) : a.kind = 5 ∧ a.text = sO := by
  simp only [Tok.key, openK, Prod.mk.injEq] at h
  exact ⟨h.1, h.2.1⟩
theorem key_close {a : Tok} (h : a.key = closeK) : a.kind = 5 ∧ a.text = sC := by
  simp only [Tok.key, closeK, Prod.mk.injEq] at h
  exact ⟨h.1, h.2.1⟩
/-- A row of operations ends at a token that ends a query. -/
theorem rowEnd_stop {zr : List Tok} (h : StopL zr) (d : Nat) (o : List Nod) {lo hi : Int} (hlo : 1 ≤ lo) : PS.rowEnd ⟨zr, d, o⟩ lo hi = true := by
  obtain ⟨z, r, rfl, hz⟩ := h
  have hn : numW opsL sC = 0 := by kernel_rfl
  have hh : PS.hd ⟨z :: r, d, o⟩ = z := rfl
  rw [PS.rowEnd, hh]
  rcases hz with h1 | ⟨h1, h2⟩
  · rw [h1]; simp
  · rw [h1, h2, hn]
    have : decide ((0 : Int) < lo) = true := decide_eq_true (by omega)
    simp [this]
theorem rowF_end {part : PS → Rp PS} {lo hi : Int} {s : PS} (h : s.rowEnd lo hi = true) (m : Nat) : rowF part lo hi m s = .ok s := by
  cases m with
  | zero => rfl
  | succ m => rw [rowF, if_pos h]
theorem rowP_end {part : PS → Rp PS} {lo hi : Int} {s s1 : PS} (h : part s = .ok s1) (he : s1.rowEnd lo hi = true) : rowP part lo hi s = .ok s1 := by
  rw [rowP, h]; exact rowF_end he _
theorem rowP_err {part : PS → Rp PS} {lo hi : Int} {s : PS} {x : Int × Int} (h : part s = .error x) : rowP part lo hi s = .error x := by
  rw [rowP, h]
def cmpK (k : Nat) (on : Bool) : Bool := decide (4 ≤ k) && decide (k < 10) && on
def sA : ByteArray := ⟨#[97]⟩
def wordK (t : ByteArray) : Int × ByteArray × Nat := (3, t, 0)
theorem keys_cons {x : List Tok} {k : Int × ByteArray × Nat} {ks : List (Int × ByteArray × Nat)} (h : x.map Tok.key = k :: ks) : ∃ a r, x = a :: r ∧ a.key = k ∧ r.map Tok.key = ks := by
  cases x with
  | nil => simp at h
  | cons a r =>
    simp only [List.map_cons, List.cons.injEq] at h
    exact ⟨a, r, rfl, h.1, h.2⟩
theorem keys_nil {x : List Tok} (h : x.map Tok.key = []) : x = [] := by simpa using h
theorem keys_app {x : List Tok} : ∀ {k1 k2 : List (Int × ByteArray × Nat)}, x.map Tok.key = k1 ++ k2 → ∃ a b, x = a ++ b ∧ a.map Tok.key = k1 ∧ b.map Tok.key = k2 := by
  intro k1 k2 h
  refine ⟨x.take k1.length, x.drop k1.length, (List.take_append_drop _ _).symm, ?_, ?_⟩
  · rw [List.map_take, h]; simp
  · rw [List.map_drop, h]; simp
/-- The operation, what may be behind it, and the second query: at its row. -/
structure Oper2 (k : Nat) (on : Bool) (s1 s3 : PS) : Prop where
  hd : (s1.hd.kind = 5 ∨ s1.hd.kind = 3) ∧ numW opsL s1.hd.text = (k : Int) + 1
  grp : (if s1.on.boolN ((k : Int) + 1) = true then s1.on.on else s1.on).group sOn sIgn 3 4 = .ok (s3, if on = true then 3 else 0, if on = true then [sA, sOr] else [])
  cmp : s1.on.boolN ((k : Int) + 1) = cmpK k on
  room : 1 ≤ s1.toks.length
def binK (k : Nat) (on : Bool) : Nod := binN ((k : Int) + 1) (if on = true then 3 else 0) (if on = true then [sA, sOr] else []) (cmpK k on)
/-- Read, or too deep. -/
def Rd182 (f : PS → Rp PS) (s s' : PS) : Prop := f s = .ok s' ∨ ∃ p, f s = .error (182, p)
theorem Rd182.up {f : PS → Rp PS} {s s' : PS} (h : Rd182 f s s') {lo hi : Int} (he : s'.rowEnd lo hi = true) : Rd182 (rowP f lo hi) s s' := by
  rcases h with h | ⟨p, h⟩
  · exact .inl (rowP_end h he)
  · exact .inr ⟨p, rowP_err h⟩
/-- The row of the operation. -/
theorem Oper2.take {k : Nat} {on : Bool} {s s1 s3 s4 : PS} (h : Oper2 k on s1 s3) {f : PS → Rp PS} (h1 : f s = .ok s1) (h2 : Rd182 f s3 s4) {lo hi : Int} (hne : s1.rowEnd lo hi = false) (hst : (s4.lay (binK k on)).rowEnd lo hi = true) : Rd182 (rowP f lo hi) s (s4.lay (binK k on)) := by
  have hr : rowP f lo hi s = rowF f lo hi s1.toks.length s1 := by rw [rowP, h1]
  obtain ⟨m, hm⟩ : ∃ m, s1.toks.length = m + 1 := ⟨s1.toks.length - 1, by have := h.room; omega⟩
  have hf : rowF f lo hi (m + 1) s1 = match f s3 with | Except.error e => Except.error e | Except.ok s4 => rowF f lo hi m (s4.lay (binK k on)) := by
    rw [rowF, if_neg (by rw [hne]; decide), h.hd.2, h.grp, h.cmp]
    rfl
  unfold Rd182
  rw [hr, hm, hf]
  rcases h2 with h2 | ⟨p, h2⟩
  · rw [h2]; exact .inl (rowF_end hst m)
  · rw [h2]; exact .inr ⟨p, rfl⟩
theorem Oper2.rowEnd {k : Nat} {on : Bool} {s1 s3 : PS} (h : Oper2 k on s1 s3) (lo hi : Int) : s1.rowEnd lo hi = (decide ((k : Int) + 1 < lo) || decide (hi < (k : Int) + 1) || (decide (lo = 11) && decide ((k : Int) + 1 = 12))) := by
  unfold PS.rowEnd
  rw [h.hd.2]
  have : (decide (s1.hd.kind ≠ 5) && decide (s1.hd.kind ≠ 3)) = false := by
    rcases h.hd.1 with h | h <;> simp [h]
  rw [this, Bool.false_or]
/-- At whatever row the operation is: all rows. -/
theorem Oper2.or {k : Nat} (hk : k < 13) {on : Bool} {s s1 s3 : PS} {zr : List Tok} {d : Nat} {o : List Nod} (h : Oper2 k on s1 s3) {u : PS → Rp PS} (h1 : u s = .ok s1) (h2 : Rd182 u s3 ⟨zr, d, o⟩) (hz : StopL zr) : Rd182 (orP u) s ⟨zr, d, o ++ [binK k on]⟩ := by
  have st : ∀ {lo hi : Int} (o2 : List Nod), 1 ≤ lo → PS.rowEnd ⟨zr, d, o2⟩ lo hi = true := fun o2 hlo => rowEnd_stop hz d o2 hlo
  have stl : ∀ {lo hi : Int}, 1 ≤ lo → (PS.lay ⟨zr, d, o⟩ (binK k on)).rowEnd lo hi = true := fun hlo => rowEnd_stop hz d _ hlo
  show Rd182 (rowP (rowP (rowP (rowP (rowP u 3 4) 1 2) 5 10) 11 13) 12 12) s (PS.lay ⟨zr, d, o⟩ (binK k on))
  by_cases c4 : k = 2 ∨ k = 3
  · have e : s1.rowEnd 3 4 = false := by rw [h.rowEnd]; rcases c4 with rfl | rfl <;> decide
    exact ((((h.take h1 h2 e (stl (by decide))).up (stl (by decide))).up (stl (by decide))).up (stl (by decide))).up (stl (by decide))
  have e4 : s1.rowEnd 3 4 = true := by
    rw [h.rowEnd]
    have : ((k : Int) + 1 < 3) ∨ ((4 : Int) < (k : Int) + 1) := by omega
    rcases this with this | this <;> simp [this]
  have a4 := rowP_end h1 e4
  have b4 := h2.up (st o (by decide) (lo := 3) (hi := 4))
  by_cases c3 : k = 0 ∨ k = 1
  · have e : s1.rowEnd 1 2 = false := by rw [h.rowEnd]; rcases c3 with rfl | rfl <;> decide
    exact (((h.take a4 b4 e (stl (by decide))).up (stl (by decide))).up (stl (by decide))).up (stl (by decide))
  have e3 : s1.rowEnd 1 2 = true := by
    rw [h.rowEnd]
    have : ((2 : Int) < (k : Int) + 1) := by omega
    simp [this]
  have a3 := rowP_end a4 e3
  have b3 := b4.up (st o (by decide) (lo := 1) (hi := 2))
  by_cases c2 : 4 ≤ k ∧ k < 10
  · have e : s1.rowEnd 5 10 = false := by
      rw [h.rowEnd]
      have e1 : ¬ ((k : Int) + 1 < 5) := by omega
      have e2 : ¬ ((10 : Int) < (k : Int) + 1) := by omega
      simp [e1, e2]
    exact ((h.take a3 b3 e (stl (by decide))).up (stl (by decide))).up (stl (by decide))
  have e2 : s1.rowEnd 5 10 = true := by
    rw [h.rowEnd]
    have : ((10 : Int) < (k : Int) + 1) := by omega
    simp [this]
  have a2 := rowP_end a3 e2
  have b2 := b3.up (st o (by decide) (lo := 5) (hi := 10))
  by_cases c1 : k = 10 ∨ k = 12
  · have e : s1.rowEnd 11 13 = false := by rw [h.rowEnd]; rcases c1 with rfl | rfl <;> decide
    exact (h.take a2 b2 e (stl (by decide))).up (stl (by decide))
  have hk11 : k = 11 := by omega
  have e1 : s1.rowEnd 11 13 = true := by rw [h.rowEnd, hk11]; decide
  have a1 := rowP_end a2 e1
  have b1 := b2.up (st o (by decide) (lo := 11) (hi := 13))
  have e : s1.rowEnd 12 12 = false := by rw [h.rowEnd, hk11]; decide
  exact h.take a1 b1 e (stl (by decide))
end
end Go.Proofs.YtakfnojiaakfpaaGreatDoor
