/- How a query is read: where it gives up; read amid others; in brackets; two with an operation between. Plain. -/
import Derived.Test.YtakfnojiaakfpaaGreatDoorLexSpec
import Derived.Test.YtakfnojiaakfpaaGreatDoorNodS
import Derived.Test.YtakfnojiaakfpaaGreatDoorMatK
namespace Go.Proofs.YtakfnojiaakfpaaGreatDoor
section
/-! ## ParS -/
open Go.RowKit

/-- What the reader has left, how deep it is, and what it has laid. -/
structure PS where
  toks : List Tok
  deep : Nat
  out : List Nod
/-- Why and where it gives up. -/
abbrev Rp (α : Type) := Except (Int × Int) α
def tok0 : Tok := ⟨0, 0, ByteArray.empty, 0⟩
def PS.hd (s : PS) : Tok := s.toks.headD tok0
def PS.on (s : PS) : PS := ⟨s.toks.tail, s.deep, s.out⟩
def PS.is (s : PS) (k : Int) (t : ByteArray) : Bool := decide (s.hd.kind = k) && decide (s.hd.text = t)
def PS.stuck (s : PS) : Int × Int := (if s.hd.kind = 0 then 180 else 181, (s.hd.at_ : Int))
def PS.sign (s : PS) (t : ByteArray) : Rp PS := if s.is 5 t = true then .ok s.on else .error s.stuck
def PS.lay (s : PS) (n : Nod) : PS := ⟨s.toks, s.deep, s.out ++ [n]⟩
def numF : Nat → List ByteArray → ByteArray → Int
  | _, [], _ => 0
  | k, x :: r, w => if x = w ∧ w ≠ ByteArray.empty then k else numF (k + 1) r w
/-- The place of a word in a list, or 0. -/
def numW (l : List ByteArray) (w : ByteArray) : Int := numF 0 l w
def sO : ByteArray := ⟨#[40]⟩
def sC : ByteArray := ⟨#[41]⟩
def sComma : ByteArray := ⟨#[44]⟩
def sMinus : ByteArray := ⟨#[45]⟩
def sCurl : ByteArray := ⟨#[123]⟩
def sUncurl : ByteArray := ⟨#[125]⟩
def sSq : ByteArray := ⟨#[91]⟩
def sUnsq : ByteArray := ⟨#[93]⟩
def sBool : ByteArray := ⟨#[98, 111, 111, 108]⟩
def sOn : ByteArray := ⟨#[111, 110]⟩
def sIgn : ByteArray := ⟨#[105, 103, 110, 111, 114, 105, 110, 103]⟩
def sBy : ByteArray := ⟨#[98, 121]⟩
def sWithout : ByteArray := ⟨#[119, 105, 116, 104, 111, 117, 116]⟩
def sOffset : ByteArray := ⟨#[111, 102, 102, 115, 101, 116]⟩
def sAnd : ByteArray := ⟨#[97, 110, 100]⟩
def sOr : ByteArray := ⟨#[111, 114]⟩
def sUnless : ByteArray := ⟨#[117, 110, 108, 101, 115, 115]⟩
def sNameN : ByteArray := ⟨#[95, 95, 110, 97, 109, 101, 95, 95]⟩
def opsL : List ByteArray := [ByteArray.empty, ⟨#[43]⟩, ⟨#[45]⟩, ⟨#[42]⟩, ⟨#[47]⟩, ⟨#[61, 61]⟩, ⟨#[33, 61]⟩, ⟨#[60]⟩, ⟨#[60, 61]⟩, ⟨#[62]⟩, ⟨#[62, 61]⟩, sAnd, sOr, sUnless]
def funcsL : List ByteArray := [ByteArray.empty, ⟨#[114, 97, 116, 101]⟩, ⟨#[105, 110, 99, 114, 101, 97, 115, 101]⟩, ⟨#[100, 101, 108, 116, 97]⟩, ⟨#[115, 117, 109, 95, 111, 118, 101, 114, 95, 116, 105, 109, 101]⟩, ⟨#[97, 118, 103, 95, 111, 118, 101, 114, 95, 116, 105, 109, 101]⟩, ⟨#[109, 105, 110, 95, 111, 118, 101, 114, 95, 116, 105, 109, 101]⟩, ⟨#[109, 97, 120, 95, 111, 118, 101, 114, 95, 116, 105, 109, 101]⟩,
  ⟨#[99, 111, 117, 110, 116, 95, 111, 118, 101, 114, 95, 116, 105, 109, 101]⟩, ⟨#[108, 97, 115, 116, 95, 111, 118, 101, 114, 95, 116, 105, 109, 101]⟩, ⟨#[119, 97, 118, 101]⟩, ⟨#[97, 98, 115]⟩, ⟨#[102, 108, 111, 111, 114]⟩]
def aggsL : List ByteArray := [ByteArray.empty, ⟨#[115, 117, 109]⟩, ⟨#[109, 105, 110]⟩, ⟨#[109, 97, 120]⟩, ⟨#[97, 118, 103]⟩, ⟨#[99, 111, 117, 110, 116]⟩]
def matsL : List ByteArray := [ByteArray.empty, ⟨#[61]⟩, ⟨#[33, 61]⟩, ⟨#[61, 126]⟩, ⟨#[33, 126]⟩]
def keptL : List ByteArray := [sOr, sAnd, sUnless, sBool, sOn, sIgn, sBy, sWithout, sOffset]
def keptB (w : ByteArray) : Bool := keptL.any (fun x => decide (w = x)) || decide (0 < numW funcsL w) || decide (0 < numW aggsL w)
def PS.name (s : PS) : Rp (PS × ByteArray) := if s.hd.kind = 3 ∧ nameB s.hd.text = true then .ok (s.on, s.hd.text) else .error s.stuck
/-- Is a comma wanted? Then it must be there. -/
def PS.comma (s : PS) (first : Bool) : Rp PS := if first = true then .ok s else s.sign sComma
def namesF : Nat → PS → List ByteArray → Rp (PS × List ByteArray)
  | 0, s, _ => .error s.stuck
  | m + 1, s, acc =>
    if s.is 5 sC = true then .ok (s.on, acc)
    else match s.comma acc.isEmpty with
      | .error e => .error e
      | .ok s1 => match s1.name with
        | .error e => .error e
        | .ok (s2, x) => namesF m s2 (acc ++ [x])
def PS.names (s : PS) : Rp (PS × List ByteArray) := match s.sign sO with
  | .error e => .error e
  | .ok s1 => namesF s1.toks.length s1 []
/-- By which labels is grouped. -/
def PS.group (s : PS) (w1 w2 : ByteArray) (k1 k2 : Int) : Rp (PS × Int × List ByteArray) :=
  if s.is 3 w1 = true then match s.on.names with
    | .error e => .error e
    | .ok (s1, l) => .ok (s1, k1, l)
  else if s.is 3 w2 = true then match s.on.names with
    | .error e => .error e
    | .ok (s1, l) => .ok (s1, k2, l)
  else .ok (s, 0, [])
/-- Does a row of operations end here? -/
def PS.rowEnd (s : PS) (lo hi : Int) : Bool :=
  (decide (s.hd.kind ≠ 5) && decide (s.hd.kind ≠ 3)) || decide (numW opsL s.hd.text < lo) || decide (hi < numW opsL s.hd.text) || (decide (lo = 11) && decide (numW opsL s.hd.text = 12))
def PS.boolN (s : PS) (op : Int) : Bool := decide (5 ≤ op) && decide (op ≤ 10) && s.is 3 sBool
def binN (op g : Int) (l : List ByteArray) (b : Bool) : Nod := ⟨6, op, ByteArray.empty, [], 0, 0, g, l, b, 2⟩
def rowF (part : PS → Rp PS) (lo hi : Int) : Nat → PS → Rp PS
  | 0, s => .ok s
  | m + 1, s =>
    if s.rowEnd lo hi = true then .ok s
    else match (if s.on.boolN (numW opsL s.hd.text) = true then s.on.on else s.on).group sOn sIgn 3 4 with
      | .error e => .error e
      | .ok (s3, g, l) => match part s3 with
        | .error e => .error e
        | .ok s4 => rowF part lo hi m (s4.lay (binN (numW opsL s.hd.text) g l (s.on.boolN (numW opsL s.hd.text))))
def rowP (part : PS → Rp PS) (lo hi : Int) (s : PS) : Rp PS := match part s with
  | .error e => .error e
  | .ok s1 => rowF part lo hi s1.toks.length s1
def termP (u : PS → Rp PS) : PS → Rp PS := rowP u 3 4
def sumP (u : PS → Rp PS) : PS → Rp PS := rowP (termP u) 1 2
def cmpP (u : PS → Rp PS) : PS → Rp PS := rowP (sumP u) 5 10
def andP (u : PS → Rp PS) : PS → Rp PS := rowP (cmpP u) 11 13
def orP (u : PS → Rp PS) : PS → Rp PS := rowP (andP u) 12 12
def openP (part : PS → Rp PS) (s : PS) : Rp PS :=
  if s.deep = 64 then .error (182, (s.hd.at_ : Int)) else match part ⟨s.toks.tail, s.deep + 1, s.out⟩ with
    | .error e => .error e
    | .ok s1 => .ok ⟨s1.toks, s1.deep - 1, s1.out⟩
def innerP (e : PS → Rp PS) (s : PS) : Rp PS := match e s with
  | .error x => .error x
  | .ok s1 => s1.sign sC
def bracketP (e : PS → Rp PS) (s : PS) : Rp PS := if s.is 5 sO = true then openP (innerP e) s else .error s.stuck
def PS.span (s : PS) : Rp (PS × Int) := if s.hd.kind = 2 then .ok (s.on, (s.hd.span : Int)) else .error s.stuck
/-- One more matcher, if it may be. -/
def addM (ms : List Mat) (m : Mat) (at_ : Int) : Rp (List Mat) := if matCode (ms ++ [m]) = 0 then .ok (ms ++ [m]) else .error (183, at_)
def matchersF : Nat → Bool → PS → List Mat → Rp (PS × List Mat)
  | 0, _, s, _ => .error s.stuck
  | f + 1, first, s, ms =>
    if s.is 5 sUncurl = true then .ok (s.on, ms)
    else match s.comma first with
      | .error e => .error e
      | .ok s1 => match s1.name with
        | .error e => .error e
        | .ok (s2, nm) =>
          if s2.hd.kind ≠ 5 ∨ numW matsL s2.hd.text = 0 then .error s2.stuck
          else if s2.on.hd.kind ≠ 4 then .error s2.on.stuck
          else match addM ms ⟨numW matsL s2.hd.text, nm, s2.on.hd.text⟩ s2.on.hd.at_ with
            | .error e => .error e
            | .ok ms2 => matchersF f false s2.on.on ms2
def PS.matchers (s : PS) (ms : List Mat) : Rp (PS × List Mat) := matchersF s.toks.length true s ms
def PS.wordB (s : PS) : Bool := decide (s.hd.kind = 3) && !keptB s.hd.text
def selN (k : Int) (ms : List Mat) (w b : Int) : Nod := ⟨k, 0, ByteArray.empty, ms, w, b, 0, [], false, 0⟩
/-- A select: its word. -/
def PS.sel1 (s : PS) : Rp (PS × List Mat) := if s.wordB = true then match addM [] ⟨1, sNameN, s.hd.text⟩ s.hd.at_ with
    | .error e => .error e
    | .ok ms => .ok (s.on, ms)
  else .ok (s, [])
/-- Its braces. -/
def PS.sel2 (s : PS) (word : Bool) (ms : List Mat) : Rp (PS × List Mat) :=
  if s.is 5 sCurl = true then s.on.matchers ms else if word = true then .ok (s, ms) else .error s.stuck
/-- Its span: kind and width. -/
def PS.sel3 (s : PS) : Rp (PS × Int × Int) := if s.is 5 sSq = true then match s.on.span with
    | .error e => .error e
    | .ok (s1, w) => match s1.sign sUnsq with
      | .error e => .error e
      | .ok s2 => .ok (s2, 3, w)
  else .ok (s, 2, 0)
/-- Its offset. -/
def PS.sel4 (s : PS) : Rp (PS × Int) := if s.is 3 sOffset = true then s.on.span else .ok (s, 0)
def chooseP (s : PS) : Rp PS := match s.sel1 with
  | .error e => .error e
  | .ok (s1, m1) => match s1.sel2 s.wordB m1 with
    | .error e => .error e
    | .ok (s2, m2) => match s2.sel3 with
      | .error e => .error e
      | .ok (s3, k, w) => match s3.sel4 with
        | .error e => .error e
        | .ok (s4, b) => .ok (s4.lay (selN k m2 w b))
def numN (t : ByteArray) : Nod := ⟨1, 0, t, [], 0, 0, 0, [], false, 0⟩
def callN (f : Int) : Nod := ⟨4, f, ByteArray.empty, [], 0, 0, 0, [], false, 1⟩
def aggN (a g : Int) (l : List ByteArray) : Nod := ⟨5, a, ByteArray.empty, [], 0, 0, g, l, false, 1⟩
def negN : Nod := ⟨7, 0, ByteArray.empty, [], 0, 0, 0, [], false, 1⟩
def oneP (e : PS → Rp PS) (s : PS) : Rp PS :=
  if s.hd.kind = 1 then .ok (s.on.lay (numN s.hd.text))
  else if s.is 5 sO = true then bracketP e s
  else if s.hd.kind = 3 ∧ 0 < numW funcsL s.hd.text then match bracketP e s.on with
    | .error x => .error x
    | .ok s1 => .ok (s1.lay (callN (numW funcsL s.hd.text)))
  else if s.hd.kind = 3 ∧ 0 < numW aggsL s.hd.text then match s.on.group sBy sWithout 1 2 with
    | .error x => .error x
    | .ok (s1, g, l) => match bracketP e s1 with
      | .error x => .error x
      | .ok s2 => .ok (s2.lay (aggN (numW aggsL s.hd.text) g l))
  else chooseP s
def unaryP : Nat → PS → Rp PS
  | 0, s => .error s.stuck
  | n + 1, s => if s.is 5 sMinus = true then match openP (unaryP n) s with
      | .error e => .error e
      | .ok s1 => .ok (s1.lay negN)
    else oneP (orP (unaryP n)) s
/-- Any text is read. -/
def parseR (s : ByteArray) : List Nod × Int × Int := match lexR s with
  | .err p e => ([], p, e)
  | .ok ts => match orP (unaryP ts.length) ⟨ts, 0, []⟩ with
    | .error (why, at_) => ([], at_, why)
    | .ok st => if st.hd.kind = 0 then (st.out, 0, 0) else ([], st.stuck.2, st.stuck.1)

/-- A row of tokens ends with the end. -/
def Ends (l : List Tok) : Prop := ∃ e, l.getLast? = some e ∧ e.kind = 0
theorem Ends.ne {l : List Tok} (h : Ends l) : l ≠ [] := by
  obtain ⟨e, h, _⟩ := h
  rintro rfl
  simp at h
theorem Ends.tail {t : Tok} {r : List Tok} (h : Ends (t :: r)) (hk : t.kind ≠ 0) : Ends r := by
  obtain ⟨e, h1, h2⟩ := h
  cases r with
  | nil =>
    simp at h1
    subst h1
    exact absurd h2 hk
  | cons u r => exact ⟨e, by simpa using h1, h2⟩
/-- What every state of the reader is. -/
structure PGood (M : Nat) (s : PS) : Prop where
  ends : Ends s.toks
  room : s.out.length + s.toks.length ≤ M
  deep : s.deep ≤ 64
  text : ∀ t ∈ s.toks, t.text.size ≤ 1000000
theorem PGood.cons {M : Nat} {s : PS} (h : PGood M s) : s.toks = s.hd :: s.toks.tail := by
  have := h.ends.ne
  cases hs : s.toks with
  | nil => exact absurd hs this
  | cons t r => simp [PS.hd, hs]
theorem PGood.on {M : Nat} {s : PS} (h : PGood M s) (hk : s.hd.kind ≠ 0) : PGood M s.on := by
  have hc := h.cons
  refine ⟨?_, ?_, h.deep, fun t ht => h.text t (List.mem_of_mem_tail ht)⟩
  · have he := h.ends
    rw [hc] at he
    exact he.tail hk
  · have := h.room
    simp only [PS.on, List.length_tail]
    omega
theorem PGood.on_len {M : Nat} {s : PS} (h : PGood M s) : s.on.toks.length + 1 = s.toks.length := by
  have := List.length_pos_iff.2 h.ends.ne
  simp only [PS.on, List.length_tail]
  omega
theorem PGood.hd_text {M : Nat} {s : PS} (h : PGood M s) : s.hd.text.size ≤ 1000000 := by
  apply h.text
  rw [h.cons]
  exact List.mem_cons_self
theorem is_kind {s : PS} {k : Int} {t : ByteArray} (h : s.is k t = true) : s.hd.kind = k := by
  simp [PS.is] at h
  exact h.1
theorem is_text {s : PS} {k : Int} {t : ByteArray} (h : s.is k t = true) : s.hd.text = t := by
  simp [PS.is] at h
  exact h.2
/-- A part has been read: tokens are gone, and what is laid grows by no more than them; no deeper than before. -/
structure Adv (s s' : PS) : Prop where
  len : s'.toks.length ≤ s.toks.length
  suf : ∃ j, s'.toks = s.toks.drop j
  deep : s'.deep = s.deep
  out : ∃ l, s'.out = s.out ++ l
theorem Adv.refl (s : PS) : Adv s s := ⟨Nat.le_refl _, ⟨0, rfl⟩, rfl, ⟨[], by simp⟩⟩
theorem Adv.trans {a b c : PS} (h : Adv a b) (k : Adv b c) : Adv a c := by
  obtain ⟨j1, e1⟩ := h.suf
  obtain ⟨j2, e2⟩ := k.suf
  obtain ⟨l1, f1⟩ := h.out
  obtain ⟨l2, f2⟩ := k.out
  exact ⟨Nat.le_trans k.len h.len, ⟨j1 + j2, by rw [e2, e1, List.drop_drop]⟩, k.deep.trans h.deep, ⟨l1 ++ l2, by rw [f2, f1, List.append_assoc]⟩⟩
theorem Adv.on (s : PS) : Adv s s.on := ⟨by simp [PS.on], ⟨1, by simp [PS.on]⟩, rfl, ⟨[], by simp [PS.on]⟩⟩
end
section
/-! ## ParG -/
open Go.RowKit

theorem PGood.on1 {M : Nat} {s : PS} (h : PGood M s) (hk : s.hd.kind ≠ 0) : PGood (M - 1) s.on := by
  have h1 := h.on hk
  have h2 := h.on_len
  have h3 := h.room
  refine ⟨h1.ends, ?_, h1.deep, h1.text⟩
  have : s.on.out = s.out := rfl
  rw [this]
  omega
theorem PGood.pos {M : Nat} {s : PS} (h : PGood M s) : 1 ≤ M ∧ 1 ≤ s.toks.length := by
  have := List.length_pos_iff.2 h.ends.ne
  have := h.room
  omega
theorem PGood.lay {M : Nat} {s : PS} (h : PGood (M - 1) s) (n : Nod) : PGood M (s.lay n) := by
  have := h.pos
  refine ⟨h.ends, ?_, h.deep, h.text⟩
  have := h.room
  simp only [PS.lay, List.length_append, List.length_cons, List.length_nil]
  omega
theorem PGood.more {M M' : Nat} {s : PS} (h : PGood M s) (hM : M ≤ M') : PGood M' s := ⟨h.ends, Nat.le_trans h.room hM, h.deep, h.text⟩
/-- A step: the state stays good, as deep as it was; so many tokens at the least are gone; nothing is laid. -/
structure Step (d : Nat) (s s' : PS) : Prop where
  good : ∀ M, PGood M s → PGood (M - d) s'
  deep : s'.deep = s.deep
  len : ∀ M, PGood M s → s'.toks.length + d ≤ s.toks.length
  out : s'.out = s.out
theorem Step.refl (s : PS) : Step 0 s s := ⟨fun _ h => h, rfl, fun _ _ => Nat.le_refl _, rfl⟩
theorem Step.trans {d1 d2 : Nat} {a b c : PS} (h : Step d1 a b) (k : Step d2 b c) : Step (d1 + d2) a c :=
  ⟨fun M hg => by have := k.good _ (h.good M hg); rw [Nat.sub_sub] at this; exact this, k.deep.trans h.deep, fun M hg => by have h1 := h.len M hg; have h2 := k.len _ (h.good M hg); omega, k.out.trans h.out⟩
theorem Step.on {s : PS} (hk : s.hd.kind ≠ 0) : Step 1 s s.on := ⟨fun _ h => h.on1 hk, rfl, fun _ h => by have := h.on_len; omega, rfl⟩
theorem Step.less {d d' : Nat} {a b : PS} (h : Step d a b) (hd : d' ≤ d) : Step d' a b := ⟨fun M hg => (h.good M hg).more (by omega), h.deep, fun M hg => by have := h.len M hg; omega, h.out⟩
theorem sign_step {s s' : PS} {t : ByteArray} (h : s.sign t = .ok s') : s' = s.on ∧ s.is 5 t = true ∧ Step 1 s s' := by
  unfold PS.sign at h
  split at h
  · rename_i h1
    injection h with h
    subst h
    exact ⟨rfl, h1, Step.on (by rw [is_kind h1]; decide)⟩
  · cases h
theorem name_step {s s' : PS} {x : ByteArray} (h : s.name = .ok (s', x)) : s' = s.on ∧ x = s.hd.text ∧ s.hd.kind = 3 ∧ nameB s.hd.text = true ∧ Step 1 s s' := by
  unfold PS.name at h
  split at h
  · rename_i h1
    injection h with h
    injection h with h2 h3
    subst h2 h3
    exact ⟨rfl, rfl, h1.1, h1.2, Step.on (by rw [h1.1]; decide)⟩
  · cases h
theorem comma_step {s s' : PS} {b : Bool} (h : s.comma b = .ok s') : Step 0 s s' := by
  unfold PS.comma at h
  split at h
  · injection h with h; subst h; exact Step.refl s
  · exact (sign_step h).2.2.less (by omega)
theorem namesF_step : ∀ (m : Nat) (s s' : PS) (acc l : List ByteArray), namesF m s acc = .ok (s', l) → Step 1 s s' ∧ ∀ M, PGood M s → l.length + s'.toks.length ≤ acc.length + s.toks.length
  | 0, s, s', acc, l, h => by simp [namesF] at h
  | m + 1, s, s', acc, l, h => by
    rw [namesF] at h
    split at h
    · rename_i h1
      injection h with h
      injection h with h2 h3
      subst h2 h3
      refine ⟨Step.on (by rw [is_kind h1]; decide), fun M hg => ?_⟩
      have := hg.on_len
      omega
    · split at h
      · cases h
      · rename_i s1 hc
        split at h
        · cases h
        · rename_i s2 x hn
          have h1 := comma_step hc
          have h2 := (name_step hn).2.2.2.2
          obtain ⟨h3, h4⟩ := namesF_step m s2 s' _ l h
          refine ⟨((h1.trans h2).trans h3).less (by omega), fun M hg => ?_⟩
          have g1 := h1.good M hg
          have g2 := h2.good _ g1
          have k1 := h1.len M hg
          have k2 := h2.len _ g1
          have k3 := h4 _ g2
          simp only [List.length_append, List.length_cons, List.length_nil] at k3
          omega
theorem names_step' {s s' : PS} {l : List ByteArray} (h : s.names = .ok (s', l)) : Step 1 s s' ∧ ∀ M, PGood M s → l.length ≤ s.toks.length := by
  unfold PS.names at h
  split at h
  · cases h
  · rename_i s1 hs
    have h1 := (sign_step hs).2.2
    obtain ⟨h2, h3⟩ := namesF_step _ _ _ _ _ h
    refine ⟨(h1.trans h2).less (by omega), fun M hg => ?_⟩
    have g1 := h1.good M hg
    have k1 := h1.len M hg
    have := h3 _ g1
    simp only [List.length_nil] at this
    omega
theorem group_step {s s' : PS} {w1 w2 : ByteArray} {k1 k2 g : Int} {l : List ByteArray} (h : s.group w1 w2 k1 k2 = .ok (s', g, l)) : Step 0 s s' ∧ (∀ M, PGood M s → l.length ≤ s.toks.length) := by
  unfold PS.group at h
  have key : ∀ {s0 s1 : PS} {l0 : List ByteArray}, s0.hd.kind ≠ 0 → s0.on.names = .ok (s1, l0) → Step 0 s0 s1 ∧ (∀ M, PGood M s0 → l0.length ≤ s0.toks.length) := by
    intro s0 s1 l0 hk hn
    obtain ⟨h1, h2⟩ := names_step' hn
    refine ⟨((Step.on hk).trans h1).less (by omega), fun M hg => ?_⟩
    have := h2 _ (hg.on1 hk)
    have := hg.on_len
    omega
  split at h
  · rename_i h1
    split at h
    · cases h
    · rename_i s1 l1 hn
      injection h with h
      injection h with h2 h3
      injection h3 with h3 h4
      subst h2 h4
      exact key (by rw [is_kind h1]; decide) hn
  · split at h
    · rename_i h1
      split at h
      · cases h
      · rename_i s1 l1 hn
        injection h with h
        injection h with h2 h3
        injection h3 with h3 h4
        subst h2 h4
        exact key (by rw [is_kind h1]; decide) hn
    · injection h with h
      injection h with h2 h3
      injection h3 with h3 h4
      subst h2 h4
      exact ⟨Step.refl s, fun M hg => by simp⟩
/-- What a part does to a good state. -/
def PartOk (f : PS → Rp PS) : Prop := ∀ s s', f s = .ok s' → s'.deep = s.deep ∧ ∀ M, PGood M s → PGood M s' ∧ s'.toks.length < s.toks.length
theorem Step.part {d : Nat} {s s1 : PS} (h : Step d s s1) (n : Nod) (hd : 1 ≤ d) : (s1.lay n).deep = s.deep ∧ ∀ M, PGood M s → PGood M (s1.lay n) ∧ (s1.lay n).toks.length < s.toks.length :=
  ⟨h.deep, fun M hg => ⟨((h.good M hg).more (by omega)).lay n, by have := h.len M hg; show s1.toks.length < _; omega⟩⟩
theorem rowF_ok {part : PS → Rp PS} (hp : PartOk part) (lo hi : Int) : ∀ (m : Nat) (s s' : PS), rowF part lo hi m s = .ok s' → s'.deep = s.deep ∧ ∀ M, PGood M s → PGood M s' ∧ s'.toks.length ≤ s.toks.length
  | 0, s, s', h => by
    simp only [rowF] at h
    injection h with h
    subst h
    exact ⟨rfl, fun M hg => ⟨hg, Nat.le_refl _⟩⟩
  | m + 1, s, s', h => by
    rw [rowF] at h
    split at h
    · injection h with h
      subst h
      exact ⟨rfl, fun M hg => ⟨hg, Nat.le_refl _⟩⟩
    · rename_i hend
      have hk : s.hd.kind ≠ 0 := by
        intro h0
        apply hend
        simp [PS.rowEnd, h0]
      split at h
      · cases h
      · rename_i s3 g l hg
        split at h
        · cases h
        · rename_i s4 hp4
          have h1 := Step.on hk
          have h2 : Step 0 s.on (if s.on.boolN (numW opsL s.hd.text) = true then s.on.on else s.on) := by
            split
            · rename_i hb
              simp only [PS.boolN, Bool.and_eq_true] at hb
              exact (Step.on (by rw [is_kind hb.2]; decide)).less (by omega)
            · exact Step.refl _
          have h3 := (group_step hg).1
          have h13 := (h1.trans h2).trans h3
          obtain ⟨k1, k2⟩ := hp _ _ hp4
          obtain ⟨r1, r2⟩ := rowF_ok hp lo hi m _ _ h
          refine ⟨r1.trans (k1.trans h13.deep), fun M hM => ?_⟩
          have g3 := h13.good M hM
          obtain ⟨g4, l4⟩ := k2 _ g3
          obtain ⟨g5, l5⟩ := r2 M ((g4.more (by omega)).lay _)
          have l3 := h13.len M hM
          refine ⟨g5, ?_⟩
          have l5' : s'.toks.length ≤ s4.toks.length := l5
          omega
theorem rowP_ok {part : PS → Rp PS} (hp : PartOk part) (lo hi : Int) : PartOk (rowP part lo hi) := by
  intro s s' h
  unfold rowP at h
  split at h
  · cases h
  · rename_i s1 h1
    obtain ⟨a1, a2⟩ := hp _ _ h1
    obtain ⟨b1, b2⟩ := rowF_ok hp lo hi _ _ _ h
    refine ⟨b1.trans a1, fun M hM => ?_⟩
    obtain ⟨g1, l1⟩ := a2 M hM
    obtain ⟨g2, l2⟩ := b2 M g1
    exact ⟨g2, by omega⟩
theorem orP_ok {u : PS → Rp PS} (hu : PartOk u) : PartOk (orP u) := rowP_ok (rowP_ok (rowP_ok (rowP_ok (rowP_ok hu _ _) _ _) _ _) _ _) _ _
theorem openP_ok {part : PS → Rp PS} (hp : PartOk part) : ∀ s s', s.hd.kind ≠ 0 → openP part s = .ok s' → s'.deep = s.deep ∧ ∀ M, PGood M s → PGood (M - 1) s' ∧ s'.toks.length + 1 < s.toks.length := by
  intro s s' hk h
  unfold openP at h
  split at h
  · cases h
  · rename_i hd
    split at h
    · cases h
    · rename_i s1 h1
      injection h with h
      subst h
      obtain ⟨a1, a2⟩ := hp _ _ h1
      refine ⟨by show s1.deep - 1 = s.deep; rw [a1]; rfl, fun M hM => ?_⟩
      have g := hM.on1 hk
      have hdl := hM.deep
      have g' : PGood (M - 1) ⟨s.toks.tail, s.deep + 1, s.out⟩ := ⟨g.ends, g.room, by show s.deep + 1 ≤ 64; omega, g.text⟩
      obtain ⟨g1, l1⟩ := a2 _ g'
      have := hM.on_len
      refine ⟨⟨g1.ends, g1.room, by show s1.deep - 1 ≤ 64; have := g1.deep; omega, g1.text⟩, ?_⟩
      have l1' : s1.toks.length < s.on.toks.length := l1
      show s1.toks.length + 1 < _
      omega
theorem innerP_ok {e : PS → Rp PS} (he : PartOk e) : PartOk (innerP e) := by
  intro s s' h
  unfold innerP at h
  split at h
  · cases h
  · rename_i s1 h1
    obtain ⟨a1, a2⟩ := he _ _ h1
    have h2 := (sign_step h).2.2
    refine ⟨h2.deep.trans a1, fun M hM => ?_⟩
    obtain ⟨g1, l1⟩ := a2 M hM
    have := h2.len _ g1
    exact ⟨(h2.good _ g1).more (by omega), by omega⟩
theorem bracketP_ok {e : PS → Rp PS} (he : PartOk e) : PartOk (bracketP e) := by
  intro s s' h
  unfold bracketP at h
  split at h
  · rename_i h1
    obtain ⟨a1, a2⟩ := openP_ok (innerP_ok he) s s' (by rw [is_kind h1]; decide) h
    exact ⟨a1, fun M hM => by obtain ⟨b1, b2⟩ := a2 M hM; exact ⟨b1.more (by omega), by omega⟩⟩
  · cases h
theorem span_step {s s' : PS} {v : Int} (h : s.span = .ok (s', v)) : Step 1 s s' := by
  unfold PS.span at h
  split at h
  · rename_i h1
    injection h with h
    injection h with h2 h3
    subst h2
    exact Step.on (by rw [h1]; decide)
  · cases h
theorem matchersF_step : ∀ (m : Nat) (b : Bool) (s s' : PS) (ms l : List Mat), matchersF m b s ms = .ok (s', l) → Step 1 s s'
  | 0, b, s, s', ms, l, h => by simp [matchersF] at h
  | m + 1, b, s, s', ms, l, h => by
    rw [matchersF] at h
    split at h
    · rename_i h1
      injection h with h
      injection h with h2 h3
      subst h2
      exact Step.on (by rw [is_kind h1]; decide)
    · split at h
      · cases h
      · rename_i s1 hc
        split at h
        · cases h
        · rename_i s2 nm hn
          split at h
          · cases h
          · rename_i hk2
            split at h
            · cases h
            · rename_i hk3
              split at h
              · cases h
              · rename_i ms2 ha
                have h1 := comma_step hc
                have h2 := (name_step hn).2.2.2.2
                have hk2' : s2.hd.kind = 5 := by
                  rcases Classical.em (s2.hd.kind = 5) with h' | h'
                  · exact h'
                  · exact absurd (.inl h') hk2
                have hk3' : s2.on.hd.kind = 4 := Classical.not_not.1 hk3
                have h3 := Step.on (s := s2) (by rw [hk2']; decide)
                have h4 := Step.on (s := s2.on) (by rw [hk3']; decide)
                have h5 := matchersF_step m false _ s' _ l h
                exact ((((h1.trans h2).trans h3).trans h4).trans h5).less (by omega)
theorem addM_ok {ms l : List Mat} {m : Mat} {a : Int} (h : addM ms m a = .ok l) : l = ms ++ [m] ∧ matCode l = 0 := by
  unfold addM at h
  split at h
  · rename_i h1
    injection h with h
    subst h
    exact ⟨rfl, h1⟩
  · cases h
theorem chooseP_step {s s' : PS} (h : chooseP s = .ok s') : ∃ s4 k m w b, s' = s4.lay (selN k m w b) ∧ Step 1 s s4 := by
  unfold chooseP at h
  split at h
  · cases h
  · rename_i s1 m1 h1
    split at h
    · cases h
    · rename_i s2 m2 h2
      split at h
      · cases h
      · rename_i s3 k w h3
        split at h
        · cases h
        · rename_i s4 b h4
          injection h with h
          refine ⟨s4, k, m2, w, b, h.symm, ?_⟩
          have e2 : Step 1 s s2 := by
            unfold PS.sel1 at h1
            split at h1
            · rename_i hw
              split at h1
              · cases h1
              · injection h1 with h1
                injection h1 with h1 h1'
                subst h1
                have hk : s.hd.kind ≠ 0 := by
                  simp only [PS.wordB, Bool.and_eq_true, decide_eq_true_eq] at hw
                  rw [hw.1]; decide
                unfold PS.sel2 at h2
                split at h2
                · rename_i hc
                  exact ((((Step.on hk).trans (Step.on (by rw [is_kind hc]; decide)))).trans (matchersF_step _ _ _ _ _ _ h2)).less (by omega)
                · injection h2 with h2
                  injection h2 with h2 h2'
                  subst h2
                  exact Step.on hk
            · rename_i hw
              injection h1 with h1
              injection h1 with h1 h1'
              subst h1
              unfold PS.sel2 at h2
              split at h2
              · rename_i hc
                exact ((Step.on (by rw [is_kind hc]; decide)).trans (matchersF_step _ _ _ _ _ _ h2)).less (by omega)
              · cases h2
          have e3 : Step 0 s2 s3 := by
            unfold PS.sel3 at h3
            split at h3
            · rename_i hc
              split at h3
              · cases h3
              · rename_i s5 w5 h5
                split at h3
                · cases h3
                · rename_i s6 h6
                  injection h3 with h3
                  injection h3 with h3 h3'
                  subst h3
                  exact (((Step.on (by rw [is_kind hc]; decide)).trans (span_step h5)).trans (sign_step h6).2.2).less (by omega)
            · injection h3 with h3
              injection h3 with h3 h3'
              subst h3
              exact Step.refl _
          have e4 : Step 0 s3 s4 := by
            unfold PS.sel4 at h4
            split at h4
            · rename_i hc
              exact ((Step.on (by rw [is_kind hc]; decide)).trans (span_step h4)).less (by omega)
            · injection h4 with h4
              injection h4 with h4 h4'
              subst h4
              exact Step.refl _
          exact (e2.trans e3).trans e4
theorem oneP_ok {e : PS → Rp PS} (he : PartOk e) : PartOk (oneP e) := by
  intro s s' h
  unfold oneP at h
  split at h
  · rename_i h1
    injection h with h
    subst h
    exact (Step.on (by rw [h1]; decide)).part _ (by omega)
  · split at h
    · exact bracketP_ok he s s' h
    · split at h
      · rename_i h1
        split at h
        · cases h
        · rename_i s1 hb
          injection h with h
          subst h
          have h0 := Step.on (s := s) (by rw [h1.1]; decide)
          obtain ⟨a1, a2⟩ := bracketP_ok he _ _ hb
          refine ⟨a1.trans h0.deep, fun M hM => ?_⟩
          obtain ⟨b1, b2⟩ := a2 _ (h0.good M hM)
          have := h0.len M hM
          exact ⟨b1.lay _, by show s1.toks.length < _; omega⟩
      · split at h
        · rename_i h1
          split at h
          · cases h
          · rename_i s1 g l hg
            split at h
            · cases h
            · rename_i s2 hb
              injection h with h
              subst h
              have h0 := (Step.on (s := s) (by rw [h1.1]; decide)).trans (group_step hg).1
              obtain ⟨a1, a2⟩ := bracketP_ok he _ _ hb
              refine ⟨a1.trans h0.deep, fun M hM => ?_⟩
              obtain ⟨b1, b2⟩ := a2 _ (h0.good M hM)
              have := h0.len M hM
              exact ⟨(b1.more (by omega)).lay _, by show s2.toks.length < _; omega⟩
        · obtain ⟨s4, k, m, w, b, rfl, hs⟩ := chooseP_step h
          exact hs.part _ (by omega)
theorem unaryP_ok : ∀ n, PartOk (unaryP n)
  | 0 => fun s s' h => by simp [unaryP] at h
  | n + 1 => fun s s' h => by
    rw [unaryP] at h
    split at h
    · rename_i h1
      split at h
      · cases h
      · rename_i s1 ho
        injection h with h
        subst h
        obtain ⟨a1, a2⟩ := openP_ok (unaryP_ok n) s s1 (by rw [is_kind h1]; decide) ho
        refine ⟨a1, fun M hM => ?_⟩
        obtain ⟨b1, b2⟩ := a2 M hM
        exact ⟨b1.lay _, by show s1.toks.length < _; omega⟩
    · exact oneP_ok (orP_ok (unaryP_ok n)) s s' h
end
section
/-! ## Par0 -/
open Go.RowKit

theorem textS_sz : ∀ (l : List UInt8) (b : Bool) (x : List UInt8) (n : Nat), textS b l = some (x, n) → x.length + 1 ≤ n
  | [], b, x, n, h => by cases b <;> simp [textS] at h
  | c :: r, false, x, n, h => by
    rw [textS] at h
    split at h
    · cases h
    · split at h
      · injection h with h; injection h with h1 h2; subst h1 h2; simp
      · split at h
        all_goals
          simp only [Option.map_eq_some_iff] at h
          obtain ⟨⟨y, m⟩, hy, he⟩ := h
          injection he with h1 h2
          have := textS_sz r _ y m hy
          subst h1 h2
          simp; omega
  | c :: r, true, x, n, h => by
    rw [textS] at h
    split at h
    · simp only [Option.map_eq_some_iff] at h
      obtain ⟨⟨y, m⟩, hy, he⟩ := h
      injection he with h1 h2
      have := textS_sz r _ y m hy
      subst h1 h2
      simp; omega
    · split at h
      · simp only [Option.map_eq_some_iff] at h
        obtain ⟨⟨y, m⟩, hy, he⟩ := h
        injection he with h1 h2
        have := textS_sz r _ y m hy
        subst h1 h2
        simp; omega
      · cases h
theorem mkB_size (l : List UInt8) : (mkB l).size = l.length := by
  rw [Lib.size_eq]
  simp [mkB]
/-- One step: at most one token, at its place, no longer than what it takes. -/
theorem oneL_tok {at_ : Nat} {l : List UInt8} {ts : List Tok} {n : Nat} (h : oneL at_ l = .ok ts n) : ts.length ≤ 1 ∧ ∀ t ∈ ts, t.kind ≠ 0 ∧ t.at_ = at_ ∧ t.text.size ≤ n := by
  cases l with
  | nil => simp [oneL] at h
  | cons c r =>
    rw [oneL] at h
    by_cases h1 : blankB c = true
    · rw [if_pos h1] at h; injection h with h _; subst h; simp
    rw [if_neg h1] at h
    by_cases h2 : dchar c = true
    · rw [if_pos h2, numTok] at h
      split at h
      · injection h with h hn; subst h hn; simp [mkB_size]
      · split at h
        · injection h with h hn; subst h hn; simp [mkB_size]
        · cases h
    rw [if_neg h2] at h
    by_cases h3 : letB c = true
    · rw [if_pos h3] at h
      injection h with h hn; subst h hn; simp [mkB_size, runN]
    rw [if_neg h3] at h
    by_cases h4 : c.toNat = 34
    · rw [if_pos h4] at h
      cases ht : textS false r with
      | none => rw [ht, textTok] at h; cases h
      | some x =>
        obtain ⟨x, m⟩ := x
        rw [ht, textTok] at h
        have := textS_sz r _ x m ht
        injection h with h hn; subst h hn; simp [mkB_size]; omega
    rw [if_neg h4] at h
    by_cases h5 : 0 < signN (c :: r)
    · rw [if_pos h5] at h
      injection h with h hn; subst h hn; simp [mkB_size]; omega
    · rw [if_neg h5] at h; cases h
/-- A token off a text whose end is at N. -/
def TokN (N : Nat) (t : Tok) : Prop := (t.kind = 0 ∧ t.at_ = N) ∨ (t.kind ≠ 0 ∧ t.at_ < N)
theorem lexL_toks : ∀ (m p : Nat) (l : List UInt8) (x : List Tok), l.length ≤ m → lexL p l = .ok x → Ends x ∧ x.length ≤ l.length + 1 ∧ ∀ t ∈ x, TokN (p + l.length) t ∧ t.text.size ≤ l.length := by
  intro m
  induction m with
  | zero =>
    intro p l x hl h
    cases l with
    | nil =>
      rw [lexL_nil] at h
      injection h with h
      subst h
      exact ⟨⟨_, rfl, rfl⟩, by simp, fun t ht => by simp at ht; subst ht; exact ⟨.inl ⟨rfl, rfl⟩, by simp [mkB_size]⟩⟩
    | cons c r => simp at hl
  | succ m ih =>
    intro p l x hl h
    cases l with
    | nil =>
      rw [lexL_nil] at h
      injection h with h
      subst h
      exact ⟨⟨_, rfl, rfl⟩, by simp, fun t ht => by simp at ht; subst ht; exact ⟨.inl ⟨rfl, rfl⟩, by simp [mkB_size]⟩⟩
    | cons c r =>
      rw [lexL_cons] at h
      cases ho : oneL p (c :: r) with
      | err q e => rw [ho] at h; cases h
      | ok ts n =>
        rw [ho] at h
        dsimp only at h
        have hn := oneL_n ho
        obtain ⟨t1, t2⟩ := oneL_tok ho
        have hdl : ((c :: r).drop n).length = (c :: r).length - n := List.length_drop
        cases hr : lexL (p + n) ((c :: r).drop n) with
        | err q e => rw [hr] at h; cases h
        | ok y =>
          simp only [hr, LexR.pre] at h
          injection h with h
          subst h
          obtain ⟨⟨e, i1, i1'⟩, i2, i3⟩ := ih (p + n) _ y (by rw [hdl]; simp at hl ⊢; omega) hr
          refine ⟨⟨e, by rw [List.getLast?_append, i1]; rfl, i1'⟩, by rw [List.length_append]; omega, fun t ht => ?_⟩
          rcases List.mem_append.1 ht with ht | ht
          · obtain ⟨k1, k2, k3⟩ := t2 t ht
            exact ⟨.inr ⟨k1, by omega⟩, by omega⟩
          · obtain ⟨k1, k2⟩ := i3 t ht
            rw [hdl] at k1 k2
            rw [show p + n + ((c :: r).length - n) = p + (c :: r).length from by omega] at k1
            exact ⟨k1, by omega⟩
theorem lexR_toks {s : ByteArray} {x : List Tok} (h : lexR s = .ok x) : Ends x ∧ x.length ≤ 4097 ∧ ∀ t ∈ x, TokN s.size t ∧ t.text.size ≤ 4096 := by
  rw [lexR] at h
  split at h
  · cases h
  · rename_i h4
    obtain ⟨h1, h2, h3⟩ := lexL_toks _ 0 _ x (Nat.le_refl _) h
    have hs : s.data.toList.length = s.size := (Lib.size_eq s).symm
    rw [hs] at h2 h3
    refine ⟨h1, by omega, fun t ht => ?_⟩
    obtain ⟨k1, k2⟩ := h3 t ht
    rw [Nat.zero_add] at k1
    exact ⟨k1, by omega⟩
theorem lexR_good {s : ByteArray} {x : List Tok} (h : lexR s = .ok x) : PGood 5000 ⟨x, 0, []⟩ := by
  obtain ⟨h1, h2, h3⟩ := lexR_toks h
  exact ⟨h1, by simp; omega, by simp, fun t ht => by have := (h3 t ht).2; omega⟩
end
section
/-! ## LexPlain -/
open Go.RowKit

def Tok.sh (d : Nat) (t : Tok) : Tok := { t with at_ := d + t.at_ }
def LexR.sh (d : Nat) : LexR → LexR
  | .ok ts => .ok (ts.map (Tok.sh d))
  | .err p e => .err (d + p) e
def OneR.sh (d : Nat) : OneR → OneR
  | .ok ts n => .ok (ts.map (Tok.sh d)) n
  | .err p e => .err (d + p) e
theorem oneL_sh (d p : Nat) (l : List UInt8) : oneL (d + p) l = (oneL p l).sh d := by
  cases l with
  | nil => rfl
  | cons c r =>
    simp only [oneL]
    split
    · rfl
    split
    · simp only [numTok]
      split
      · rfl
      split <;> rfl
    split
    · rfl
    split
    · cases textS false r <;> rfl
    split <;> rfl
theorem lexL_sh (d : Nat) : ∀ (n p : Nat) (l : List UInt8), l.length ≤ n → lexL (d + p) l = (lexL p l).sh d := by
  intro n
  induction n with
  | zero => intro p l hl; cases l with
    | nil => rfl
    | cons c r => simp at hl
  | succ n ih =>
    intro p l hl
    cases l with
    | nil => rfl
    | cons c r =>
      rw [lexL_cons, lexL_cons, oneL_sh]
      cases h : oneL p (c :: r) with
      | err q e => rfl
      | ok ts k =>
        have hk := oneL_n h
        show (lexL (d + p + k) ((c :: r).drop k)).pre (ts.map (Tok.sh d)) = ((lexL (p + k) ((c :: r).drop k)).pre ts).sh d
        rw [Nat.add_assoc, ih _ _ (by rw [List.length_drop]; omega)]
        cases lexL (p + k) ((c :: r).drop k) <;> simp [LexR.pre, LexR.sh]
theorem tw_join {q : UInt8 → Bool} {x : UInt8} (hx : q x = false) (b : List UInt8) : ∀ l : List UInt8, (l ++ x :: b).takeWhile q = l.takeWhile q
  | [] => by simp [hx]
  | c :: r => by simp only [List.cons_append, List.takeWhile_cons, tw_join hx b r]
theorem textS_join (b : List UInt8) : ∀ (l : List UInt8) (f : Bool) (x : List UInt8 × Nat), textS f l = some x → textS f (l ++ b) = some x
  | [], f, x, h => by cases f <;> simp [textS] at h
  | c :: r, false, x, h => by
    rw [List.cons_append]
    simp only [textS] at h ⊢
    split at h
    · cases h
    rw [if_neg (by assumption)]
    split at h
    · rw [if_pos (by assumption)]; exact h
    rw [if_neg (by assumption)]
    split at h
    all_goals
      simp only [Option.map_eq_some_iff] at h
      obtain ⟨y, hy, rfl⟩ := h
    · rw [if_pos (by assumption), textS_join b r _ y hy]; rfl
    · rw [if_neg (by assumption), textS_join b r _ y hy]; rfl
  | c :: r, true, x, h => by
    rw [List.cons_append]
    simp only [textS] at h ⊢
    split at h
    · rw [if_pos (by assumption)]
      simp only [Option.map_eq_some_iff] at h
      obtain ⟨y, hy, rfl⟩ := h
      rw [textS_join b r _ y hy]; rfl
    rw [if_neg (by assumption)]
    split at h
    · rw [if_pos (by assumption)]
      simp only [Option.map_eq_some_iff] at h
      obtain ⟨y, hy, rfl⟩ := h
      rw [textS_join b r _ y hy]; rfl
    · cases h
theorem blank_cases {x : UInt8} (h : blankB x = true) : x = 32 ∨ x = 9 ∨ x = 13 ∨ x = 10 := by
  simp only [blankB, Bool.or_eq_true, beq_iff_eq] at h
  rcases h with ((h | h) | h) | h
  · exact .inl (UInt8.toNat_inj.1 h)
  · exact .inr (.inl (UInt8.toNat_inj.1 h))
  · exact .inr (.inr (.inl (UInt8.toNat_inj.1 h)))
  · exact .inr (.inr (.inr (UInt8.toNat_inj.1 h)))
theorem blank_num {x : UInt8} (h : blankB x = true) : numC x = false ∧ wordC x = false := by
  rcases blank_cases h with rfl | rfl | rfl | rfl <;> decide
theorem sign2_blank (c : UInt8) {x : UInt8} (h : blankB x = true) : sign2 [c, x] = false := by
  rcases blank_cases h with rfl | rfl | rfl | rfl <;> simp [sign2]
theorem sign_join {x : UInt8} (hx : blankB x = true) (c : UInt8) (r b : List UInt8) : signN (c :: (r ++ x :: b)) = signN (c :: r) := by
  cases r with
  | nil => by_cases h : sign1 c = true <;> simp [signN, sign2_blank c hx, h]
  | cons d r => by_cases h : sign1 c = true <;> by_cases h2 : sign2 [c, d] = true <;> simp [signN, h, h2]
theorem one_join {x : UInt8} (hx : blankB x = true) {p n : Nat} {l : List UInt8} {ts : List Tok} (h : oneL p l = .ok ts n) (b : List UInt8) : oneL p (l ++ x :: b) = .ok ts n := by
  cases l with
  | nil => simp [oneL] at h
  | cons c r =>
    have e1 := tw_join (blank_num hx).1 b (c :: r)
    have e2 := tw_join (blank_num hx).2 b (c :: r)
    have e3 := sign_join hx c r b
    have hn := signN_le (c :: r)
    rw [List.cons_append] at e1 e2 ⊢
    simp only [oneL, runN, e1, e2, e3] at h ⊢
    split at h
    · rw [if_pos (by assumption)]; exact h
    rw [if_neg (by assumption)]
    split at h
    · rw [if_pos (by assumption)]; exact h
    rw [if_neg (by assumption)]
    split at h
    · rw [if_pos (by assumption)]; exact h
    rw [if_neg (by assumption)]
    split at h
    · rw [if_pos (by assumption)]
      cases ht : textS false r with
      | none => rw [ht] at h; cases h
      | some y => rw [textS_join _ _ _ _ ht]; rw [ht] at h; exact h
    rw [if_neg (by assumption)]
    split at h
    · rw [if_pos (by assumption), ← List.cons_append, List.take_append_of_le_length hn]; exact h
    · cases h
theorem lex_join : ∀ (m p : Nat) (l : List UInt8) (x : List Tok), l.length ≤ m → lexL p l = .ok x → ∃ ts, x = ts ++ [⟨0, p + l.length, mkB [], 0⟩] ∧ ∀ b, lexL p (l ++ 32 :: b) = (lexL (p + l.length + 1) b).pre ts := by
  intro m
  induction m with
  | zero => intro p l x hl h; cases l with
    | nil => rw [lexL_nil] at h; injection h with h; subst h; exact ⟨[], rfl, fun b => by rw [List.nil_append, lexL_cons]; rfl⟩
    | cons c r => simp at hl
  | succ m ih =>
    intro p l x hl h
    cases l with
    | nil => rw [lexL_nil] at h; injection h with h; subst h; exact ⟨[], rfl, fun b => by rw [List.nil_append, lexL_cons]; rfl⟩
    | cons c r =>
      rw [lexL_cons] at h
      cases ho : oneL p (c :: r) with
      | err q e => rw [ho] at h; cases h
      | ok ts k =>
        have hk := oneL_n ho
        have hk2 : k ≤ r.length + 1 := hk.2
        rw [ho] at h
        replace h : (lexL (p + k) ((c :: r).drop k)).pre ts = .ok x := h
        cases hr : lexL (p + k) ((c :: r).drop k) with
        | err q e => rw [hr] at h; cases h
        | ok y =>
          rw [hr] at h
          injection h with h
          subst h
          have hlen : p + k + ((c :: r).drop k).length = p + (c :: r).length := by rw [List.length_drop]; simp only [List.length_cons]; omega
          obtain ⟨ts2, rfl, hj⟩ := ih (p + k) _ y (by rw [List.length_drop]; omega) hr
          refine ⟨ts ++ ts2, by rw [hlen, List.append_assoc], fun b => ?_⟩
          have := one_join (x := 32) rfl ho b
          rw [List.cons_append] at this
          rw [List.cons_append, lexL_cons, this]
          show (lexL (p + k) ((c :: r ++ 32 :: b).drop k)).pre ts = _
          rw [List.drop_append_of_le_length hk.2, hj, hlen, pre_pre]
theorem lex_end {p : Nat} {l : List UInt8} {x : List Tok} (h : lexL p l = .ok x) : ∃ ts, x = ts ++ [⟨0, p + l.length, mkB [], 0⟩] :=
  let ⟨ts, h1, _⟩ := lex_join l.length p l x (Nat.le_refl _) h; ⟨ts, h1⟩
/-- Two texts with a blank between. -/
theorem lex_joins {a b : List UInt8} {ts : List Tok} (h : lexL 0 a = .ok (ts ++ [⟨0, a.length, mkB [], 0⟩])) : lexL 0 (a ++ 32 :: b) = ((lexL 0 b).sh (a.length + 1)).pre ts := by
  obtain ⟨ts2, h1, h2⟩ := lex_join a.length 0 a _ (Nat.le_refl _) h
  have : ts = ts2 := (List.append_inj' h1 rfl).1
  subst this
  have e := lexL_sh (a.length + 1) b.length 0 b (Nat.le_refl _)
  rw [h2, Nat.zero_add, ← e, Nat.add_zero]
end
section
/-! ## PQuery -/
open Go.RowKit

theorem numTok_err {at_ : Nat} {x : List UInt8} {q : Nat} {e : Int} (h : numTok at_ x = .err q e) : e ≠ 0 := by
  unfold numTok at h
  split at h
  · cases h
  · split at h
    · cases h
    · injection h with _ h; rw [← h]; decide
theorem textTok_err {at_ k : Nat} {acc : List UInt8} {o : Option (List UInt8 × Nat)} {q : Nat} {e : Int} (h : textTok at_ k acc o = .err q e) : e ≠ 0 := by
  cases o with
  | none => simp only [textTok] at h; injection h with _ h; rw [← h]; decide
  | some x => obtain ⟨x, n⟩ := x; simp only [textTok] at h; cases h
theorem oneL_err {at_ : Nat} {c : UInt8} {r : List UInt8} {q : Nat} {e : Int} (h : oneL at_ (c :: r) = .err q e) : e ≠ 0 := by
  rw [oneL] at h
  split at h
  · cases h
  · split at h
    · exact numTok_err h
    · split at h
      · cases h
      · split at h
        · exact textTok_err h
        · split at h
          · cases h
          · injection h with _ h; rw [← h]; decide
theorem lexL_err : ∀ (m p : Nat) (l : List UInt8) (q : Nat) (e : Int), l.length ≤ m → lexL p l = .err q e → e ≠ 0 := by
  intro m
  induction m with
  | zero =>
    intro p l q e hl h
    cases l with
    | nil => rw [lexL_nil] at h; cases h
    | cons c r => simp at hl
  | succ m ih =>
    intro p l q e hl h
    cases l with
    | nil => rw [lexL_nil] at h; cases h
    | cons c r =>
      rw [lexL_cons] at h
      cases ho : oneL p (c :: r) with
      | err q' e' =>
        rw [ho] at h
        dsimp only at h
        injection h with h1 h2
        subst h2
        exact oneL_err ho
      | ok ts n =>
        rw [ho] at h
        dsimp only at h
        have hn := oneL_n ho
        cases hr : lexL (p + n) ((c :: r).drop n) with
        | ok y => rw [hr] at h; simp only [LexR.pre] at h; cases h
        | err q' e' =>
          rw [hr] at h
          simp only [LexR.pre] at h
          injection h with h1 h2
          subst h2
          refine ih _ _ _ _ ?_ hr
          rw [List.length_drop]
          simp at hl ⊢; omega
theorem lexR_err {s : ByteArray} {q : Nat} {e : Int} (h : lexR s = .err q e) : e ≠ 0 := by
  rw [lexR] at h
  split at h
  · injection h with _ h; rw [← h]; decide
  · exact lexL_err _ _ _ _ _ (Nat.le_refl _) h
/-! ## PTotal -/
def ErrN (N : Nat) (x : Int × Int) : Prop := (x.1 = 180 ∧ x.2 = N) ∨ (x.1 ≠ 180 ∧ x.1 ≠ 0 ∧ 0 ≤ x.2 ∧ x.2 < N)
structure ToksN (N : Nat) (s : PS) : Prop where
  ends : Ends s.toks
  tok : ∀ t ∈ s.toks, TokN N t
theorem ToksN.hd {N : Nat} {s : PS} (h : ToksN N s) : TokN N s.hd := by
  apply h.tok
  have := h.ends.ne
  cases hs : s.toks with
  | nil => exact absurd hs this
  | cons t r => simp [PS.hd, hs]
theorem ToksN.on {N : Nat} {s : PS} (h : ToksN N s) (hk : s.hd.kind ≠ 0) : ToksN N s.on := by
  have hne := h.ends.ne
  refine ⟨?_, fun t ht => h.tok t (List.mem_of_mem_tail ht)⟩
  cases hs : s.toks with
  | nil => exact absurd hs hne
  | cons t r =>
    have he := h.ends
    rw [hs] at he
    have : s.on.toks = r := by simp [PS.on, hs]
    rw [this]
    exact he.tail (by simpa [PS.hd, hs] using hk)
theorem ToksN.stuck {N : Nat} {s : PS} (h : ToksN N s) : ErrN N s.stuck := by
  unfold PS.stuck
  rcases h.hd with ⟨h1, h2⟩ | ⟨h1, h2⟩
  · rw [if_pos h1, h2]; exact .inl ⟨rfl, rfl⟩
  · rw [if_neg h1]; exact .inr ⟨by simp, by simp, by simp, by simp; omega⟩
theorem ToksN.at {N : Nat} {s : PS} (h : ToksN N s) (hk : s.hd.kind ≠ 0) (w : Int) (h1 : w ≠ 180) (h2 : w ≠ 0) : ErrN N (w, (s.hd.at_ : Int)) := by
  rcases h.hd with ⟨k1, _⟩ | ⟨_, k2⟩
  · exact absurd k1 hk
  · exact .inr ⟨h1, h2, by simp, by simp; omega⟩
/-- How a piece ends: where it gives up, or the tokens left. -/
def QN {α : Type} (N : Nat) (st : α → PS) : Rp α → Prop
  | .error x => ErrN N x
  | .ok a => ToksN N (st a)
theorem sign_QN {N : Nat} {s : PS} (h : ToksN N s) (t : ByteArray) : QN N id (s.sign t) := by
  unfold PS.sign
  split
  · rename_i hi; exact h.on (by rw [is_kind hi]; decide)
  · exact h.stuck
theorem name_QN {N : Nat} {s : PS} (h : ToksN N s) : QN N Prod.fst s.name := by
  unfold PS.name
  split
  · rename_i hi; exact h.on (by rw [hi.1]; decide)
  · exact h.stuck
theorem comma_QN {N : Nat} {s : PS} (h : ToksN N s) (b : Bool) : QN N id (s.comma b) := by
  unfold PS.comma
  split
  · exact h
  · exact sign_QN h _
theorem span_QN {N : Nat} {s : PS} (h : ToksN N s) : QN N Prod.fst s.span := by
  unfold PS.span
  split
  · rename_i hi; exact h.on (by rw [hi]; decide)
  · exact h.stuck
theorem namesF_QN {N : Nat} : ∀ (m : Nat) (s : PS) (acc : List ByteArray), ToksN N s → QN N Prod.fst (namesF m s acc)
  | 0, s, acc, h => h.stuck
  | m + 1, s, acc, h => by
    rw [namesF]
    split
    · rename_i hi; exact h.on (by rw [is_kind hi]; decide)
    · have hc := comma_QN h acc.isEmpty
      cases hs : s.comma acc.isEmpty with
      | error x => rw [hs] at hc; exact hc
      | ok s1 =>
        rw [hs] at hc
        have hn := name_QN (s := s1) hc
        dsimp only
        cases hs2 : s1.name with
        | error x => rw [hs2] at hn; exact hn
        | ok q =>
          rw [hs2] at hn
          exact namesF_QN m q.1 _ hn
theorem names_QN {N : Nat} {s : PS} (h : ToksN N s) : QN N Prod.fst s.names := by
  unfold PS.names
  have hc := sign_QN h sO
  cases hs : s.sign sO with
  | error x => rw [hs] at hc; exact hc
  | ok s1 => rw [hs] at hc; exact namesF_QN _ _ _ hc
theorem group_QN {N : Nat} {s : PS} (h : ToksN N s) (w1 w2 : ByteArray) (k1 k2 : Int) : QN N Prod.fst (s.group w1 w2 k1 k2) := by
  unfold PS.group
  split
  · rename_i hi
    have hn := names_QN (h.on (by rw [is_kind hi]; decide))
    cases hs : s.on.names with
    | error x => rw [hs] at hn; exact hn
    | ok q => rw [hs] at hn; exact hn
  · split
    · rename_i hi
      have hn := names_QN (h.on (by rw [is_kind hi]; decide))
      cases hs : s.on.names with
      | error x => rw [hs] at hn; exact hn
      | ok q => rw [hs] at hn; exact hn
    · exact h
theorem addM_QN {N : Nat} {s : PS} (h : ToksN N s) (hk : s.hd.kind ≠ 0) (ms : List Mat) (m : Mat) {x : Int × Int} (he : addM ms m s.hd.at_ = .error x) : ErrN N x := by
  unfold addM at he
  split at he
  · cases he
  · injection he with he
    subst he
    exact h.at hk 183 (by decide) (by decide)
theorem matchersF_QN {N : Nat} : ∀ (m : Nat) (b : Bool) (s : PS) (ms : List Mat), ToksN N s → QN N Prod.fst (matchersF m b s ms)
  | 0, b, s, ms, h => h.stuck
  | m + 1, b, s, ms, h => by
    rw [matchersF]
    split
    · rename_i hi; exact h.on (by rw [is_kind hi]; decide)
    · have hc := comma_QN h b
      cases hs : s.comma b with
      | error x => rw [hs] at hc; exact hc
      | ok s1 =>
        rw [hs] at hc
        have hn := name_QN (s := s1) hc
        dsimp only
        cases hs2 : s1.name with
        | error x => rw [hs2] at hn; exact hn
        | ok q =>
          obtain ⟨s2, nm⟩ := q
          rw [hs2] at hn
          have hn : ToksN N s2 := hn
          dsimp only
          split
          · exact hn.stuck
          · rename_i h5
            have hk2 : s2.hd.kind = 5 := Classical.not_not.1 fun h' => h5 (.inl h')
            have h6 := hn.on (by rw [hk2]; decide)
            split
            · exact h6.stuck
            · rename_i h4
              have hk4 : s2.on.hd.kind = 4 := Classical.not_not.1 h4
              have hk0 : s2.on.hd.kind ≠ 0 := by rw [hk4]; decide
              cases ha : addM ms ⟨numW matsL s2.hd.text, nm, s2.on.hd.text⟩ s2.on.hd.at_ with
              | error x => exact addM_QN h6 hk0 _ _ ha
              | ok ms2 => exact matchersF_QN m false _ _ (h6.on hk0)
theorem word_kind {s : PS} (h : s.wordB = true) : s.hd.kind ≠ 0 := by
  simp only [PS.wordB, Bool.and_eq_true, decide_eq_true_eq] at h
  rw [h.1]; decide
theorem choose_QN {N : Nat} {s : PS} (h : ToksN N s) : QN N id (chooseP s) := by
  have a1 : QN N Prod.fst s.sel1 := by
    unfold PS.sel1
    split
    · rename_i hw
      cases ha : addM [] ⟨1, sNameN, s.hd.text⟩ s.hd.at_ with
      | error x => exact addM_QN h (word_kind hw) _ _ ha
      | ok ms => exact h.on (word_kind hw)
    · exact h
  unfold chooseP
  cases h1 : s.sel1 with
  | error x => rw [h1] at a1; exact a1
  | ok q =>
    obtain ⟨s1, m1⟩ := q
    rw [h1] at a1
    have a1 : ToksN N s1 := a1
    have a2 : QN N Prod.fst (s1.sel2 s.wordB m1) := by
      unfold PS.sel2
      split
      · rename_i hi; exact matchersF_QN _ _ _ _ (a1.on (by rw [is_kind hi]; decide))
      · split
        · exact a1
        · exact a1.stuck
    dsimp only
    cases h2 : s1.sel2 s.wordB m1 with
    | error x => rw [h2] at a2; exact a2
    | ok q =>
      obtain ⟨s2, m2⟩ := q
      rw [h2] at a2
      have a2 : ToksN N s2 := a2
      have a3 : QN N Prod.fst s2.sel3 := by
        unfold PS.sel3
        split
        · rename_i hi
          have hs := span_QN (a2.on (by rw [is_kind hi]; decide))
          cases hsp : s2.on.span with
          | error x => rw [hsp] at hs; exact hs
          | ok q =>
            obtain ⟨s5, w5⟩ := q
            rw [hsp] at hs
            have hg := sign_QN (s := s5) hs sUnsq
            dsimp only
            cases hsg : s5.sign sUnsq with
            | error x => rw [hsg] at hg; exact hg
            | ok s6 => rw [hsg] at hg; exact hg
        · exact a2
      dsimp only
      cases h3 : s2.sel3 with
      | error x => rw [h3] at a3; exact a3
      | ok q =>
        obtain ⟨s3, k, w⟩ := q
        rw [h3] at a3
        have a3 : ToksN N s3 := a3
        have a4 : QN N Prod.fst s3.sel4 := by
          unfold PS.sel4
          split
          · rename_i hi; exact span_QN (a3.on (by rw [is_kind hi]; decide))
          · exact a3
        dsimp only
        cases h4 : s3.sel4 with
        | error x => rw [h4] at a4; exact a4
        | ok q => rw [h4] at a4; exact ⟨a4.ends, a4.tok⟩
/-- A part of the grammar: where it gives up, or the tokens left. -/
def PartE (N : Nat) (f : PS → Rp PS) : Prop := ∀ s, ToksN N s → QN N id (f s)
theorem rowF_E {N : Nat} {part : PS → Rp PS} (hp : PartE N part) (lo hi : Int) : ∀ (m : Nat) (s : PS), ToksN N s → QN N id (rowF part lo hi m s)
  | 0, s, h => h
  | m + 1, s, h => by
    rw [rowF]
    split
    · exact h
    · rename_i hend
      have hk : s.hd.kind ≠ 0 := by
        intro h0
        apply hend
        simp [PS.rowEnd, h0]
      have h2 : ToksN N (if s.on.boolN (numW opsL s.hd.text) = true then s.on.on else s.on) := by
        split
        · rename_i hb
          simp only [PS.boolN, Bool.and_eq_true] at hb
          exact (h.on hk).on (by rw [is_kind hb.2]; decide)
        · exact h.on hk
      have hg := group_QN h2 sOn sIgn 3 4
      cases hgr : (if s.on.boolN (numW opsL s.hd.text) = true then s.on.on else s.on).group sOn sIgn 3 4 with
      | error x => rw [hgr] at hg; exact hg
      | ok q =>
        obtain ⟨s3, g, l⟩ := q
        rw [hgr] at hg
        have h3 := hp s3 hg
        dsimp only
        cases hs : part s3 with
        | error x => rw [hs] at h3; exact h3
        | ok s4 =>
          rw [hs] at h3
          exact rowF_E hp lo hi m _ ⟨h3.ends, h3.tok⟩
theorem rowP_E {N : Nat} {part : PS → Rp PS} (hp : PartE N part) (lo hi : Int) : PartE N (rowP part lo hi) := by
  intro s h
  unfold rowP
  have h1 := hp s h
  cases hs : part s with
  | error x => rw [hs] at h1; exact h1
  | ok s1 => rw [hs] at h1; exact rowF_E hp lo hi _ _ h1
theorem orP_E {N : Nat} {u : PS → Rp PS} (hu : PartE N u) : PartE N (orP u) := rowP_E (rowP_E (rowP_E (rowP_E (rowP_E hu _ _) _ _) _ _) _ _) _ _
theorem openP_E {N : Nat} {part : PS → Rp PS} (hp : PartE N part) {s : PS} (h : ToksN N s) (hk : s.hd.kind ≠ 0) : QN N id (openP part s) := by
  unfold openP
  split
  · exact h.at hk 182 (by decide) (by decide)
  · have h1 := hp ⟨s.toks.tail, s.deep + 1, s.out⟩ ⟨(h.on hk).ends, (h.on hk).tok⟩
    cases hs : part ⟨s.toks.tail, s.deep + 1, s.out⟩ with
    | error x => rw [hs] at h1; exact h1
    | ok s1 => rw [hs] at h1; exact ⟨h1.ends, h1.tok⟩
theorem innerP_E {N : Nat} {e : PS → Rp PS} (he : PartE N e) : PartE N (innerP e) := by
  intro s h
  unfold innerP
  have h1 := he s h
  cases hs : e s with
  | error x => rw [hs] at h1; exact h1
  | ok s1 => rw [hs] at h1; exact sign_QN h1 sC
theorem bracketP_E {N : Nat} {e : PS → Rp PS} (he : PartE N e) : PartE N (bracketP e) := by
  intro s h
  unfold bracketP
  split
  · rename_i hi; exact openP_E (innerP_E he) h (by rw [is_kind hi]; decide)
  · exact h.stuck
theorem oneP_E {N : Nat} {e : PS → Rp PS} (he : PartE N e) : PartE N (oneP e) := by
  intro s h
  unfold oneP
  split
  · rename_i h1; exact ⟨(h.on (by rw [h1]; decide)).ends, (h.on (by rw [h1]; decide)).tok⟩
  · split
    · exact bracketP_E he s h
    · split
      · rename_i h1
        have h2 := bracketP_E he s.on (h.on (by rw [h1.1]; decide))
        cases hs : bracketP e s.on with
        | error x => rw [hs] at h2; exact h2
        | ok s1 => rw [hs] at h2; exact ⟨h2.ends, h2.tok⟩
      · split
        · rename_i h1
          have hg := group_QN (h.on (by rw [h1.1]; decide)) sBy sWithout 1 2
          cases hgr : s.on.group sBy sWithout 1 2 with
          | error x => rw [hgr] at hg; exact hg
          | ok q =>
            obtain ⟨s1, g, l⟩ := q
            rw [hgr] at hg
            have h2 := bracketP_E he s1 hg
            dsimp only
            cases hs : bracketP e s1 with
            | error x => rw [hs] at h2; exact h2
            | ok s2 => rw [hs] at h2; exact ⟨h2.ends, h2.tok⟩
        · exact choose_QN h
theorem unaryP_E {N : Nat} : ∀ n, PartE N (unaryP n)
  | 0 => fun s h => h.stuck
  | n + 1 => fun s h => by
    rw [unaryP]
    split
    · rename_i h1
      have h2 := openP_E (unaryP_E n) h (by rw [is_kind h1]; decide)
      cases hs : openP (unaryP n) s with
      | error x => rw [hs] at h2; exact h2
      | ok s1 => rw [hs] at h2; exact ⟨h2.ends, h2.tok⟩
    · exact oneP_E (orP_E (unaryP_E n)) s h
/-! ## PLex -/
/-- A byte that ends whatever was begun. -/
structure Cuts (x : UInt8) : Prop where
  num : numC x = false
  word : wordC x = false
  sign : ∀ c, sign2 [c, x] = false
theorem cuts_blank {x : UInt8} (h : blankB x = true) : Cuts x := ⟨(blank_num h).1, (blank_num h).2, fun c => sign2_blank c h⟩
theorem cuts_32 : Cuts 32 := cuts_blank (by decide)
theorem cuts_41 : Cuts 41 := ⟨by decide, by decide, fun c => by simp [sign2]⟩
theorem cuts_40 : Cuts 40 := ⟨by decide, by decide, fun c => by simp [sign2]⟩
theorem sign_joinC {x : UInt8} (hx : Cuts x) (c : UInt8) (r b : List UInt8) : signN (c :: (r ++ x :: b)) = signN (c :: r) := by
  cases r with
  | nil => by_cases h : sign1 c = true <;> simp [signN, hx.sign c, h]
  | cons d r => by_cases h : sign1 c = true <;> by_cases h2 : sign2 [c, d] = true <;> simp [signN, h, h2]
theorem one_joinC {x : UInt8} (hx : Cuts x) {p n : Nat} {l : List UInt8} {ts : List Tok} (h : oneL p l = .ok ts n) (b : List UInt8) : oneL p (l ++ x :: b) = .ok ts n := by
  cases l with
  | nil => simp [oneL] at h
  | cons c r =>
    have e1 := tw_join hx.num b (c :: r)
    have e2 := tw_join hx.word b (c :: r)
    have e3 := sign_joinC hx c r b
    have hn := signN_le (c :: r)
    rw [List.cons_append] at e1 e2 ⊢
    simp only [oneL, runN, e1, e2, e3] at h ⊢
    split at h
    · rw [if_pos (by assumption)]; exact h
    rw [if_neg (by assumption)]
    split at h
    · rw [if_pos (by assumption)]; exact h
    rw [if_neg (by assumption)]
    split at h
    · rw [if_pos (by assumption)]; exact h
    rw [if_neg (by assumption)]
    split at h
    · rw [if_pos (by assumption)]
      cases ht : textS false r with
      | none => rw [ht] at h; cases h
      | some y => rw [textS_join _ _ _ _ ht]; rw [ht] at h; exact h
    rw [if_neg (by assumption)]
    split at h
    · rw [if_pos (by assumption), ← List.cons_append, List.take_append_of_le_length hn]; exact h
    · cases h
theorem oneL_kind {p n : Nat} {l : List UInt8} {ts : List Tok} (h : oneL p l = .ok ts n) : ∀ t ∈ ts, t.kind ≠ 0 := by
  cases l with
  | nil => simp [oneL] at h
  | cons c r =>
    simp only [oneL] at h
    split at h
    · injection h with h; subst h; intro t ht; cases ht
    split at h
    · simp only [numTok] at h
      split at h
      · injection h with h; subst h; intro t ht; simp at ht; subst ht; simp
      split at h
      · injection h with h; subst h; intro t ht; simp at ht; subst ht; simp
      · cases h
    split at h
    · injection h with h; subst h; intro t ht; simp at ht; subst ht; simp
    split at h
    · cases ht : textS false r with
      | none => rw [ht] at h; cases h
      | some y =>
        obtain ⟨y, m⟩ := y
        rw [ht] at h
        simp only [textTok] at h
        injection h with h; subst h; intro t ht; simp at ht; subst ht; simp
    split at h
    · injection h with h; subst h; intro t ht; simp at ht; subst ht; simp
    · cases h
/-- A text that is cut, with more behind it. -/
theorem lex_stop {x : UInt8} (hx : Cuts x) : ∀ (m p : Nat) (l : List UInt8) (y : List Tok), l.length ≤ m → lexL p l = .ok y → ∃ ts, y = ts ++ [⟨0, p + l.length, mkB [], 0⟩] ∧ (∀ t ∈ ts, t.kind ≠ 0) ∧ ∀ b, lexL p (l ++ x :: b) = (lexL (p + l.length) (x :: b)).pre ts := by
  intro m
  induction m with
  | zero => intro p l y hl h; cases l with
    | nil => rw [lexL_nil] at h; injection h with h; subst h; exact ⟨[], rfl, by simp, fun b => by rw [List.nil_append, pre_nil]; rfl⟩
    | cons c r => simp at hl
  | succ m ih =>
    intro p l y hl h
    cases l with
    | nil => rw [lexL_nil] at h; injection h with h; subst h; exact ⟨[], rfl, by simp, fun b => by rw [List.nil_append, pre_nil]; rfl⟩
    | cons c r =>
      rw [lexL_cons] at h
      cases ho : oneL p (c :: r) with
      | err q e => rw [ho] at h; cases h
      | ok ts k =>
        have hk := oneL_n ho
        have hk2 : k ≤ r.length + 1 := hk.2
        rw [ho] at h
        replace h : (lexL (p + k) ((c :: r).drop k)).pre ts = .ok y := h
        cases hr : lexL (p + k) ((c :: r).drop k) with
        | err q e => rw [hr] at h; cases h
        | ok z =>
          rw [hr] at h
          injection h with h
          subst h
          have hlen : p + k + ((c :: r).drop k).length = p + (c :: r).length := by rw [List.length_drop]; simp only [List.length_cons]; omega
          obtain ⟨ts2, rfl, hkd, hj⟩ := ih (p + k) _ z (by rw [List.length_drop]; simp only [List.length_cons] at hl ⊢; omega) hr
          refine ⟨ts ++ ts2, by rw [hlen, List.append_assoc], fun t ht => ?_, fun b => ?_⟩
          · rcases List.mem_append.1 ht with h | h
            · exact oneL_kind ho t h
            · exact hkd t h
          · have := one_joinC hx ho b
            rw [List.cons_append] at this
            rw [List.cons_append, lexL_cons, this]
            show (lexL (p + k) ((c :: r ++ x :: b).drop k)).pre ts = _
            rw [List.drop_append_of_le_length hk.2, hj, hlen, pre_pre]
/-- A token without its place. -/
def Tok.key (t : Tok) : Int × ByteArray × Nat := (t.kind, t.text, t.span)
theorem sh_key (d : Nat) (ts : List Tok) : (ts.map (Tok.sh d)).map Tok.key = ts.map Tok.key := by
  rw [List.map_map]; rfl
/-- A text that is cut by itself, amid others: the same tokens but for places. -/
theorem lex_amid {x : UInt8} (hx : Cuts x) {l : List UInt8} {y : List Tok} (h : lexL 0 l = .ok y) (p : Nat) : ∃ ts ts', y = ts ++ [⟨0, l.length, mkB [], 0⟩] ∧ (∀ t ∈ ts, t.kind ≠ 0) ∧ ts'.map Tok.key = ts.map Tok.key ∧ ∀ b, lexL p (l ++ x :: b) = (lexL (p + l.length) (x :: b)).pre ts' := by
  obtain ⟨ts, h1, h2, _⟩ := lex_stop hx _ 0 l y (Nat.le_refl _) h
  have e := lexL_sh p l.length 0 l (Nat.le_refl _)
  rw [h, Nat.add_zero] at e
  obtain ⟨ts', k1, _, k3⟩ := lex_stop hx _ p l _ (Nat.le_refl _) e
  rw [Nat.zero_add] at h1
  refine ⟨ts, ts', h1, h2, ?_, k3⟩
  rw [h1, List.map_append] at k1
  have := (List.append_inj' k1 rfl).1
  rw [← this, sh_key]
/-- One byte that is a sign. -/
theorem lex_open (p : Nat) (b : List UInt8) : lexL p (40 :: b) = (lexL (p + 1) b).pre [⟨5, p, mkB [40], 0⟩] := by
  have h2 : ∀ x, sign2 [40, x] = false := fun x => by simp [sign2]
  have h1 : sign1 40 = true := by decide
  have hs : signN (40 :: b) = 1 := by
    cases b with
    | nil => simp [signN, h1]
    | cons x b => simp [signN, h1, h2]
  rw [lexL_cons]
  simp only [oneL]
  rw [if_neg (by decide), if_neg (by decide), if_neg (by decide), if_neg (by decide), if_pos (by rw [hs]; omega), hs]
  simp
theorem lex_close (p : Nat) (b : List UInt8) : lexL p (41 :: b) = (lexL (p + 1) b).pre [⟨5, p, mkB [41], 0⟩] := by
  have h2 : ∀ x, sign2 [41, x] = false := fun x => by simp [sign2]
  have h1 : sign1 41 = true := by decide
  have hs : signN (41 :: b) = 1 := by
    cases b with
    | nil => simp [signN, h1]
    | cons x b => simp [signN, h1, h2]
  rw [lexL_cons]
  simp only [oneL]
  rw [if_neg (by decide), if_neg (by decide), if_neg (by decide), if_neg (by decide), if_pos (by rw [hs]; omega), hs]
  simp
theorem lex_blank (p : Nat) (b : List UInt8) : lexL p (32 :: b) = lexL (p + 1) b := by
  rw [lexL_cons]
  simp only [oneL]
  rw [if_pos (by decide)]
  simp [pre_nil]
/-! ## PSim -/
theorem key_eq {t u : Tok} (h : t.key = u.key) : t.kind = u.kind ∧ t.text = u.text ∧ t.span = u.span := by
  simp only [Tok.key, Prod.mk.injEq] at h
  exact h
def StopT (z : Tok) : Prop := z.kind = 0 ∨ (z.kind = 5 ∧ z.text = sC)
/-- What stands behind begins with a token that ends a query. -/
def StopL (zr : List Tok) : Prop := ∃ z r, zr = z :: r ∧ StopT z
structure Sim (d : Nat) (o : List Nod) (zr : List Tok) (s s' : PS) : Prop where
  toks : ∃ A A' e, s.toks = A ++ [e] ∧ e.kind = 0 ∧ s'.toks = A' ++ zr ∧ A'.map Tok.key = A.map Tok.key ∧ ∀ t ∈ A, t.kind ≠ 0
  deep : s'.deep = s.deep + d
  out : s'.out = o ++ s.out
  stop : StopL zr
section
variable {d : Nat} {o : List Nod} {zr : List Tok} {s s' : PS}
theorem Sim.ends (h : Sim d o zr s s') : Ends s.toks := by
  obtain ⟨A, A', e, h1, h2, _⟩ := h.toks
  exact ⟨e, by rw [h1]; simp, h2⟩
theorem Sim.hd (h : Sim d o zr s s') : s'.hd.key = s.hd.key ∨ (s.hd.kind = 0 ∧ StopT s'.hd) := by
  obtain ⟨A, A', e, h1, h2, h3, h4, h5⟩ := h.toks
  obtain ⟨z, r, hz, hs⟩ := h.stop
  cases A with
  | nil =>
    have : A' = [] := by simpa using h4
    subst this
    refine .inr ⟨by simp [PS.hd, h1, h2], ?_⟩
    simp only [PS.hd, h3, hz, List.nil_append, List.headD_cons]
    exact hs
  | cons a A =>
    cases A' with
    | nil => simp at h4
    | cons a' A' =>
      simp only [List.map_cons, List.cons.injEq] at h4
      refine .inl ?_
      simp only [PS.hd, h1, h3, List.cons_append, List.headD_cons]
      exact h4.1
theorem Sim.on (h : Sim d o zr s s') (hk : s.hd.kind ≠ 0) : Sim d o zr s.on s'.on := by
  obtain ⟨A, A', e, h1, h2, h3, h4, h5⟩ := h.toks
  cases A with
  | nil => exact absurd (by simp [PS.hd, h1, h2]) hk
  | cons a A =>
    cases A' with
    | nil => simp at h4
    | cons a' A' =>
      simp only [List.map_cons, List.cons.injEq] at h4
      exact ⟨⟨A, A', e, by simp [PS.on, h1], h2, by simp [PS.on, h3], h4.2, fun t ht => h5 t (List.mem_cons_of_mem _ ht)⟩, h.deep, h.out, h.stop⟩
theorem Sim.key (h : Sim d o zr s s') (hk : s.hd.kind ≠ 0) : s'.hd.kind = s.hd.kind ∧ s'.hd.text = s.hd.text ∧ s'.hd.span = s.hd.span := by
  rcases h.hd with h1 | ⟨h1, _⟩
  · exact key_eq h1
  · exact absurd h1 hk
theorem Sim.len (h : Sim d o zr s s') : s.toks.length ≤ s'.toks.length := by
  obtain ⟨A, A', e, h1, h2, h3, h4, h5⟩ := h.toks
  obtain ⟨z, r, hz, hs⟩ := h.stop
  have := congrArg List.length h4
  simp only [List.length_map] at this
  rw [h1, h3, hz]
  simp only [List.length_append, List.length_cons, List.length_nil]
  omega
theorem Sim.pos (h : Sim d o zr s s') : 1 ≤ s.toks.length := List.length_pos_iff.2 h.ends.ne
theorem Sim.lay (h : Sim d o zr s s') (n : Nod) : Sim d o zr (s.lay n) (s'.lay n) := ⟨h.toks, h.deep, by simp [PS.lay, h.out], h.stop⟩
theorem Sim.is_of (h : Sim d o zr s s') {k : Int} {t : ByteArray} (hk : k ≠ 0) (hi : s.is k t = true) : s'.is k t = true := by
  have h1 := is_kind hi
  have h2 := is_text hi
  obtain ⟨e1, e2, _⟩ := h.key (by rw [h1]; exact hk)
  simp [PS.is, e1, e2, h1, h2]
theorem Sim.is_no (h : Sim d o zr s s') {k : Int} {t : ByteArray} (hk : k ≠ 0) (ht : k ≠ 5 ∨ t ≠ sC) (hi : ¬ s.is k t = true) : ¬ s'.is k t = true := by
  intro hi'
  rcases h.hd with h1 | ⟨_, h2 | ⟨h2, h3⟩⟩
  · obtain ⟨e1, e2, _⟩ := key_eq h1
    apply hi
    have h2 := is_kind hi'
    have h3 := is_text hi'
    rw [e1] at h2
    rw [e2] at h3
    simp [PS.is, h2, h3]
  · exact hk ((is_kind hi').symm.trans h2)
  · have h4 := is_kind hi'
    have h5 := is_text hi'
    rw [h2] at h4
    rw [h3] at h5
    rcases ht with ht | ht
    · exact ht h4.symm
    · exact ht h5.symm
theorem Sim.sign (h : Sim d o zr s s') {t : ByteArray} {s1 : PS} (hs : s.sign t = .ok s1) : ∃ s1', s'.sign t = .ok s1' ∧ Sim d o zr s1 s1' := by
  obtain ⟨rfl, hi, _⟩ := sign_step hs
  refine ⟨s'.on, ?_, h.on (by rw [is_kind hi]; decide)⟩
  unfold PS.sign
  rw [if_pos (h.is_of (by decide) hi)]
theorem Sim.name (h : Sim d o zr s s') {x : ByteArray} {s1 : PS} (hs : s.name = .ok (s1, x)) : ∃ s1', s'.name = .ok (s1', x) ∧ Sim d o zr s1 s1' := by
  obtain ⟨rfl, rfl, hk, hn, _⟩ := name_step hs
  obtain ⟨e1, e2, _⟩ := h.key (by rw [hk]; decide)
  refine ⟨s'.on, ?_, h.on (by rw [hk]; decide)⟩
  unfold PS.name
  rw [if_pos ⟨by rw [e1, hk], by rw [e2]; exact hn⟩, e2]
theorem Sim.span (h : Sim d o zr s s') {x : Int} {s1 : PS} (hs : s.span = .ok (s1, x)) : ∃ s1', s'.span = .ok (s1', x) ∧ Sim d o zr s1 s1' := by
  unfold PS.span at hs
  split at hs
  · rename_i hk
    injection hs with hs
    injection hs with h1 h2
    subst h1 h2
    obtain ⟨e1, _, e3⟩ := h.key (by rw [hk]; decide)
    refine ⟨s'.on, ?_, h.on (by rw [hk]; decide)⟩
    unfold PS.span
    rw [if_pos (by rw [e1, hk]), e3]
  · cases hs
theorem Sim.comma (h : Sim d o zr s s') {b : Bool} {s1 : PS} (hs : s.comma b = .ok s1) : ∃ s1', s'.comma b = .ok s1' ∧ Sim d o zr s1 s1' := by
  unfold PS.comma at hs ⊢
  split at hs
  · rename_i hb
    rw [if_pos hb]
    injection hs with hs
    subst hs
    exact ⟨s', rfl, h⟩
  · rename_i hb
    rw [if_neg hb]
    exact h.sign hs
end
theorem namesF_sim {d : Nat} {o : List Nod} {zr : List Tok} : ∀ (m m' : Nat) (s s' s1 : PS) (acc l : List ByteArray), m ≤ m' → Sim d o zr s s' → namesF m s acc = .ok (s1, l) → ∃ s1', namesF m' s' acc = .ok (s1', l) ∧ Sim d o zr s1 s1'
  | 0, m', s, s', s1, acc, l, _, _, hs => by simp [namesF] at hs
  | m + 1, 0, s, s', s1, acc, l, hm, _, _ => by omega
  | m + 1, m' + 1, s, s', s1, acc, l, hm, h, hs => by
    rw [namesF] at hs ⊢
    split at hs
    · rename_i hi
      injection hs with hs
      injection hs with h1 h2
      subst h1 h2
      rw [if_pos (h.is_of (by decide) hi)]
      exact ⟨s'.on, rfl, h.on (by rw [is_kind hi]; decide)⟩
    · rename_i hi
      split at hs
      · cases hs
      · rename_i s2 hc
        split at hs
        · cases hs
        · rename_i s3 x hn
          have hno : ¬ s'.is 5 sC = true := by
            intro hi'
            rcases h.hd with h1 | ⟨h1, _⟩
            · obtain ⟨e1, e2, _⟩ := key_eq h1
              apply hi
              have k1 := is_kind hi'
              have k2 := is_text hi'
              rw [e1] at k1
              rw [e2] at k2
              simp [PS.is, k1, k2]
            · unfold PS.comma at hc
              split at hc
              · injection hc with hc
                subst hc
                have := (name_step hn).2.2.1
                omega
              · have := is_kind (sign_step hc).2.1
                omega
          rw [if_neg hno]
          obtain ⟨s2', c1, c2⟩ := h.comma hc
          obtain ⟨s3', n1, n2⟩ := c2.name hn
          rw [c1]
          dsimp only
          rw [n1]
          exact namesF_sim m m' s3 s3' s1 _ l (by omega) n2 hs
section
variable {d : Nat} {o : List Nod} {zr : List Tok} {s s' : PS}
theorem Sim.names (h : Sim d o zr s s') {l : List ByteArray} {s1 : PS} (hs : s.names = .ok (s1, l)) : ∃ s1', s'.names = .ok (s1', l) ∧ Sim d o zr s1 s1' := by
  unfold PS.names at hs ⊢
  split at hs
  · cases hs
  · rename_i s2 hc
    obtain ⟨s2', c1, c2⟩ := h.sign hc
    rw [c1]
    exact namesF_sim _ _ _ _ _ _ _ c2.len c2 hs
theorem Sim.group (h : Sim d o zr s s') {w1 w2 : ByteArray} {k1 k2 g : Int} {l : List ByteArray} {s1 : PS} (hs : s.group w1 w2 k1 k2 = .ok (s1, g, l)) : ∃ s1', s'.group w1 w2 k1 k2 = .ok (s1', g, l) ∧ Sim d o zr s1 s1' := by
  unfold PS.group at hs ⊢
  split at hs
  · rename_i hi
    rw [if_pos (h.is_of (by decide) hi)]
    split at hs
    · cases hs
    · rename_i s2 l2 hn
      injection hs with hs
      injection hs with e1 e2
      injection e2 with e2 e3
      subst e1 e2 e3
      obtain ⟨s2', c1, c2⟩ := (h.on (by rw [is_kind hi]; decide)).names hn
      rw [c1]
      exact ⟨s2', rfl, c2⟩
  · rename_i hno
    rw [if_neg (h.is_no (by decide) (.inl (by decide)) hno)]
    split at hs
    · rename_i hi
      rw [if_pos (h.is_of (by decide) hi)]
      split at hs
      · cases hs
      · rename_i s2 l2 hn
        injection hs with hs
        injection hs with e1 e2
        injection e2 with e2 e3
        subst e1 e2 e3
        obtain ⟨s2', c1, c2⟩ := (h.on (by rw [is_kind hi]; decide)).names hn
        rw [c1]
        exact ⟨s2', rfl, c2⟩
    · rename_i hno
      rw [if_neg (h.is_no (by decide) (.inl (by decide)) hno)]
      injection hs with hs
      injection hs with e1 e2
      injection e2 with e2 e3
      subst e1 e2 e3
      exact ⟨s', rfl, h⟩
end
theorem addM_at {ms l : List Mat} {m : Mat} {a b : Int} (h : addM ms m a = .ok l) : addM ms m b = .ok l := by
  unfold addM at h ⊢
  split at h
  · rename_i hc; rw [if_pos hc]; exact h
  · cases h
theorem matchersF_sim {d : Nat} {o : List Nod} {zr : List Tok} : ∀ (m m' : Nat) (b : Bool) (s s' s1 : PS) (ms l : List Mat), m ≤ m' → Sim d o zr s s' → matchersF m b s ms = .ok (s1, l) → ∃ s1', matchersF m' b s' ms = .ok (s1', l) ∧ Sim d o zr s1 s1'
  | 0, m', b, s, s', s1, ms, l, _, _, hs => by simp [matchersF] at hs
  | m + 1, 0, b, s, s', s1, ms, l, hm, _, _ => by omega
  | m + 1, m' + 1, b, s, s', s1, ms, l, hm, h, hs => by
    rw [matchersF] at hs ⊢
    split at hs
    · rename_i hi
      injection hs with hs
      injection hs with h1 h2
      subst h1 h2
      rw [if_pos (h.is_of (by decide) hi)]
      exact ⟨s'.on, rfl, h.on (by rw [is_kind hi]; decide)⟩
    · rename_i hi
      rw [if_neg (h.is_no (by decide) (.inr (by decide)) hi)]
      split at hs
      · cases hs
      · rename_i s2 hc
        split at hs
        · cases hs
        · rename_i s3 x hn
          obtain ⟨s2', c1, c2⟩ := h.comma hc
          obtain ⟨s3', n1, n2⟩ := c2.name hn
          rw [c1]
          dsimp only
          rw [n1]
          dsimp only
          split at hs
          · cases hs
          · rename_i hk2
            split at hs
            · cases hs
            · rename_i hk3
              split at hs
              · cases hs
              · rename_i ms2 ha
                have hk5 : s3.hd.kind = 5 := Classical.not_not.1 fun h' => hk2 (.inl h')
                have hk4 : s3.on.hd.kind = 4 := Classical.not_not.1 hk3
                obtain ⟨a1, a2, _⟩ := n2.key (by rw [hk5]; decide)
                have n3 := n2.on (by rw [hk5]; decide)
                obtain ⟨b1, b2, _⟩ := n3.key (by rw [hk4]; decide)
                rw [if_neg (by rw [a1, a2]; exact hk2), if_neg (by rw [b1]; exact hk3), a2, b2, addM_at ha]
                exact matchersF_sim m m' false _ _ s1 _ l (by omega) (n3.on (by rw [hk4]; decide)) hs
section
variable {d : Nat} {o : List Nod} {zr : List Tok} {s s' : PS}
theorem Sim.wordB (h : Sim d o zr s s') : s'.wordB = s.wordB := by
  unfold PS.wordB
  rcases h.hd with h1 | ⟨h1, h2 | ⟨h2, _⟩⟩
  · obtain ⟨e1, e2, _⟩ := key_eq h1
    rw [e1, e2]
  · rw [h1, h2]; rfl
  · rw [h1, h2]; rfl
theorem Sim.choose (h : Sim d o zr s s') {s1 : PS} (hs : chooseP s = .ok s1) : ∃ s1', chooseP s' = .ok s1' ∧ Sim d o zr s1 s1' := by
  unfold chooseP at hs ⊢
  split at hs
  · cases hs
  · rename_i t1 m1 h1
    obtain ⟨t1', a1, b1⟩ : ∃ t1', s'.sel1 = .ok (t1', m1) ∧ Sim d o zr t1 t1' := by
      unfold PS.sel1 at h1 ⊢
      rw [h.wordB]
      split at h1
      · rename_i hw
        rw [if_pos hw]
        split at h1
        · cases h1
        · rename_i ms ha
          injection h1 with h1
          injection h1 with e1 e2
          subst e1 e2
          obtain ⟨_, e2, _⟩ := h.key (word_kind hw)
          rw [e2, addM_at ha]
          exact ⟨s'.on, rfl, h.on (word_kind hw)⟩
      · rename_i hw
        rw [if_neg hw]
        injection h1 with h1
        injection h1 with e1 e2
        subst e1 e2
        exact ⟨s', rfl, h⟩
    rw [a1]
    dsimp only
    rw [h.wordB]
    split at hs
    · cases hs
    · rename_i t2 m2 h2
      obtain ⟨t2', a2, b2⟩ : ∃ t2', t1'.sel2 s.wordB m1 = .ok (t2', m2) ∧ Sim d o zr t2 t2' := by
        unfold PS.sel2 at h2 ⊢
        split at h2
        · rename_i hi
          rw [if_pos (b1.is_of (by decide) hi)]
          have b1' := b1.on (by rw [is_kind hi]; decide)
          exact matchersF_sim _ _ _ _ _ _ _ _ b1'.len b1' h2
        · rename_i hi
          rw [if_neg (b1.is_no (by decide) (.inr (by decide)) hi)]
          split at h2
          · rename_i hw
            rw [if_pos hw]
            injection h2 with h2
            injection h2 with e1 e2
            subst e1 e2
            exact ⟨t1', rfl, b1⟩
          · cases h2
      rw [a2]
      dsimp only
      split at hs
      · cases hs
      · rename_i t3 k w h3
        obtain ⟨t3', a3, b3⟩ : ∃ t3', t2'.sel3 = .ok (t3', k, w) ∧ Sim d o zr t3 t3' := by
          unfold PS.sel3 at h3 ⊢
          split at h3
          · rename_i hi
            rw [if_pos (b2.is_of (by decide) hi)]
            split at h3
            · cases h3
            · rename_i t5 w5 h5
              split at h3
              · cases h3
              · rename_i t6 h6
                injection h3 with h3
                injection h3 with e1 e2
                injection e2 with e2 e3
                subst e1 e2 e3
                obtain ⟨t5', c1, c2⟩ := (b2.on (by rw [is_kind hi]; decide)).span h5
                obtain ⟨t6', d1, d2⟩ := c2.sign h6
                rw [c1]
                dsimp only
                rw [d1]
                exact ⟨t6', rfl, d2⟩
          · rename_i hi
            rw [if_neg (b2.is_no (by decide) (.inr (by decide)) hi)]
            injection h3 with h3
            injection h3 with e1 e2
            injection e2 with e2 e3
            subst e1 e2 e3
            exact ⟨t2', rfl, b2⟩
        rw [a3]
        dsimp only
        split at hs
        · cases hs
        · rename_i t4 b h4
          injection hs with hs
          subst hs
          obtain ⟨t4', a4, b4⟩ : ∃ t4', t3'.sel4 = .ok (t4', b) ∧ Sim d o zr t4 t4' := by
            unfold PS.sel4 at h4 ⊢
            split at h4
            · rename_i hi
              rw [if_pos (b3.is_of (by decide) hi)]
              exact (b3.on (by rw [is_kind hi]; decide)).span h4
            · rename_i hi
              rw [if_neg (b3.is_no (by decide) (.inl (by decide)) hi)]
              injection h4 with h4
              injection h4 with e1 e2
              subst e1 e2
              exact ⟨t3', rfl, b3⟩
          rw [a4]
          exact ⟨_, rfl, b4.lay _⟩
end
/-- Read alike, or too deep. -/
def SimR (d : Nat) (o : List Nod) (zr : List Tok) (s1 : PS) (r : Rp PS) : Prop := (∃ s1', r = .ok s1' ∧ Sim d o zr s1 s1') ∨ (0 < d ∧ ∃ p, r = .error (182, p))
def PartSim (d : Nat) (o : List Nod) (zr : List Tok) (f f' : PS → Rp PS) : Prop := ∀ s s' s1, Sim d o zr s s' → (∃ M, PGood M s) → f s = .ok s1 → SimR d o zr s1 (f' s')
section
variable {d : Nat} {o : List Nod} {zr : List Tok}
theorem Sim.rowEnd {s s' : PS} (h : Sim d o zr s s') {lo hi : Int} (hlo : 1 ≤ lo) : s'.rowEnd lo hi = s.rowEnd lo hi := by
  rcases h.hd with h1 | ⟨h1, h2 | ⟨h2, h3⟩⟩
  · obtain ⟨e1, e2, _⟩ := key_eq h1
    unfold PS.rowEnd
    rw [e1, e2]
  · unfold PS.rowEnd
    rw [h1, h2]
    simp
  · have hn : numW opsL sC = 0 := by kernel_rfl
    unfold PS.rowEnd
    rw [h1, h2, h3, hn]
    have : decide ((0 : Int) < lo) = true := decide_eq_true (by omega)
    simp [this]
theorem rowF_sim {f f' : PS → Rp PS} (hf : PartSim d o zr f f') (hok : PartOk f) {lo hi : Int} (hlo : 1 ≤ lo) : ∀ (m m' : Nat) (s s' s1 : PS), m ≤ m' → s.toks.length ≤ m → Sim d o zr s s' → (∃ M, PGood M s) → rowF f lo hi m s = .ok s1 → SimR d o zr s1 (rowF f' lo hi m' s')
  | 0, m', s, s', s1, _, hl, h, _, hs => by have := h.pos; omega
  | m + 1, 0, s, s', s1, hm, _, _, _, _ => by omega
  | m + 1, m' + 1, s, s', s1, hm, hl, h, hg, hs => by
    rw [rowF] at hs ⊢
    rw [h.rowEnd hlo]
    split at hs
    · rename_i he
      rw [if_pos he]
      injection hs with hs
      subst hs
      exact .inl ⟨s', rfl, h⟩
    · rename_i he
      rw [if_neg he]
      have hk : s.hd.kind ≠ 0 := by
        intro h0
        apply he
        simp [PS.rowEnd, h0]
      obtain ⟨e1, e2, _⟩ := h.key hk
      rw [e2]
      have hon := h.on hk
      have hb : s'.on.boolN (numW opsL s.hd.text) = s.on.boolN (numW opsL s.hd.text) := by
        unfold PS.boolN
        congr 1
        cases hi : s.on.is 3 sBool with
        | true => exact hon.is_of (by decide) hi
        | false =>
          have := hon.is_no (k := 3) (t := sBool) (by decide) (.inl (by decide)) (by rw [hi]; simp)
          simpa using this
      rw [hb]
      have h2 : Sim d o zr (if s.on.boolN (numW opsL s.hd.text) = true then s.on.on else s.on) (if s.on.boolN (numW opsL s.hd.text) = true then s'.on.on else s'.on) := by
        split
        · rename_i hc
          simp only [PS.boolN, Bool.and_eq_true] at hc
          exact hon.on (by rw [is_kind hc.2]; decide)
        · exact hon
      have hst : Step 1 s (if s.on.boolN (numW opsL s.hd.text) = true then s.on.on else s.on) := by
        split
        · rename_i hc
          simp only [PS.boolN, Bool.and_eq_true] at hc
          exact ((Step.on hk).trans (Step.on (by rw [is_kind hc.2]; decide))).less (by omega)
        · exact Step.on hk
      split at hs
      · cases hs
      · rename_i s3 g l hgr
        obtain ⟨s3', g1, g2⟩ := h2.group hgr
        rw [g1]
        dsimp only
        split at hs
        · cases hs
        · rename_i s4 hp4
          have hst3 := hst.trans (group_step hgr).1
          obtain ⟨M, hM⟩ := hg
          have hM3 := hst3.good M hM
          have hl3 := hst3.len M hM
          rcases hf _ _ _ g2 ⟨_, hM3⟩ hp4 with ⟨s4', p1, p2⟩ | ⟨h0, p, hp⟩
          · rw [p1]
            dsimp only
            obtain ⟨_, k2⟩ := hok _ _ hp4
            obtain ⟨k3, k4⟩ := k2 _ hM3
            refine rowF_sim hf hok hlo m m' _ _ s1 (by omega) ?_ (p2.lay _) ⟨M, PGood.lay (k3.more (by omega)) _⟩ hs
            show s4.toks.length ≤ m
            omega
          · rw [hp]
            exact .inr ⟨h0, p, rfl⟩
theorem rowP_sim {f f' : PS → Rp PS} (hf : PartSim d o zr f f') (hok : PartOk f) {lo hi : Int} (hlo : 1 ≤ lo) : PartSim d o zr (rowP f lo hi) (rowP f' lo hi) := by
  intro s s' s1 h hg hs
  unfold rowP at hs ⊢
  split at hs
  · cases hs
  · rename_i s2 h2
    rcases hf _ _ _ h hg h2 with ⟨s2', p1, p2⟩ | ⟨h0, p, hp⟩
    · rw [p1]
      obtain ⟨M, hM⟩ := hg
      obtain ⟨_, k2⟩ := hok _ _ h2
      exact rowF_sim hf hok hlo _ _ _ _ _ p2.len (Nat.le_refl _) p2 ⟨M, (k2 M hM).1⟩ hs
    · rw [hp]
      exact .inr ⟨h0, p, rfl⟩
theorem orP_sim {f f' : PS → Rp PS} (hf : PartSim d o zr f f') (hok : PartOk f) : PartSim d o zr (orP f) (orP f') :=
  rowP_sim (rowP_sim (rowP_sim (rowP_sim (rowP_sim hf hok (by decide)) (rowP_ok hok _ _) (by decide)) (rowP_ok (rowP_ok hok _ _) _ _) (by decide)) (rowP_ok (rowP_ok (rowP_ok hok _ _) _ _) _ _) (by decide)) (rowP_ok (rowP_ok (rowP_ok (rowP_ok hok _ _) _ _) _ _) _ _) (by decide)
theorem openP_sim {f f' : PS → Rp PS} (hf : PartSim d o zr f f') (hok : PartOk f) {s s' s1 : PS} (h : Sim d o zr s s') (hg : ∃ M, PGood M s) (hk : s.hd.kind ≠ 0) (hs : openP f s = .ok s1) : SimR d o zr s1 (openP f' s') := by
  unfold openP at hs ⊢
  split at hs
  · cases hs
  · rename_i hd
    split at hs
    · cases hs
    · rename_i s2 h2
      injection hs with hs
      subst hs
      by_cases hd' : s'.deep = 64
      · rw [if_pos hd']; exact .inr ⟨by have := h.deep; omega, _, rfl⟩
      · rw [if_neg hd']
        have hon := h.on hk
        have hs2 : Sim d o zr ⟨s.toks.tail, s.deep + 1, s.out⟩ ⟨s'.toks.tail, s'.deep + 1, s'.out⟩ := ⟨hon.toks, by show s'.deep + 1 = s.deep + 1 + d; rw [h.deep]; omega, h.out, h.stop⟩
        obtain ⟨M, hM⟩ := hg
        have g := hM.on1 hk
        have hdl := hM.deep
        have g' : PGood (M - 1) ⟨s.toks.tail, s.deep + 1, s.out⟩ := ⟨g.ends, g.room, by show s.deep + 1 ≤ 64; omega, g.text⟩
        have hdp : s2.deep = s.deep + 1 := (hok _ _ h2).1
        rcases hf _ _ _ hs2 ⟨_, g'⟩ h2 with ⟨s2', p1, p2⟩ | ⟨h0, p, hp⟩
        · rw [p1]
          exact .inl ⟨_, rfl, p2.toks, by show s2'.deep - 1 = s2.deep - 1 + d; rw [p2.deep]; omega, p2.out, p2.stop⟩
        · rw [hp]
          exact .inr ⟨h0, p, rfl⟩
theorem innerP_sim {e e' : PS → Rp PS} (he : PartSim d o zr e e') : PartSim d o zr (innerP e) (innerP e') := by
  intro s s' s1 h hg hs
  unfold innerP at hs ⊢
  split at hs
  · cases hs
  · rename_i s2 h2
    rcases he _ _ _ h hg h2 with ⟨s2', p1, p2⟩ | ⟨h0, p, hp⟩
    · rw [p1]
      exact .inl (p2.sign hs)
    · rw [hp]
      exact .inr ⟨h0, p, rfl⟩
theorem bracketP_sim {e e' : PS → Rp PS} (he : PartSim d o zr e e') (hok : PartOk e) : PartSim d o zr (bracketP e) (bracketP e') := by
  intro s s' s1 h hg hs
  unfold bracketP at hs ⊢
  split at hs
  · rename_i hi
    rw [if_pos (h.is_of (by decide) hi)]
    exact openP_sim (innerP_sim he) (innerP_ok hok) h hg (by rw [is_kind hi]; decide) hs
  · cases hs
theorem oneP_sim {e e' : PS → Rp PS} (he : PartSim d o zr e e') (hok : PartOk e) : PartSim d o zr (oneP e) (oneP e') := by
  intro s s' s1 h hg hs
  have hfn : numW funcsL sC = 0 := by kernel_rfl
  have hag : numW aggsL sC = 0 := by kernel_rfl
  unfold oneP at hs ⊢
  split at hs
  · rename_i hk
    obtain ⟨e1, e2, _⟩ := h.key (by rw [hk]; decide)
    injection hs with hs
    subst hs
    rw [if_pos (e1.trans hk), e2]
    exact .inl ⟨_, rfl, (h.on (by rw [hk]; decide)).lay _⟩
  · rename_i hk1
    have hk1' : ¬ s'.hd.kind = 1 := by
      rcases h.hd with h1 | ⟨_, h2 | ⟨h2, _⟩⟩
      · rw [(key_eq h1).1]; exact hk1
      · rw [h2]; decide
      · rw [h2]; decide
    rw [if_neg hk1']
    split at hs
    · rename_i hi
      rw [if_pos (h.is_of (by decide) hi)]
      exact bracketP_sim he hok _ _ _ h hg hs
    · rename_i hi
      rw [if_neg (h.is_no (by decide) (.inr (by decide)) hi)]
      have hkt : (s'.hd.kind = 3 ∧ 0 < numW funcsL s'.hd.text) ↔ (s.hd.kind = 3 ∧ 0 < numW funcsL s.hd.text) := by
        rcases h.hd with h1 | ⟨h1, h2 | ⟨h2, _⟩⟩
        · rw [(key_eq h1).1, (key_eq h1).2.1]
        · rw [h1, h2]
          exact ⟨fun h => absurd h.1 (by decide), fun h => absurd h.1 (by decide)⟩
        · rw [h1, h2]
          exact ⟨fun h => absurd h.1 (by decide), fun h => absurd h.1 (by decide)⟩
      have hka : (s'.hd.kind = 3 ∧ 0 < numW aggsL s'.hd.text) ↔ (s.hd.kind = 3 ∧ 0 < numW aggsL s.hd.text) := by
        rcases h.hd with h1 | ⟨h1, h2 | ⟨h2, _⟩⟩
        · rw [(key_eq h1).1, (key_eq h1).2.1]
        · rw [h1, h2]
          exact ⟨fun h => absurd h.1 (by decide), fun h => absurd h.1 (by decide)⟩
        · rw [h1, h2]
          exact ⟨fun h => absurd h.1 (by decide), fun h => absurd h.1 (by decide)⟩
      split at hs
      · rename_i hc
        rw [if_pos (hkt.2 hc)]
        have hk : s.hd.kind ≠ 0 := by rw [hc.1]; decide
        rw [(h.key hk).2.1]
        split at hs
        · cases hs
        · rename_i s2 h2
          injection hs with hs
          subst hs
          obtain ⟨M, hM⟩ := hg
          rcases bracketP_sim he hok _ _ _ (h.on hk) ⟨_, hM.on1 hk⟩ h2 with ⟨s2', p1, p2⟩ | ⟨h0, p, hp⟩
          · rw [p1]; exact .inl ⟨_, rfl, p2.lay _⟩
          · rw [hp]; exact .inr ⟨h0, p, rfl⟩
      · rename_i hc
        rw [if_neg (fun h => hc (hkt.1 h))]
        split at hs
        · rename_i hc
          rw [if_pos (hka.2 hc)]
          have hk : s.hd.kind ≠ 0 := by rw [hc.1]; decide
          rw [(h.key hk).2.1]
          split at hs
          · cases hs
          · rename_i s2 g l hgr
            obtain ⟨s2', g1, g2⟩ := (h.on hk).group hgr
            rw [g1]
            dsimp only
            split at hs
            · cases hs
            · rename_i s3 h3
              injection hs with hs
              subst hs
              obtain ⟨M, hM⟩ := hg
              have hst := (Step.on hk).trans (group_step hgr).1
              rcases bracketP_sim he hok _ _ _ g2 ⟨_, hst.good M hM⟩ h3 with ⟨s3', p1, p2⟩ | ⟨h0, p, hp⟩
              · rw [p1]; exact .inl ⟨_, rfl, p2.lay _⟩
              · rw [hp]; exact .inr ⟨h0, p, rfl⟩
        · rename_i hc
          rw [if_neg (fun h => hc (hka.1 h))]
          exact .inl (h.choose hs)
theorem unaryP_sim : ∀ n n', n ≤ n' → PartSim d o zr (unaryP n) (unaryP n')
  | 0, n', _ => fun s s' s1 _ _ hs => by simp [unaryP] at hs
  | n + 1, 0, hn => by omega
  | n + 1, n' + 1, hn => fun s s' s1 h hg hs => by
    have ih := unaryP_sim n n' (by omega)
    rw [unaryP] at hs ⊢
    split at hs
    · rename_i hi
      rw [if_pos (h.is_of (by decide) hi)]
      split at hs
      · cases hs
      · rename_i s2 h2
        injection hs with hs
        subst hs
        rcases openP_sim ih (unaryP_ok n) h hg (by rw [is_kind hi]; decide) h2 with ⟨s2', p1, p2⟩ | ⟨h0, p, hp⟩
        · rw [p1]; exact .inl ⟨_, rfl, p2.lay _⟩
        · rw [hp]; exact .inr ⟨h0, p, rfl⟩
    · rename_i hi
      rw [if_neg (h.is_no (by decide) (.inr (by decide)) hi)]
      exact oneP_sim (orP_sim ih (unaryP_ok n)) (orP_ok (unaryP_ok n)) _ _ _ h hg hs
end
/-- A whole query, read amid others. -/
theorem query_sim {ts : List Tok} {e : Tok} (he : e.kind = 0) (hg : ∃ M, PGood M ⟨ts ++ [e], 0, []⟩) {t : List Nod} {r : PS} (hr : orP (unaryP (ts ++ [e]).length) ⟨ts ++ [e], 0, []⟩ = .ok r) (hk : r.hd.kind = 0) (ho : r.out = t)
    {ts' zr : List Tok} (hz : StopL zr) (hkey : ts'.map Tok.key = ts.map Tok.key) (d : Nat) (o : List Nod) (n : Nat) (hn : (ts ++ [e]).length ≤ n) (hnz : ∀ x ∈ ts, x.kind ≠ 0) :
    orP (unaryP n) ⟨ts' ++ zr, d, o⟩ = .ok ⟨zr, d, o ++ t⟩ ∨ (0 < d ∧ ∃ p, orP (unaryP n) ⟨ts' ++ zr, d, o⟩ = .error (182, p)) := by
  have h : Sim d o zr ⟨ts ++ [e], 0, []⟩ ⟨ts' ++ zr, d, o⟩ := ⟨⟨ts, ts', e, rfl, he, rfl, hkey, hnz⟩, by simp, by simp, hz⟩
  rcases orP_sim (unaryP_sim _ n hn) (unaryP_ok _) _ _ _ h hg hr with ⟨r', h1, h2⟩ | h1
  · refine .inl ?_
    rw [h1]
    obtain ⟨A, A', e', k1, k2, k3, k4, k5⟩ := h2.toks
    have hA : A = [] := by
      cases A with
      | nil => rfl
      | cons a A =>
        exfalso
        have hak : a.kind = 0 := by
          have := hk
          simp only [PS.hd, k1, List.cons_append, List.headD_cons] at this
          exact this
        exact k5 a List.mem_cons_self hak
    subst hA
    have hA' : A' = [] := by simpa using k4
    subst hA'
    obtain ⟨rt, rd, ro⟩ := r'
    have k3 : rt = zr := k3
    have hd : rd = d := by
      have := h2.deep
      have hr0 : r.deep = 0 := (orP_ok (unaryP_ok (ts ++ [e]).length) _ _ hr).1
      rw [hr0] at this
      have this : rd = 0 + d := this
      omega
    have ho2 : ro = o ++ t := by
      have := h2.out
      rw [ho] at this
      exact this
    rw [k3, hd, ho2]
  · exact .inr h1
/-! ## PBrack -/
def openK : Int × ByteArray × Nat := (5, sO, 0)
def closeK : Int × ByteArray × Nat := (5, sC, 0)
theorem key_open {a : Tok} (h : a.key = openK) : a.kind = 5 ∧ a.text = sO := by
  simp only [Tok.key, openK, Prod.mk.injEq] at h
  exact ⟨h.1, h.2.1⟩
theorem key_close {a : Tok} (h : a.key = closeK) : a.kind = 5 ∧ a.text = sC := by
  simp only [Tok.key, closeK, Prod.mk.injEq] at h
  exact ⟨h.1, h.2.1⟩
theorem stop_close {c : Tok} (h : c.key = closeK) (zr : List Tok) : StopL (c :: zr) := ⟨c, zr, rfl, .inr (key_close h)⟩
/-- A row of operations ends at a token that ends a query. -/
theorem rowEnd_stop {zr : List Tok} (h : StopL zr) (d : Nat) (o : List Nod) {lo hi : Int} (hlo : 1 ≤ lo) : PS.rowEnd ⟨zr, d, o⟩ lo hi = true := by
  obtain ⟨z, r, rfl, hz⟩ := h
  have hn : numW opsL sC = 0 := by kernel_rfl
  have hh : PS.hd ⟨z :: r, d, o⟩ = z := rfl
  rw [PS.rowEnd, hh]
  rcases hz with h1 | ⟨h1, h2⟩
  · rw [h1]; simp
  · rw [h1, h2, hn]
    have : decide ((0 : Int) < lo) = true := decide_eq_true (by omega)
    simp [this]
theorem rowF_end {part : PS → Rp PS} {lo hi : Int} {s : PS} (h : s.rowEnd lo hi = true) (m : Nat) : rowF part lo hi m s = .ok s := by
  cases m with
  | zero => rfl
  | succ m => rw [rowF, if_pos h]
theorem rowP_end {part : PS → Rp PS} {lo hi : Int} {s s1 : PS} (h : part s = .ok s1) (he : s1.rowEnd lo hi = true) : rowP part lo hi s = .ok s1 := by
  rw [rowP, h]; exact rowF_end he _
theorem rowP_err {part : PS → Rp PS} {lo hi : Int} {s : PS} {x : Int × Int} (h : part s = .error x) : rowP part lo hi s = .error x := by
  rw [rowP, h]
theorem orP_stop {u : PS → Rp PS} {s : PS} {zr : List Tok} {d : Nat} {o : List Nod} (h : u s = .ok ⟨zr, d, o⟩) (hz : StopL zr) : orP u s = .ok ⟨zr, d, o⟩ :=
  rowP_end (rowP_end (rowP_end (rowP_end (rowP_end h (rowEnd_stop hz _ _ (by decide))) (rowEnd_stop hz _ _ (by decide))) (rowEnd_stop hz _ _ (by decide))) (rowEnd_stop hz _ _ (by decide))) (rowEnd_stop hz _ _ (by decide))
theorem orP_err {u : PS → Rp PS} {s : PS} {x : Int × Int} (h : u s = .error x) : orP u s = .error x := rowP_err (rowP_err (rowP_err (rowP_err (rowP_err h))))
/-- A part in brackets. -/
theorem unary_open {a : Tok} (ha : a.key = openK) (n d : Nat) (o : List Nod) (r : List Tok) : unaryP (n + 1) ⟨a :: r, d, o⟩ =
    if d = 64 then .error (182, (a.at_ : Int)) else match innerP (orP (unaryP n)) ⟨r, d + 1, o⟩ with
      | .error e => .error e
      | .ok s1 => .ok ⟨s1.toks, s1.deep - 1, s1.out⟩ := by
  obtain ⟨h1, h2⟩ := key_open ha
  have e1 : PS.is ⟨a :: r, d, o⟩ 5 sMinus = false := by simp [PS.is, PS.hd, h1, h2, sO, sMinus]
  have e2 : PS.is ⟨a :: r, d, o⟩ 5 sO = true := by simp [PS.is, PS.hd, h1, h2]
  rw [unaryP, e1, if_neg (by decide), oneP, if_neg (by simp [PS.hd, h1]), if_pos e2, bracketP, if_pos e2]
  rfl
theorem unary_bracket {a c : Tok} (ha : a.key = openK) (hc : c.key = closeK) {n d : Nat} {o o2 : List Nod} {r zr : List Tok} (hd : d ≠ 64) (h : orP (unaryP n) ⟨r, d + 1, o⟩ = .ok ⟨c :: zr, d + 1, o2⟩) : unaryP (n + 1) ⟨a :: r, d, o⟩ = .ok ⟨zr, d, o2⟩ := by
  obtain ⟨h1, h2⟩ := key_close hc
  rw [unary_open ha, if_neg hd, innerP, h]
  simp only [PS.sign, PS.is, PS.hd, PS.on, List.headD_cons, List.tail_cons, h1, h2, decide_true, Bool.and_self, if_true]
  rfl
theorem unary_bracket_err {a : Tok} (ha : a.key = openK) {n d : Nat} {o : List Nod} {r : List Tok} {x : Int × Int} (hd : d ≠ 64) (h : orP (unaryP n) ⟨r, d + 1, o⟩ = .error x) : unaryP (n + 1) ⟨a :: r, d, o⟩ = .error x := by
  rw [unary_open ha, if_neg hd, innerP, h]
/-- Tokens in so many brackets. -/
inductive BrT (ks : List (Int × ByteArray × Nat)) : Nat → List Tok → Prop
  | zero {x : List Tok} (h : x.map Tok.key = ks) : BrT ks 0 x
  | succ {k : Nat} {a c : Tok} {x : List Tok} (ha : a.key = openK) (hc : c.key = closeK) (h : BrT ks k x) : BrT ks (k + 1) (a :: (x ++ [c]))
/-- A query that is read by itself. -/
structure Query (ts : List Tok) (t : List Nod) : Prop where
  kinds : ∀ x ∈ ts, x.kind ≠ 0
  read : ∃ (e : Tok) (r : PS), e.kind = 0 ∧ (∃ M, PGood M ⟨ts ++ [e], 0, []⟩) ∧ orP (unaryP (ts ++ [e]).length) ⟨ts ++ [e], 0, []⟩ = .ok r ∧ r.hd.kind = 0 ∧ r.out = t
theorem Query.sim {ts : List Tok} {t : List Nod} (h : Query ts t) {ts' zr : List Tok} (hz : StopL zr) (hkey : ts'.map Tok.key = ts.map Tok.key) (d : Nat) (o : List Nod) (n : Nat) (hn : ts.length + 1 ≤ n) :
    orP (unaryP n) ⟨ts' ++ zr, d, o⟩ = .ok ⟨zr, d, o ++ t⟩ ∨ (0 < d ∧ ∃ p, orP (unaryP n) ⟨ts' ++ zr, d, o⟩ = .error (182, p)) := by
  obtain ⟨e, r, h1, h2, h3, h4, h5⟩ := h.read
  exact query_sim h1 h2 h3 h4 h5 hz hkey d o n (by simpa using hn) h.kinds
theorem brackets_read {ts : List Tok} {t : List Nod} (hq : Query ts t) : ∀ (k : Nat) (x : List Tok), BrT (ts.map Tok.key) k x → ∀ (d n : Nat) (o : List Nod) (zr : List Tok), StopL zr → d ≤ 64 → ts.length + 1 + k ≤ n →
    (orP (unaryP n) ⟨x ++ zr, d, o⟩ = .ok ⟨zr, d, o ++ t⟩ ∧ d + k ≤ 64) ∨ (0 < d + k ∧ ∃ p, orP (unaryP n) ⟨x ++ zr, d, o⟩ = .error (182, p)) := by
  intro k
  induction k with
  | zero =>
    intro x hx d n o zr hz hd hn
    cases hx with
    | zero h =>
      rcases hq.sim hz h d o n (by omega) with h1 | h1
      · exact .inl ⟨h1, by omega⟩
      · exact .inr ⟨by omega, h1.2⟩
  | succ k ih =>
    intro x hx d n o zr hz hd hn
    cases hx with
    | @succ _ a c x ha hc h =>
      obtain ⟨n, rfl⟩ : ∃ m, n = m + 1 := ⟨n - 1, by omega⟩
      have hl : a :: (x ++ [c]) ++ zr = a :: (x ++ (c :: zr)) := by simp
      rw [hl]
      by_cases h64 : d = 64
      · refine .inr ⟨by omega, (a.at_ : Int), orP_err ?_⟩
        rw [unary_open ha, if_pos h64]
      · rcases ih x h (d + 1) n o (c :: zr) (stop_close hc zr) (by omega) (by omega) with ⟨h1, h2⟩ | ⟨_, p, h1⟩
        · exact .inl ⟨orP_stop (unary_bracket ha hc h64 h1) hz, by omega⟩
        · exact .inr ⟨by omega, p, orP_err (unary_bracket_err ha h64 h1)⟩
/-- What a text that is read is. -/
theorem query_of {s : ByteArray} {t : List Nod} {at_ : Int} (h : parseR s = (t, at_, 0)) : s.size ≤ 4096 ∧ ∃ ts, lexL 0 s.data.toList = .ok (ts ++ [⟨0, s.size, mkB [], 0⟩]) ∧ Query ts t ∧ ts.length ≤ s.size := by
  cases hl : lexR s with
  | err p e =>
    exfalso
    rw [parseR, hl] at h
    exact lexR_err hl (congrArg (fun z => z.2.2) h)
  | ok x =>
    have hg := lexR_good hl
    have hl2 := hl
    rw [lexR] at hl2
    split at hl2
    · cases hl2
    rename_i h4
    obtain ⟨ts, rfl, hk, _⟩ := lex_stop cuts_32 _ 0 _ x (Nat.le_refl _) hl2
    rw [← Lib.size_eq, Nat.zero_add] at *
    refine ⟨by omega, ts, hl2, ⟨hk, ?_⟩, ?_⟩
    · rw [parseR, hl] at h
      dsimp only at h
      split at h
      · rename_i why w hr
        exfalso
        have hE := orP_E (unaryP_E (N := s.size) (ts ++ [(⟨0, s.size, mkB [], 0⟩ : Tok)]).length) ⟨ts ++ [⟨0, s.size, mkB [], 0⟩], 0, []⟩ ⟨(lexR_toks hl).1, fun t ht => ((lexR_toks hl).2.2 t ht).1⟩
        rw [hr] at hE
        have h0 : why = 0 := congrArg (fun z => z.2.2) h
        rcases hE with ⟨e1, _⟩ | ⟨_, e1, _⟩
        · have e1 : why = 180 := e1
          omega
        · exact e1 h0
      · rename_i st hr
        split at h
        · rename_i h0
          exact ⟨⟨0, s.size, mkB [], 0⟩, st, rfl, ⟨5000, hg⟩, hr, h0, congrArg (fun z => z.1) h⟩
        · rename_i h0
          exfalso
          have : st.stuck.1 = 0 := congrArg (fun z => z.2.2) h
          rw [PS.stuck, if_neg h0] at this
          simp at this
    · have := (lexL_toks _ 0 _ _ (Nat.le_refl _) hl2).2.1
      simp only [List.length_append, List.length_cons, List.length_nil] at this
      rw [← Lib.size_eq] at this
      omega
def wrapB : Nat → ByteArray → ByteArray
  | 0, s => (⟨#[32]⟩ : ByteArray) ++ s ++ ⟨#[32]⟩
  | k + 1, s => (⟨#[40]⟩ : ByteArray) ++ wrapB k s ++ ⟨#[41]⟩
def wrapL : Nat → List UInt8 → List UInt8
  | 0, l => 32 :: (l ++ [32])
  | k + 1, l => 40 :: (wrapL k l ++ [41])
theorem wrap_data : ∀ (k : Nat) (s : ByteArray), (wrapB k s).data.toList = wrapL k s.data.toList
  | 0, s => by simp [wrapB, wrapL, ByteArray.data_append]
  | k + 1, s => by simp [wrapB, wrapL, ByteArray.data_append, wrap_data k s]
theorem wrap_len : ∀ (k : Nat) (l : List UInt8), (wrapL k l).length = l.length + 2 * k + 2
  | 0, l => by simp [wrapL]
  | k + 1, l => by simp [wrapL, wrap_len k l]; omega
theorem wrap_size (k : Nat) (s : ByteArray) : (wrapB k s).size = s.size + 2 * k + 2 := by
  rw [Lib.size_eq, wrap_data, wrap_len, ← Lib.size_eq]
theorem wrap_lex {l : List UInt8} {ts : List Tok} (h : lexL 0 l = .ok (ts ++ [⟨0, l.length, mkB [], 0⟩])) : ∀ (k p : Nat), ∃ x, BrT (ts.map Tok.key) k x ∧ ∀ b, lexL p (wrapL k l ++ b) = (lexL (p + (wrapL k l).length) b).pre x := by
  intro k
  induction k with
  | zero =>
    intro p
    obtain ⟨ts2, ts', h1, _, h3, h4⟩ := lex_amid cuts_32 h (p + 1)
    have : ts = ts2 := (List.append_inj' h1 rfl).1
    subst this
    refine ⟨ts', .zero h3, fun b => ?_⟩
    rw [wrapL, List.cons_append, List.append_assoc, lex_blank, List.singleton_append, h4, lex_blank]
    congr 2
    simp
    omega
  | succ k ih =>
    intro p
    obtain ⟨x, hx, h2⟩ := ih (p + 1)
    refine ⟨⟨5, p, mkB [40], 0⟩ :: (x ++ [⟨5, p + 1 + (wrapL k l).length, mkB [41], 0⟩]), .succ rfl rfl hx, fun b => ?_⟩
    rw [wrapL, List.cons_append, List.append_assoc, lex_open, List.singleton_append, h2, lex_close, pre_pre, pre_pre]
    congr 2
    · simp; omega
/-- Brackets around a query change nothing, or are too many. -/
theorem brackets_law {s : ByteArray} {t : List Nod} {at_ : Int} (h : parseR s = (t, at_, 0)) (k : Nat) (hk : s.size + 2 * k + 2 ≤ 4096) :
    (k ≤ 64 ∧ ∃ a, parseR (wrapB k s) = (t, a, 0)) ∨ (0 < k ∧ ∃ a, parseR (wrapB k s) = ([], a, 182)) := by
  obtain ⟨h4, ts, hl, hq, hlen⟩ := query_of h
  rw [Lib.size_eq] at hl
  obtain ⟨x, hx, hl2⟩ := wrap_lex hl k 0
  have hlx : lexR (wrapB k s) = .ok (x ++ [⟨0, (wrapB k s).size, mkB [], 0⟩]) := by
    rw [lexR, if_neg (by rw [wrap_size]; omega), wrap_data]
    have := hl2 []
    rw [List.append_nil] at this
    rw [this, lexL_nil, Nat.zero_add, Lib.size_eq, wrap_data]
    rfl
  have hxl : ∀ (k : Nat) (x : List Tok), BrT (ts.map Tok.key) k x → x.length = ts.length + 2 * k := by
    intro k
    induction k with
    | zero => intro x hx; cases hx with | zero h => have := congrArg List.length h; simpa using this
    | succ k ih => intro x hx; cases hx with | succ ha hc h => have := ih _ h; simp; omega
  have hxl := hxl k x hx
  rcases brackets_read hq k x hx 0 (x ++ [(⟨0, (wrapB k s).size, mkB [], 0⟩ : Tok)]).length [] [⟨0, (wrapB k s).size, mkB [], 0⟩] ⟨⟨0, (wrapB k s).size, mkB [], 0⟩, [], rfl, .inl rfl⟩ (by omega) (by simp; omega) with ⟨h1, h2⟩ | ⟨h2, p, h1⟩
  · refine .inl ⟨by omega, 0, ?_⟩
    rw [parseR, hlx]
    dsimp only
    rw [h1]
    rfl
  · refine .inr ⟨by omega, p, ?_⟩
    rw [parseR, hlx]
    dsimp only
    rw [h1]
/-! ## PBins -/
/-- What stands between: the operation, 'bool', 'on(a,or)'. -/
def opTx (k : Nat) : ByteArray := opsL.getD (k + 1) ByteArray.empty
def boolTx : ByteArray := ⟨#[32, 98, 111, 111, 108]⟩
def onTx : ByteArray := ⟨#[32, 111, 110, 40, 97, 44, 111, 114, 41]⟩
def cmpK (k : Nat) (on : Bool) : Bool := decide (4 ≤ k) && decide (k < 10) && on
def betw (k : Nat) (on : Bool) : ByteArray := (if cmpK k on = true then opTx k ++ boolTx else opTx k) ++ (if on = true then onTx else ByteArray.empty)
def sA : ByteArray := ⟨#[97]⟩
def wordK (t : ByteArray) : Int × ByteArray × Nat := (3, t, 0)
def onKs : List (Int × ByteArray × Nat) := [wordK sOn, openK, wordK sA, (5, sComma, 0), wordK sOr, closeK]
def boolKs (k : Nat) (on : Bool) : List (Int × ByteArray × Nat) := if cmpK k on = true then [wordK sBool] else []
def grpKs (on : Bool) : List (Int × ByteArray × Nat) := if on = true then onKs else []
def betwKs (k : Nat) (on : Bool) : List (Int × ByteArray × Nat) := (if k < 10 then 5 else 3, opTx k, 0) :: (boolKs k on ++ grpKs on)
def lexesB (l : List UInt8) (ks : List (Int × ByteArray × Nat)) : Bool := match lexL 0 l with
  | .ok ts => decide (ts.map Tok.key = ks ++ [(0, mkB [], 0)])
  | .err _ _ => false
theorem betw_all : ((List.range 13).all fun k => [false, true].all fun on => lexesB (betw k on).data.toList (betwKs k on) && decide ((betw k on).size ≤ 30) && decide (numW opsL (opTx k) = (k : Int) + 1)) = true := by kernel_rfl
theorem betw_at {k : Nat} (hk : k < 13) (on : Bool) : lexesB (betw k on).data.toList (betwKs k on) = true ∧ (betw k on).size ≤ 30 ∧ numW opsL (opTx k) = (k : Int) + 1 := by
  have h := List.all_eq_true.1 (List.all_eq_true.1 betw_all k (List.mem_range.2 hk)) on (by cases on <;> simp)
  simp only [Bool.and_eq_true, decide_eq_true_eq] at h
  exact ⟨h.1.1, h.1.2, h.2⟩
theorem lexes_of {l : List UInt8} {ks : List (Int × ByteArray × Nat)} (h : lexesB l ks = true) : ∃ y, lexL 0 l = .ok y ∧ y.map Tok.key = ks ++ [(0, mkB [], 0)] := by
  unfold lexesB at h
  split at h
  · rename_i y hy; exact ⟨y, hy, of_decide_eq_true h⟩
  · cases h
theorem keys_cons {x : List Tok} {k : Int × ByteArray × Nat} {ks : List (Int × ByteArray × Nat)} (h : x.map Tok.key = k :: ks) : ∃ a r, x = a :: r ∧ a.key = k ∧ r.map Tok.key = ks := by
  cases x with
  | nil => simp at h
  | cons a r =>
    simp only [List.map_cons, List.cons.injEq] at h
    exact ⟨a, r, rfl, h.1, h.2⟩
theorem keys_nil {x : List Tok} (h : x.map Tok.key = []) : x = [] := by simpa using h
theorem keys_app {x : List Tok} : ∀ {k1 k2 : List (Int × ByteArray × Nat)}, x.map Tok.key = k1 ++ k2 → ∃ a b, x = a ++ b ∧ a.map Tok.key = k1 ∧ b.map Tok.key = k2 := by
  intro k1 k2 h
  refine ⟨x.take k1.length, x.drop k1.length, (List.take_append_drop _ _).symm, ?_, ?_⟩
  · rw [List.map_take, h]; simp
  · rw [List.map_drop, h]; simp
theorem key_at {a : Tok} {k : Int} {t : ByteArray} {n : Nat} (h : a.key = (k, t, n)) : a.kind = k ∧ a.text = t := by
  simp only [Tok.key, Prod.mk.injEq] at h
  exact ⟨h.1, h.2.1⟩
theorem is_cons {a : Tok} {r : List Tok} {d : Nat} {o : List Nod} {k : Int} {t : ByteArray} {n : Nat} (h : a.key = (k, t, n)) (k2 : Int) (t2 : ByteArray) : PS.is ⟨a :: r, d, o⟩ k2 t2 = (decide (k = k2) && decide (t = t2)) := by
  obtain ⟨h1, h2⟩ := key_at h
  simp [PS.is, PS.hd, h1, h2]
theorem group_no {a : Tok} (ha : a.key = openK) (r : List Tok) (d : Nat) (o : List Nod) : PS.group ⟨a :: r, d, o⟩ sOn sIgn 3 4 = .ok (⟨a :: r, d, o⟩, 0, []) := by
  have h1 : PS.is ⟨a :: r, d, o⟩ 3 sOn = false := by rw [is_cons ha]; rfl
  have h2 : PS.is ⟨a :: r, d, o⟩ 3 sIgn = false := by rw [is_cons ha]; rfl
  rw [PS.group, h1, h2]; rfl
theorem group_on {x : List Tok} (hx : x.map Tok.key = onKs) (r : List Tok) (d : Nat) (o : List Nod) : PS.group ⟨x ++ r, d, o⟩ sOn sIgn 3 4 = .ok (⟨r, d, o⟩, 3, [sA, sOr]) := by
  obtain ⟨a1, x, rfl, h1, hx⟩ := keys_cons hx
  obtain ⟨a2, x, rfl, h2, hx⟩ := keys_cons hx
  obtain ⟨a3, x, rfl, h3, hx⟩ := keys_cons hx
  obtain ⟨a4, x, rfl, h4, hx⟩ := keys_cons hx
  obtain ⟨a5, x, rfl, h5, hx⟩ := keys_cons hx
  obtain ⟨a6, x, rfl, h6, hx⟩ := keys_cons hx
  obtain rfl := keys_nil hx
  have n3 : nameB sA = true := by kernel_rfl
  have n5 : nameB sOr = true := by kernel_rfl
  obtain ⟨p3, q3⟩ := key_at h3
  obtain ⟨p5, q5⟩ := key_at h5
  have i1 : PS.is ⟨a1 :: a2 :: a3 :: a4 :: a5 :: a6 :: r, d, o⟩ 3 sOn = true := by rw [is_cons h1]; rfl
  have i2 : PS.is ⟨a2 :: a3 :: a4 :: a5 :: a6 :: r, d, o⟩ 5 sO = true := by rw [is_cons h2]; rfl
  have i3 : PS.is ⟨a3 :: a4 :: a5 :: a6 :: r, d, o⟩ 5 sC = false := by rw [is_cons h3]; rfl
  have i4 : PS.is ⟨a4 :: a5 :: a6 :: r, d, o⟩ 5 sC = false := by rw [is_cons h4]; rfl
  have i4b : PS.is ⟨a4 :: a5 :: a6 :: r, d, o⟩ 5 sComma = true := by rw [is_cons h4]; rfl
  have i6 : PS.is ⟨a6 :: r, d, o⟩ 5 sC = true := by rw [is_cons h6]; rfl
  show PS.group ⟨a1 :: a2 :: a3 :: a4 :: a5 :: a6 :: r, d, o⟩ sOn sIgn 3 4 = _
  have hN : PS.names ⟨a2 :: a3 :: a4 :: a5 :: a6 :: r, d, o⟩ = .ok (⟨r, d, o⟩, [sA, sOr]) := by
    rw [PS.names, PS.sign, if_pos i2]
    show namesF (r.length + 4) ⟨a3 :: a4 :: a5 :: a6 :: r, d, o⟩ [] = _
    rw [show r.length + 4 = (r.length + 3) + 1 from rfl, namesF, if_neg (by rw [i3]; decide), PS.comma, if_pos (show ([] : List ByteArray).isEmpty = true from rfl)]
    show (match PS.name ⟨a3 :: a4 :: a5 :: a6 :: r, d, o⟩ with | Except.error e => Except.error e | Except.ok (s2, x) => namesF (r.length + 3) s2 ([] ++ [x])) = _
    rw [PS.name, if_pos ⟨p3, by show nameB a3.text = true; rw [q3]; exact n3⟩]
    show namesF (r.length + 3) ⟨a4 :: a5 :: a6 :: r, d, o⟩ [a3.text] = _
    rw [show r.length + 3 = (r.length + 2) + 1 from rfl, namesF, if_neg (by rw [i4]; decide), PS.comma, if_neg (by simp), PS.sign, if_pos i4b]
    show (match PS.name ⟨a5 :: a6 :: r, d, o⟩ with | Except.error e => Except.error e | Except.ok (s2, x) => namesF (r.length + 2) s2 ([a3.text] ++ [x])) = _
    rw [PS.name, if_pos ⟨p5, by show nameB a5.text = true; rw [q5]; exact n5⟩]
    show namesF (r.length + 2) ⟨a6 :: r, d, o⟩ [a3.text, a5.text] = _
    rw [show r.length + 2 = (r.length + 1) + 1 from rfl, namesF, if_pos i6, q3, q5]
    rfl
  rw [PS.group, if_pos i1]
  have hon : PS.on ⟨a1 :: a2 :: a3 :: a4 :: a5 :: a6 :: r, d, o⟩ = ⟨a2 :: a3 :: a4 :: a5 :: a6 :: r, d, o⟩ := rfl
  rw [hon, hN]
/-- The operation, what may be behind it, and the second query: at its row. -/
structure Oper2 (k : Nat) (on : Bool) (s1 s3 : PS) : Prop where
  hd : (s1.hd.kind = 5 ∨ s1.hd.kind = 3) ∧ numW opsL s1.hd.text = (k : Int) + 1
  grp : (if s1.on.boolN ((k : Int) + 1) = true then s1.on.on else s1.on).group sOn sIgn 3 4 = .ok (s3, if on = true then 3 else 0, if on = true then [sA, sOr] else [])
  cmp : s1.on.boolN ((k : Int) + 1) = cmpK k on
  room : 1 ≤ s1.toks.length
theorem oper2_of {k : Nat} (hk : k < 13) (on : Bool) {x : List Tok} (hx : x.map Tok.key = betwKs k on) {a : Tok} (ha : a.key = openK) (r : List Tok) (d : Nat) (o : List Nod) : Oper2 k on ⟨x ++ a :: r, d, o⟩ ⟨a :: r, d, o⟩ := by
  obtain ⟨a1, x, rfl, h1, hx⟩ := keys_cons hx
  obtain ⟨b, g, rfl, hb, hg⟩ := keys_app hx
  obtain ⟨p1, q1⟩ := key_at h1
  have hon : PS.on ⟨a1 :: (b ++ g) ++ a :: r, d, o⟩ = ⟨b ++ (g ++ a :: r), d, o⟩ := by simp [PS.on]
  have hcmp : PS.boolN ⟨b ++ (g ++ a :: r), d, o⟩ ((k : Int) + 1) = cmpK k on := by
    unfold boolKs at hb
    unfold PS.boolN
    split at hb
    · rename_i hc
      obtain ⟨b1, b, rfl, hb1, _⟩ := keys_cons hb
      have : PS.is ⟨b1 :: b ++ (g ++ a :: r), d, o⟩ 3 sBool = true := by rw [List.cons_append, is_cons hb1]; rfl
      rw [this, hc]
      simp only [cmpK, Bool.and_eq_true, decide_eq_true_eq] at hc
      have e1 : decide ((5 : Int) ≤ (k : Int) + 1) = true := decide_eq_true (by omega)
      have e2 : decide ((k : Int) + 1 ≤ 10) = true := decide_eq_true (by omega)
      rw [e1, e2]; rfl
    · rename_i hc
      obtain rfl := keys_nil hb
      have : PS.is ⟨[] ++ (g ++ a :: r), d, o⟩ 3 sBool = false := by
        unfold grpKs at hg
        split at hg
        · obtain ⟨g1, g, rfl, hg1, _⟩ := keys_cons hg
          rw [List.nil_append, List.cons_append, is_cons hg1]; rfl
        · obtain rfl := keys_nil hg
          rw [List.nil_append, List.nil_append, is_cons ha]; rfl
      rw [this]
      simp only [Bool.and_false]
      cases h : cmpK k on with
      | true => exact absurd h hc
      | false => rfl
  refine ⟨⟨?_, ?_⟩, ?_, by rw [hon]; exact hcmp, by simp⟩
  · simp only [PS.hd, List.cons_append, List.headD_cons, p1]
    split
    · exact .inl rfl
    · exact .inr rfl
  · simp only [PS.hd, List.cons_append, List.headD_cons, q1]
    exact (betw_at hk on).2.2
  · rw [hon, hcmp]
    have hs : (if cmpK k on = true then PS.on ⟨b ++ (g ++ a :: r), d, o⟩ else ⟨b ++ (g ++ a :: r), d, o⟩) = ⟨g ++ a :: r, d, o⟩ := by
      unfold boolKs at hb
      split
      · rename_i hc
        rw [if_pos hc] at hb
        obtain ⟨b1, b, rfl, hb1, hb⟩ := keys_cons hb
        obtain rfl := keys_nil hb
        rfl
      · rename_i hc
        rw [if_neg hc] at hb
        obtain rfl := keys_nil hb
        rfl
    rw [hs]
    unfold grpKs at hg
    split at hg
    · rename_i hc
      rw [if_pos hc, if_pos hc]
      exact group_on hg _ _ _
    · rename_i hc
      rw [if_neg hc, if_neg hc]
      obtain rfl := keys_nil hg
      exact group_no ha _ _ _
def binK (k : Nat) (on : Bool) : Nod := binN ((k : Int) + 1) (if on = true then 3 else 0) (if on = true then [sA, sOr] else []) (cmpK k on)
/-- Read, or too deep. -/
def Rd182 (f : PS → Rp PS) (s s' : PS) : Prop := f s = .ok s' ∨ ∃ p, f s = .error (182, p)
theorem Rd182.up {f : PS → Rp PS} {s s' : PS} (h : Rd182 f s s') {lo hi : Int} (he : s'.rowEnd lo hi = true) : Rd182 (rowP f lo hi) s s' := by
  rcases h with h | ⟨p, h⟩
  · exact .inl (rowP_end h he)
  · exact .inr ⟨p, rowP_err h⟩
/-- The row of the operation. -/
theorem Oper2.take {k : Nat} {on : Bool} {s s1 s3 s4 : PS} (h : Oper2 k on s1 s3) {f : PS → Rp PS} (h1 : f s = .ok s1) (h2 : Rd182 f s3 s4) {lo hi : Int} (hne : s1.rowEnd lo hi = false) (hst : (s4.lay (binK k on)).rowEnd lo hi = true) : Rd182 (rowP f lo hi) s (s4.lay (binK k on)) := by
  have hr : rowP f lo hi s = rowF f lo hi s1.toks.length s1 := by rw [rowP, h1]
  obtain ⟨m, hm⟩ : ∃ m, s1.toks.length = m + 1 := ⟨s1.toks.length - 1, by have := h.room; omega⟩
  have hf : rowF f lo hi (m + 1) s1 = match f s3 with | Except.error e => Except.error e | Except.ok s4 => rowF f lo hi m (s4.lay (binK k on)) := by
    rw [rowF, if_neg (by rw [hne]; decide), h.hd.2, h.grp, h.cmp]
    rfl
  unfold Rd182
  rw [hr, hm, hf]
  rcases h2 with h2 | ⟨p, h2⟩
  · rw [h2]; exact .inl (rowF_end hst m)
  · rw [h2]; exact .inr ⟨p, rfl⟩
theorem Oper2.rowEnd {k : Nat} {on : Bool} {s1 s3 : PS} (h : Oper2 k on s1 s3) (lo hi : Int) : s1.rowEnd lo hi = (decide ((k : Int) + 1 < lo) || decide (hi < (k : Int) + 1) || (decide (lo = 11) && decide ((k : Int) + 1 = 12))) := by
  unfold PS.rowEnd
  rw [h.hd.2]
  have : (decide (s1.hd.kind ≠ 5) && decide (s1.hd.kind ≠ 3)) = false := by
    rcases h.hd.1 with h | h <;> simp [h]
  rw [this, Bool.false_or]
/-- At whatever row the operation is: all rows. -/
theorem Oper2.or {k : Nat} (hk : k < 13) {on : Bool} {s s1 s3 : PS} {zr : List Tok} {d : Nat} {o : List Nod} (h : Oper2 k on s1 s3) {u : PS → Rp PS} (h1 : u s = .ok s1) (h2 : Rd182 u s3 ⟨zr, d, o⟩) (hz : StopL zr) : Rd182 (orP u) s ⟨zr, d, o ++ [binK k on]⟩ := by
  have st : ∀ {lo hi : Int} (o2 : List Nod), 1 ≤ lo → PS.rowEnd ⟨zr, d, o2⟩ lo hi = true := fun o2 hlo => rowEnd_stop hz d o2 hlo
  have stl : ∀ {lo hi : Int}, 1 ≤ lo → (PS.lay ⟨zr, d, o⟩ (binK k on)).rowEnd lo hi = true := fun hlo => rowEnd_stop hz d _ hlo
  show Rd182 (rowP (rowP (rowP (rowP (rowP u 3 4) 1 2) 5 10) 11 13) 12 12) s (PS.lay ⟨zr, d, o⟩ (binK k on))
  by_cases c4 : k = 2 ∨ k = 3
  · have e : s1.rowEnd 3 4 = false := by rw [h.rowEnd]; rcases c4 with rfl | rfl <;> decide
    exact ((((h.take h1 h2 e (stl (by decide))).up (stl (by decide))).up (stl (by decide))).up (stl (by decide))).up (stl (by decide))
  have e4 : s1.rowEnd 3 4 = true := by
    rw [h.rowEnd]
    have : ((k : Int) + 1 < 3) ∨ ((4 : Int) < (k : Int) + 1) := by omega
    rcases this with this | this <;> simp [this]
  have a4 := rowP_end h1 e4
  have b4 := h2.up (st o (by decide) (lo := 3) (hi := 4))
  by_cases c3 : k = 0 ∨ k = 1
  · have e : s1.rowEnd 1 2 = false := by rw [h.rowEnd]; rcases c3 with rfl | rfl <;> decide
    exact (((h.take a4 b4 e (stl (by decide))).up (stl (by decide))).up (stl (by decide))).up (stl (by decide))
  have e3 : s1.rowEnd 1 2 = true := by
    rw [h.rowEnd]
    have : ((2 : Int) < (k : Int) + 1) := by omega
    simp [this]
  have a3 := rowP_end a4 e3
  have b3 := b4.up (st o (by decide) (lo := 1) (hi := 2))
  by_cases c2 : 4 ≤ k ∧ k < 10
  · have e : s1.rowEnd 5 10 = false := by
      rw [h.rowEnd]
      have e1 : ¬ ((k : Int) + 1 < 5) := by omega
      have e2 : ¬ ((10 : Int) < (k : Int) + 1) := by omega
      simp [e1, e2]
    exact ((h.take a3 b3 e (stl (by decide))).up (stl (by decide))).up (stl (by decide))
  have e2 : s1.rowEnd 5 10 = true := by
    rw [h.rowEnd]
    have : ((10 : Int) < (k : Int) + 1) := by omega
    simp [this]
  have a2 := rowP_end a3 e2
  have b2 := b3.up (st o (by decide) (lo := 5) (hi := 10))
  by_cases c1 : k = 10 ∨ k = 12
  · have e : s1.rowEnd 11 13 = false := by rw [h.rowEnd]; rcases c1 with rfl | rfl <;> decide
    exact (h.take a2 b2 e (stl (by decide))).up (stl (by decide))
  have hk11 : k = 11 := by omega
  have e1 : s1.rowEnd 11 13 = true := by rw [h.rowEnd, hk11]; decide
  have a1 := rowP_end a2 e1
  have b1 := b2.up (st o (by decide) (lo := 11) (hi := 13))
  have e : s1.rowEnd 12 12 = false := by rw [h.rowEnd, hk11]; decide
  exact h.take a1 b1 e (stl (by decide))
/-- The whole text. -/
def binsB (a b : ByteArray) (k : Nat) (on : Bool) : ByteArray := (⟨#[40]⟩ : ByteArray) ++ a ++ ⟨#[41]⟩ ++ ⟨#[32]⟩ ++ betw k on ++ ⟨#[32, 40]⟩ ++ b ++ ⟨#[41]⟩
theorem bins_data (a b : ByteArray) (k : Nat) (on : Bool) : (binsB a b k on).data.toList = 40 :: (a.data.toList ++ 41 :: 32 :: ((betw k on).data.toList ++ 32 :: 40 :: (b.data.toList ++ [41]))) := by
  simp [binsB, ByteArray.data_append]
theorem query_unary {ts : List Tok} {t : List Nod} (hq : Query ts t) {a c : Tok} (ha : a.key = openK) (hc : c.key = closeK) {ts' zr : List Tok} (hkey : ts'.map Tok.key = ts.map Tok.key) {n d : Nat} (hn : ts.length + 2 ≤ n) (hd : d ≠ 64) (o : List Nod) : Rd182 (unaryP n) ⟨a :: (ts' ++ c :: zr), d, o⟩ ⟨zr, d, o ++ t⟩ := by
  obtain ⟨n, rfl⟩ : ∃ m, n = m + 1 := ⟨n - 1, by omega⟩
  rcases hq.sim (stop_close hc zr) hkey (d + 1) o n (by omega) with h | ⟨_, p, h⟩
  · exact .inl (unary_bracket ha hc hd h)
  · exact .inr ⟨p, unary_bracket_err ha hd h⟩
theorem bins_law {a b : ByteArray} {x y : List Nod} {p q : Int} (ha : parseR a = (x, p, 0)) (hb : parseR b = (y, q, 0)) (hz : a.size + b.size ≤ 1500) {k : Nat} (hk : k < 13) (on : Bool) :
    (∃ r, parseR (binsB a b k on) = (x ++ y ++ [binK k on], r, 0)) ∨ ∃ r, parseR (binsB a b k on) = ([], r, 182) := by
  obtain ⟨_, ta, la, qa, na⟩ := query_of ha
  obtain ⟨_, tb, lb, qb, nb⟩ := query_of hb
  obtain ⟨hl, hbs, _⟩ := betw_at hk on
  obtain ⟨tm, lm, km⟩ := lexes_of hl
  rw [Lib.size_eq] at la lb
  obtain ⟨sa, ta', e1, _, ka, ja⟩ := lex_amid cuts_41 la 1
  obtain rfl : ta = sa := (List.append_inj' e1 rfl).1
  obtain ⟨sm, tm', e2, _, km', jm⟩ := lex_amid cuts_32 lm (1 + a.data.toList.length + 1 + 1)
  obtain ⟨sb, tb', e3, _, kb, jb⟩ := lex_amid cuts_41 lb (1 + a.data.toList.length + 1 + 1 + (betw k on).data.toList.length + 1 + 1)
  obtain rfl : tb = sb := (List.append_inj' e3 rfl).1
  have km2 : tm'.map Tok.key = betwKs k on := by
    rw [km']
    rw [e2, List.map_append] at km
    exact (List.append_inj' km rfl).1
  have hsz : (binsB a b k on).size = a.size + b.size + (betw k on).size + 6 := by
    rw [Lib.size_eq, bins_data]
    simp only [List.length_cons, List.length_append, List.length_nil, ← Lib.size_eq]
    omega
  have hlx : ∃ (o1 c1 o2 c2 e : Tok), o1.key = openK ∧ c1.key = closeK ∧ o2.key = openK ∧ c2.key = closeK ∧ e.kind = 0 ∧ lexR (binsB a b k on) = .ok (o1 :: (ta' ++ c1 :: (tm' ++ o2 :: (tb' ++ c2 :: [e])))) := by
    have hP : ∃ P : Nat × Nat × Nat × Nat, P = (1 + a.data.toList.length, 1 + a.data.toList.length + 1 + 1 + (betw k on).data.toList.length + 1, 1 + a.data.toList.length + 1 + 1 + (betw k on).data.toList.length + 1 + 1 + b.data.toList.length, 1 + a.data.toList.length + 1 + 1 + (betw k on).data.toList.length + 1 + 1 + b.data.toList.length + 1) := ⟨_, rfl⟩
    obtain ⟨⟨P1, P2, P3, P4⟩, hP⟩ := hP
    simp only [Prod.mk.injEq] at hP
    refine ⟨(⟨5, 0, mkB [40], 0⟩ : Tok), (⟨5, P1, mkB [41], 0⟩ : Tok), (⟨5, P2, mkB [40], 0⟩ : Tok), (⟨5, P3, mkB [41], 0⟩ : Tok), (⟨0, P4, mkB [], 0⟩ : Tok), rfl, rfl, rfl, rfl, rfl, ?_⟩
    rw [hP.1, hP.2.1, hP.2.2.1, hP.2.2.2]
    rw [lexR, if_neg (by omega), bins_data, lex_open, Nat.zero_add, ja, lex_close, lex_blank, jm, lex_blank, lex_open, jb, lex_close, lexL_nil]
    simp only [LexR.pre, List.cons_append, List.nil_append]
  obtain ⟨o1, c1, o2, c2, e, ho1, hc1, ho2, hc2, he, hlx⟩ := hlx
  have h1 := query_unary qa ho1 hc1 ka (zr := tm' ++ o2 :: (tb' ++ c2 :: [e])) (n := (o1 :: (ta' ++ c1 :: (tm' ++ o2 :: (tb' ++ c2 :: [e])))).length) (d := 0) (by have := congrArg List.length ka; simp only [List.length_map] at this; simp; omega) (by decide) []
  have h3 := query_unary qb ho2 hc2 kb (zr := [e]) (n := (o1 :: (ta' ++ c1 :: (tm' ++ o2 :: (tb' ++ c2 :: [e])))).length) (d := 0) (by have := congrArg List.length kb; simp only [List.length_map] at this; simp; omega) (by decide) x
  have hres : Rd182 (orP (unaryP (o1 :: (ta' ++ c1 :: (tm' ++ o2 :: (tb' ++ c2 :: [e])))).length)) ⟨o1 :: (ta' ++ c1 :: (tm' ++ o2 :: (tb' ++ c2 :: [e]))), 0, []⟩ ⟨[e], 0, x ++ y ++ [binK k on]⟩ := by
    rcases h1 with h1 | ⟨r, h1⟩
    · exact (oper2_of hk on km2 ho2 _ 0 x).or hk h1 h3 ⟨e, [], rfl, .inl he⟩
    · exact .inr ⟨r, orP_err h1⟩
  rcases hres with hres | ⟨r, hres⟩
  · refine .inl ⟨0, ?_⟩
    rw [parseR, hlx]
    dsimp only
    rw [hres]
    dsimp only
    rw [if_pos (by simpa [PS.hd] using he)]
  · refine .inr ⟨r, ?_⟩
    rw [parseR, hlx]
    dsimp only
    rw [hres]
end
end Go.Proofs.YtakfnojiaakfpaaGreatDoor
