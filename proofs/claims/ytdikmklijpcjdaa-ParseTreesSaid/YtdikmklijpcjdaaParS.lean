/- How a query is read: the plain reader, over tokens. -/
import Derived.Test.YtdikmklijpcjdaaLexSpec
import Derived.Test.YtdikmklijpcjdaaNodS
import Derived.Test.YtdikmklijpcjdaaMatK
namespace Go.Proofs.Ytdikmklijpcjdaa
open Go.RowKit

/-- What the reader has left, how deep it is, and what it has laid. -/
structure PS where
  toks : List Tok
  deep : Nat
  out : List Nod
/-- Why and where it gives up. -/
abbrev Rp (α : Type) := Except (Int × Int) α
def tok0 : Tok := ⟨0, 0, ByteArray.empty, 0⟩
def PS.hd (s : PS) : Tok := s.toks.headD tok0
def PS.on (s : PS) : PS := ⟨s.toks.tail, s.deep, s.out⟩
def PS.is (s : PS) (k : Int) (t : ByteArray) : Bool := decide (s.hd.kind = k) && decide (s.hd.text = t)
def PS.stuck (s : PS) : Int × Int := (if s.hd.kind = 0 then 180 else 181, (s.hd.at_ : Int))
def PS.sign (s : PS) (t : ByteArray) : Rp PS := if s.is 5 t = true then .ok s.on else .error s.stuck
def PS.lay (s : PS) (n : Nod) : PS := ⟨s.toks, s.deep, s.out ++ [n]⟩
def numF : Nat → List ByteArray → ByteArray → Int
  | _, [], _ => 0
  | k, x :: r, w => if x = w ∧ w ≠ ByteArray.empty then k else numF (k + 1) r w
/-- The place of a word in a list, or 0. -/
def numW (l : List ByteArray) (w : ByteArray) : Int := numF 0 l w
def sO : ByteArray := ⟨#[40]⟩
def sC : ByteArray := ⟨#[41]⟩
def sComma : ByteArray := ⟨#[44]⟩
def sMinus : ByteArray := ⟨#[45]⟩
def sCurl : ByteArray := ⟨#[123]⟩
def sUncurl : ByteArray := ⟨#[125]⟩
def sSq : ByteArray := ⟨#[91]⟩
def sUnsq : ByteArray := ⟨#[93]⟩
def sBool : ByteArray := ⟨#[98, 111, 111, 108]⟩
def sOn : ByteArray := ⟨#[111, 110]⟩
def sIgn : ByteArray := ⟨#[105, 103, 110, 111, 114, 105, 110, 103]⟩
def sBy : ByteArray := ⟨#[98, 121]⟩
def sWithout : ByteArray := ⟨#[119, 105, 116, 104, 111, 117, 116]⟩
def sOffset : ByteArray := ⟨#[111, 102, 102, 115, 101, 116]⟩
def sAnd : ByteArray := ⟨#[97, 110, 100]⟩
def sOr : ByteArray := ⟨#[111, 114]⟩
def sUnless : ByteArray := ⟨#[117, 110, 108, 101, 115, 115]⟩
def sNameN : ByteArray := ⟨#[95, 95, 110, 97, 109, 101, 95, 95]⟩
def opsL : List ByteArray := [ByteArray.empty, ⟨#[43]⟩, ⟨#[45]⟩, ⟨#[42]⟩, ⟨#[47]⟩, ⟨#[61, 61]⟩, ⟨#[33, 61]⟩, ⟨#[60]⟩, ⟨#[60, 61]⟩, ⟨#[62]⟩, ⟨#[62, 61]⟩, sAnd, sOr, sUnless]
def funcsL : List ByteArray := [ByteArray.empty, ⟨#[114, 97, 116, 101]⟩, ⟨#[105, 110, 99, 114, 101, 97, 115, 101]⟩, ⟨#[100, 101, 108, 116, 97]⟩, ⟨#[115, 117, 109, 95, 111, 118, 101, 114, 95, 116, 105, 109, 101]⟩, ⟨#[97, 118, 103, 95, 111, 118, 101, 114, 95, 116, 105, 109, 101]⟩, ⟨#[109, 105, 110, 95, 111, 118, 101, 114, 95, 116, 105, 109, 101]⟩, ⟨#[109, 97, 120, 95, 111, 118, 101, 114, 95, 116, 105, 109, 101]⟩,
  ⟨#[99, 111, 117, 110, 116, 95, 111, 118, 101, 114, 95, 116, 105, 109, 101]⟩, ⟨#[108, 97, 115, 116, 95, 111, 118, 101, 114, 95, 116, 105, 109, 101]⟩, ⟨#[119, 97, 118, 101]⟩, ⟨#[97, 98, 115]⟩, ⟨#[102, 108, 111, 111, 114]⟩]
def aggsL : List ByteArray := [ByteArray.empty, ⟨#[115, 117, 109]⟩, ⟨#[109, 105, 110]⟩, ⟨#[109, 97, 120]⟩, ⟨#[97, 118, 103]⟩, ⟨#[99, 111, 117, 110, 116]⟩]
def matsL : List ByteArray := [ByteArray.empty, ⟨#[61]⟩, ⟨#[33, 61]⟩, ⟨#[61, 126]⟩, ⟨#[33, 126]⟩]
def keptL : List ByteArray := [sOr, sAnd, sUnless, sBool, sOn, sIgn, sBy, sWithout, sOffset]
def keptB (w : ByteArray) : Bool := keptL.any (fun x => decide (w = x)) || decide (0 < numW funcsL w) || decide (0 < numW aggsL w)
def PS.name (s : PS) : Rp (PS × ByteArray) := if s.hd.kind = 3 ∧ nameB s.hd.text = true then .ok (s.on, s.hd.text) else .error s.stuck
/-- Is a comma wanted? Then it must be there. -/
def PS.comma (s : PS) (first : Bool) : Rp PS := if first = true then .ok s else s.sign sComma
def namesF : Nat → PS → List ByteArray → Rp (PS × List ByteArray)
  | 0, s, _ => .error s.stuck
  | m + 1, s, acc =>
    if s.is 5 sC = true then .ok (s.on, acc)
    else match s.comma acc.isEmpty with
      | .error e => .error e
      | .ok s1 => match s1.name with
        | .error e => .error e
        | .ok (s2, x) => namesF m s2 (acc ++ [x])
def PS.names (s : PS) : Rp (PS × List ByteArray) := match s.sign sO with
  | .error e => .error e
  | .ok s1 => namesF s1.toks.length s1 []
/-- By which labels is grouped. -/
def PS.group (s : PS) (w1 w2 : ByteArray) (k1 k2 : Int) : Rp (PS × Int × List ByteArray) :=
  if s.is 3 w1 = true then match s.on.names with
    | .error e => .error e
    | .ok (s1, l) => .ok (s1, k1, l)
  else if s.is 3 w2 = true then match s.on.names with
    | .error e => .error e
    | .ok (s1, l) => .ok (s1, k2, l)
  else .ok (s, 0, [])
/-- Does a row of operations end here? -/
def PS.rowEnd (s : PS) (lo hi : Int) : Bool :=
  (decide (s.hd.kind ≠ 5) && decide (s.hd.kind ≠ 3)) || decide (numW opsL s.hd.text < lo) || decide (hi < numW opsL s.hd.text) || (decide (lo = 11) && decide (numW opsL s.hd.text = 12))
def PS.boolN (s : PS) (op : Int) : Bool := decide (5 ≤ op) && decide (op ≤ 10) && s.is 3 sBool
def binN (op g : Int) (l : List ByteArray) (b : Bool) : Nod := ⟨6, op, ByteArray.empty, [], 0, 0, g, l, b, 2⟩
def rowF (part : PS → Rp PS) (lo hi : Int) : Nat → PS → Rp PS
  | 0, s => .ok s
  | m + 1, s =>
    if s.rowEnd lo hi = true then .ok s
    else match (if s.on.boolN (numW opsL s.hd.text) = true then s.on.on else s.on).group sOn sIgn 3 4 with
      | .error e => .error e
      | .ok (s3, g, l) => match part s3 with
        | .error e => .error e
        | .ok s4 => rowF part lo hi m (s4.lay (binN (numW opsL s.hd.text) g l (s.on.boolN (numW opsL s.hd.text))))
def rowP (part : PS → Rp PS) (lo hi : Int) (s : PS) : Rp PS := match part s with
  | .error e => .error e
  | .ok s1 => rowF part lo hi s1.toks.length s1
def termP (u : PS → Rp PS) : PS → Rp PS := rowP u 3 4
def sumP (u : PS → Rp PS) : PS → Rp PS := rowP (termP u) 1 2
def cmpP (u : PS → Rp PS) : PS → Rp PS := rowP (sumP u) 5 10
def andP (u : PS → Rp PS) : PS → Rp PS := rowP (cmpP u) 11 13
def orP (u : PS → Rp PS) : PS → Rp PS := rowP (andP u) 12 12
def openP (part : PS → Rp PS) (s : PS) : Rp PS :=
  if s.deep = 64 then .error (182, (s.hd.at_ : Int)) else match part ⟨s.toks.tail, s.deep + 1, s.out⟩ with
    | .error e => .error e
    | .ok s1 => .ok ⟨s1.toks, s1.deep - 1, s1.out⟩
def innerP (e : PS → Rp PS) (s : PS) : Rp PS := match e s with
  | .error x => .error x
  | .ok s1 => s1.sign sC
def bracketP (e : PS → Rp PS) (s : PS) : Rp PS := if s.is 5 sO = true then openP (innerP e) s else .error s.stuck
def PS.span (s : PS) : Rp (PS × Int) := if s.hd.kind = 2 then .ok (s.on, (s.hd.span : Int)) else .error s.stuck
/-- One more matcher, if it may be. -/
def addM (ms : List Mat) (m : Mat) (at_ : Int) : Rp (List Mat) := if matCode (ms ++ [m]) = 0 then .ok (ms ++ [m]) else .error (183, at_)
def matchersF : Nat → Bool → PS → List Mat → Rp (PS × List Mat)
  | 0, _, s, _ => .error s.stuck
  | f + 1, first, s, ms =>
    if s.is 5 sUncurl = true then .ok (s.on, ms)
    else match s.comma first with
      | .error e => .error e
      | .ok s1 => match s1.name with
        | .error e => .error e
        | .ok (s2, nm) =>
          if s2.hd.kind ≠ 5 ∨ numW matsL s2.hd.text = 0 then .error s2.stuck
          else if s2.on.hd.kind ≠ 4 then .error s2.on.stuck
          else match addM ms ⟨numW matsL s2.hd.text, nm, s2.on.hd.text⟩ s2.on.hd.at_ with
            | .error e => .error e
            | .ok ms2 => matchersF f false s2.on.on ms2
def PS.matchers (s : PS) (ms : List Mat) : Rp (PS × List Mat) := matchersF s.toks.length true s ms
def PS.wordB (s : PS) : Bool := decide (s.hd.kind = 3) && !keptB s.hd.text
def selN (k : Int) (ms : List Mat) (w b : Int) : Nod := ⟨k, 0, ByteArray.empty, ms, w, b, 0, [], false, 0⟩
/-- A select: its word. -/
def PS.sel1 (s : PS) : Rp (PS × List Mat) := if s.wordB = true then match addM [] ⟨1, sNameN, s.hd.text⟩ s.hd.at_ with
    | .error e => .error e
    | .ok ms => .ok (s.on, ms)
  else .ok (s, [])
/-- Its braces. -/
def PS.sel2 (s : PS) (word : Bool) (ms : List Mat) : Rp (PS × List Mat) :=
  if s.is 5 sCurl = true then s.on.matchers ms else if word = true then .ok (s, ms) else .error s.stuck
/-- Its span: kind and width. -/
def PS.sel3 (s : PS) : Rp (PS × Int × Int) := if s.is 5 sSq = true then match s.on.span with
    | .error e => .error e
    | .ok (s1, w) => match s1.sign sUnsq with
      | .error e => .error e
      | .ok s2 => .ok (s2, 3, w)
  else .ok (s, 2, 0)
/-- Its offset. -/
def PS.sel4 (s : PS) : Rp (PS × Int) := if s.is 3 sOffset = true then s.on.span else .ok (s, 0)
def chooseP (s : PS) : Rp PS := match s.sel1 with
  | .error e => .error e
  | .ok (s1, m1) => match s1.sel2 s.wordB m1 with
    | .error e => .error e
    | .ok (s2, m2) => match s2.sel3 with
      | .error e => .error e
      | .ok (s3, k, w) => match s3.sel4 with
        | .error e => .error e
        | .ok (s4, b) => .ok (s4.lay (selN k m2 w b))
def numN (t : ByteArray) : Nod := ⟨1, 0, t, [], 0, 0, 0, [], false, 0⟩
def callN (f : Int) : Nod := ⟨4, f, ByteArray.empty, [], 0, 0, 0, [], false, 1⟩
def aggN (a g : Int) (l : List ByteArray) : Nod := ⟨5, a, ByteArray.empty, [], 0, 0, g, l, false, 1⟩
def negN : Nod := ⟨7, 0, ByteArray.empty, [], 0, 0, 0, [], false, 1⟩
def oneP (e : PS → Rp PS) (s : PS) : Rp PS :=
  if s.hd.kind = 1 then .ok (s.on.lay (numN s.hd.text))
  else if s.is 5 sO = true then bracketP e s
  else if s.hd.kind = 3 ∧ 0 < numW funcsL s.hd.text then match bracketP e s.on with
    | .error x => .error x
    | .ok s1 => .ok (s1.lay (callN (numW funcsL s.hd.text)))
  else if s.hd.kind = 3 ∧ 0 < numW aggsL s.hd.text then match s.on.group sBy sWithout 1 2 with
    | .error x => .error x
    | .ok (s1, g, l) => match bracketP e s1 with
      | .error x => .error x
      | .ok s2 => .ok (s2.lay (aggN (numW aggsL s.hd.text) g l))
  else chooseP s
def unaryP : Nat → PS → Rp PS
  | 0, s => .error s.stuck
  | n + 1, s => if s.is 5 sMinus = true then match openP (unaryP n) s with
      | .error e => .error e
      | .ok s1 => .ok (s1.lay negN)
    else oneP (orP (unaryP n)) s
/-- Any text is read. -/
def parseR (s : ByteArray) : List Nod × Int × Int := match lexR s with
  | .err p e => ([], p, e)
  | .ok ts => match orP (unaryP ts.length) ⟨ts, 0, []⟩ with
    | .error (why, at_) => ([], at_, why)
    | .ok st => if st.hd.kind = 0 then (st.out, 0, 0) else ([], st.stuck.2, st.stuck.1)

/-- A row of tokens ends with the end. -/
def Ends (l : List Tok) : Prop := ∃ e, l.getLast? = some e ∧ e.kind = 0
theorem Ends.ne {l : List Tok} (h : Ends l) : l ≠ [] := by
  obtain ⟨e, h, _⟩ := h
  rintro rfl
  simp at h
theorem Ends.tail {t : Tok} {r : List Tok} (h : Ends (t :: r)) (hk : t.kind ≠ 0) : Ends r := by
  obtain ⟨e, h1, h2⟩ := h
  cases r with
  | nil =>
    simp at h1
    subst h1
    exact absurd h2 hk
  | cons u r => exact ⟨e, by simpa using h1, h2⟩
/-- What every state of the reader is. -/
structure PGood (M : Nat) (s : PS) : Prop where
  ends : Ends s.toks
  room : s.out.length + s.toks.length ≤ M
  deep : s.deep ≤ 64
  text : ∀ t ∈ s.toks, t.text.size ≤ 1000000
theorem PGood.cons {M : Nat} {s : PS} (h : PGood M s) : s.toks = s.hd :: s.toks.tail := by
  have := h.ends.ne
  cases hs : s.toks with
  | nil => exact absurd hs this
  | cons t r => simp [PS.hd, hs]
theorem PGood.on {M : Nat} {s : PS} (h : PGood M s) (hk : s.hd.kind ≠ 0) : PGood M s.on := by
  have hc := h.cons
  refine ⟨?_, ?_, h.deep, fun t ht => h.text t (List.mem_of_mem_tail ht)⟩
  · have he := h.ends
    rw [hc] at he
    exact he.tail hk
  · have := h.room
    simp only [PS.on, List.length_tail]
    omega
theorem PGood.on_len {M : Nat} {s : PS} (h : PGood M s) : s.on.toks.length + 1 = s.toks.length := by
  have := List.length_pos_iff.2 h.ends.ne
  simp only [PS.on, List.length_tail]
  omega
theorem PGood.hd_text {M : Nat} {s : PS} (h : PGood M s) : s.hd.text.size ≤ 1000000 := by
  apply h.text
  rw [h.cons]
  exact List.mem_cons_self
theorem is_kind {s : PS} {k : Int} {t : ByteArray} (h : s.is k t = true) : s.hd.kind = k := by
  simp [PS.is] at h
  exact h.1
theorem is_text {s : PS} {k : Int} {t : ByteArray} (h : s.is k t = true) : s.hd.text = t := by
  simp [PS.is] at h
  exact h.2
/-- A part has been read: tokens are gone, and what is laid grows by no more than them; no deeper than before. -/
structure Adv (s s' : PS) : Prop where
  len : s'.toks.length ≤ s.toks.length
  suf : ∃ j, s'.toks = s.toks.drop j
  deep : s'.deep = s.deep
  out : ∃ l, s'.out = s.out ++ l
theorem Adv.refl (s : PS) : Adv s s := ⟨Nat.le_refl _, ⟨0, rfl⟩, rfl, ⟨[], by simp⟩⟩
theorem Adv.trans {a b c : PS} (h : Adv a b) (k : Adv b c) : Adv a c := by
  obtain ⟨j1, e1⟩ := h.suf
  obtain ⟨j2, e2⟩ := k.suf
  obtain ⟨l1, f1⟩ := h.out
  obtain ⟨l2, f2⟩ := k.out
  exact ⟨Nat.le_trans k.len h.len, ⟨j1 + j2, by rw [e2, e1, List.drop_drop]⟩, k.deep.trans h.deep, ⟨l1 ++ l2, by rw [f2, f1, List.append_assoc]⟩⟩
theorem Adv.on (s : PS) : Adv s s.on := ⟨by simp [PS.on], ⟨1, by simp [PS.on]⟩, rfl, ⟨[], by simp [PS.on]⟩⟩
end Go.Proofs.Ytdikmklijpcjdaa
