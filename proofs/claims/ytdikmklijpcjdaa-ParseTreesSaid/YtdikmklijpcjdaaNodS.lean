/- Nodes in memory: plain words. -/
import Derived.Test.YtdikmklijpcjdaaMatL
import Derived.Test.YtdikmklijpcjdaaTextsL
namespace Go.Proofs.Ytdikmklijpcjdaa
open Go.RowKit

structure Nod where
  kind : Int
  op : Int
  text : ByteArray
  mat : List Mat
  width : Int
  back : Int
  grp : Int
  names : List ByteArray
  cmp : Bool
  parts : Int
def nodC (n : Nod) (Am : Option Addr) (cm : Nat) (An : Option Addr) (cn : Nat) : List Value :=
  [.int .i64 n.kind, .int .i64 n.op, .string n.text, .slice Am n.mat.length cm, .int .i64 n.width, .int .i64 n.back, .int .i64 n.grp, .slice An n.names.length cn, .bool n.cmp, .int .i64 n.parts]
/-- The ten cells of a node. -/
def NodAt (w : World) (B : Nat) (x : List Value) (n : Nod) : Prop :=
  ∃ Am cm An cn, x = nodC n Am cm An cn ∧ Rd w B 3 Am (matsC n.mat) ∧ Rd w B 1 An (textsC n.names) ∧ n.mat.length ≤ cm ∧ cm ≤ maxLen ∧ n.names.length ≤ cn ∧ cn ≤ maxLen
def RdNods (w : World) (B : Nat) (A : Option Addr) (ns : List Nod) : Prop :=
  ∃ cs, Rd w B 10 A cs ∧ cs.length = ns.length ∧ ∀ (k : Nat) (n : Nod), ns[k]? = some n → ∃ x, cs[k]? = some x ∧ NodAt w B x n
section
variable {w w' : World} {B B' : Nat} {A : Option Addr} {ns : List Nod}
theorem NodAt.keep {x : List Value} {n : Nod} (h : NodAt w B x n) (hk : ∀ b o, b < B → w'.cell? ⟨b, o, none⟩ = w.cell? ⟨b, o, none⟩) : NodAt w' B x n := by
  obtain ⟨Am, cm, An, cn, h1, h2, h3, h4⟩ := h
  exact ⟨Am, cm, An, cn, h1, h2.keep hk, h3.keep hk, h4⟩
theorem NodAt.more {x : List Value} {n : Nod} (h : NodAt w B x n) (hB : B ≤ B') : NodAt w B' x n := by
  obtain ⟨Am, cm, An, cn, h1, h2, h3, h4⟩ := h
  exact ⟨Am, cm, An, cn, h1, h2.more hB, h3.more hB, h4⟩
theorem RdNods.keep (h : RdNods w B A ns) (hk : ∀ b o, b < B → w'.cell? ⟨b, o, none⟩ = w.cell? ⟨b, o, none⟩) : RdNods w' B A ns := by
  obtain ⟨cs, h1, h2, h3⟩ := h
  refine ⟨cs, h1.keep hk, h2, fun k s hs => ?_⟩
  obtain ⟨x, hx, h4⟩ := h3 k s hs
  exact ⟨x, hx, h4.keep hk⟩
theorem RdNods.below (h : RdNods w B A ns) (hb : Below B w w') : RdNods w' B A ns := h.keep fun _ _ hp => hb.cell (p := ⟨_, _, none⟩) hp
theorem RdNods.drewN (h : RdNods w B A ns) (q : Nat) : RdNods (w.drewN q) B A ns := h
theorem RdNods.more (h : RdNods w B A ns) (hB : B ≤ B') : RdNods w B' A ns := by
  obtain ⟨cs, h1, h2, h3⟩ := h
  refine ⟨cs, h1.more hB, h2, fun k s hs => ?_⟩
  obtain ⟨x, hx, h4⟩ := h3 k s hs
  exact ⟨x, hx, h4.more hB⟩
theorem RdNods.nil_ : RdNods w B A [] := ⟨[], Rd.nil_, rfl, fun k s h => by simp at h⟩
theorem RdNods.at_ {k : Nat} {n : Nod} (h : RdNods w B A ns) (hs : ns[k]? = some n) : ∃ b o Am cm An cn, A = some ⟨b, o, none⟩ ∧ b < B ∧
    w.cell? ⟨b, o + k * 10, none⟩ = some (.int .i64 n.kind) ∧ w.cell? ⟨b, o + k * 10 + 1, none⟩ = some (.int .i64 n.op) ∧ w.cell? ⟨b, o + k * 10 + 2, none⟩ = some (.string n.text) ∧
    w.cell? ⟨b, o + k * 10 + 3, none⟩ = some (.slice Am n.mat.length cm) ∧ w.cell? ⟨b, o + k * 10 + 4, none⟩ = some (.int .i64 n.width) ∧ w.cell? ⟨b, o + k * 10 + 5, none⟩ = some (.int .i64 n.back) ∧
    w.cell? ⟨b, o + k * 10 + 6, none⟩ = some (.int .i64 n.grp) ∧ w.cell? ⟨b, o + k * 10 + 7, none⟩ = some (.slice An n.names.length cn) ∧ w.cell? ⟨b, o + k * 10 + 8, none⟩ = some (.bool n.cmp) ∧ w.cell? ⟨b, o + k * 10 + 9, none⟩ = some (.int .i64 n.parts) ∧
    Rd w B 3 Am (matsC n.mat) ∧ Rd w B 1 An (textsC n.names) ∧ n.mat.length ≤ cm ∧ cm ≤ maxLen ∧ n.names.length ≤ cn ∧ cn ≤ maxLen := by
  obtain ⟨cs, h1, h2, h3⟩ := h
  obtain ⟨x, hx, Am, cm, An, cn, rfl, hr⟩ := h3 k n hs
  obtain ⟨b, o, e, hb, hc⟩ := h1.2 (by rintro rfl; simp at hx)
  exact ⟨b, o, Am, cm, An, cn, e, hb, by simpa using hc k _ 0 _ hx rfl, by simpa using hc k _ 1 _ hx rfl, by simpa using hc k _ 2 _ hx rfl, by simpa using hc k _ 3 _ hx rfl, by simpa using hc k _ 4 _ hx rfl, by simpa using hc k _ 5 _ hx rfl, by simpa using hc k _ 6 _ hx rfl, by simpa using hc k _ 7 _ hx rfl, by simpa using hc k _ 8 _ hx rfl, by simpa using hc k _ 9 _ hx rfl, hr⟩
end
def nodEq (a b : Nod) : Bool := decide (a.kind = b.kind) && decide (a.op = b.op) && decide (a.text = b.text) && decide (a.mat = b.mat) && decide (a.width = b.width) && decide (a.back = b.back) && decide (a.grp = b.grp) && decide (a.names = b.names) && decide (a.cmp = b.cmp) && decide (a.parts = b.parts)
theorem nodEq_iff {a b : Nod} : nodEq a b = true ↔ a = b := by
  cases a; cases b; simp [nodEq, and_assoc]
instance : DecidableEq Nod := fun a b => if h : nodEq a b = true then isTrue (nodEq_iff.1 h) else isFalse (fun e => h (nodEq_iff.2 e))
end Go.Proofs.Ytdikmklijpcjdaa
