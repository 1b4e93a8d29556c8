/- Several rows of words, the call's own, in blocks of their own. -/
import Derived.Test.YtbnpleihhbpnlaaDoorWavF
namespace Go.Proofs.YtbnpleihhbpnlaaDoor
open Go.RowKit

structure Row where
  A : Option Addr
  n : Nat
  c : Nat
  l : List Nat
theorem Apart.symm {A B : Option Addr} (h : Apart A B) : Apart B A := by
  rcases h with h | h | h
  · exact .inr (.inl h)
  · exact .inl h
  · exact .inr (.inr fun e => h e.symm)
def Rows (w0 : World) (rs : List Row) (w : World) : Prop :=
  (∀ r ∈ rs, Own w w0.heap.size 26 1 r.A r.n r.c (wrdC r.l)) ∧ rs.Pairwise (fun a b => Apart a.A b.A) ∧ Below w0.heap.size w0 w
section
variable {w0 w w' : World} {rs : List Row} {r : Row}
theorem Rows.alloc (h : Rows w0 rs w) (o : Obj) : Rows w0 rs (w.alloc o) := ⟨fun r hr => (h.1 r hr).alloc o, h.2.1, h.2.2.alloc h.2.2.size o⟩
theorem Rows.after (h : Rows w0 rs w) (hb : Below w.heap.size w w') : Rows w0 rs w' := ⟨fun r hr => (h.1 r hr).belowAll hb, h.2.1, h.2.2.trans (hb.mono h.2.2.size)⟩
theorem Rows.head (h : Rows w0 (r :: rs) w) : Own w w0.heap.size 26 1 r.A r.n r.c (wrdC r.l) := h.1 r (by simp)
/-- The first row has grown; it goes to the end. -/
theorem Rows.grow (h : Rows w0 (r :: rs) w) {A' : Option Addr} {c' x : Nat} (ho : Own w' w0.heap.size 26 1 A' (r.n + 1) c' (wrdC r.l ++ wrdC [x])) (hg : w.grownBy w' (r.A.map Addr.block))
    (hat : (A' = r.A ∧ c' = r.c) ∨ (A' = some ⟨w.heap.size, 0, none⟩ ∧ w.grownBy w' none)) (hb : Below w0.heap.size w w') : Rows w0 (rs ++ [⟨A', r.n + 1, c', r.l ++ [x]⟩]) w' := by
  obtain ⟨h1, h2, h3⟩ := h
  rw [← wrdC_append] at ho
  rw [List.pairwise_cons] at h2
  have key : ∀ r2 ∈ rs, Own w' w0.heap.size 26 1 r2.A r2.n r2.c (wrdC r2.l) ∧ Apart r2.A A' := by
    intro r2 hr2
    have o2 := h1 r2 (List.mem_cons_of_mem _ hr2)
    have ap := h2.1 r2 hr2
    rcases hat with ⟨rfl, rfl⟩ | ⟨rfl, hn⟩
    · refine ⟨o2.grown hg ?_, ap.symm⟩
      rcases ap with h | h | h
      · rw [h]
        cases r2.A with
        | none => exact .inl rfl
        | some a => right; simp
      · exact .inl h
      · exact .inr fun e => h e.symm
    · refine ⟨o2.grown hn ?_, ?_⟩
      · cases r2.A with
        | none => exact .inl rfl
        | some a => right; simp
      · cases hA : r2.A with
        | none => exact .inl rfl
        | some a =>
          refine .inr (.inr ?_)
          intro e
          have := o2.block (b := a.block) (by rw [hA]; rfl)
          simp only [Option.map_some, Option.some.injEq] at e
          omega
  refine ⟨fun r2 hr2 => ?_, ?_, h3.trans hb⟩
  · rcases List.mem_append.1 hr2 with h | h
    · exact (key r2 h).1
    · rw [List.mem_singleton] at h
      subst h
      exact ho
  · rw [List.pairwise_append]
    refine ⟨h2.2, List.pairwise_singleton _ _, fun a ha b hb' => ?_⟩
    rw [List.mem_singleton] at hb'
    subst hb'
    exact (key a ha).2
end
end Go.Proofs.YtbnpleihhbpnlaaDoor
