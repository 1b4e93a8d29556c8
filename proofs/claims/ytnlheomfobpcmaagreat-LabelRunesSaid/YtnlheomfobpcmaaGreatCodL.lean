/- A text's bytes behind a list of bytes. -/
import Derived.Test.YtnlheomfobpcmaaGreatCodS
import Derived.Lib.AppendStr
namespace Go.Proofs.YtnlheomfobpcmaaGreat
open Go.RowKit

theorem bytesC_flat (l : List UInt8) : (bytesC l).flatten = l.map fun c => Value.int .u8 (c.toNat : Int) := by
  induction l with
  | nil => rfl
  | cons c r ih => simp [bytesC] at ih ⊢; exact ih
theorem bytesC_app (a b : List UInt8) : bytesC (a ++ b) = bytesC a ++ bytesC b := by simp [bytesC]
theorem bytesC_length (l : List UInt8) : (bytesC l).length = l.length := by simp [bytesC]
theorem Own.of_row {w : World} {base n : Nat} {e : TypeId} {v : Value} {l : List UInt8} (hl : l.length = n) (h : w.ownsRow base e 1 v n (l.map fun c => Value.int .u8 (c.toNat : Int))) : ∃ A c, v = .slice A n c ∧ Own w base e 1 A n c (bytesC l) := by
  have hb : ∀ x ∈ bytesC l, x.length = 1 := by
    intro x hx
    obtain ⟨c, _, rfl⟩ := List.mem_map.1 hx
    rfl
  have hn : (bytesC l).length = n := by rw [bytesC_length, hl]
  rcases h.2 with ⟨hv, h0⟩ | ⟨g, cap, cur, hv, _⟩
  · subst hv h0
    exact ⟨none, 0, rfl, by omega, hb, hn, by rw [bytesC_flat]; exact h⟩
  · subst hv
    exact ⟨_, cap, rfl, by omega, hb, hn, by rw [bytesC_flat]; exact h⟩
theorem wpList_append_text {P : Program} {w : World} {ops : Array Oper} {rest : List Oper} {o : Oper} {a : Act} {Q : Exit → Act → World → Prop} (hgd : o.guard = none) (sl x : Operand) (t u : TypeId)
    (ho : o.op = .call { callee := .builtin .append, args := #[sl, x], argTypes := #[t, u] }) {e : TypeId}
    (ht : P.underlying t = some (.slice e)) (hu : P.underlying u = some .string) (hi : (P.info? e).map (fun i => (i.zero, i.size, i.bytes)) = some (some (.int .u8 0), 1, 1))
    {base : Nat} {A : Option Addr} {n c : Nat} {l : List UInt8} (hs : a.eval sl = .slice A n c) (hown : Own w base e 1 A n c (bytesC l)) {s : ByteArray} (hx : a.eval x = .string s)
    (hbytes : n + s.size ≤ 140737488355328) (hbase : base ≤ w.heap.size)
    (h : ∀ A' c' w', Own w' base e 1 A' (n + s.size) c' (bytesC (l ++ s.data.toList)) → w.grownBy w' (A.map Addr.block) → Below base w w' → wpList P ops Q rest (a.put o.dst (.slice A' (n + s.size) c')) w') : wpList P ops Q (o :: rest) a w := by
  obtain ⟨i, z, h1, h2, h3⟩ : ∃ i, P.info? e = some i ∧ i.zero = some (.int .u8 0) ∧ i.size = 1 ∧ i.bytes = 1 := by
    cases hp : P.info? e with
    | none => rw [hp] at hi; simp at hi
    | some i =>
      rw [hp] at hi
      simp at hi
      exact ⟨i, rfl, hi.1, hi.2.1, hi.2.2⟩
  have hln : l.length = n := by rw [← bytesC_length]; exact hown.len
  have hrow := hown.2.2.2
  rw [bytesC_flat] at hrow
  have hob : (Value.slice A n c).ownBlock = A.map Addr.block := by cases A <;> rfl
  refine Lib.wpList_append_own_string w hgd sl x t u ho base e i ht hu z h1 h2 h3 (.slice A n c) n _ hs hrow s hx (by simp only [maxLen]; omega) hbytes hbase ?_
  intro v' w' hr hg _
  have hr2 : w'.ownsRow base e 1 v' (n + s.size) ((l ++ s.data.toList).map fun c => Value.int .u8 (c.toNat : Int)) := by
    rw [List.map_append]; exact hr
  obtain ⟨A', c', rfl, hO⟩ := Own.of_row (by rw [List.length_append, hln, Lib.size_eq]) hr2
  rw [hob] at hg
  exact h A' c' w' hO hg ((Below.refl base w).grown hg hbase fun k hk => (hown.block hk).1)
end Go.Proofs.YtnlheomfobpcmaaGreat
