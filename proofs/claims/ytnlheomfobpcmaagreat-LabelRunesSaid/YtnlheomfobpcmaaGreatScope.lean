/- A scope in which the run jumps to one of several labels. -/
import Derived.Test.YtnlheomfobpcmaaGreatMem
import Derived.ScopeJumps
import Derived.WalkMore
namespace Go.Proofs.YtnlheomfobpcmaaGreat
open Go.RowKit

/-- As Q; by a goto to label l: J l. -/
def jumps (J : Nat → Act → World → Prop) (Q : Exit → Act → World → Prop) : Exit → Act → World → Prop
  | .goto l, a, w => J l a w
  | e, a, w => Q e a w

section
variable {P : Program} {a : Act} {w : World} {Q : Exit → Act → World → Prop}
theorem wp_scope_all {c : Code} (J : Nat → Act → World → Prop) (μ : Nat → Act → World → Nat) (rest : Nat → Code) (hf : ∀ l a w, J l a w → findLabel c l = some (rest l))
    (first : c.wp P (jumps J Q) a w)
    (pass : ∀ l a w, J l a w → (rest l).wp P (jumps (fun l' a' w' => J l' a' w' ∧ μ l' a' w' < μ l a w) Q) a w) : (Code.scope c).wp P Q a w := by
  intro b k cs
  have key : ∀ n l a w, μ l a w = n → J l a w → ∃ e a' w', Q e a' w' ∧ Arrives P (lone (b.at a (.code (rest l) :: .inScope c :: k)) cs w) b k cs e a' w' := by
    intro n
    induction n using Nat.strongRecOn with
    | _ n ih =>
      intro l a w hn hJ
      obtain ⟨e, a₁, w₁, hq, harr⟩ := pass l a w hJ b (.inScope c :: k) cs
      cases e with
      | normal => exact ⟨.normal, a₁, w₁, hq, Steps.trans harr (.one step_inScope)⟩
      | exit id => exact ⟨.exit id, a₁, w₁, hq, fun k' hk => harr k' (by simp [exitTo, hk])⟩
      | goto l' =>
        obtain ⟨hJ', hlt⟩ := hq
        have hg : gotoIn l' (.inScope c :: k) = some (.code (rest l') :: .inScope c :: k) := by simp [gotoIn, hf l' _ _ hJ']
        obtain ⟨e₂, a₂, w₂, hq₂, harr₂⟩ := ih _ (by omega) l' a₁ w₁ rfl hJ'
        exact ⟨e₂, a₂, w₂, hq₂, .of_steps (harr _ hg) harr₂⟩
      | ret => exact ⟨_, a₁, w₁, hq, harr⟩
      | panic ch => exact ⟨_, a₁, w₁, hq, harr⟩
      | outgrown => exact ⟨_, a₁, w₁, hq, harr⟩
  obtain ⟨e, a₁, w₁, hq, harr⟩ := first b (.inScope c :: k) cs
  cases e with
  | normal => exact ⟨.normal, a₁, w₁, hq, .head step_scope (Steps.trans harr (.one step_inScope))⟩
  | exit id => exact ⟨.exit id, a₁, w₁, hq, fun k' hk => .head step_scope (harr k' (by simp [exitTo, hk]))⟩
  | goto l' =>
    have hJ' : J l' a₁ w₁ := hq
    have hg : gotoIn l' (.inScope c :: k) = some (.code (rest l') :: .inScope c :: k) := by simp [gotoIn, hf l' _ _ hJ']
    obtain ⟨e₂, a₂, w₂, hq₂, harr₂⟩ := key _ l' a₁ w₁ rfl hJ'
    exact ⟨e₂, a₂, w₂, hq₂, .of_steps (.head step_scope (harr _ hg)) harr₂⟩
  | ret => exact ⟨_, a₁, w₁, hq, .of_steps (.one step_scope) harr⟩
  | panic ch => exact ⟨_, a₁, w₁, hq, .of_steps (.one step_scope) harr⟩
  | outgrown => exact ⟨_, a₁, w₁, hq, .of_steps (.one step_scope) harr⟩
/-- As above; a label that is come to from ahead counts as a jump. -/
theorem wp_scope_fall {c : Code} (J : Nat → Act → World → Prop) (μ : Nat → Act → World → Nat) (body : Nat → Code) (hf : ∀ l a w, J l a w → findLabel c l = some (.seq .skip (body l)))
    (first : (∀ l a w, J l a w → (body l).wp P (jumps J Q) a w) → c.wp P (jumps J Q) a w)
    (pass : ∀ l a w, J l a w → (∀ l' a' w', J l' a' w' → μ l' a' w' < μ l a w → (body l').wp P (jumps (fun l'' a'' w'' => J l'' a'' w'' ∧ μ l'' a'' w'' < μ l a w) Q) a' w') →
      (body l).wp P (jumps (fun l' a' w' => J l' a' w' ∧ μ l' a' w' < μ l a w) Q) a w) : (Code.scope c).wp P Q a w := by
  have key : ∀ n l a w, μ l a w = n → J l a w → (body l).wp P (jumps (fun l' a' w' => J l' a' w' ∧ μ l' a' w' < μ l a w) Q) a w := by
    intro n
    induction n using Nat.strongRecOn with
    | _ n ih =>
      intro l a w hn hJ
      refine pass l a w hJ fun l' a' w' hJ' hlt => ?_
      refine wp_mono (ih _ (by omega) l' a' w' rfl hJ') fun e a'' w'' he => ?_
      cases e with
      | goto l'' => exact ⟨he.1, by have := he.2; omega⟩
      | _ => exact he
  exact wp_scope_all J μ (fun l => .seq .skip (body l)) hf
    (first fun l a w hJ => wp_mono (key _ l a w rfl hJ) fun e a' w' he => by
      cases e with
      | goto l'' => exact he.1
      | _ => exact he)
    fun l a w hJ => wp_seq (wp_skip (key _ l a w rfl hJ))
theorem wp_scope2 {c r0 r1 : Code} (J : Nat → Act → World → Prop) (μ : Nat → Act → World → Nat) (only : ∀ l a w, J l a w → l < 2)
    (hf0 : findLabel c 0 = some (.seq .skip r0)) (hf1 : findLabel c 1 = some (.seq .skip r1))
    (first : (∀ a' w', J 0 a' w' → r0.wp P (jumps J Q) a' w') → (∀ a' w', J 1 a' w' → r1.wp P (jumps J Q) a' w') → c.wp P (jumps J Q) a w)
    (pass0 : ∀ a w, J 0 a w → (∀ a' w', J 0 a' w' → μ 0 a' w' < μ 0 a w → r0.wp P (jumps (fun l'' a'' w'' => J l'' a'' w'' ∧ μ l'' a'' w'' < μ 0 a w) Q) a' w') → (∀ a' w', J 1 a' w' → μ 1 a' w' < μ 0 a w → r1.wp P (jumps (fun l'' a'' w'' => J l'' a'' w'' ∧ μ l'' a'' w'' < μ 0 a w) Q) a' w') → r0.wp P (jumps (fun l' a' w' => J l' a' w' ∧ μ l' a' w' < μ 0 a w) Q) a w)
    (pass1 : ∀ a w, J 1 a w → (∀ a' w', J 0 a' w' → μ 0 a' w' < μ 1 a w → r0.wp P (jumps (fun l'' a'' w'' => J l'' a'' w'' ∧ μ l'' a'' w'' < μ 1 a w) Q) a' w') → (∀ a' w', J 1 a' w' → μ 1 a' w' < μ 1 a w → r1.wp P (jumps (fun l'' a'' w'' => J l'' a'' w'' ∧ μ l'' a'' w'' < μ 1 a w) Q) a' w') → r1.wp P (jumps (fun l' a' w' => J l' a' w' ∧ μ l' a' w' < μ 1 a w) Q) a w) : (Code.scope c).wp P Q a w := by
  refine wp_scope_fall J μ (fun l => match l with | 0 => r0 | _ => r1) ?_ (fun ih => first (ih 0) (ih 1)) ?_
  · intro l a w h
    have hl := only l a w h
    match l, hl with
    | 0, _ => exact hf0
    | 1, _ => exact hf1
  · intro l a w h ih
    have hl := only l a w h
    match l, hl with
    | 0, _ => exact pass0 a w h (ih 0) (ih 1)
    | 1, _ => exact pass1 a w h (ih 0) (ih 1)

theorem wp_scope5 {c r0 r1 r2 r3 r4 : Code} (J : Nat → Act → World → Prop) (μ : Nat → Act → World → Nat) (only : ∀ l a w, J l a w → l < 5)
    (hf0 : findLabel c 0 = some (.seq .skip r0)) (hf1 : findLabel c 1 = some (.seq .skip r1)) (hf2 : findLabel c 2 = some (.seq .skip r2)) (hf3 : findLabel c 3 = some (.seq .skip r3)) (hf4 : findLabel c 4 = some (.seq .skip r4))
    (first : (∀ a' w', J 0 a' w' → r0.wp P (jumps J Q) a' w') → (∀ a' w', J 1 a' w' → r1.wp P (jumps J Q) a' w') → (∀ a' w', J 2 a' w' → r2.wp P (jumps J Q) a' w') → (∀ a' w', J 3 a' w' → r3.wp P (jumps J Q) a' w') → (∀ a' w', J 4 a' w' → r4.wp P (jumps J Q) a' w') → c.wp P (jumps J Q) a w)
    (pass0 : ∀ a w, J 0 a w → (∀ a' w', J 0 a' w' → μ 0 a' w' < μ 0 a w → r0.wp P (jumps (fun l'' a'' w'' => J l'' a'' w'' ∧ μ l'' a'' w'' < μ 0 a w) Q) a' w') → (∀ a' w', J 1 a' w' → μ 1 a' w' < μ 0 a w → r1.wp P (jumps (fun l'' a'' w'' => J l'' a'' w'' ∧ μ l'' a'' w'' < μ 0 a w) Q) a' w') → (∀ a' w', J 2 a' w' → μ 2 a' w' < μ 0 a w → r2.wp P (jumps (fun l'' a'' w'' => J l'' a'' w'' ∧ μ l'' a'' w'' < μ 0 a w) Q) a' w') → (∀ a' w', J 3 a' w' → μ 3 a' w' < μ 0 a w → r3.wp P (jumps (fun l'' a'' w'' => J l'' a'' w'' ∧ μ l'' a'' w'' < μ 0 a w) Q) a' w') → (∀ a' w', J 4 a' w' → μ 4 a' w' < μ 0 a w → r4.wp P (jumps (fun l'' a'' w'' => J l'' a'' w'' ∧ μ l'' a'' w'' < μ 0 a w) Q) a' w') → r0.wp P (jumps (fun l' a' w' => J l' a' w' ∧ μ l' a' w' < μ 0 a w) Q) a w)
    (pass1 : ∀ a w, J 1 a w → (∀ a' w', J 0 a' w' → μ 0 a' w' < μ 1 a w → r0.wp P (jumps (fun l'' a'' w'' => J l'' a'' w'' ∧ μ l'' a'' w'' < μ 1 a w) Q) a' w') → (∀ a' w', J 1 a' w' → μ 1 a' w' < μ 1 a w → r1.wp P (jumps (fun l'' a'' w'' => J l'' a'' w'' ∧ μ l'' a'' w'' < μ 1 a w) Q) a' w') → (∀ a' w', J 2 a' w' → μ 2 a' w' < μ 1 a w → r2.wp P (jumps (fun l'' a'' w'' => J l'' a'' w'' ∧ μ l'' a'' w'' < μ 1 a w) Q) a' w') → (∀ a' w', J 3 a' w' → μ 3 a' w' < μ 1 a w → r3.wp P (jumps (fun l'' a'' w'' => J l'' a'' w'' ∧ μ l'' a'' w'' < μ 1 a w) Q) a' w') → (∀ a' w', J 4 a' w' → μ 4 a' w' < μ 1 a w → r4.wp P (jumps (fun l'' a'' w'' => J l'' a'' w'' ∧ μ l'' a'' w'' < μ 1 a w) Q) a' w') → r1.wp P (jumps (fun l' a' w' => J l' a' w' ∧ μ l' a' w' < μ 1 a w) Q) a w)
    (pass2 : ∀ a w, J 2 a w → (∀ a' w', J 0 a' w' → μ 0 a' w' < μ 2 a w → r0.wp P (jumps (fun l'' a'' w'' => J l'' a'' w'' ∧ μ l'' a'' w'' < μ 2 a w) Q) a' w') → (∀ a' w', J 1 a' w' → μ 1 a' w' < μ 2 a w → r1.wp P (jumps (fun l'' a'' w'' => J l'' a'' w'' ∧ μ l'' a'' w'' < μ 2 a w) Q) a' w') → (∀ a' w', J 2 a' w' → μ 2 a' w' < μ 2 a w → r2.wp P (jumps (fun l'' a'' w'' => J l'' a'' w'' ∧ μ l'' a'' w'' < μ 2 a w) Q) a' w') → (∀ a' w', J 3 a' w' → μ 3 a' w' < μ 2 a w → r3.wp P (jumps (fun l'' a'' w'' => J l'' a'' w'' ∧ μ l'' a'' w'' < μ 2 a w) Q) a' w') → (∀ a' w', J 4 a' w' → μ 4 a' w' < μ 2 a w → r4.wp P (jumps (fun l'' a'' w'' => J l'' a'' w'' ∧ μ l'' a'' w'' < μ 2 a w) Q) a' w') → r2.wp P (jumps (fun l' a' w' => J l' a' w' ∧ μ l' a' w' < μ 2 a w) Q) a w)
    (pass3 : ∀ a w, J 3 a w → (∀ a' w', J 0 a' w' → μ 0 a' w' < μ 3 a w → r0.wp P (jumps (fun l'' a'' w'' => J l'' a'' w'' ∧ μ l'' a'' w'' < μ 3 a w) Q) a' w') → (∀ a' w', J 1 a' w' → μ 1 a' w' < μ 3 a w → r1.wp P (jumps (fun l'' a'' w'' => J l'' a'' w'' ∧ μ l'' a'' w'' < μ 3 a w) Q) a' w') → (∀ a' w', J 2 a' w' → μ 2 a' w' < μ 3 a w → r2.wp P (jumps (fun l'' a'' w'' => J l'' a'' w'' ∧ μ l'' a'' w'' < μ 3 a w) Q) a' w') → (∀ a' w', J 3 a' w' → μ 3 a' w' < μ 3 a w → r3.wp P (jumps (fun l'' a'' w'' => J l'' a'' w'' ∧ μ l'' a'' w'' < μ 3 a w) Q) a' w') → (∀ a' w', J 4 a' w' → μ 4 a' w' < μ 3 a w → r4.wp P (jumps (fun l'' a'' w'' => J l'' a'' w'' ∧ μ l'' a'' w'' < μ 3 a w) Q) a' w') → r3.wp P (jumps (fun l' a' w' => J l' a' w' ∧ μ l' a' w' < μ 3 a w) Q) a w)
    (pass4 : ∀ a w, J 4 a w → (∀ a' w', J 0 a' w' → μ 0 a' w' < μ 4 a w → r0.wp P (jumps (fun l'' a'' w'' => J l'' a'' w'' ∧ μ l'' a'' w'' < μ 4 a w) Q) a' w') → (∀ a' w', J 1 a' w' → μ 1 a' w' < μ 4 a w → r1.wp P (jumps (fun l'' a'' w'' => J l'' a'' w'' ∧ μ l'' a'' w'' < μ 4 a w) Q) a' w') → (∀ a' w', J 2 a' w' → μ 2 a' w' < μ 4 a w → r2.wp P (jumps (fun l'' a'' w'' => J l'' a'' w'' ∧ μ l'' a'' w'' < μ 4 a w) Q) a' w') → (∀ a' w', J 3 a' w' → μ 3 a' w' < μ 4 a w → r3.wp P (jumps (fun l'' a'' w'' => J l'' a'' w'' ∧ μ l'' a'' w'' < μ 4 a w) Q) a' w') → (∀ a' w', J 4 a' w' → μ 4 a' w' < μ 4 a w → r4.wp P (jumps (fun l'' a'' w'' => J l'' a'' w'' ∧ μ l'' a'' w'' < μ 4 a w) Q) a' w') → r4.wp P (jumps (fun l' a' w' => J l' a' w' ∧ μ l' a' w' < μ 4 a w) Q) a w) : (Code.scope c).wp P Q a w := by
  refine wp_scope_fall J μ (fun l => match l with | 0 => r0 | 1 => r1 | 2 => r2 | 3 => r3 | _ => r4) ?_ (fun ih => first (ih 0) (ih 1) (ih 2) (ih 3) (ih 4)) ?_
  · intro l a w h
    have hl := only l a w h
    match l, hl with
    | 0, _ => exact hf0
    | 1, _ => exact hf1
    | 2, _ => exact hf2
    | 3, _ => exact hf3
    | 4, _ => exact hf4
  · intro l a w h ih
    have hl := only l a w h
    match l, hl with
    | 0, _ => exact pass0 a w h (ih 0) (ih 1) (ih 2) (ih 3) (ih 4)
    | 1, _ => exact pass1 a w h (ih 0) (ih 1) (ih 2) (ih 3) (ih 4)
    | 2, _ => exact pass2 a w h (ih 0) (ih 1) (ih 2) (ih 3) (ih 4)
    | 3, _ => exact pass3 a w h (ih 0) (ih 1) (ih 2) (ih 3) (ih 4)
    | 4, _ => exact pass4 a w h (ih 0) (ih 1) (ih 2) (ih 3) (ih 4)

end
end Go.Proofs.YtnlheomfobpcmaaGreat
