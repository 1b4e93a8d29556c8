/- ShowSpans: the text, byte by byte. Plain. -/
import Derived.Test.YtakfnojiaakfpaaGreatDoorShowD
namespace Go.Proofs.YtakfnojiaakfpaaGreatDoor
open Go.RowKit

theorem dd_pos (u : Nat) : 1 ≤ (Lib.decDigits u).length := by
  rw [Lib.decDigits]
  split
  · simp
  · simp
/-- Where the first bracket that closes a span stands. -/
structure SpanAt (s : ByteArray) (u : UInt8) (b : Int) (p : Nat) : Prop where
  lt : p < s.size
  four : 4 ≤ p
  none : ∀ j (h : j < s.size), j < p → s[j].toNat ≠ 93
  here : s[p].toNat = 93
  unit : ∀ h : p - 1 < s.size, s[p - 1] = u
  more : (b ≠ 0 → p + 1 < s.size) ∧ (b = 0 → p + 1 = s.size)
theorem dch_93 : ∀ n : Nat, n < 256 → dchar (UInt8.ofNat n) = true → n ≠ 93 := by decide +kernel
theorem unit_93 (v : Int) : (unitT v).toNat ≠ 93 := by
  unfold unitT
  split
  · decide
  split
  · decide
  split <;> decide
theorem at_list {s : ByteArray} {l : List UInt8} (h : s.data.toList = l) (k : Nat) (hk : k < s.size) : l[k]? = some s[k] := by
  rw [← h, List.getElem?_eq_getElem (by rw [← Lib.size_eq]; exact hk)]
  rfl
theorem spans_at {w b : Int} (hb : 0 ≤ b) : ∃ p, SpanAt (selT (spanN1 w b)) (unitT w) b p := by
  obtain ⟨q, hq⟩ := spanT_unit w
  have hd := dd_pos q
  have key : ∃ R : List UInt8, (selT (spanN1 w b)).data.toList = ([120, 91] ++ Lib.decDigits q ++ [unitT w]) ++ 93 :: R ∧ (b ≠ 0 → R ≠ []) ∧ (b = 0 → R = []) := by
    rw [spans_text]
    by_cases h : 0 < b
    · rw [if_pos h]
      refine ⟨sOffsetB.data.toList ++ (spanT b).data.toList, ?_, fun _ => ?_, fun h2 => by omega⟩
      · simp only [app_data, hq, List.append_assoc]
        rfl
      · rw [show sOffsetB.data.toList = [32, 111, 102, 102, 115, 101, 116, 32] from rfl]
        simp
    · rw [if_neg h]
      refine ⟨[], ?_, fun h2 => by omega, fun _ => rfl⟩
      simp only [app_data, hq, List.append_assoc]
      rfl
  obtain ⟨R, hR, h1, h2⟩ := key
  have hlen : ([120, 91] ++ Lib.decDigits q ++ [unitT w] : List UInt8).length = (Lib.decDigits q).length + 3 := by simp
  have hsz : (selT (spanN1 w b)).size = (Lib.decDigits q).length + 3 + (R.length + 1) := by
    rw [Lib.size_eq, hR, List.length_append, hlen, List.length_cons]
  have hne : ∀ c ∈ ([120, 91] ++ Lib.decDigits q ++ [unitT w] : List UInt8), c.toNat ≠ 93 := by
    intro c hc
    rcases List.mem_append.1 hc with hc | hc
    · rcases List.mem_append.1 hc with hc | hc
      · simp only [List.mem_cons, List.not_mem_nil, or_false] at hc
        rcases hc with rfl | rfl <;> decide
      · have := dch_93 c.toNat c.toNat_lt
        rw [UInt8.ofNat_toNat] at this
        exact this (dd_all q c hc)
    · rw [List.mem_singleton] at hc
      subst hc
      exact unit_93 w
  refine ⟨(Lib.decDigits q).length + 3, ⟨by omega, by omega, fun j h hj => ?_, ?_, fun h => ?_, ?_, ?_⟩⟩
  · have h3 := at_list hR j h
    rw [List.getElem?_append_left (by rw [hlen]; exact hj)] at h3
    exact hne _ (List.mem_of_getElem? h3)
  · have h3 := at_list hR ((Lib.decDigits q).length + 3) (by omega)
    rw [List.getElem?_append_right (by rw [hlen]; exact Nat.le_refl _), hlen, Nat.sub_self] at h3
    injection h3 with h3
    rw [← h3]
    rfl
  · have h3 := at_list hR ((Lib.decDigits q).length + 3 - 1) h
    rw [List.getElem?_append_left (by rw [hlen]; omega), List.getElem?_append_right (by simp)] at h3
    have e : (Lib.decDigits q).length + 3 - 1 - ([120, 91] ++ Lib.decDigits q : List UInt8).length = 0 := by simp
    rw [e] at h3
    injection h3 with h3
    exact h3.symm
  · intro h
    have := List.length_pos_iff.2 (h1 h)
    omega
  · intro h
    rw [hsz, h2 h]
    simp
end Go.Proofs.YtakfnojiaakfpaaGreatDoor
