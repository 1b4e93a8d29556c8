/- Bytes in memory as a text; parts of a slice. -/
import Derived.Test.YtnlheomfobpcmaaGreatCodS
import Derived.WalkKit
namespace Go.Proofs.YtnlheomfobpcmaaGreat
open Go.RowKit

theorem strOf_map (l : List UInt8) : strOfNums (l.map fun b => (b.toNat : Int)) = mkS l := by
  simp only [strOfNums, mkS, List.map_map]
  congr 2
  conv => rhs; rw [← List.map_id l]
  apply List.map_congr_left
  intro b _
  show UInt8.ofNat (Int.toNat (b.toNat : Int)) = b
  rw [Int.toNat_natCast]
  exact UInt8.toNat_inj.1 (by rw [UInt8.toNat_ofNat']; have := b.toNat_lt; omega)
theorem run_conv_rd {P : Program} {w : World} {B : Nat} {A : Option Addr} {acc : List UInt8} (hr : Rd w B 1 A (bytesC acc)) (src e dst : TypeId) (hs : P.underlying src = some (.slice e)) (he : P.underlying e = some (.int .u8)) (hd : P.underlying dst = some .string) (n c : Nat) (hn : acc.length = n) (hA : acc = [] → A = none ∨ ∃ b o, A = some ⟨b, o, none⟩) :
    (convert src dst (.slice A n c)).run P w = .ok (.string (mkS acc)) w := by
  have key : ∀ b o, A = some ⟨b, o, none⟩ → (convert src dst (.slice A n c)).run P w = .ok (.string (mkS acc)) w := by
    rintro b o rfl
    rw [← strOf_map]
    refine run_convert_bytes_arg (P := P) w src e hs he b o n c _ (by simpa using hn) (fun i hi => ?_) dst hd
    have hi' : i < acc.length := by omega
    obtain ⟨b', o', e', _, hc⟩ := hr.at1 (k := i) (v0 := .int .u8 ((acc[i]'hi').toNat : Int)) (by simp [bytesC, hi'])
    injection e' with e'; injection e' with e1 e2; subst e1 e2
    rw [hc]; simp [hi']
  cases hacc : acc with
  | nil =>
    rcases hA hacc with rfl | ⟨b, o, h⟩
    · have := run_convert_bytes_nil (P := P) w src e hs he n c dst hd
      exact this
    · rw [← hacc]; exact key b o h
  | cons x r =>
    obtain ⟨b, o, h, _, _⟩ := hr.2 (by rw [hacc]; simp [bytesC])
    rw [← hacc]; exact key b o h
theorem Rd.take {w : World} {B sz : Nat} {A : Option Addr} {xs : List (List Value)} (h : Rd w B sz A xs) (n : Nat) : Rd w B sz A (xs.take n) := by
  refine ⟨fun x hx => h.1 x (List.mem_of_mem_take hx), fun hn => ?_⟩
  obtain ⟨b, o, e, hb, hc⟩ := h.2 (by rintro rfl; simp at hn)
  refine ⟨b, o, e, hb, fun k x j v hx hv => ?_⟩
  by_cases hk : k < n
  · rw [List.getElem?_take, if_pos hk] at hx
    exact hc k x j v hx hv
  · rw [List.getElem?_take, if_neg hk] at hx; cases hx

theorem Rd.dropk {w : World} {B b o : Nat} {xs : List (List Value)} (h : Rd w B 1 (some ⟨b, o, none⟩) xs) (q : Nat) : Rd w B 1 (some ⟨b, o + q, none⟩) (xs.drop q) := by
  refine ⟨fun x hx => h.1 x (List.mem_of_mem_drop hx), fun hn => ?_⟩
  obtain ⟨b', o', e, hb, hc⟩ := h.2 (by rintro rfl; simp at hn)
  injection e with e
  injection e with e1 e2
  subst e1 e2
  refine ⟨b, o + q, rfl, hb, fun k x j v hx hv => ?_⟩
  have := hc (q + k) x j v (by rw [List.getElem?_drop] at hx; exact hx) hv
  rw [show o + q + k * 1 + j = o + (q + k) * 1 + j from by omega]
  exact this
end Go.Proofs.YtnlheomfobpcmaaGreat
