/- What an argument reads as: texts within reach, lists of bytes. -/
import Derived.Test.YtnlheomfobpcmaaGreatOpen
import Derived.Test.YtnlheomfobpcmaaGreatRows
import Derived.Test.YtnlheomfobpcmaaGreatMem2
namespace Go.Proofs.YtnlheomfobpcmaaGreat
open Go.ChangeShapes Go.WideShapes Go.ChangeAt Go.RowKit

theorem Tryz.own : ownKnob Tryz.prog.godebug = none := by kernel_rfl
theorem Tryz.laidOut : laidOutB Tryz.prog = true := by kernel_rfl
theorem reach_val : reachBytes = 140737488351232 := by decide +kernel
theorem le_reach {n : Nat} (h : n ≤ reachBytes) : n ≤ 140737488351232 := reach_val ▸ h
section
variable {H : Type} {enc : TypeId × Value → H} {P : Program} {w : World}
theorem got_stringF {t : TypeId} {v : Value} {d : DataW H} (ht : P.underlying t = some .string) (h : Got enc P w t [v] d) (hf : Fits P t d) : ∃ s : ByteArray, v = .string s ∧ s.size ≤ reachBytes := by
  obtain ⟨fuel, ps, hg⟩ := h
  obtain ⟨s, hs, hd, hm⟩ := DataW.trod_string ht hg
  refine ⟨s, by simpa using hs, ?_⟩
  simp only [Prod.mk.injEq] at hd
  have := hf s.size (by rw [hd.1]; simp [DataW.weights])
  exact this
end
section
variable {H : Type} {enc : TypeId × Value → H} {w : World}
theorem u8_wf {v : Int} (h : (Lit.int .u8 v).wf = true) : 0 ≤ v ∧ v < 256 := by
  have h2 : IntKind.u8.min ≤ v ∧ v ≤ IntKind.u8.max := by simpa [Lit.wf] using h
  have e1 : IntKind.u8.min = 0 := by decide +kernel
  have e2 : IntKind.u8.max = 255 := by decide +kernel
  omega
theorem got_bytes {v : Value} {d : DataW H} (h : Got enc Tryz.prog w 26 [v] d) (hf : Fits Tryz.prog 26 d) :
    ∃ A c, ∃ l : List UInt8, v = .slice A l.length c ∧ l.length ≤ c ∧ c ≤ maxLen ∧ l.length * 1 ≤ reachBytes ∧ Rd w w.heap.size 1 A (bytesC l) := by
  obtain ⟨A, n, c, es, hv, h1, h2, h3, h4, h5, h6⟩ := got_slice Tryz.underlying26 (by kernel_rfl : _ = 1) (by kernel_rfl : _ = 1) (by omega) h hf
  obtain ⟨l, rfl, _⟩ := list_choose (f := fun c : UInt8 => [Value.int .u8 (c.toNat : Int)]) (p := fun _ => True) (fun x hx => by
    obtain ⟨d', g, f⟩ := h6 x hx
    have hl := h5.1 x hx
    match x, hl, g with
    | [u], _, g =>
      obtain ⟨q, rfl, hw⟩ := got_int Tryz.underlying5 g
      have := u8_wf hw
      refine ⟨UInt8.ofNat q.toNat, ?_, trivial⟩
      rw [UInt8.toNat_ofNat']
      congr 2; omega)
  obtain rfl : l.length = n := by simpa using h4
  exact ⟨A, c, l, by simpa using hv, h1, h2, h3, h5⟩
end
end Go.Proofs.YtnlheomfobpcmaaGreat
