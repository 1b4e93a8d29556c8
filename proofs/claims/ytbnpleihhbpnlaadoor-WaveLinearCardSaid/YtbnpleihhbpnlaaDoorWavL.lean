/- What the row's list of variables gives: the floats' widths, the road's switch, the powers of ten. -/
import Derived.Test.YtbnpleihhbpnlaaDoorWavG
import Derived.Test.YtbnpleihhbpnlaaDoorFrameC
import Derived.Test.YtbnpleihhbpnlaaDoorRows
namespace Go.Proofs.YtbnpleihhbpnlaaDoor
open Go.ChangeShapes Go.WideShapes Go.ChangeAt Go.RowKit Go.Lib

theorem spot_none {w : World} {b o : Nat} {sp : Option Nat} {v : Value} (h : w.cell? ⟨b, o, sp⟩ = some v) : sp = none := by
  cases sp with
  | none => rfl
  | some x =>
    unfold World.cell? at h
    split at h <;> simp at h
/-- A listed variable, read. -/
def VarHas (w : World) (n : String) (d : DataW Unit) : Prop :=
  ∃ g t cs fuel p, Tryd.prog.globalNamed n = some g ∧ (Tryd.prog.globals[g]?).map (·.type) = some t ∧ w.var? Tryd.prog n = some cs ∧ DataW.trod (fun _ => ()) Tryd.prog w 0 (fun _ => true) false fuel t cs.toList = some (d, p)
theorem varHas_of {w : World} : ∀ {l : List (String × DataW Unit)} {ps : List MemPlace}, DataW.LaidVars Tryd.prog w l ps → ∀ n d, (n, d) ∈ l → VarHas w n d
  | [], _, _, _, _, hm => by cases hm
  | (_, _) :: _, _, h, n, d, hm => by
    obtain ⟨g, t, cs, fuel, p, q, h1, h2, h3, h4, h5, _⟩ := h
    rcases List.mem_cons.1 hm with hm | hm
    · injection hm with e1 e2
      subst e1 e2
      exact ⟨g, t, cs, fuel, p, h1, h2, h3, h4⟩
    · exact varHas_of h5 n d hm
/-- The float nearest to a power of ten. -/
def pow10F (j : Nat) : Nat := Ieee.double.nearest false (10 ^ j) 0
/-- The variables that the reading of a number meets. -/
def FloatMem (w : World) : Prop := w.cell? ⟨5, 0, none⟩ = some (.int .u64 52) ∧ w.cell? ⟨4, 0, none⟩ = some (.bool true) ∧
  ∃ R o c : Nat, w.cell? ⟨8, 0, none⟩ = some (.slice (some ⟨R, o, none⟩) 23 c) ∧ ∀ j, j < 23 → w.cell? ⟨R, o + j, none⟩ = some (.float .f64 (pow10F j))
theorem cell_below {w w' : World} {b o : Nat} {v : Value} (h : w.cell? ⟨b, o, none⟩ = some v) (hb : Below w.heap.size w w') : w'.cell? ⟨b, o, none⟩ = some v :=
  (hb.cell (p := ⟨b, o, none⟩) (World.block_lt_of_cell? w _ h)).trans h
theorem FloatMem.below {w w' : World} (h : FloatMem w) (hb : Below w.heap.size w w') : FloatMem w' := by
  obtain ⟨h1, h2, R, o, c, h3, h4⟩ := h
  exact ⟨cell_below h1 hb, cell_below h2 hb, R, o, c, cell_below h3 hb, fun j hj => cell_below (h4 j hj) hb⟩
theorem FloatMem.drewN {w : World} (h : FloatMem w) (n : Nat) : FloatMem (w.drewN n) := h
theorem trod_float {H : Type} {enc : TypeId × Value → H} {P : Program} {w : World} {base : Nat} {sp : Nat → Bool} {held : Bool} {fuel : Nat} {t : TypeId} {cs : List Value} {x : DataW H × List MemPlace} {k : FloatKind}
    (ht : P.underlying t = some (.float k)) (h : DataW.trod enc P w base sp held fuel t cs = some x) : ∃ n, cs = [.float k n] ∧ x = (.lit (.float k n), []) := by
  cases fuel with
  | zero => simp [DataW.trod] at h
  | succ n =>
    unfold DataW.trod at h
    rw [ht] at h
    split at h <;> simp_all
theorem opt_of {w : World} (h : VarHas w "internal/strconv.optimize" (.lit (.bool true))) : w.cell? ⟨4, 0, none⟩ = some (.bool true) := by
  obtain ⟨g, t, cs, fuel, p, hg, hty, hvar, hd⟩ := h
  obtain rfl := Option.some.inj ((by kernel_rfl : Tryd.prog.globalNamed "internal/strconv.optimize" = some 4).symm.trans hg)
  obtain rfl := Option.some.inj ((by kernel_rfl : (Tryd.prog.globals[4]?).map (·.type) = some 4).symm.trans hty)
  obtain ⟨b, hc, hx⟩ := DataW.trod_bool Tryd.underlying4 hd
  injection hx with hx _
  injection hx with hx
  injection hx with hx
  subst hx
  rw [World.var?_cell hg hvar 0, ← Array.getElem?_toList, hc]; rfl
theorem info_of {w : World} (h : VarHas w "internal/strconv.float64info" (.agg [.lit (.int .u64 52), .lit (.int .u64 11), .lit (.int .i64 (-1023))])) : w.cell? ⟨5, 0, none⟩ = some (.int .u64 52) := by
  obtain ⟨g, t, cs, fuel, p, hg, hty, hvar, hd⟩ := h
  obtain rfl := Option.some.inj ((by kernel_rfl : Tryd.prog.globalNamed "internal/strconv.float64info" = some 5).symm.trans hg)
  obtain rfl := Option.some.inj ((by kernel_rfl : (Tryd.prog.globals[5]?).map (·.type) = some 89).symm.trans hty)
  obtain ⟨xs, n, _, hx, hl, hxl, hf⟩ := DataW.trod_struct Tryd.underlying89 hd
  have h0 := hf 0 _ rfl
  injection hx with hx _
  injection hx with hx
  obtain ⟨b, hb⟩ : ∃ b, xs[0]? = some b := by
    cases xs with
    | nil => simp at hx
    | cons y ys => exact ⟨y, rfl⟩
  rw [hb] at h0
  obtain ⟨m, hc, hbz, _⟩ := DataW.trod_int Tryd.underlying61 h0
  have hm : m = 52 := by
    have h1 : (xs.map (·.1))[0]? = some b.1 := by rw [List.getElem?_map, hb]; rfl
    rw [← hx, hbz] at h1
    simp at h1
    exact h1.symm
  subst hm
  rw [World.var?_cell hg hvar 0, ← Array.getElem?_toList]
  have := congrArg (·[0]?) hc
  have h2 : 0 < Tryd.prog.cellsOf 61 ∧ cs.toList[0]? = some (Value.int .u64 52) := by simpa [List.getElem?_take, List.getElem?_drop] using this
  exact h2.2
theorem pow_of {w : World} {l : List Nat} (hl : 0 < l.length) (h : VarHas w "internal/strconv.float64pow10" (.slice (l.map fun (x : Nat) => .lit (.float .f64 x)) [])) :
    ∃ R o c : Nat, w.cell? ⟨8, 0, none⟩ = some (.slice (some ⟨R, o, none⟩) l.length c) ∧ ∀ j, j < l.length → w.cell? ⟨R, o + j, none⟩ = some (.float .f64 (l.getD j 0)) := by
  obtain ⟨g, t, cs, fuel, p, hg, hty, hvar, hd⟩ := h
  obtain rfl := Option.some.inj ((by kernel_rfl : Tryd.prog.globalNamed "internal/strconv.float64pow10" = some 8).symm.trans hg)
  obtain rfl := Option.some.inj ((by kernel_rfl : (Tryd.prog.globals[8]?).map (·.type) = some 128).symm.trans hty)
  have hc : Tryd.prog.cellsOf 25 = 1 := by kernel_rfl
  rcases DataW.trod_slice Tryd.underlying128 hd with ⟨_, hx⟩ | ⟨a, len, cap, el, rs, m, rfl, hcs, hx, _, hlc, _, hel, helem, hsp, _⟩
  · cases hx
  have e0 := congrArg Prod.fst hx
  simp only [DataW.slice.injEq] at e0
  obtain ⟨eE, eR⟩ := e0
  have hlen : len = l.length := by
    have := congrArg List.length eE
    simp at this
    omega
  have hcell : ∀ i, i < l.length → w.cell? (a.add i) = some (.float .f64 (l.getD i 0)) := by
    intro i hi
    have h1 := helem i (by omega)
    rw [hc] at h1
    obtain ⟨b, hb⟩ : ∃ b, el[i]? = some b := ⟨el[i]'(by omega), List.getElem?_eq_getElem (by omega)⟩
    rw [hb] at h1
    obtain ⟨ce, hce, hte⟩ := Option.bind_eq_some_iff.1 h1
    obtain ⟨z, hz, hbz⟩ := trod_float Tryd.underlying25 hte
    have hb1 : b.1 = .lit (.float .f64 (l.getD i 0)) := by
      have := congrArg (·[i]?) eE
      simp [hb, hi, List.getD] at this
      have e2 : l.getD i 0 = l[i] := by simp [List.getD, List.getElem?_eq_getElem hi]
      rw [e2]
      exact this.symm
    rw [hbz] at hb1
    simp only [DataW.lit.injEq, Lit.float.injEq, true_and] at hb1
    obtain ⟨_, _, hcc⟩ := World.cells?_some hce
    have := hcc 0 (by omega)
    rw [hz] at this
    simp only [Nat.mul_one] at this
    have e1 : (a.add i).add 0 = a.add i := by simp [Addr.add]
    rw [e1] at this
    rw [this, ← hb1]
    rfl
  obtain ⟨R, o, sR⟩ := a
  obtain rfl : sR = none := by
    have h00 := hcell 0 hl
    have : (Addr.add ⟨R, o, sR⟩ 0) = ⟨R, o, sR⟩ := by simp [Addr.add]
    rw [this] at h00
    exact spot_none h00
  refine ⟨R, o, cap, ?_, fun j hj => ?_⟩
  · rw [World.var?_cell hg hvar 0, ← Array.getElem?_toList, hcs, hlen]
    rfl
  · have := hcell j hj
    rwa [Addr.add_lit] at this
def powL : List Nat := (List.range 23).map pow10F
theorem powL_laid : (Rows.laid_internal_strconv_float64pow10 : DataW Unit) = .slice (powL.map fun (x : Nat) => .lit (.float .f64 x)) [] := by kernel_rfl
theorem floatMem_of {w : World} {l : List (String × DataW Unit)} (h : laidMet Tryd.prog l w) (m1 : ("internal/strconv.float64info", Rows.laid_internal_strconv_float64info) ∈ l) (m2 : ("internal/strconv.optimize", Rows.laid_internal_strconv_optimize) ∈ l)
    (m3 : ("internal/strconv.float64pow10", Rows.laid_internal_strconv_float64pow10) ∈ l) : FloatMem w := by
  obtain ⟨ps, hv, _⟩ := h
  have r1 := varHas_of hv _ _ m1
  have r2 := varHas_of hv _ _ m2
  have r3 := varHas_of hv _ _ m3
  rw [powL_laid] at r3
  obtain ⟨R, o, c, h1, h2⟩ := pow_of (by decide) r3
  refine ⟨info_of r1, opt_of r2, R, o, c, h1, fun j hj => ?_⟩
  rw [h2 j hj]
  have : powL.getD j 0 = pow10F j := by unfold powL; rw [List.getD_eq_getElem?_getD, List.getElem?_map, List.getElem?_range hj]; rfl
  rw [this]
end Go.Proofs.YtbnpleihhbpnlaaDoor
