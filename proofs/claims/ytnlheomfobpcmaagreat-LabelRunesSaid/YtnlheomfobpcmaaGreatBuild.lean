/- strings.Builder: a byte, a text written. -/
import Derived.Test.YtnlheomfobpcmaaGreatShelfLab
import Derived.Test.YtnlheomfobpcmaaGreatMem2
namespace Go.Proofs.YtnlheomfobpcmaaGreat
open Go.RowKit

set_option maxRecDepth 100000 in
set_option maxHeartbeats 1000000 in
theorem copyCheck_used (b : Nat) (w : World) (h0 : w.cell? ⟨b, 0, none⟩ = some (.pointer (some ⟨b, 0, none⟩))) :
    Calls Tryz.prog 72 #[.pointer (some ⟨b, 0, none⟩)] w fun e w' => e = .returned (.tuple #[]) ∧ w' = w := by
  have hs : (Tryz.prog.info? 62).map (·.size) = some 2 := by kernel_rfl
  obtain ⟨j, hj, _⟩ := Option.map_eq_some_iff.1 hs
  have hnq := fun W => Lib.run_neq_ptr_same (P := Tryz.prog) W ⟨b, 0, none⟩ Tryz.underlying60 hj
  go_enter Tryz.func72, Tryz.ntmps72
  go_wp2_with (simp only [hnq])
  go_end0
  exact ⟨rfl, rfl⟩
set_option maxRecDepth 100000 in
set_option maxHeartbeats 1000000 in
theorem copyCheck_fresh (b : Nat) (w : World) (h0 : w.cell? ⟨b, 0, none⟩ = some (.pointer none)) (hsh : w.shape? b = some (62, 2)) (hfz : w.frozen? ⟨b, 0, none⟩ = false) :
    Calls Tryz.prog 72 #[.pointer (some ⟨b, 0, none⟩)] w fun e w' => e = .returned (.tuple #[]) ∧ w' = w.setCell ⟨b, 0, none⟩ (.pointer (some ⟨b, 0, none⟩)) := by
  have hs : (Tryz.prog.info? 62).map (·.size) = some 2 := by kernel_rfl
  obtain ⟨j, hj, hjs⟩ := Option.map_eq_some_iff.1 hs
  have hto := Lib.run_to_unsafe (P := Tryz.prog) w ⟨b, 0, none⟩ Tryz.underlying60 Tryz.underlying109 hj (by rw [hjs]; decide) hsh (Nat.zero_lt_succ 1)
  have hfrom := Lib.run_from_unsafe (P := Tryz.prog) w ⟨b, 0, none⟩ Tryz.underlying109 Tryz.underlying60 hj hsh (by kernel_rfl)
  have hne : (callFunc 80 #[.pointer (some ⟨b, 0, none⟩)]).run Tryz.prog w = .ok (.value (.pointer (some ⟨b, 0, none⟩))) w := by
    rw [run_callFunc_extern Tryz.func80 (by kernel_rfl) (by kernel_rfl) (by kernel_rfl) (e := Extern.AbiNoEscape.same) (by kernel_rfl), Lib.run_noEscape]
    rfl
  go_enter Tryz.func72, Tryz.ntmps72
  go_wp2_with (simp only [hto, hfrom, hne])
  go_end0
  exact ⟨rfl, rfl⟩
/-- A builder's own type and its bytes'. -/
abbrev BuildAt (B b : Nat) (p : Value) (bs : List Value) (w : World) : Prop := Lib.BuilderAt 62 5 B b p bs w
abbrev IsBuild (B b : Nat) (bs : List Value) (w : World) : Prop := Lib.IsBuilder 62 5 B b bs w
/-- Blocks that are no bytes, beside the builder's own, stay. -/
def Spares (b : Nat) (w w' : World) : Prop := ∀ (T : Nat) cs e fr, w.heap[T]? = some (.cells cs e fr) → T ≠ b → e ≠ 5 → w'.heap[T]? = w.heap[T]?
theorem Spares.refl (b : Nat) (w : World) : Spares b w w := fun _ _ _ _ _ _ _ => rfl
theorem own_spare {w : World} {B n T : Nat} {v : Value} {xs : List Value} (h : w.ownsRow B 5 1 v n xs) {cs : Array Value} {e : TypeId} {fr : Nat × Nat} (hT : w.heap[T]? = some (.cells cs e fr)) (he : e ≠ 5) : some T ≠ v.ownBlock := by
  rcases h.2 with ⟨hv, _⟩ | ⟨g, cap, cur, hv, _, hg, _⟩
  · rw [hv]; simp [Value.ownBlock]
  · rw [hv]
    intro e'
    simp [Value.ownBlock] at e'
    subst e'
    rw [hT] at hg
    injection hg with hg
    injection hg with _ ht
    exact he ht
theorem spares_write {b B n : Nat} {w w1 w2 : World} {v v' : Value} {xs : List Value} (h1 : Spares b w w1) (ho : w1.ownsRow B 5 1 v n xs) (hg : w1.grownBy w2 v.ownBlock) : Spares b w (w2.setCell ⟨b, 1, none⟩ v') := by
  intro T cs e fr hT hne he
  have h2 := (h1 T cs e fr hT hne he).trans hT
  rw [Below.heap_setCell w2 ⟨b, 1, none⟩ v' T hne, hg.block T (Array.getElem?_eq_some_iff.1 h2).1 (own_spare ho h2 he), h2, hT]
theorem copyCheck_any (B b : Nat) (bs : List Value) (w : World) (h : IsBuild B b bs w) :
    Calls Tryz.prog 72 #[.pointer (some ⟨b, 0, none⟩)] w fun e w' => e = .returned (.tuple #[]) ∧ BuildAt B b (.pointer (some ⟨b, 0, none⟩)) bs w' ∧ Below B w w' ∧ Spares b w w' := by
  rcases h with h | h
  · refine (copyCheck_fresh b w h.cell0 h.shape h.frozen0).mono ?_
    rintro e w' ⟨rfl, rfl⟩
    exact ⟨rfl, h.used _, (Below.refl B w).setCell (p := ⟨b, 0, none⟩) h.1 _, fun T _ _ _ _ hne _ => Below.heap_setCell w ⟨b, 0, none⟩ _ T hne⟩
  · refine (copyCheck_used b w h.cell0).mono ?_
    rintro e w' ⟨rfl, rfl⟩
    exact ⟨rfl, h, Below.refl B _, Spares.refl _ _⟩
theorem byte_info : ∃ i, Tryz.prog.info? 5 = some i ∧ i.zero = some (.int .u8 0) ∧ i.size = 1 ∧ i.bytes = 1 := info_parts (by kernel_rfl)
/-- Behind a growth of the buffer the new buffer is laid into the builder. -/
theorem build_put {B b : Nat} {bs cs : List Value} {v v' : Value} {W w2 : World} (hB : B ≤ b) (hbk : W.heap[b]? = some (.cells #[.pointer (some ⟨b, 0, none⟩), v] 62 (0, 0))) (hne : v.ownBlock ≠ some b)
    (hg : W.grownBy w2 v.ownBlock) (hown : w2.ownsRow B 5 1 v' (bs ++ cs).length (bs ++ cs)) :
    w2.cell? ⟨b, 0, none⟩ = some (.pointer (some ⟨b, 0, none⟩)) ∧ w2.cell? ⟨b, 1, none⟩ = some v ∧ w2.frozen? ⟨b, 1, none⟩ = false ∧ BuildAt B b (.pointer (some ⟨b, 0, none⟩)) (bs ++ cs) (w2.setCell ⟨b, 1, none⟩ v') := by
  have hlt : b < W.heap.size := (Array.getElem?_eq_some_iff.1 hbk).1
  have hb2 : w2.heap[b]? = some (.cells #[.pointer (some ⟨b, 0, none⟩), v] 62 (0, 0)) := (hg.block b hlt (fun e => hne e.symm)).trans hbk
  exact ⟨by rw [Lib.cell_of_heap hb2]; rfl, by rw [Lib.cell_of_heap hb2]; rfl, Lib.frozen_of_heap hb2 1, Lib.BuilderAt.put hB hb2 hown (by decide)⟩
theorem owns_form {w : World} {B size n : Nat} {e : TypeId} {v : Value} {xs : List Value} (h : w.ownsRow B e size v n xs) : ∃ ao cap, v = .slice ao n cap := by
  rcases h.2 with ⟨hv, h0⟩ | ⟨g, cap, cur, hv, _⟩
  · exact ⟨none, 0, by rw [hv, h0]⟩
  · exact ⟨_, _, hv⟩
set_option maxRecDepth 100000 in
set_option maxHeartbeats 2000000 in
theorem writeString_any (B b : Nat) (bs : List Value) (s : ByteArray) (w : World) (h : IsBuild B b bs w) (hlen : bs.length + s.size ≤ 140737488355328) (hBw : B ≤ w.heap.size) :
    Calls Tryz.prog 45 #[.pointer (some ⟨b, 0, none⟩), .string s] w fun e w' => (∃ v, e = .returned v) ∧ BuildAt B b (.pointer (some ⟨b, 0, none⟩)) (bs ++ Lib.strCells s) w' ∧ Below B w w' ∧ Spares b w w' := by
  obtain ⟨i0, hi, hz0, hz1, hz2⟩ := byte_info
  have HC := Lib.hid (copyCheck_any B b bs w h)
  clear h
  go_enter Tryz.func45, Tryz.ntmps45
  go_wp2_with fail
  refine (HC.out).mono ?_
  rintro e w1 ⟨rfl, hbat, hb1, hsp⟩
  obtain ⟨hB, v, hbk, hown, hne⟩ := hbat
  have HSP := Lib.hid hsp
  clear hsp
  have c0 : w1.cell? ⟨b, 0, none⟩ = some (.pointer (some ⟨b, 0, none⟩)) := by rw [Lib.cell_of_heap hbk]; rfl
  have c1 : w1.cell? ⟨b, 1, none⟩ = some v := by rw [Lib.cell_of_heap hbk]; rfl
  clear HC
  go_wp2_with (at_builtin; refine Lib.wpList_append_own_string _ rfl (.tmp 12) (.tmp 13) 26 9 rfl B 5 i0 Tryz.underlying26 Tryz.underlying9 hi hz0 hz1 hz2 _ _ _ rfl hown s rfl (by simp only [maxLen]; omega) (by omega) (by have := hb1.size; omega) ?_; intro v' w2 hown' hgrow _; obtain ⟨d0, d1, f1, hput⟩ := build_put (bs := bs) (cs := Lib.strCells s) hB hbk hne hgrow (by rw [List.length_append, Lib.strCells_length]; exact hown'); have hbz := ((hb1.grown hgrow (by have := hb1.size; omega) (fun k hk => (hown.lt k hk).1))).setCell (p := ⟨b, 1, none⟩) hB v'; have hspw : Spares b w (w2.setCell ⟨b, 1, none⟩ v') := spares_write HSP.out hown hgrow; obtain ⟨ao, cap, rfl⟩ := owns_form hown')
  refine bodyPost_ret (results_tmp2 rfl _ _ _) rfl ?_
  exact ⟨⟨_, rfl⟩, hput, hbz, hspw⟩
set_option maxRecDepth 100000 in
set_option maxHeartbeats 2000000 in
theorem writeByte_any (B b : Nat) (bs : List Value) (c : Int) (w : World) (h : IsBuild B b bs w) (hlen : bs.length + 1 ≤ 140737488355328) (hBw : B ≤ w.heap.size) :
    Calls Tryz.prog 44 #[.pointer (some ⟨b, 0, none⟩), .int .u8 c] w fun e w' => (∃ v, e = .returned v) ∧ BuildAt B b (.pointer (some ⟨b, 0, none⟩)) (bs ++ [.int .u8 c]) w' ∧ Below B w w' ∧ Spares b w w' := by
  obtain ⟨i0, hi, hz0, hz1, hz2⟩ := byte_info
  have HC := Lib.hid (copyCheck_any B b bs w h)
  clear h
  go_enter Tryz.func44, Tryz.ntmps44
  go_wp2_with fail
  refine (HC.out).mono ?_
  rintro e w1 ⟨rfl, hbat, hb1, hsp⟩
  obtain ⟨hB, v, hbk, hown, hne⟩ := hbat
  have HSP := Lib.hid hsp
  clear hsp
  have c0 : w1.cell? ⟨b, 0, none⟩ = some (.pointer (some ⟨b, 0, none⟩)) := by rw [Lib.cell_of_heap hbk]; rfl
  have c1 : w1.cell? ⟨b, 1, none⟩ = some v := by rw [Lib.cell_of_heap hbk]; rfl
  have hlt : b < w1.heap.size := (Array.getElem?_eq_some_iff.1 hbk).1
  have hbk2 : (w1.alloc (.cells #[.int .u8 c] 5)).heap[b]? = some (.cells #[.pointer (some ⟨b, 0, none⟩), v] 62 (0, 0)) := (Below.heap_alloc w1 _ b hlt).trans hbk
  have hba : Below B w (w1.alloc (.cells #[.int .u8 c] 5)) := hb1.alloc (by have := hb1.size; omega) _
  clear HC
  go_wp2_with (at_builtin; refine wpList_append_own _ rfl (.tmp 11) (.tmp 13) 26 rfl B 5 i0 (.int .u8 0) 1 1 Tryz.underlying26 hi hz0 hz1 hz2 rfl (by decide) _ _ _ rfl (hown.alloc _) ⟨w1.heap.size, 0, none⟩ 1 1 [.int .u8 c] rfl rfl ?c1 ?c2 (by simp only [maxLen]; omega) (by omega) (by have := hb1.size; simp; omega) ?_; (case c1 => (intro j u hj; match j, hj with | 0, hj => (simp at hj; subst hj; simp [Addr.add]))); (case c2 => (intro u hu; simp at hu; subst hu; rfl)); intro v' w2 hown' hgrow _; obtain ⟨d0, d1, f1, hput⟩ := build_put (bs := bs) (cs := [.int .u8 c]) hB hbk2 hne hgrow (by simpa using hown'); have hbz := ((hba.grown hgrow (by have := hba.size; omega) (fun k hk => (hown.lt k hk).1))).setCell (p := ⟨b, 1, none⟩) hB v'; have hspw : Spares b w (w2.setCell ⟨b, 1, none⟩ v') := spares_write (fun T cs e fr hT hne he => (Below.heap_alloc w1 _ T (Array.getElem?_eq_some_iff.1 ((HSP.out T cs e fr hT hne he).trans hT)).1).trans (HSP.out T cs e fr hT hne he)) (hown.alloc _) hgrow; obtain ⟨ao, cap, rfl⟩ := owns_form hown')
  go_ret
  exact ⟨⟨_, rfl⟩, hput, hbz, hspw⟩
end Go.Proofs.YtnlheomfobpcmaaGreat
