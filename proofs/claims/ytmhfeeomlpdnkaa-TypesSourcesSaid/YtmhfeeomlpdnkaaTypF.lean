/- Types of trees: a node's form, the program's answer. -/
import Derived.Test.YtmhfeeomlpdnkaaTypA
import Derived.Test.YtmhfeeomlpdnkaaLater
namespace Go.Proofs.Ytmhfeeomlpdnkaa
open Go.RowKit

theorem nod_cells {w : World} {T : Nat} {e : TypeId} {x : Nod} {Am An : Option Addr} {cm cn : Nat} (h : Blk w T e (nodC x Am cm An cn)) :
    w.cell? ⟨T, 0, none⟩ = some (.int .i64 x.kind) ∧ w.cell? ⟨T, 1, none⟩ = some (.int .i64 x.op) ∧ w.cell? ⟨T, 2, none⟩ = some (.string x.text) ∧ w.cell? ⟨T, 3, none⟩ = some (.slice Am x.mat.length cm) ∧ w.cell? ⟨T, 4, none⟩ = some (.int .i64 x.width) ∧ w.cell? ⟨T, 5, none⟩ = some (.int .i64 x.back) ∧
    w.cell? ⟨T, 6, none⟩ = some (.int .i64 x.grp) ∧ w.cell? ⟨T, 7, none⟩ = some (.slice An x.names.length cn) ∧ w.cell? ⟨T, 8, none⟩ = some (.bool x.cmp) ∧ w.cell? ⟨T, 9, none⟩ = some (.int .i64 x.parts) :=
  ⟨h.cell rfl, h.cell rfl, h.cell rfl, h.cell rfl, h.cell rfl, h.cell rfl, h.cell rfl, h.cell rfl, h.cell rfl, h.cell rfl⟩
def okNodT (x : Nod) : Prop := (∀ s ∈ x.names, s.size ≤ maxLen) ∧ x.names.length ≤ maxLen ∧ x.mat.length ≤ maxLen ∧ (∀ m ∈ x.mat, m.name.size ≤ maxLen) ∧ x.text.size ≤ 140737488355328
theorem formB_eq {x : Nod} (h1 : plainB x (bareN x) = true) (h2 : nodeNames x = true) (h3 : x.mat = [] ∨ x.kind = 2 ∨ x.kind = 3) : formB x = kindOk x := by
  rcases h3 with h | h | h <;> simp [formB, h1, h2, h]
theorem kk {a b : Int} (h : (a == b) = true) : a = b := by simpa using h
theorem kn {a b : Int} (h : (a == b) = false) : ¬ a = b := by simpa using h
theorem kind3 {a : Int} (h : ¬ a = 2) (h2 : (a != 2) = false ∨ (a != 3) = false) : a = 3 := by
  rcases h2 with h2 | h2
  · exact absurd (by simpa using h2) h
  · simpa using h2
theorem formB_np {x : Nod} (h : ¬ plainB x (bareN x) = true) : formB x = false := by simp [formB, h]
theorem formB_nn {x : Nod} (h : ¬ nodeNames x = true) : formB x = false := by simp [formB, h]
theorem formB_nk {x : Nod} (h1 : 0 < x.mat.length) (h2 : ¬ x.kind = 2) (h3 : (x.kind != 2) = true ∧ (x.kind != 3) = true) : formB x = false := by
  have h4 : ¬ x.mat = [] := by intro e; rw [e] at h1; simp at h1
  have h5 : ¬ x.kind = 3 := by simpa using h3.2
  simp [formB, h4, h2, h5]
theorem kindOk_1 {x : Nod} (h : x.kind = 1) : kindOk x = numB x.text.data.toList := by rw [kindOk]; simp [h]
theorem kindOk_2 {x : Nod} (h : x.kind = 2) : kindOk x = spanB x.back 0 := by rw [kindOk]; simp [h]
theorem kindOk_3 {x : Nod} (h : x.kind = 3) : kindOk x = (spanB x.width 1 && spanB x.back 0) := by rw [kindOk]; simp [h]
theorem kindOk_4 {x : Nod} (h : x.kind = 4) : kindOk x = (decide (x.parts = 1) && inB 1 12 x.op) := by rw [kindOk]; simp [h]
theorem kindOk_5 {x : Nod} (h : x.kind = 5) : kindOk x = (decide (x.parts = 1) && inB 1 5 x.op && inB 0 2 x.grp) := by rw [kindOk]; simp [h]
theorem kindOk_6 {x : Nod} (h : x.kind = 6) : kindOk x = (decide (x.parts = 2) && inB 1 13 x.op && (decide (x.grp = 0) || decide (x.grp = 3) || decide (x.grp = 4)) && (!x.cmp || cmpB x.op)) := by rw [kindOk]; simp [h]
theorem kindOk_7 {x : Nod} (h : x.kind = 7) : kindOk x = decide (x.parts = 1) := by rw [kindOk]; simp [h]
theorem kindOk_0 {x : Nod} (h1 : ¬ x.kind = 1) (h2 : ¬ x.kind = 2) (h3 : ¬ x.kind = 3) (h4 : ¬ x.kind = 4) (h5 : ¬ x.kind = 5) (h6 : ¬ x.kind = 6) (h7 : ¬ x.kind = 7) : kindOk x = false := by rw [kindOk]; simp [h1, h2, h3, h4, h5, h6, h7]
set_option maxRecDepth 100000 in
set_option maxHeartbeats 8000000 in
theorem tform_any (x : Nod) (Am An : Option Addr) (cm cn B : Nat) (w : World) (hr : Rd w B 1 An (textsC x.names)) (hB : B ≤ w.heap.size) (hok : okNodT x) :
    Calls Try.prog 32 #[.agg #[.int .i64 x.kind, .int .i64 x.op, .string x.text, .slice Am x.mat.length cm, .int .i64 x.width, .int .i64 x.back, .int .i64 x.grp, .slice An x.names.length cn, .bool x.cmp, .int .i64 x.parts]] w fun e w' => e = .returned (.bool (formB x)) ∧ Below w.heap.size w w' := by
  obtain ⟨o1, o2, o3, o4, o5⟩ := hok
  unfold maxLen at o2 o3
  go_enter Try.func32, Try.ntmps32
  go_wp2
  generalize hW : World.alloc _ _ = W0
  have hX : Blk W0 w.heap.size 34 (nodC x Am cm An cn) := by rw [← hW]; exact Blk.new w _ _
  have hb0 : Below w.heap.size w W0 := by rw [← hW]; exact (Below.refl _ _).alloc (Nat.le_refl _) _
  clear hW
  have hsz0 := hb0.size
  have c0 := later_cell hX (j := 0) rfl
  have c1 := later_cell hX (j := 1) rfl
  have c2 := later_cell hX (j := 2) rfl
  have c3 := later_cell hX (j := 3) rfl
  have c4 := later_cell hX (j := 4) rfl
  have c5 := later_cell hX (j := 5) rfl
  have c6 := later_cell hX (j := 6) rfl
  have c7 := later_cell hX (j := 7) rfl
  have c8 := later_cell hX (j := 8) rfl
  have c9 := later_cell hX (j := 9) rfl
  have HC1 := fun W => Lib.hid (tbare_any x Am An cm cn W)
  have HC2 := fun W => Lib.hid (tplain_any x (bareN x) Am An none none x.mat.length cm x.names.length cn 0 0 0 0 W)
  have HC3 := fun (z : Later W0) => Lib.hid (tnames_any x Am An cm cn B (later W0 z) (later_rd (hr.below (hb0.mono hB)) (Nat.le_trans hB hsz0) z) (Nat.le_trans hB (Nat.le_trans hsz0 (later_size z))) o1 o2)
  refine wp_region_later (by kernel_rfl) (by kernel_rfl) ?_
  repeat (any_goals (first | go_big_quiet_step ((first | (go_at_call 50; exact later_call (HC1 _).out) | (go_at_call 49; exact later_call (HC2 _).out) | (go_at_call 51; exact later_call (HC3 _).out))) | quiet_step ((first | (go_at_call 50; exact later_call (HC1 _).out) | (go_at_call 49; exact later_call (HC2 _).out) | (go_at_call 51; exact later_call (HC3 _).out))) | (refine wpQuiet_step (fun K hK => ?_); go_simp; split <;> (refine hK _ ?_; clear hK K))))
  all_goals have HN := fun W => Lib.hid (number_any x.text W o5)
  all_goals have HS0 := fun W => Lib.hid (tspan_any x.back 0 W)
  all_goals have HS1 := fun W => Lib.hid (tspan_any x.width 1 W)
  all_goals have HCm := fun W => Lib.hid (tcmpB_any x.op W)
  all_goals clear HC1 HC2 HC3
  all_goals
    refine wpQuiet_nil ?_
    intro _ hw'
    obtain ⟨z, rfl⟩ := hw'
    have hW := hb0.trans ((later_below z).mono hsz0)
    go_wp2_with (first | (go_at_call 43; refine ((HN _).out).mono ?_; rintro e w' ⟨rfl, rfl⟩) | (go_at_call 53; refine ((HCm _).out).mono ?_; rintro e w' ⟨rfl, rfl⟩) | (go_at_call 52; first | (with_reducible refine ((HS0 _).out).mono ?_; rintro e w' ⟨rfl, rfl⟩) | (with_reducible refine ((HS1 _).out).mono ?_; rintro e w' ⟨rfl, rfl⟩)))
  all_goals
    go_ret
    refine ⟨ret_bool ?_, hW⟩
    clear HN HS0 HS1 HCm c0 c1 c2 c3 c4 c5 c6 c7 c8 c9 hX hb0 hr hW o1 o4
    first
    | exact (formB_np ‹_›).symm
    | exact (formB_nn ‹_›).symm
    | exact (formB_nk ‹0 < x.mat.length› ‹¬ x.kind = 2› ‹(x.kind != 2) = true ∧ (x.kind != 3) = true›).symm
    | (rw [formB_eq ‹_› ‹_› (by first | exact .inl (List.eq_nil_of_length_eq_zero (by omega)) | exact .inr (.inl ‹_›) | exact .inr (.inr (kind3 ‹_› ‹_›)))]
       first
       | rw [kindOk_1 (kk ‹(x.kind == 1) = true›)]
       | rw [kindOk_2 (kk ‹(x.kind == 2) = true›)]
       | rw [kindOk_3 (kk ‹(x.kind == 3) = true›)]
       | rw [kindOk_4 (kk ‹(x.kind == 4) = true›)]
       | rw [kindOk_5 (kk ‹(x.kind == 5) = true›)]
       | rw [kindOk_6 (kk ‹(x.kind == 6) = true›)]
       | rw [kindOk_7 (kk ‹(x.kind == 7) = true›)]
       | rw [kindOk_2 ‹x.kind = 2›]
       | rw [kindOk_0 (kn ‹(x.kind == 1) = false›) (kn ‹(x.kind == 2) = false›) (kn ‹(x.kind == 3) = false›) (kn ‹(x.kind == 4) = false›) (kn ‹(x.kind == 5) = false›) (kn ‹(x.kind == 6) = false›) (kn ‹(x.kind == 7) = false›)]
       all_goals first
       | rfl
       | (simp [‹spanB x.width 1 = true›]; done)
       | (simp [‹¬ spanB x.width 1 = true›]; done)
       | (have e1 : (decide (x.parts = 2) && inB 1 13 x.op && (decide (x.grp = 0) || decide (x.grp = 3) || decide (x.grp = 4))) = true := by (simp [inB]; omega)
          rw [e1]
          first
          | (rw [‹x.cmp = true›]; simp; done)
          | (simp [‹¬ x.cmp = true›]; done))
       | (have e1 : (decide (x.parts = 2) && inB 1 13 x.op && (decide (x.grp = 0) || decide (x.grp = 3) || decide (x.grp = 4))) = false := by (rw [Bool.eq_false_iff]; simp [inB]; omega)
          rw [e1]; try rfl)
       | (rw [Bool.eq_iff_iff]; try (simp [inB]; try omega)))
end Go.Proofs.Ytmhfeeomlpdnkaa
