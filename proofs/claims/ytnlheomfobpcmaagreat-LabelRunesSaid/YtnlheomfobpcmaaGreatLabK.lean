/- label.Keep: the labels of some names: package label's own. -/
import Derived.Test.YtnlheomfobpcmaaGreatLabF
namespace Go.Proofs.YtnlheomfobpcmaaGreat
open Go.RowKit

set_option maxHeartbeats 1000000 in
theorem keep1_any (x y : ByteArray) (N : Nat) (ns : List ByteArray) (w : World) (hc : CapAt w N ns) :
    Calls Tryz.prog 60 #[.agg #[.string x, .string y], .pointer (some ⟨N, 0, none⟩)] w fun e w' => e = .returned (.bool (memB ns x)) ∧ Below w.heap.size w w' := by
  obtain ⟨A, n, c, B, h1, h2, h3, h4, h5⟩ := hc
  have hb : Below w.heap.size w (w.alloc (.cells #[.string x, .string y] 51)) := (Below.refl _ _).alloc (Nat.le_refl _) _
  have HC := Lib.hid (contains_any ns x A n c B _ (h5.below (hb.mono h4)) h2 h3)
  have h1' := (hb.cell (p := ⟨N, 0, none⟩) (World.block_lt_of_cell? w _ h1)).trans h1
  have HB := Lib.hid hb
  clear h1 h2 h5 hb
  go_enter Tryz.func60, Tryz.ntmps60
  go_wp2_with (go_at_call 61; refine (HC.out).mono ?_; rintro e w' ⟨rfl, rfl⟩)
  go_ret
  exact ⟨rfl, HB.out⟩
/-- The labels of some names. -/
def keepL (ls : List Lab) (ns : List ByteArray) : List Lab := ls.filter fun l => memB ns l.1
theorem keepL_yes {ls : List Lab} {ns : List ByteArray} {k : Nat} {l : Lab} (h : ls[k]? = some l) (hm : memB ns l.1 = true) : keepL (ls.take (k + 1)) ns = keepL (ls.take k) ns ++ [l] := by
  unfold keepL
  rw [List.take_add_one, h, Option.toList_some, List.filter_append]
  simp [hm]
theorem keepL_no {ls : List Lab} {ns : List ByteArray} {k : Nat} {l : Lab} (h : ls[k]? = some l) (hm : memB ns l.1 = false) : keepL (ls.take (k + 1)) ns = keepL (ls.take k) ns := by
  unfold keepL
  rw [List.take_add_one, h, Option.toList_some, List.filter_append]
  simp [hm]
theorem keepL_len (ls : List Lab) (ns : List ByteArray) : (keepL ls ns).length ≤ ls.length := List.length_filter_le _ _
/-- The row that has been made so far. -/
def FilKAt (ls : List Lab) (ns : List ByteArray) (w : World) (k : Nat) (v : Value) (w' : World) : Prop := ∃ A m c, v = .slice A m c ∧ Own w' w.heap.size 51 2 A m c (labsC (keepL (ls.take k) ns)) ∧ Below w.heap.size w w'
set_option maxRecDepth 100000 in
set_option maxHeartbeats 2000000 in
theorem filterK_any (ls : List Lab) (ns : List ByteArray) (N : Nat) (A : Option Addr) (n c B : Nat) (w : World) (hr : Rd w B 2 A (labsC ls)) (hn : ls.length = n) (hB : B ≤ w.heap.size) (hm : n * 32 ≤ 140737488355328) (hc : CapAt w N ns) :
    Calls Tryz.prog 59 #[.slice A n c, .func (.func 60) #[] #[.pointer (some ⟨N, 0, none⟩)]] w (LabsOut w (keepL ls ns)) := by
  have Hn := Lib.hid hn
  have HC := Lib.hid hc
  clear hn hc
  go_enter Tryz.func59, Tryz.ntmps59
  go_wp2_with fail
  go_loopw [10, 5] (fun i v wr => ∃ k : Nat, i = .int .i64 k ∧ k ≤ n ∧ Hid (FilKAt ls ns w k v wr)) (fun i _ _ => n - (intOf i).toNat)
  case atStart => exact ⟨0, rfl, by omega, none, 0, 0, rfl, Own.nil_ (by omega), Below.refl _ _⟩
  case round =>
    obtain ⟨k, rfl, hk, HF⟩ := hrel
    obtain ⟨A2, m2, c2, rfl, ho, hb⟩ := HF.out
    have hs := hb.size
    by_cases hlt : k < n
    · obtain ⟨l, hl⟩ := get_lt Hn hlt
      obtain ⟨b, o, rfl, hbB, g0, g1⟩ := (hr.below (hb.mono hB)).at2 (labsC_at hl)
      have hltI : (k : Int) < (n : Int) := by omega
      have hml : m2 ≤ k := by
        have h1 := ho.len
        rw [labsC_len] at h1
        have h2 := keepL_len (ls.take k) ns
        rw [List.length_take, Hn.out] at h2
        omega
      have HW := Lib.hid (keep1_any l.1 l.2 N ns (wr.alloc (.cells #[.string l.1, .string l.2] 51)) (HC.out.below (hb.alloc hs _)))
      have HO : Hid (∀ o, Own (wr.alloc o) w.heap.size 51 2 A2 m2 c2 (labsC (keepL (ls.take k) ns)) ∧ Below w.heap.size w (wr.alloc o)) := fun o => ⟨ho.alloc o, hb.alloc hs o⟩
      cases hmem : memB ns l.1 with
      | false =>
        rw [hmem] at HW
        have HL := Lib.hid (keepL_no hl hmem)
        clear hl hmem ho hb HF
        go_wp2_with (go_at_call 60; refine (HW.out).mono ?_; rintro e w' ⟨rfl, hb1⟩)
        have HF2 : Hid (FilKAt ls ns w (k + 1) (.slice A2 m2 c2) w') := ⟨A2, m2, c2, rfl, by rw [HL.out]; exact (HO.out _).1.belowAll hb1, (HO.out _).2.trans (hb1.mono (HO.out (.cells #[.string l.1, .string l.2] 51)).2.size)⟩
        go_wp2_with fail
        go_roundw
        case rel => exact ⟨k + 1, by go_num, by omega, HF2⟩
        case measure => simp [intOf]; omega
      | true =>
        rw [hmem] at HW
        have HL := Lib.hid (keepL_yes hl hmem)
        clear hl hmem ho hb HF
        go_wp2_with fail
        refine (HW.out).mono ?_
        rintro e w' ⟨rfl, hb1⟩
        have q0 := (hb1.cell (p := ⟨wr.heap.size, 0, none⟩) (by simp)).trans ((Blk.new wr 51 [.string l.1, .string l.2]).cell (j := 0) rfl)
        have q1 := (hb1.cell (p := ⟨wr.heap.size, 1, none⟩) (by simp)).trans ((Blk.new wr 51 [.string l.1, .string l.2]).cell (j := 1) rfl)
        have hz1 : wr.heap.size + 1 ≤ w'.heap.size := by have := hb1.size; simpa using this
        have hO1 := (HO.out (.cells #[.string l.1, .string l.2] 51)).1.belowAll hb1
        have hB1 := (HO.out (.cells #[.string l.1, .string l.2] 51)).2.trans (hb1.mono (HO.out (.cells #[.string l.1, .string l.2] 51)).2.size)
        have HO1 := Lib.hid hO1
        have HB1 := Lib.hid hB1
        clear hO1 hB1 hb1 HW
        go_wp2_with (at_builtin; go_must (refine wpList_append_rd _ rfl (.tmp 17) (.tmp 19) _ rfl eiLab rfl (HO1.out.alloc _) rfl (Rd.new (xs := labsC [l]) w' (labsC_all _) _ rfl) rfl (labsC_one _) (by simp only [maxLen]; omega) (by omega) (by simp; omega) ?_; intro A3 c3 w3 ho3 hg3 hat3 hb3))
        have HF2 : Hid (FilKAt ls ns w (k + 1) (.slice A3 (m2 + 1) c3) w3) := ⟨A3, m2 + 1, c3, rfl, by rw [HL.out]; simpa [labsC] using ho3, HB1.out.trans (((Below.refl _ _).alloc (by omega) _).trans hb3)⟩
        clear ho3 hg3 hat3 hb3
        go_wp2_with fail
        go_roundw
        case rel => exact ⟨k + 1, by go_num, by omega, HF2⟩
        case measure => simp [intOf]; omega
    · have hkn : k = n := by omega
      subst hkn
      have HT : Hid (keepL (ls.take k) ns = keepL ls ns) := by show _ = _; rw [← Hn.out, List.take_length]
      go_wp2_with fail
      go_ret
      refine ⟨A2, m2, c2, rfl, ?_, by rw [← HT.out]; exact ho, hb⟩
      rw [← HT.out, ← labsC_len]; exact ho.len
set_option maxHeartbeats 1000000 in
theorem keep_any (ls : List Lab) (ns : List ByteArray) (A An : Option Addr) (n c B nn cn Bn : Nat) (w : World) (hr : Rd w B 2 A (labsC ls)) (hn : ls.length = n) (hB : B ≤ w.heap.size) (hm : n * 32 ≤ 140737488355328)
    (hrn : Rd w Bn 1 An (namesC ns)) (hnn : ns.length = nn) (hBn : Bn ≤ w.heap.size) (hmn : nn ≤ maxLen) :
    Calls Tryz.prog 24 #[.slice A n c, .slice An nn cn] w (LabsOut w (keepL ls ns)) := by
  have hmf : ∀ (fn : Fn) (first cap : Array Value) (w : World), (Instr.makeFunc fn first cap).run Tryz.prog w = .ok (.func fn first cap) w := fun _ _ _ _ => rfl
  have hb : Below w.heap.size w (w.alloc (.cells #[.slice An nn cn] 35)) := (Below.refl _ _).alloc (Nat.le_refl _) _
  have HF := Lib.hid (filterK_any ls ns w.heap.size A n c B (w.alloc (.cells #[.slice An nn cn] 35)) (hr.below (hb.mono hB)) hn (by simp; omega) hm ⟨An, nn, cn, Bn, (Blk.new w 35 [.slice An nn cn]).cell rfl, hnn, hmn, by simp; omega, hrn.below (hb.mono hBn)⟩)
  have HB := Lib.hid hb
  clear hr hn hb hrn hnn
  go_enter Tryz.func24, Tryz.ntmps24
  go_wp2_with (go_at_call 59; refine (HF.out).mono ?_; rintro e w' ⟨A', m', c', rfl, hm', ho, hb1⟩)
  go_ret
  exact ⟨A', m', c', rfl, hm', ho.lower (by simp), HB.out.trans (hb1.mono (by simp))⟩
end Go.Proofs.YtnlheomfobpcmaaGreat
