/- strings.NewReplacer at the six texts of a label's value. -/
import Derived.Test.YtnlheomfobpcmaaGreatOnce
import Derived.Test.YtnlheomfobpcmaaGreatLabG
import Derived.Test.YtnlheomfobpcmaaGreatLater
import Derived.Laws.MakeOwn
namespace Go.Proofs.YtnlheomfobpcmaaGreat
open Go.RowKit

theorem eiStrs : EI Tryz.prog 35 9 1 16 := EI.mk' Tryz.underlying35 (z := .string ByteArray.empty) (by kernel_rfl) rfl (by omega)
theorem madeCells_one (v : Value) (n : Nat) : madeCells #[v] n = (List.replicate n v).toArray := by
  apply Array.ext
  · simp [madeCells]
  · intro i h1 h2
    simp [madeCells, Nat.mod_one]
/-- make of a slice whose elements are one cell. -/
theorem run_make1 {P : Program} {t e : TypeId} {bytes : Nat} {z : Value} (ht : P.underlying t = some (.slice e)) (hi : (P.info? e).map (fun i => (i.zero, i.size, i.bytes)) = some (some z, 1, bytes)) (hz : z.cells = #[z]) (n c : Nat) (hn : n ≤ c) (hb : bytes * c ≤ 281474976710656) (hc : c ≤ maxLen) (w : World) :
    (Instr.makeSlice t (.int .i64 (n : Int)) (.int .i64 (c : Int))).run P w = .ok (.slice (some ⟨w.heap.size, 0, none⟩) n c) (w.alloc (.cells (List.replicate c z).toArray e)) := by
  obtain ⟨i, h1, h2, h3, h4⟩ := info_parts hi
  have h5 : (c : Int) ≤ 9223372036854775807 := by simp only [maxLen] at hc; omega
  have hb' : (i.bytes : Int) * (c : Int) ≤ 281474976710656 := by
    rw [h4, ← Int.natCast_mul]; omega
  have := run_make (P := P) w t e i z ht h1 h2 .i64 .i64 n c (by omega) (by omega) hb' h5
  rw [this, h3, hz]
  simp [madeCells_one]
/-- The six texts. -/
def pairsS : List ByteArray := [⟨#[92]⟩, ⟨#[92, 92]⟩, ⟨#[34]⟩, ⟨#[92, 34]⟩, ⟨#[10]⟩, ⟨#[92, 110]⟩]
def NewRep (w : World) (e : Ending) (w' : World) : Prop := ∃ R A c, e = .returned (.pointer (some ⟨R, 0, none⟩)) ∧ w.heap.size ≤ R ∧ Rp w' R 0 0 .nilIface (.slice A 6 c) ∧ Own w' w.heap.size 9 1 A 6 c (namesC pairsS) ∧ Below w.heap.size w w'
theorem namesC_one (l : List ByteArray) : ∀ y ∈ namesC l, ∀ u ∈ y, u.oneCell' = true := by
  intro y hy u hu
  obtain ⟨x, _, rfl⟩ := List.mem_map.1 hy
  simp at hu
  subst hu
  rfl
set_option maxRecDepth 100000 in
set_option maxHeartbeats 1000000 in
theorem newRep_any (A : Option Addr) (c B : Nat) (w : World) (hr : Rd w B 1 A (namesC pairsS)) (_hB : B ≤ w.heap.size) :
    Calls Tryz.prog 46 #[.slice A 6 c] w (NewRep w) := by
  have hl : (namesC pairsS).length = 6 := rfl
  have Hr := Lib.hid hr
  clear hr
  go_enter Tryz.func46, Tryz.ntmps46
  go_wp2_with (at_builtin; (refine wpList_append_ex (n := 0) (c := 0) (A := none) (xs := []) (base := w.heap.size) _ rfl (.const (.slice none 0 0)) (.tmp 8) _ rfl eiStrs rfl (Own.nil_ (by omega)) rfl Hr.out hl (namesC_one _) (by simp only [maxLen]; omega) (by omega) (by omega) ?_; intro A1 c1 w1 ho hg hat hb))
  go_ret
  exact ⟨w1.heap.size, A1, c1, rfl, hb.size, Blk.new w1 102 [.int .u32 0, .int .i32 0, .int .u32 0, .nilIface, .slice A1 6 c1], ho.alloc _, hb.alloc hb.size _⟩
end Go.Proofs.YtnlheomfobpcmaaGreat
