/- How a query is read: what every program answers that is one. -/
import Derived.Test.YtdikmklijpcjdaaPar2
import Derived.Test.YtdikmklijpcjdaaPQuery
import Derived.Test.YtdikmklijpcjdaaOpen2
namespace Go.Proofs.Ytdikmklijpcjdaa
open Go.RowKit
attribute [local go_sem ↓] Go.wp_at_zero Go.wp_at_succ tok_f0 tok_f2 tok_f3

def qA : ByteArray := ⟨#[115, 117, 109, 32, 98, 121, 32, 40, 97, 41, 32, 40, 114, 97, 116, 101, 40, 120, 91, 53, 109, 93, 41, 41, 32, 47, 32, 50]⟩
def qB : ByteArray := ⟨#[120, 32, 120]⟩
def nsA : List Nod := [selN 3 [⟨1, sNameN, ⟨#[120]⟩⟩] 300 0, callN 1, aggN 1 1 [⟨#[97]⟩], numN ⟨#[50]⟩, binN 4 0 [] false]
theorem read_qA : parseR qA = (nsA, 0, 0) := by kernel_rfl
theorem read_qB : parseR qB = ([], 2, 181) := by kernel_rfl
set_option maxRecDepth 100000 in
set_option maxHeartbeats 4000000 in
theorem pawake_any (w : World) : Calls Try.prog 13 #[] w fun e w' => e = .returned (.bool true) ∧ Below w.heap.size w w' := by
  have H1 := Lib.hid (parse_any qA w (by simp [qA, maxLen]; decide) (fun _ _ h => lexR_err h))
  have H2 := fun (W : World) => Lib.hid (parse_any qB W (by simp [qB, maxLen]; decide) (fun _ _ h => lexR_err h))
  rw [read_qA] at H1
  rw [read_qB] at H2
  go_enter Try.func13, Try.ntmps13
  go_wp2_with fail
  refine (H1.out).mono ?_
  rintro e w1 ⟨⟨A, c, h1, hO⟩, hb1⟩
  have h1 : e = .returned (.tuple #[.slice A 5 c, .int .i64 0, .int .i64 0]) := h1
  subst h1
  obtain ⟨cs, ho, hl, hx⟩ := hO
  have hr := ho.rd
  obtain ⟨_, _, _, _, x0, _, _⟩ := hx 0 _ rfl
  obtain ⟨_, _, _, _, x2, _, _⟩ := hx 2 _ rfl
  obtain ⟨_, _, _, _, x4, _, _⟩ := hx 4 _ rfl
  obtain ⟨b, o, rfl, hbb, hc⟩ := hr.2 (by intro h; rw [h] at x0; simp at x0)
  have y00 := hc 0 _ 0 _ x0 rfl
  have y04 := hc 0 _ 4 _ x0 rfl
  have y20 := hc 2 _ 0 _ x2 rfl
  have y26 := hc 2 _ 6 _ x2 rfl
  have y41 := hc 4 _ 1 _ x4 rfl
  have hB1 := Lib.hid hb1
  clear hc hx hl ho hr x0 x2 x4 hb1
  go_wp2_with fail
  refine ((H2 w1).out).mono ?_
  rintro e w2 ⟨⟨A2, c2, h2, _⟩, hb2⟩
  have h2 : e = .returned (.tuple #[.slice A2 0 c2, .int .i64 2, .int .i64 181]) := h2
  subst h2
  have z00 : w2.cell? ⟨b, o, none⟩ = some (.int .i64 3) := (hb2.cell (p := ⟨b, o, none⟩) hbb).trans y00
  have z04 : w2.cell? ⟨b, o + 4, none⟩ = some (.int .i64 300) := (hb2.cell (p := ⟨b, o + 4, none⟩) hbb).trans y04
  have z20 : w2.cell? ⟨b, o + 20, none⟩ = some (.int .i64 5) := (hb2.cell (p := ⟨b, o + 20, none⟩) hbb).trans y20
  have z26 : w2.cell? ⟨b, o + 20 + 6, none⟩ = some (.int .i64 1) := (hb2.cell (p := ⟨b, o + 20 + 6, none⟩) hbb).trans y26
  have z41 : w2.cell? ⟨b, o + 40 + 1, none⟩ = some (.int .i64 4) := (hb2.cell (p := ⟨b, o + 40 + 1, none⟩) hbb).trans y41
  have hB2 := Lib.hid (hB1.out.trans (hb2.mono hB1.out.size))
  clear y00 y04 y20 y26 y41 hb2 H1 H2 hB1
  go_wp2_with fail
  go_ret
  exact ⟨rfl, hB2.out⟩
end Go.Proofs.Ytdikmklijpcjdaa
