/- How a query is read: the levels of operations. -/
import Derived.Test.YtdikmklijpcjdaaParY
namespace Go.Proofs.Ytdikmklijpcjdaa
open Go.RowKit
attribute [local go_sem ↓] Go.wp_at_zero Go.wp_at_succ tok_f0 tok_f2 tok_f3

theorem callF_enter {Q : Program} {f : FuncId} {fn : Func} {c : Code} (hf : Q.funcs[f]? = some fn) (hname : (fn.name == "runtime.NumGoroutine") = false) (hb : fn.body = some c) (args : Array Value) (w : World) : (callFunc f args).run Q w = .ok (.enter f args) w := by
  have h1 : fn.name ≠ "runtime.NumGoroutine" := by simpa using hname
  simp [callFunc, hf, h1, hb]
set_option maxRecDepth 100000 in
set_option maxHeartbeats 4000000 in
theorem por_any {P M n : Nat} {part : PS → Rp PS} (hMM : M ≤ 1000000) (hp : PartC P M 57 #[.pointer (some ⟨P, 0, none⟩)] part (fun s => s.toks.length ≤ n)) (hok : PartOk part) :
    PartC P M 26 #[.pointer (some ⟨P, 0, none⟩)] (rowP part 12 12) (fun s => s.toks.length ≤ n) := by
  intro M' R s w hM hg hl h
  have HR := Lib.hid (row_any 57 12 12 (fun args w => callF_enter Try.func57 (by kernel_rfl) (by rfl) args w) hMM hp hok M' R s w hM hg hl h)
  have hmf : ∀ (fn : Fn) (first cap : Array Value) (w : World), (Instr.makeFunc fn first cap).run Try.prog w = .ok (.func fn first cap) w := fun _ _ _ _ => rfl
  clear hp hok hg h
  go_enter Try.func26, Try.ntmps26
  go_wp2_with fail
  refine (HR.out).mono ?_
  intro e w1 hres
  cases hr : rowP part 12 12 s with
  | error z =>
    rw [hr] at hres
    obtain ⟨rfl, hf⟩ := hres
    clear hr
    go_wp2_with fail
    exact ⟨rfl, rfl, hf⟩
  | ok s1 =>
    have HT := Lib.hid hr
    rw [hr] at hres
    obtain ⟨rfl, R1, hS1⟩ := hres
    clear hr
    go_wp2_with fail
    first | go_end0 | refine bodyPost_ret (results_none rfl _ _ _) rfl ?_
    rw [HT.out]
    exact ⟨rfl, R1, hS1⟩
set_option maxRecDepth 100000 in
set_option maxHeartbeats 4000000 in
theorem pand_any {P M n : Nat} {part : PS → Rp PS} (hMM : M ≤ 1000000) (hp : PartC P M 74 #[.pointer (some ⟨P, 0, none⟩)] part (fun s => s.toks.length ≤ n)) (hok : PartOk part) :
    PartC P M 57 #[.pointer (some ⟨P, 0, none⟩)] (rowP part 11 13) (fun s => s.toks.length ≤ n) := by
  intro M' R s w hM hg hl h
  have HR := Lib.hid (row_any 74 11 13 (fun args w => callF_enter Try.func74 (by kernel_rfl) (by rfl) args w) hMM hp hok M' R s w hM hg hl h)
  have hmf : ∀ (fn : Fn) (first cap : Array Value) (w : World), (Instr.makeFunc fn first cap).run Try.prog w = .ok (.func fn first cap) w := fun _ _ _ _ => rfl
  clear hp hok hg h
  go_enter Try.func57, Try.ntmps57
  go_wp2_with fail
  refine (HR.out).mono ?_
  intro e w1 hres
  cases hr : rowP part 11 13 s with
  | error z =>
    rw [hr] at hres
    obtain ⟨rfl, hf⟩ := hres
    clear hr
    go_wp2_with fail
    exact ⟨rfl, rfl, hf⟩
  | ok s1 =>
    have HT := Lib.hid hr
    rw [hr] at hres
    obtain ⟨rfl, R1, hS1⟩ := hres
    clear hr
    go_wp2_with fail
    first | go_end0 | refine bodyPost_ret (results_none rfl _ _ _) rfl ?_
    rw [HT.out]
    exact ⟨rfl, R1, hS1⟩
set_option maxRecDepth 100000 in
set_option maxHeartbeats 4000000 in
theorem pcmp_any {P M n : Nat} {part : PS → Rp PS} (hMM : M ≤ 1000000) (hp : PartC P M 81 #[.pointer (some ⟨P, 0, none⟩)] part (fun s => s.toks.length ≤ n)) (hok : PartOk part) :
    PartC P M 74 #[.pointer (some ⟨P, 0, none⟩)] (rowP part 5 10) (fun s => s.toks.length ≤ n) := by
  intro M' R s w hM hg hl h
  have HR := Lib.hid (row_any 81 5 10 (fun args w => callF_enter Try.func81 (by kernel_rfl) (by rfl) args w) hMM hp hok M' R s w hM hg hl h)
  have hmf : ∀ (fn : Fn) (first cap : Array Value) (w : World), (Instr.makeFunc fn first cap).run Try.prog w = .ok (.func fn first cap) w := fun _ _ _ _ => rfl
  clear hp hok hg h
  go_enter Try.func74, Try.ntmps74
  go_wp2_with fail
  refine (HR.out).mono ?_
  intro e w1 hres
  cases hr : rowP part 5 10 s with
  | error z =>
    rw [hr] at hres
    obtain ⟨rfl, hf⟩ := hres
    clear hr
    go_wp2_with fail
    exact ⟨rfl, rfl, hf⟩
  | ok s1 =>
    have HT := Lib.hid hr
    rw [hr] at hres
    obtain ⟨rfl, R1, hS1⟩ := hres
    clear hr
    go_wp2_with fail
    first | go_end0 | refine bodyPost_ret (results_none rfl _ _ _) rfl ?_
    rw [HT.out]
    exact ⟨rfl, R1, hS1⟩
set_option maxRecDepth 100000 in
set_option maxHeartbeats 4000000 in
theorem psum_any {P M n : Nat} {part : PS → Rp PS} (hMM : M ≤ 1000000) (hp : PartC P M 89 #[.pointer (some ⟨P, 0, none⟩)] part (fun s => s.toks.length ≤ n)) (hok : PartOk part) :
    PartC P M 81 #[.pointer (some ⟨P, 0, none⟩)] (rowP part 1 2) (fun s => s.toks.length ≤ n) := by
  intro M' R s w hM hg hl h
  have HR := Lib.hid (row_any 89 1 2 (fun args w => callF_enter Try.func89 (by kernel_rfl) (by rfl) args w) hMM hp hok M' R s w hM hg hl h)
  have hmf : ∀ (fn : Fn) (first cap : Array Value) (w : World), (Instr.makeFunc fn first cap).run Try.prog w = .ok (.func fn first cap) w := fun _ _ _ _ => rfl
  clear hp hok hg h
  go_enter Try.func81, Try.ntmps81
  go_wp2_with fail
  refine (HR.out).mono ?_
  intro e w1 hres
  cases hr : rowP part 1 2 s with
  | error z =>
    rw [hr] at hres
    obtain ⟨rfl, hf⟩ := hres
    clear hr
    go_wp2_with fail
    exact ⟨rfl, rfl, hf⟩
  | ok s1 =>
    have HT := Lib.hid hr
    rw [hr] at hres
    obtain ⟨rfl, R1, hS1⟩ := hres
    clear hr
    go_wp2_with fail
    first | go_end0 | refine bodyPost_ret (results_none rfl _ _ _) rfl ?_
    rw [HT.out]
    exact ⟨rfl, R1, hS1⟩
set_option maxRecDepth 100000 in
set_option maxHeartbeats 4000000 in
theorem pterm_any {P M n : Nat} {part : PS → Rp PS} (hMM : M ≤ 1000000) (hp : PartC P M 92 #[.pointer (some ⟨P, 0, none⟩)] part (fun s => s.toks.length ≤ n)) (hok : PartOk part) :
    PartC P M 89 #[.pointer (some ⟨P, 0, none⟩)] (rowP part 3 4) (fun s => s.toks.length ≤ n) := by
  intro M' R s w hM hg hl h
  have HR := Lib.hid (row_any 92 3 4 (fun args w => callF_enter Try.func92 (by kernel_rfl) (by rfl) args w) hMM hp hok M' R s w hM hg hl h)
  have hmf : ∀ (fn : Fn) (first cap : Array Value) (w : World), (Instr.makeFunc fn first cap).run Try.prog w = .ok (.func fn first cap) w := fun _ _ _ _ => rfl
  clear hp hok hg h
  go_enter Try.func89, Try.ntmps89
  go_wp2_with fail
  refine (HR.out).mono ?_
  intro e w1 hres
  cases hr : rowP part 3 4 s with
  | error z =>
    rw [hr] at hres
    obtain ⟨rfl, hf⟩ := hres
    clear hr
    go_wp2_with fail
    exact ⟨rfl, rfl, hf⟩
  | ok s1 =>
    have HT := Lib.hid hr
    rw [hr] at hres
    obtain ⟨rfl, R1, hS1⟩ := hres
    clear hr
    go_wp2_with fail
    first | go_end0 | refine bodyPost_ret (results_none rfl _ _ _) rfl ?_
    rw [HT.out]
    exact ⟨rfl, R1, hS1⟩
theorem por_all {P M n : Nat} {u : PS → Rp PS} (hMM : M ≤ 1000000) (hp : PartC P M 92 #[.pointer (some ⟨P, 0, none⟩)] u (fun s => s.toks.length ≤ n)) (hok : PartOk u) :
    PartC P M 26 #[.pointer (some ⟨P, 0, none⟩)] (orP u) (fun s => s.toks.length ≤ n) := by
  have k1 : PartOk (termP u) := rowP_ok hok _ _
  have k2 : PartOk (sumP u) := rowP_ok k1 _ _
  have k3 : PartOk (cmpP u) := rowP_ok k2 _ _
  have k4 : PartOk (andP u) := rowP_ok k3 _ _
  exact por_any hMM (pand_any hMM (pcmp_any hMM (psum_any hMM (pterm_any hMM hp hok) k1) k2) k3) k4
end Go.Proofs.Ytdikmklijpcjdaa
