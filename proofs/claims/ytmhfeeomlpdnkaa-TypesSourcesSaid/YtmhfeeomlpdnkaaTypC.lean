/- Types of trees: a tree is checked by the program. -/
import Derived.Test.YtmhfeeomlpdnkaaTypK
namespace Go.Proofs.Ytmhfeeomlpdnkaa
open Go.RowKit

theorem stepN_len (st : List Int) (n : Nod) : (stepN st n).2.length ≤ st.length + 1 := by
  unfold stepN
  split
  · simp
  · split
    · simp
    · simp; try omega
theorem runN_step {ns : List Nod} {k : Nat} {x : Nod} {st : List Int} (hx : ns[k]? = some x) (h0 : (stepN st x).1 = 0) : runN' (ns.drop (k + 1)) (k + 1) (stepN st x).2 = runN' (ns.drop k) k st := by
  obtain ⟨hk, e⟩ := List.getElem?_eq_some_iff.1 hx
  rw [List.drop_eq_getElem_cons hk, e, runN', if_pos h0]
theorem runN_stop {ns : List Nod} {k : Nat} {x : Nod} {st : List Int} (hx : ns[k]? = some x) (h0 : (stepN st x).1 ≠ 0) : runN' (ns.drop k) k st = .error (k, (stepN st x).1) := by
  obtain ⟨hk, e⟩ := List.getElem?_eq_some_iff.1 hx
  rw [List.drop_eq_getElem_cons hk, e, runN', if_neg h0]
theorem checkN_err {ns : List Nod} {k : Nat} {e : Int} (h : runN' ns 0 [] = .error (k, e)) : checkN ns = (0, k, e) := by rw [checkN, h]
theorem checkN_bad {ns : List Nod} {st : List Int} (h : runN' ns 0 [] = .ok st) (hb : st.length ≠ 1 ∨ 4096 < ns.length) : checkN ns = (0, ns.length, 190) := by rw [checkN, h]; simp only; rw [if_pos hb]
theorem checkN_good {ns : List Nod} {st : List Int} (h : runN' ns 0 [] = .ok st) (h1 : st.length = 1) (h2 : ¬ 4096 < ns.length) : checkN ns = (st.getD 0 0, 0, 0) := by rw [checkN, h]; simp only; rw [if_neg (by omega)]
theorem ret_three {a b c d e f : Int} (h1 : a = d) (h2 : b = e) (h3 : c = f) : Ending.returned (.tuple #[.int .i64 a, .int .i64 b, .int .i64 c]) = .returned (.tuple #[.int .i64 d, .int .i64 e, .int .i64 f]) := by rw [h1, h2, h3]
def CheckRes (ns : List Nod) (w : World) (e : Ending) (w' : World) : Prop := e = .returned (.tuple #[.int .i64 (checkN ns).1, .int .i64 (checkN ns).2.1, .int .i64 (checkN ns).2.2]) ∧ Below w.heap.size w w'
set_option maxRecDepth 100000 in
set_option maxHeartbeats 4000000 in
theorem tcheck_any (ns : List Nod) (A1 : Option Addr) (n1 c1 B1 : Nat) (w : World) (h1 : RdNods w B1 A1 ns) (hn1 : ns.length = n1) (hB : B1 ≤ w.heap.size) (hm1 : n1 * 120 ≤ 140737488355328) (hok : ∀ x ∈ ns, okNodT x) :
    Calls Try.prog 9 #[.slice A1 n1 c1] w (CheckRes ns w) := by
  have Hn1 := Lib.hid hn1
  have HOK := Lib.hid hok
  clear hn1 hok
  go_enter Try.func9, Try.ntmps9
  go_wp2
  go_loopw [13] (fun i wr => ∃ (k c : Nat) (A : Option Addr) (st : List Int), k ≤ n1 ∧ i = .int .i64 k ∧ st.length ≤ k ∧ StkW wr w.heap.size w.heap.size A c st ∧ Hid (runN' (ns.drop k) k st = runN' ns 0 []) ∧ Below w.heap.size w wr) (fun i _ => n1 - (intOf i).toNat)
  case atStart => exact ⟨0, 0, none, [], by omega, rfl, by simp, ⟨Blk.new w _ [.slice none 0 0], Own.nil_ (by omega), Nat.le_refl _⟩, rfl, (Below.refl _ _).alloc (Nat.le_refl _) _⟩
  case round =>
    obtain ⟨k, c, A, st, hk, rfl, hst, hS, HR, hb⟩ := hrel
    have hk0 : (0 : Int) ≤ (k : Int) := Int.natCast_nonneg _
    have hsz := hb.size
    have hPlt := hS.1.lt
    by_cases hlt : k < n1
    · have hk1 : (k : Int) < (n1 : Int) := by omega
      obtain ⟨x, e1⟩ := get_lt Hn1 hlt
      obtain ⟨b1, o1, Am, cm, An, cn, hA1, hb1, p0, p1, p2, p3, p4, p5, p6, p7, p8, p9, r1, r2, _, _, _, _⟩ := (h1.below (hb.mono hB)).at_ e1
      subst hA1
      have E1 := Lib.hid e1
      have hbl : b1 < wr.heap.size := by omega
      have ok := HOK.out x (List.mem_of_getElem? e1)
      have HX := Lib.hid ok
      clear e1 ok
      have hbX := (Below.refl wr.heap.size wr).alloc (Nat.le_refl _) (.cells (nodC x Am cm An cn).toArray 34)
      have HNd := Lib.hid (tnode_any x Am An cm cn B1 w.heap.size w.heap.size A c st (wr.alloc (.cells (nodC x Am cm An cn).toArray 34)) ((r1.below (hbX.mono (by omega)))) ((r2.below (hbX.mono (by omega)))) hB (by simp; omega) HX.out (hS.belowAll hbX) (by omega))
      go_wp2_with fail
      refine (HNd.out).mono ?_
      rintro e w2 ⟨rfl, hb2, A', c', hS2⟩
      have hbn := (hb.alloc hsz (.cells (nodC x Am cm An cn).toArray 34)).trans hb2
      clear HNd hbX r1 r2 p0 p1 p2 p3 p4 p5 p6 p7 p8 p9 hS
      by_cases h0 : (stepN st x).1 = 0
      · have HR2 := (runN_step E1.out h0).trans HR.out
        have hl2 := stepN_len st x
        have HR3 := Lib.hid HR2
        clear HR2
        rw [h0]
        go_wp2
        go_roundw
        case rel => exact ⟨k + 1, c', A', (stepN st x).2, by omega, by go_num, by omega, hS2, HR3, hbn⟩
        case measure => simp [intOf]; omega
      · have HC := Lib.hid (checkN_err ((HR.out.symm).trans (runN_stop E1.out h0)))
        have hne : ((stepN st x).1 == 0) = false := by rw [beq_eq_false_iff_ne]; exact h0
        have hne' : ((stepN st x).1 != 0) = true := by rw [bne_iff_ne]; exact h0
        clear h0
        go_wp2
        go_ret3
        exact ⟨by rw [HC.out]; exact ret_three rfl rfl rfl, hbn⟩
    · have hkn : k = n1 := by omega
      have hkI : ¬ (k : Int) < n1 := by omega
      have HR2 : Hid (runN' ns 0 [] = .ok st) := by
        have := HR.out
        rw [List.drop_of_length_le (by have := Hn1.out; omega)] at this
        exact this.symm
      have q0 := hS.1.cell (j := 0) rfl
      clear hkn
      by_cases h1 : st.length = 1 ∧ ¬ 4096 < n1
      · obtain ⟨h1, h2⟩ := h1
        match st, h1 with
        | [v], _ =>
          have HC := Lib.hid (checkN_good HR2.out rfl (by rw [Hn1.out]; exact h2))
          rcases hS.2.1.form with ⟨_, h0, _⟩ | ⟨g, rfl, _, hg⟩
          · simp at h0
          obtain ⟨b, o, e, _, hc⟩ := hS.2.1.rd.at1 (k := 0) (v0 := .int .i64 v) rfl
          injection e with e
          injection e with e1 e2
          subst e1 e2
          have h2I : ¬ (4096 : Int) < n1 := by omega
          clear h2
          go_wp2
          go_ret3
          exact ⟨by rw [HC.out]; exact ret_three rfl rfl rfl, hb⟩
      · have HC := Lib.hid (checkN_bad HR2.out (by rw [Hn1.out]; omega))
        by_cases h2 : st.length = 1
        · have h3 : (4096 : Int) < n1 := by omega
          have h4 : ((st.length : Int) != 1) = false := by rw [bne_eq_false_iff_eq]; omega
          have h5 : ((st.length : Int) == 1) = true := by rw [beq_iff_eq]; omega
          clear h1 h2
          go_wp2
          go_ret3
          exact ⟨by rw [HC.out]; exact ret_three rfl (by show (n1 : Int) = (ns.length : Int); rw [Hn1.out]) rfl, hb⟩
        · have h4 : ((st.length : Int) != 1) = true := by rw [bne_iff_ne]; omega
          have h5 : ((st.length : Int) == 1) = false := by rw [beq_eq_false_iff_ne]; omega
          clear h1 h2
          go_wp2
          go_ret3
          exact ⟨by rw [HC.out]; exact ret_three rfl (by show (n1 : Int) = (ns.length : Int); rw [Hn1.out]) rfl, hb⟩
end Go.Proofs.Ytmhfeeomlpdnkaa
