/- Types of trees: what every program answers that is one. -/
import Derived.Test.YtmhfeeomlpdnkaaTypC
import Derived.Test.YtmhfeeomlpdnkaaNodC
namespace Go.Proofs.Ytmhfeeomlpdnkaa
open Go.RowKit

def sName : ByteArray := ⟨#[95, 95, 110, 97, 109, 101, 95, 95]⟩
def sX : ByteArray := ⟨#[120]⟩
def nodX : Nod := ⟨2, 0, ByteArray.empty, [⟨1, sName, sX⟩], 0, 0, 0, [], false, 0⟩
def nodR : Nod := ⟨4, 1, ByteArray.empty, [], 0, 0, 0, [], false, 1⟩
theorem check_one : checkN [nodX] = (2, 0, 0) := by decide +kernel
theorem check_two : checkN [nodX, nodR] = (0, 1, 191) := by decide +kernel
theorem ok_nodX : okNodT nodX := ⟨by simp [nodX], by simp [nodX], by simp [nodX, maxLen], by simp [nodX]; decide +kernel, by show ByteArray.empty.size ≤ _; decide +kernel⟩
theorem ok_nodR : okNodT nodR := ⟨by simp [nodR], by simp [nodR], by simp [nodR, maxLen], by simp [nodR], by show ByteArray.empty.size ≤ _; decide +kernel⟩
theorem at_nodX {w : World} {B M : Nat} (h : Rd w B 3 (some ⟨M, 0, none⟩) (matsC nodX.mat)) : NodAt w B (nodC nodX (some ⟨M, 0, none⟩) 1 none 0) nodX :=
  ⟨_, _, _, _, rfl, h, Rd.nil_, by simp [nodX], by simp [maxLen], by simp [nodX], by simp [maxLen]⟩
theorem at_nodR {w : World} {B : Nat} : NodAt w B (nodC nodR none 0 none 0) nodR :=
  ⟨_, _, _, _, rfl, Rd.nil_, Rd.nil_, by simp [nodR], by simp [maxLen], by simp [nodR], by simp [maxLen]⟩
theorem rd_one {w : World} {M : Nat} {e : TypeId} (hm : Rd w w.heap.size 3 (some ⟨M, 0, none⟩) (matsC nodX.mat)) : RdNods (w.alloc (.cells (nodC nodX (some ⟨M, 0, none⟩) 1 none 0).toArray e)) (w.heap.size + 1) (some ⟨w.heap.size, 0, none⟩) [nodX] := by
  refine ⟨[nodC nodX (some ⟨M, 0, none⟩) 1 none 0], Rd.new w (by simp [nodC]) _ (by simp), rfl, fun k n hn => ?_⟩
  match k, hn with
  | 0, hn =>
    simp at hn; subst hn
    exact ⟨_, rfl, at_nodX ((hm.below ((Below.refl _ _).alloc (Nat.le_refl _) _)).more (Nat.le_succ _))⟩
theorem rd_two {w : World} {M : Nat} {e : TypeId} (hm : Rd w w.heap.size 3 (some ⟨M, 0, none⟩) (matsC nodX.mat)) : RdNods (w.alloc (.cells (nodC nodX (some ⟨M, 0, none⟩) 1 none 0 ++ nodC nodR none 0 none 0).toArray e)) (w.heap.size + 1) (some ⟨w.heap.size, 0, none⟩) [nodX, nodR] := by
  refine ⟨[nodC nodX (some ⟨M, 0, none⟩) 1 none 0, nodC nodR none 0 none 0], Rd.new w (by simp [nodC]) _ (by simp), rfl, fun k n hn => ?_⟩
  match k, hn with
  | 0, hn =>
    simp at hn; subst hn
    exact ⟨_, rfl, at_nodX ((hm.below ((Below.refl _ _).alloc (Nat.le_refl _) _)).more (Nat.le_succ _))⟩
  | 1, hn =>
    simp at hn; subst hn
    exact ⟨_, rfl, at_nodR⟩
theorem new_cell2 (W : World) (c : Array Value) (e : TypeId) (o : Obj) (k : Nat) : ((W.alloc (.cells c e)).alloc o).cell? ⟨W.heap.size, k, none⟩ = c[k]? := by
  have h1 : ((W.alloc (.cells c e)).alloc o).heap[W.heap.size]? = some (.cells c e) := by
    show ((W.heap.push (.cells c e)).push o)[W.heap.size]? = _
    simp [Array.getElem?_push]
  unfold World.cell?
  simp [h1]
set_option maxRecDepth 100000 in
set_option maxHeartbeats 4000000 in
theorem tawake_any (w : World) : Calls Try.prog 11 #[] w fun e w' => e = .returned (.bool true) ∧ Below w.heap.size w w' := by
  have hm0 : Rd (w.alloc (.cells (matC ⟨1, sName, sX⟩).toArray 56)) (w.heap.size + 1) 3 (some ⟨w.heap.size, 0, none⟩) (matsC nodX.mat) := Rd.new w (by simp [matsC, nodX, matC]) _ rfl
  have hm1 : Rd ((w.alloc (.cells (matC ⟨1, sName, sX⟩).toArray 56)).alloc (.cells (nodC nodX (some ⟨w.heap.size, 0, none⟩) 1 none 0).toArray 34)) (w.heap.size + 1 + 1) 3 (some ⟨w.heap.size, 0, none⟩) (matsC nodX.mat) := (hm0.keep (fun b o hb => ((Below.refl (w.heap.size + 1) (w.alloc (.cells (matC ⟨1, sName, sX⟩).toArray 56))).alloc (by simp) _).cell (p := ⟨b, o, none⟩) hb)).more (by omega)
  have hr := rd_one (e := 34) (by rw [World.size_alloc, World.size_alloc]; exact hm1)
  simp only [World.size_alloc] at hr
  have H1 := Lib.hid (tcheck_any [nodX] (some ⟨w.heap.size + 1 + 1, 0, none⟩) 1 1 _ _ hr rfl (by simp) (by omega) (by intro x hx; simp at hx; subst hx; exact ok_nodX))
  have HM1 := Lib.hid hm1
  clear hm0 hm1 hr
  go_enter Try.func11, Try.ntmps11
  go_wp2_with fail
  refine (H1.out).mono ?_
  rintro e w2 ⟨rfl, hb2⟩
  rw [check_one]
  have hc : ∀ o, _ := fun o => hb2.cell (p := ⟨w.heap.size + 1, o, none⟩) (by simp)
  have hn : ∀ o, w2.cell? ⟨w.heap.size + 1, o, none⟩ = (nodC nodX (some ⟨w.heap.size, 0, none⟩) 1 none 0).toArray[o]? := by
    intro o
    rw [hc o]
    have := new_cell2 (w.alloc (.cells (matC ⟨1, sName, sX⟩).toArray 56)) (nodC nodX (some ⟨w.heap.size, 0, none⟩) 1 none 0).toArray 34 (.cells (nodC nodX (some ⟨w.heap.size, 0, none⟩) 1 none 0).toArray 34) o
    rw [World.size_alloc] at this
    exact this
  clear hc
  have h0 := hn 0
  have h1 := hn 1
  have h2 := hn 2
  have h3 := hn 3
  have h4 := hn 4
  have h5 := hn 5
  have h6 := hn 6
  have h7 := hn 7
  have h8 := hn 8
  have h9 := hn 9
  clear hn
  simp [nodC, nodX] at h0 h1 h2 h3 h4 h5 h6 h7 h8 h9
  go_wp2_with fail
  have hmw : Rd w2 w2.heap.size 3 (some ⟨w.heap.size, 0, none⟩) (matsC nodX.mat) := by
    have := HM1.out
    have hg : w.heap.size + 1 + 1 ≤ w2.heap.size := by have := hb2.size; simp at this; omega
    exact ((this.below ((Below.refl _ _).alloc (by rw [World.size_alloc, World.size_alloc]; exact Nat.le_refl _) _)).below (hb2.mono (by simp))).more hg
  have hr2 := rd_two (e := 34) hmw
  refine (tcheck_any [nodX, nodR] (some ⟨w2.heap.size, 0, none⟩) 2 2 _ _ hr2 rfl (by simp) (by simp) (by intro x hx; simp at hx; rcases hx with rfl | rfl; exact ok_nodX; exact ok_nodR)).mono ?_
  rintro e w3 ⟨rfl, hb3⟩
  rw [check_two]
  go_wp2_with fail
  have hs2 := hb2.size
  simp at hs2
  have g3 : Below w.heap.size w2 w3 := Below.trans ((Below.refl w.heap.size w2).alloc (by omega) _) (hb3.mono (by simp; omega))
  have g2 : Below w.heap.size w w2 := Below.trans ((((Below.refl w.heap.size w).alloc (Nat.le_refl _) _).alloc (by simp) _).alloc (by simp; omega) _) (hb2.mono (by simp; omega))
  go_ret
  exact ⟨by first | rfl | (simp; done), g2.trans g3⟩
end Go.Proofs.Ytmhfeeomlpdnkaa
