/- (*Replacer).Replace at any text. -/
import Derived.Test.YtnlheomfobpcmaaGreatRepL
namespace Go.Proofs.YtnlheomfobpcmaaGreat
open Go.RowKit

theorem repl_all (Q : Nat) (s : ByteArray) (w : World) (hR : Repl w Q) (hs : s.size ≤ 1099511627776) :
    Calls Tryz.prog 145 #[.pointer (some ⟨Q, 0, none⟩), .string s] w fun e w' => e = .returned (.string ⟨(escL s.data.toList).toArray⟩) ∧ Below w.heap.size w w' := by
  by_cases h : s.size < 24
  · exact repl_any Q s w hR h
  · exact repl_long Q s w hR (by omega) hs
set_option maxRecDepth 100000 in
set_option maxHeartbeats 2000000 in
theorem replace_any (R b o c : Nat) (s : ByteArray) (B B0 : Nat) (w : World) (hw : Rp w R 0 0 .nilIface (.slice (some ⟨b, o, none⟩) 6 c)) (hr : Rd w B 1 (some ⟨b, o, none⟩) (namesC pairsS)) (hB : B ≤ w.heap.size) (hB0 : B0 ≤ R) (hbR : b ≠ R) (hs : s.size ≤ 1099511627776) :
    Calls Tryz.prog 47 #[.pointer (some ⟨R, 0, none⟩), .string s] w fun e w' => e = .returned (.string ⟨(escL s.data.toList).toArray⟩) ∧ Below B0 w w' := by
  have hw1 : Rp (w.setCell ⟨R, 1, none⟩ (.int .i32 1)) R 0 1 .nilIface (.slice (some ⟨b, o, none⟩) 6 c) := Blk.set hw 1 _
  have hr1 : Rd (w.setCell ⟨R, 1, none⟩ (.int .i32 1)) (w.setCell ⟨R, 1, none⟩ (.int .i32 1)).heap.size 1 (some ⟨b, o, none⟩) (namesC pairsS) := by
    refine ⟨hr.1, fun hn => ?_⟩
    obtain ⟨b', o', e, hb', hc⟩ := hr.2 hn
    injection e with e
    injection e with e1 e2
    subst e1 e2
    exact ⟨b, o, rfl, by simp; omega, fun k x j v hx hv => (World.cell?_setCell_other _ _ _ _ (fun e => hbR (congrArg Addr.block e).symm)).trans (hc k x j v hx hv)⟩
  have hO := once_any R .nilIface (.slice (some ⟨b, o, none⟩) 6 c) (fun w' => ∃ Q, (w.setCell ⟨R, 1, none⟩ (.int .i32 1)).heap.size ≤ Q ∧ Repl w' Q ∧ Rp w' R 0 1 (.iface 127 (.pointer (some ⟨Q, 0, none⟩))) (.slice none 0 0) ∧ Below B0 (w.setCell ⟨R, 1, none⟩ (.int .i32 1)) w') w hw
    (buildOnce_any R b o c 0 1 .nilIface _ B0 _ hw1 hr1 (Nat.le_refl _) hB0) (fun w' h => by obtain ⟨Q, _, _, h, _⟩ := h; exact ⟨_, _, h⟩)
  have HO := Lib.hid hO
  have hlt := Blk.lt hw
  have hmf : ∀ (fn : Fn) (first cap : Array Value) (w : World), (Instr.makeFunc fn first cap).run Tryz.prog w = .ok (.func fn first cap) w := fun _ _ _ _ => rfl
  clear hO hr1 hw1 hr hw
  go_enter Tryz.func47, Tryz.ntmps47
  go_wp2_with fail
  refine (HO.out).mono ?_
  rintro e w3 ⟨rfl, w2, ⟨Q, hQ, hrep, hrp, hb⟩, rfl⟩
  have h3 : Rp ((w2.drew.setCell ⟨R, 0, none⟩ (.int .u32 1)).setCell ⟨R, 1, none⟩ (.int .i32 0)) R 1 0 (.iface 127 (.pointer (some ⟨Q, 0, none⟩))) (.slice none 0 0) := Blk.set (Blk.set (w := w2.drew) hrp 0 _) 1 _
  have hRQ : R ≠ Q := by
    have : w.heap.size ≤ Q := by simpa using hQ
    omega
  have keep : ∀ g, g ≠ R → ((w2.drew.setCell ⟨R, 0, none⟩ (.int .u32 1)).setCell ⟨R, 1, none⟩ (.int .i32 0)).heap[g]? = w2.heap[g]? := fun g hg => (Below.heap_setCell _ ⟨R, 1, none⟩ _ g hg).trans (Below.heap_setCell w2.drew ⟨R, 0, none⟩ _ g hg)
  have hrep3 : Repl ((w2.drew.setCell ⟨R, 0, none⟩ (.int .u32 1)).setCell ⟨R, 1, none⟩ (.int .i32 0)) Q := by
    obtain ⟨row, A, ca, h1, h2, h3', h4, h5⟩ := hrep
    refine ⟨row, A, ca, h1.keep (keep Q (fun e => hRQ e.symm)), h2, h3', ?_, h5.keep fun g l hg => keep g (blk_ne_bytes hrp hg (by decide))⟩
    obtain ⟨base, ho⟩ := h4
    have ha := own_ne_blk ho hrp (by decide)
    exact ⟨base, (ho.drew.setOther ha 0 (.int .u32 1)).setOther ha 1 (.int .i32 0)⟩
  have hb3 : Below B0 w ((w2.drew.setCell ⟨R, 0, none⟩ (.int .u32 1)).setCell ⟨R, 1, none⟩ (.int .i32 0)) := ((((Below.refl B0 w).setCell (p := ⟨R, 1, none⟩) hB0 (.int .i32 1)).trans hb).drew.setCell (p := ⟨R, 0, none⟩) hB0 _).setCell (p := ⟨R, 1, none⟩) hB0 _
  generalize (w2.drew.setCell ⟨R, 0, none⟩ (.int .u32 1)).setCell ⟨R, 1, none⟩ (.int .i32 0) = w3 at *
  have c3 := Blk.cell h3 (j := 3) rfl
  have HR := Lib.hid (repl_all Q s w3 hrep3 hs)
  have hm : ∀ W : World, (method 289 127 (.pointer (some ⟨Q, 0, none⟩)) "Replace").run Tryz.prog W = .ok (145, .pointer (some ⟨Q, 0, none⟩)) W := fun _ => by kernel_rfl
  clear keep hrep3 hrp hb HO hrep
  go_wp2_with (go_at_call 145; refine (HR.out).mono ?_; rintro e w4 ⟨rfl, hb4⟩)
  go_ret
  exact ⟨rfl, hb3.trans (hb4.mono (Nat.le_trans (by omega) hb3.size))⟩
end Go.Proofs.YtnlheomfobpcmaaGreat
