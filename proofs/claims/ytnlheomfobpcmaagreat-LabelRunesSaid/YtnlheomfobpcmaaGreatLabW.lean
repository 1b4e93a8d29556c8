/- label: a set's bytes and hash: package label's own and the document's. -/
import Derived.Test.YtnlheomfobpcmaaGreatCodV
import Derived.Test.YtnlheomfobpcmaaGreatLabS
import Derived.Test.YtnlheomfobpcmaaGreatBlk
import Derived.Deep.RegionHeld3
namespace Go.Proofs.YtnlheomfobpcmaaGreat
open Go.RowKit

theorem keep_drew {W w1 : World} {b o : Nat} {v : Value} (hb : Below W.drew.heap.size W.drew w1) (hp : b < W.heap.size) (h : W.cell? ⟨b, o, none⟩ = some v) : w1.cell? ⟨b, o, none⟩ = some v := (hb.cell (p := ⟨b, o, none⟩) hp).trans h
theorem keep_on {W w1 : World} {b o : Nat} {v : Value} (hb : Below W.heap.size W w1) (h : W.cell? ⟨b, o, none⟩ = some v) : w1.cell? ⟨b, o, none⟩ = some v := (hb.cell (p := ⟨b, o, none⟩) (World.block_lt_of_cell? W _ h)).trans h
/-- The loop of a set's bytes: what has been written so far. -/
def EncAt (ls : List Lab) (w : World) (k : Nat) (vo : Value) (w' : World) : Prop := ∃ A m c, vo = .slice A m c ∧ (encK ls k).length = m ∧ Own w' w.heap.size 5 1 A m c (bytesC (encK ls k)) ∧ Below w.heap.size w w'
set_option maxRecDepth 100000 in
set_option maxHeartbeats 2000000 in
theorem labEncode_any (ls : List Lab) (A : Option Addr) (n c B : Nat) (w : World) (hr : Rd w B 2 A (labsC ls)) (hn : ls.length = n) (hB : B ≤ w.heap.size) (hm : n ≤ 140737488355328) (he : (encL ls).length ≤ 140737488355300) :
    Calls Tryz.prog 11 #[.slice A n c] w fun e w' => BytesOut w (encL ls) e w' := by
  have HP := fun (W : World) => Lib.hid (putUint_any [] none 0 0 W.heap.size n W Rd.nil_ rfl (Nat.le_refl _) (by omega) (by omega))
  have Hn := Lib.hid hn
  clear hn
  go_enter Tryz.func11, Tryz.ntmps11
  go_wp2_with (go_at_call 41; refine ((HP _).out).mono ?_; rintro e w' ⟨A1, m1, c1, hm1, rfl, ho, hb⟩)
  have hI : Hid (EncAt ls w 0 (.slice A1 m1 c1) w') := ⟨A1, m1, c1, rfl, by simpa [encK, Hn.out] using hm1, by simpa [encK, Hn.out] using ho, hb⟩
  clear hm1 ho hb HP
  go_loopw [12, 3] (fun i vo wr => ∃ k : Nat, i = .int .i64 k ∧ k ≤ n ∧ Hid (EncAt ls w k vo wr)) (fun i _ _ => n - (intOf i).toNat)
  case atStart => exact ⟨0, rfl, by omega, hI⟩
  case round =>
    clear hI
    obtain ⟨k, rfl, hk, HE⟩ := hrel
    obtain ⟨A2, m2, c2, rfl, hm2, ho, hb⟩ := HE.out
    have hs := hb.size
    by_cases hlt : k < n
    · obtain ⟨l, hl⟩ := get_lt Hn hlt
      have hr2 := hr.below (hb.mono hB)
      obtain ⟨b, o, rfl, hbB, g0, g1⟩ := hr2.at2 (labsC_at hl)
      have hroom := encK_room hl
      have hltI : (k : Int) < (n : Int) := by omega
      have HL := Lib.hid (encK_succ hl)
      have HM := Lib.hid hm2
      have HO := Lib.hid ho
      have HBB := Lib.hid hb
      have HW0 : Hid (∀ o, Own (wr.alloc o) w.heap.size 5 1 A2 m2 c2 (bytesC (encK ls k)) ∧ Below w.heap.size w (wr.alloc o)) := fun o => ⟨ho.alloc o, hb.alloc hs o⟩
      clear hl HE hm2 ho hb hr hr2
      go_wp2_with fail
      have e0 : (wr.alloc (.cells #[.string l.1, .string l.2] 51)).cell? ⟨wr.heap.size, 0, none⟩ = some (.string l.1) := (Blk.new wr 51 [.string l.1, .string l.2]).cell rfl
      have e1 : (wr.alloc (.cells #[.string l.1, .string l.2] 51)).cell? ⟨wr.heap.size, 1, none⟩ = some (.string l.2) := (Blk.new wr 51 [.string l.1, .string l.2]).cell rfl
      have hsz0 : (wr.alloc (.cells #[.string l.1, .string l.2] 51)).heap.size = wr.heap.size + 1 := by simp
      obtain ⟨hO0, hB0⟩ := HW0.out (.cells #[.string l.1, .string l.2] 51)
      generalize wr.alloc (.cells #[.string l.1, .string l.2] 51) = W0 at *
      clear HW0
      have HS : Hid (wr.heap.size < W0.heap.size) := by show _ < _; omega
      have HQ3 : Hid (m2 + l.1.size ≤ 140737488355300) := by show _ ≤ _; rw [HM.out] at hroom; omega
      have hwW0 : w.heap.size ≤ W0.heap.size := by omega
      go_region_held3 (fun w' => w'.cell? ⟨wr.heap.size, 0, none⟩ = some (.string l.1) ∧ w'.cell? ⟨wr.heap.size, 1, none⟩ = some (.string l.2))
        (first | exact ⟨keep_on hb2 (keep_drew hb1 HS.out e0), keep_on hb2 (keep_drew hb1 HS.out e1)⟩ | exact ⟨keep_drew hb1 HS.out e0, keep_drew hb1 HS.out e1⟩ | exact ⟨e0, e1⟩ | go_keep)
        (first
          | (go_at_call 42; refine (putText_any (putText (encK ls k) l.1) A3 m3 c3 w1.heap.size l.2 _ ?q1 hm3 ?q2 ?q3).mono ?_; (case q1 => exact ho1.rd); (case q2 => exact Nat.le_refl _); (case q3 => rw [putText_len] at hm3; omega); rintro e w2 ⟨A4, m4, c4, hm4, rfl, ho2, hb2⟩)
          | (go_at_call 42; refine (putText_any (encK ls k) A2 m2 c2 W0.heap.size l.1 _ ?q1 HM.out ?q2 ?q3).mono ?_; (case q1 => exact hO0.rd.drew); (case q2 => exact Nat.le_refl _); (case q3 => exact HQ3.out); rintro e w1 ⟨A3, m3, c3, hm3, rfl, ho1, hb1⟩))
      have HI2 : Hid (EncAt ls w (k + 1) (.slice A4 m4 c4) w2) := ⟨A4, m4, c4, rfl, by rw [HL.out]; exact hm4, by rw [HL.out]; exact ho2.lower (by have := hb1.size; simp at this; omega), (hB0.drew.trans (hb1.mono hwW0)).trans (hb2.mono (by have := hb1.size; simp at this; omega))⟩
      clear hb1 hb2 ho1 ho2 hO0 hB0 hm3 hm4
      go_wp2_with fail
      go_roundw
      case rel => exact ⟨k + 1, by go_num, by omega, HI2⟩
      case measure => simp [intOf]; omega
    · have hkn : k = n := by omega
      subst hkn
      have HT : Hid (encK ls k = encL ls) := by show _ = _; unfold encL; rw [Hn.out]
      go_wp2_with fail
      go_ret
      refine ⟨A2, m2, c2, by rw [← HT.out]; exact hm2, rfl, by rw [← HT.out]; exact ho, hb⟩
set_option maxRecDepth 100000 in
set_option maxHeartbeats 2000000 in
theorem rlabEncode_any (ls : List Lab) (A : Option Addr) (n c B : Nat) (w : World) (hr : Rd w B 2 A (labsC ls)) (hn : ls.length = n) (hB : B ≤ w.heap.size) (hm : n ≤ 140737488355328) (he : (encL ls).length ≤ 140737488355300) :
    Calls Tryz.prog 17 #[.slice A n c] w fun e w' => BytesOut w (encL ls) e w' := by
  have HP := fun (W : World) => Lib.hid (rputUint_any [] none 0 0 W.heap.size n W Rd.nil_ rfl (Nat.le_refl _) (by omega) (by omega))
  have Hn := Lib.hid hn
  clear hn
  go_enter Tryz.func17, Tryz.ntmps17
  go_wp2_with (go_at_call 51; refine ((HP _).out).mono ?_; rintro e w' ⟨A1, m1, c1, hm1, rfl, ho, hb⟩)
  have hI : Hid (EncAt ls w 0 (.slice A1 m1 c1) w') := ⟨A1, m1, c1, rfl, by simpa [encK, Hn.out] using hm1, by simpa [encK, Hn.out] using ho, hb⟩
  clear hm1 ho hb HP
  go_loopw [4, 3] (fun i vo wr => ∃ k : Nat, i = .int .i64 k ∧ k ≤ n ∧ Hid (EncAt ls w k vo wr)) (fun i _ _ => n - (intOf i).toNat)
  case atStart => exact ⟨0, rfl, by omega, hI⟩
  case round =>
    clear hI
    obtain ⟨k, rfl, hk, HE⟩ := hrel
    obtain ⟨A2, m2, c2, rfl, hm2, hO0, hB0⟩ := HE.out
    have hwW0 := hB0.size
    by_cases hlt : k < n
    · obtain ⟨l, hl⟩ := get_lt Hn hlt
      have hr2 := hr.below (hB0.mono hB)
      obtain ⟨b, o, rfl, hbB, e0, e1⟩ := hr2.at2 (labsC_at hl)
      have hroom := encK_room hl
      have hltI : (k : Int) < (n : Int) := by omega
      have HL := Lib.hid (encK_succ hl)
      have HM := Lib.hid hm2
      have HS : Hid (b < wr.heap.size) := by show _ < _; omega
      have HQ3 : Hid (m2 + l.1.size ≤ 140737488355300) := by show _ ≤ _; rw [HM.out] at hroom; omega
      clear hl HE hm2 hr hr2
      go_wp2_with fail
      go_region_held3 (fun w' => w'.cell? ⟨b, o + k * 2, none⟩ = some (.string l.1) ∧ w'.cell? ⟨b, o + k * 2 + 1, none⟩ = some (.string l.2))
        (first | exact ⟨keep_on hb2 (keep_drew hb1 HS.out e0), keep_on hb2 (keep_drew hb1 HS.out e1)⟩ | exact ⟨keep_drew hb1 HS.out e0, keep_drew hb1 HS.out e1⟩ | exact ⟨e0, e1⟩ | go_keep)
        (first
          | (go_at_call 52; refine (rputText_any (putText (encK ls k) l.1) A3 m3 c3 w1.heap.size l.2 _ ?q1 hm3 ?q2 ?q3).mono ?_; (case q1 => exact ho1.rd); (case q2 => exact Nat.le_refl _); (case q3 => rw [putText_len] at hm3; omega); rintro e w2 ⟨A4, m4, c4, hm4, rfl, ho2, hb2⟩)
          | (go_at_call 52; refine (rputText_any (encK ls k) A2 m2 c2 wr.heap.size l.1 _ ?q1 HM.out ?q2 ?q3).mono ?_; (case q1 => exact hO0.rd.drew); (case q2 => exact Nat.le_refl _); (case q3 => exact HQ3.out); rintro e w1 ⟨A3, m3, c3, hm3, rfl, ho1, hb1⟩))
      have HI2 : Hid (EncAt ls w (k + 1) (.slice A4 m4 c4) w2) := ⟨A4, m4, c4, rfl, by rw [HL.out]; exact hm4, by rw [HL.out]; exact ho2.lower (by have := hb1.size; simp at this; omega), (hB0.drew.trans (hb1.mono hwW0)).trans (hb2.mono (by have := hb1.size; simp at this; omega))⟩
      clear hb1 hb2 ho1 ho2 hO0 hB0 hm3 hm4
      go_wp2_with fail
      go_roundw
      case rel => exact ⟨k + 1, by go_num, by omega, HI2⟩
      case measure => simp [intOf]; omega
    · have hkn : k = n := by omega
      subst hkn
      have HT : Hid (encK ls k = encL ls) := by show _ = _; unfold encL; rw [Hn.out]
      go_wp2_with fail
      go_ret
      refine ⟨A2, m2, c2, by rw [← HT.out]; exact hm2, rfl, by rw [← HT.out]; exact hO0, hB0⟩
end Go.Proofs.YtnlheomfobpcmaaGreat
