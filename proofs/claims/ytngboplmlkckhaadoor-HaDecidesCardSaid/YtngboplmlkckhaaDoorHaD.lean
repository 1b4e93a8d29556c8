/- ha: who is heard, a register written and read: package ha's own and the document's. -/
import Derived.Test.YtngboplmlkckhaaDoorCodW
import Derived.Test.YtngboplmlkckhaaDoorCodT
import Derived.Test.YtngboplmlkckhaaDoorHaS
import Derived.Test.YtngboplmlkckhaaDoorHaW
namespace Go.Proofs.YtngboplmlkckhaaDoor
open Go.RowKit

set_option maxHeartbeats 1000000 in
theorem decide_any (has : Bool) (rep r : ByteArray) (stamp now refresh failover : Int) (w : World) (h1 : -4611686018427387904 ≤ stamp) (h2 : stamp ≤ 4611686018427387903) (h3 : -4611686018427387904 ≤ now) (h4 : now ≤ 4611686018427387903) :
    Calls Tryd.prog 16 #[.bool has, .agg #[.string rep, .int .i64 stamp], .string r, .int .i64 now, .int .i64 refresh, .int .i64 failover] w fun e w' => e = .returned (.int .i64 (decR has rep stamp r now refresh failover)) ∧ Below w.heap.size w w' := by
  have hb : Hid (∀ o, Below w.heap.size w (w.alloc o)) := fun o => (Below.refl _ _).alloc (Nat.le_refl _) o
  by_cases hhas : has = false
  · subst hhas
    have HT : Hid (decR false rep stamp r now refresh failover = 2) := rfl
    go_enter Tryd.func16, Tryd.ntmps16
    go_wp2
    go_ret
    exact ⟨ret_int HT.out.symm, hb.out _⟩
  · obtain rfl : has = true := by simpa using hhas
    clear hhas
    by_cases he : rep = r
    · subst he
      by_cases hp : refresh ≤ now - stamp
      · have HT : Hid (decR true rep stamp rep now refresh failover = 1) := by show _ = _; simp [decR, hp]
        have hd : decide (refresh ≤ now - stamp) = true := decide_eq_true hp
        go_enter Tryd.func16, Tryd.ntmps16
        go_wp2
        go_ret
        exact ⟨ret_int HT.out.symm, hb.out _⟩
      · have HT : Hid (decR true rep stamp rep now refresh failover = 0) := by show _ = _; simp [decR, hp]
        have hd : decide (refresh ≤ now - stamp) = false := decide_eq_false hp
        clear hp
        go_enter Tryd.func16, Tryd.ntmps16
        go_wp2
        go_ret
        exact ⟨ret_int HT.out.symm, hb.out _⟩
    · have hne : (rep.toList == r.toList) = false := by rw [beq_toList]; exact decide_eq_false he
      by_cases hp : failover ≤ now - stamp
      · have HT : Hid (decR true rep stamp r now refresh failover = 2) := by show _ = _; simp [decR, hp, he]
        have hd : decide (failover ≤ now - stamp) = true := decide_eq_true hp
        clear he
        go_enter Tryd.func16, Tryd.ntmps16
        go_wp2
        go_ret
        exact ⟨ret_int HT.out.symm, hb.out _⟩
      · have HT : Hid (decR true rep stamp r now refresh failover = 3) := by show _ = _; simp [decR, hp, he]
        have hd : decide (failover ≤ now - stamp) = false := decide_eq_false hp
        clear hp he
        go_enter Tryd.func16, Tryd.ntmps16
        go_wp2
        go_ret
        exact ⟨ret_int HT.out.symm, hb.out _⟩
set_option maxHeartbeats 1000000 in
theorem rdecide_any (has : Bool) (rep r : ByteArray) (stamp now refresh failover : Int) (w : World) (h1 : -4611686018427387904 ≤ stamp) (h2 : stamp ≤ 4611686018427387903) (h3 : -4611686018427387904 ≤ now) (h4 : now ≤ 4611686018427387903) :
    Calls Tryd.prog 17 #[.bool has, .agg #[.string rep, .int .i64 stamp], .string r, .int .i64 now, .int .i64 refresh, .int .i64 failover] w fun e w' => e = .returned (.int .i64 (decR has rep stamp r now refresh failover)) ∧ Below w.heap.size w w' := by
  have hb : Hid (∀ o, Below w.heap.size w (w.alloc o)) := fun o => (Below.refl _ _).alloc (Nat.le_refl _) o
  by_cases hhas : has = false
  · subst hhas
    have HT : Hid (decR false rep stamp r now refresh failover = 2) := rfl
    go_enter Tryd.func17, Tryd.ntmps17
    go_wp2
    go_ret
    exact ⟨ret_int HT.out.symm, hb.out _⟩
  · obtain rfl : has = true := by simpa using hhas
    clear hhas
    by_cases he : rep = r
    · subst he
      by_cases hp : refresh ≤ now - stamp
      · have HT : Hid (decR true rep stamp rep now refresh failover = 1) := by show _ = _; simp [decR, hp]
        have hd : decide (refresh ≤ now - stamp) = true := decide_eq_true hp
        go_enter Tryd.func17, Tryd.ntmps17
        go_wp2
        go_ret
        exact ⟨ret_int HT.out.symm, hb.out _⟩
      · have HT : Hid (decR true rep stamp rep now refresh failover = 0) := by show _ = _; simp [decR, hp]
        have hd : decide (refresh ≤ now - stamp) = false := decide_eq_false hp
        clear hp
        go_enter Tryd.func17, Tryd.ntmps17
        go_wp2
        go_ret
        exact ⟨ret_int HT.out.symm, hb.out _⟩
    · have hne : (rep.toList == r.toList) = false := by rw [beq_toList]; exact decide_eq_false he
      by_cases hp : failover ≤ now - stamp
      · have HT : Hid (decR true rep stamp r now refresh failover = 2) := by show _ = _; simp [decR, hp, he]
        have hd : decide (failover ≤ now - stamp) = true := decide_eq_true hp
        clear he
        go_enter Tryd.func17, Tryd.ntmps17
        go_wp2
        go_ret
        exact ⟨ret_int HT.out.symm, hb.out _⟩
      · have HT : Hid (decR true rep stamp r now refresh failover = 3) := by show _ = _; simp [decR, hp, he]
        have hd : decide (failover ≤ now - stamp) = false := decide_eq_false hp
        clear hp he
        go_enter Tryd.func17, Tryd.ntmps17
        go_wp2
        go_ret
        exact ⟨ret_int HT.out.symm, hb.out _⟩
set_option maxRecDepth 100000 in
set_option maxHeartbeats 2000000 in
theorem encode_any (r : ByteArray) (t : Int) (w : World) (hm : r.size ≤ 140737488355280) (h1 : -9223372036854775808 ≤ t) (h2 : t ≤ 9223372036854775807) :
    Calls Tryd.prog 11 #[.agg #[.string r, .int .i64 t]] w fun e w' => BytesOut w (ldrB r t) e w' := by
  go_enter Tryd.func11, Tryd.ntmps11
  go_wp2_with fail
  have e0 : (w.alloc (.cells #[.string r, .int .i64 t] 23)).cell? ⟨w.heap.size, 0, none⟩ = some (.string r) := (Blk.new w 23 [.string r, .int .i64 t]).cell rfl
  have e1 : (w.alloc (.cells #[.string r, .int .i64 t] 23)).cell? ⟨w.heap.size, 1, none⟩ = some (.int .i64 t) := (Blk.new w 23 [.string r, .int .i64 t]).cell rfl
  have hsz0 : (w.alloc (.cells #[.string r, .int .i64 t] 23)).heap.size = w.heap.size + 1 := by simp
  have hB0 : Below w.heap.size w (w.alloc (.cells #[.string r, .int .i64 t] 23)) := (Below.refl _ _).alloc (Nat.le_refl _) _
  generalize w.alloc (.cells #[.string r, .int .i64 t] 23) = W0 at *
  have hwW0 : w.heap.size ≤ W0.heap.size := by omega
  have HS : Hid (w.heap.size < W0.heap.size) := by show _ < _; omega
  have hL := putU_le10 (x := r.size) (by omega)
  go_region_held3 (fun w' => w'.cell? ⟨w.heap.size, 0, none⟩ = some (.string r) ∧ w'.cell? ⟨w.heap.size, 1, none⟩ = some (.int .i64 t))
    (first | exact ⟨keep_on hb2 (keep_drew hb1 HS.out e0), keep_on hb2 (keep_drew hb1 HS.out e1)⟩ | exact ⟨keep_drew hb1 HS.out e0, keep_drew hb1 HS.out e1⟩ | exact ⟨e0, e1⟩ | go_keep)
    (first
      | (go_at_call 24; refine (putInt_any (putText [] r) A3 m3 c3 w1.heap.size t _ ?q1 hm3 ?q2 ?q3 h1 h2).mono ?_; (case q1 => exact ho1.rd); (case q2 => exact Nat.le_refl _); (case q3 => rw [putText_len] at hm3; simp at hm3; omega); rintro e w2 ⟨A4, m4, c4, hm4, rfl, ho2, hb2⟩)
      | (go_at_call 25; refine (putText_any [] none 0 0 W0.heap.size r _ ?q1 rfl ?q2 ?q3).mono ?_; (case q1 => exact Rd.nil_); (case q2 => exact Nat.le_refl _); (case q3 => omega); rintro e w1 ⟨A3, m3, c3, hm3, rfl, ho1, hb1⟩))
  go_wp2_with fail
  go_ret
  exact ⟨A4, m4, c4, hm4, rfl, ho2.lower (by have := hb1.size; simp at this; omega), (hB0.drew.trans (hb1.mono hwW0)).trans (hb2.mono (by have := hb1.size; simp at this; omega))⟩
set_option maxRecDepth 100000 in
set_option maxHeartbeats 2000000 in
theorem rencode_any (r : ByteArray) (t : Int) (w : World) (hm : r.size ≤ 140737488355280) (h1 : -9223372036854775808 ≤ t) (h2 : t ≤ 9223372036854775807) :
    Calls Tryd.prog 12 #[.agg #[.string r, .int .i64 t]] w fun e w' => BytesOut w (ldrB r t) e w' := by
  go_enter Tryd.func12, Tryd.ntmps12
  go_wp2_with fail
  have e0 : (w.alloc (.cells #[.string r, .int .i64 t] 23)).cell? ⟨w.heap.size, 0, none⟩ = some (.string r) := (Blk.new w 23 [.string r, .int .i64 t]).cell rfl
  have e1 : (w.alloc (.cells #[.string r, .int .i64 t] 23)).cell? ⟨w.heap.size, 1, none⟩ = some (.int .i64 t) := (Blk.new w 23 [.string r, .int .i64 t]).cell rfl
  have hsz0 : (w.alloc (.cells #[.string r, .int .i64 t] 23)).heap.size = w.heap.size + 1 := by simp
  have hB0 : Below w.heap.size w (w.alloc (.cells #[.string r, .int .i64 t] 23)) := (Below.refl _ _).alloc (Nat.le_refl _) _
  generalize w.alloc (.cells #[.string r, .int .i64 t] 23) = W0 at *
  have hwW0 : w.heap.size ≤ W0.heap.size := by omega
  have HS : Hid (w.heap.size < W0.heap.size) := by show _ < _; omega
  have hL := putU_le10 (x := r.size) (by omega)
  go_region_held3 (fun w' => w'.cell? ⟨w.heap.size, 0, none⟩ = some (.string r) ∧ w'.cell? ⟨w.heap.size, 1, none⟩ = some (.int .i64 t))
    (first | exact ⟨keep_on hb2 (keep_drew hb1 HS.out e0), keep_on hb2 (keep_drew hb1 HS.out e1)⟩ | exact ⟨keep_drew hb1 HS.out e0, keep_drew hb1 HS.out e1⟩ | exact ⟨e0, e1⟩ | go_keep)
    (first
      | (go_at_call 26; refine (rputInt_any (putText [] r) A3 m3 c3 w1.heap.size t _ ?q1 hm3 ?q2 ?q3 h1 h2).mono ?_; (case q1 => exact ho1.rd); (case q2 => exact Nat.le_refl _); (case q3 => rw [putText_len] at hm3; simp at hm3; omega); rintro e w2 ⟨A4, m4, c4, hm4, rfl, ho2, hb2⟩)
      | (go_at_call 27; refine (rputText_any [] none 0 0 W0.heap.size r _ ?q1 rfl ?q2 ?q3).mono ?_; (case q1 => exact Rd.nil_); (case q2 => exact Nat.le_refl _); (case q3 => omega); rintro e w1 ⟨A3, m3, c3, hm3, rfl, ho1, hb1⟩))
  go_wp2_with fail
  go_ret
  exact ⟨A4, m4, c4, hm4, rfl, ho2.lower (by have := hb1.size; simp at this; omega), (hB0.drew.trans (hb1.mono hwW0)).trans (hb2.mono (by have := hb1.size; simp at this; omega))⟩
theorem ret_ldr {a a' : ByteArray} {b b' c c' : Int} (h1 : a = a') (h2 : b = b') (h3 : c = c') : Ending.returned (.tuple #[.agg #[.string a, .int .i64 b], .int .i64 c]) = Ending.returned (.tuple #[.agg #[.string a', .int .i64 b'], .int .i64 c']) := by rw [h1, h2, h3]
theorem textR_to {l : List UInt8} {at_ : Int} : 0 ≤ (textR l at_).2.1 ∧ (textR l at_).2.1 ≤ l.length := by
  unfold textR
  split
  · simp only; omega
  · rename_i h
    have := uintR_ok (l := l) (at_ := at_) (by simpa using h)
    split
    · simp only; omega
    · simp only; omega
theorem intR_to {l : List UInt8} {at_ : Int} : 0 ≤ (intR l at_).2.1 ∧ (intR l at_).2.1 ≤ l.length := by
  show 0 ≤ (uintR l at_).2.1 ∧ (uintR l at_).2.1 ≤ l.length
  by_cases h : (uintR l at_).2.2 = 0
  · have := uintR_ok h; omega
  · rw [uintR_bad h]; simp only; omega
set_option maxHeartbeats 2000000 in
theorem decode_any (l : List UInt8) (A : Option Addr) (n c B : Nat) (w : World) (hr : Rd w B 1 A (bytesC l)) (hn : l.length = n) (hB : B ≤ w.heap.size) (hm : n ≤ 140737488355328) (hnc : n ≤ c) (hcm : c ≤ maxLen) :
    Calls Tryd.prog 8 #[.slice A n c] w fun e w' => e = .returned (.tuple #[.agg #[.string (ldrR l).1, .int .i64 (ldrR l).2.1], .int .i64 (ldrR l).2.2]) ∧ Below w.heap.size w w' := by
  have HT := fun (W : World) (h : Rd W B 1 A (bytesC l)) => text_any l A n c B 0 W h hn hm hnc hcm (by omega) (by omega)
  have hto := textR_to (l := l) (at_ := 0)
  have HI := fun (W : World) (h : Rd W B 1 A (bytesC l)) => int_any l A n c B (textR l 0).2.1 W h hn hm (by omega) (by omega)
  have hit := intR_to (l := l) (at_ := (textR l 0).2.1)
  have HL : Hid (ldrR l = if (textR l 0).2.2 ≠ 0 then (ByteArray.empty, 0, 161)
    else if (intR l (textR l 0).2.1).2.2 ≠ 0 ∨ (intR l (textR l 0).2.1).2.1 ≠ (l.length : Int) then (ByteArray.empty, 0, 161)
    else ((textR l 0).1, (intR l (textR l 0).2.1).1, 0)) := rfl
  generalize textR l 0 = p at HT hto HI HL hit
  obtain ⟨s, to, e⟩ := p
  simp only at HT hto HI HL hit
  generalize intR l to = q at HI HL hit
  obtain ⟨v, to2, e2⟩ := q
  simp only at HT hto HI HL hit
  have HT := fun (W : World) (h : Rd W B 1 A (bytesC l)) => Lib.hid (HT W h)
  have HI := fun (W : World) (h : Rd W B 1 A (bytesC l)) => Lib.hid (HI W h)
  have hHL := HL.out
  rw [hn] at hHL hto hit
  have hr1 : Hid (∀ o, Rd (w.alloc o) B 1 A (bytesC l)) := fun o => hr.below ((Below.refl _ _).alloc hB o)
  have hb1 : Hid (∀ o, Below w.heap.size w (w.alloc o)) := fun o => (Below.refl _ _).alloc (Nat.le_refl _) o
  clear HL hn
  by_cases he : e = 0
  · subst he
    rw [if_neg (by simp)] at hHL
    by_cases he2 : e2 = 0
    · subst he2
      by_cases ht : to2 = (n : Int)
      · subst ht
        rw [if_neg (by simp)] at hHL
        have HLL := Lib.hid hHL
        clear hHL
        go_enter Tryd.func8, Tryd.ntmps8
        go_wp2_with (first | (go_at_call 22; refine ((HT _ (hr1.out _)).out).mono ?_; rintro e w' ⟨rfl, rfl⟩) | (go_at_call 23; refine ((HI _ (hr1.out _)).out).mono ?_; rintro e w' ⟨rfl, rfl⟩))
        (try simp only [Exit.inBlock, Exit.then]); refine bodyPost_ret (by simp [results, Tryd.results8, go_sem]; try rfl) rfl ?_
        refine ⟨?_, hb1.out _⟩
        rw [HLL.out] <;> exact ret_ldr rfl rfl rfl
      · rw [if_pos (.inr ht)] at hHL
        have HLL := Lib.hid hHL
        have htb : (to2 != (n : Int)) = true := by rw [bne_iff_ne]; exact ht
        clear hHL ht
        go_enter Tryd.func8, Tryd.ntmps8
        go_wp2_with (first | (go_at_call 22; refine ((HT _ (hr1.out _)).out).mono ?_; rintro e w' ⟨rfl, rfl⟩) | (go_at_call 23; refine ((HI _ (hr1.out _)).out).mono ?_; rintro e w' ⟨rfl, rfl⟩))
        (try simp only [Exit.inBlock, Exit.then]); refine bodyPost_ret (by simp [results, Tryd.results8, go_sem]; try rfl) rfl ?_
        refine ⟨?_, hb1.out _⟩
        rw [HLL.out] <;> exact ret_ldr rfl rfl rfl
    · rw [if_pos (.inl he2)] at hHL
      have HLL := Lib.hid hHL
      have heb : (e2 != 0) = true := by rw [bne_iff_ne]; exact he2
      clear hHL he2
      go_enter Tryd.func8, Tryd.ntmps8
      go_wp2_with (first | (go_at_call 22; refine ((HT _ (hr1.out _)).out).mono ?_; rintro e w' ⟨rfl, rfl⟩) | (go_at_call 23; refine ((HI _ (hr1.out _)).out).mono ?_; rintro e w' ⟨rfl, rfl⟩))
      (try simp only [Exit.inBlock, Exit.then]); refine bodyPost_ret (by simp [results, Tryd.results8, go_sem]; try rfl) rfl ?_
      refine ⟨?_, hb1.out _⟩
      rw [HLL.out] <;> exact ret_ldr rfl rfl rfl
  · rw [if_pos he] at hHL
    have HLL := Lib.hid hHL
    have heb : (e != 0) = true := by rw [bne_iff_ne]; exact he
    clear hHL he
    go_enter Tryd.func8, Tryd.ntmps8
    go_wp2_with (first | (go_at_call 22; refine ((HT _ (hr1.out _)).out).mono ?_; rintro e w' ⟨rfl, rfl⟩) | (go_at_call 23; refine ((HI _ (hr1.out _)).out).mono ?_; rintro e w' ⟨rfl, rfl⟩))
    (try simp only [Exit.inBlock, Exit.then]); refine bodyPost_ret (by simp [results, Tryd.results8, go_sem]; try rfl) rfl ?_
    refine ⟨?_, hb1.out _⟩
    rw [HLL.out] <;> exact ret_ldr rfl rfl rfl
set_option maxHeartbeats 2000000 in
theorem rdecode_any (l : List UInt8) (A : Option Addr) (n c B : Nat) (w : World) (hr : Rd w B 1 A (bytesC l)) (hn : l.length = n) (hB : B ≤ w.heap.size) (hm : n ≤ 140737488355328) (hnc : n ≤ c) (hcm : c ≤ maxLen) :
    Calls Tryd.prog 6 #[.slice A n c] w fun e w' => e = .returned (.tuple #[.agg #[.string (ldrR l).1, .int .i64 (ldrR l).2.1], .int .i64 (ldrR l).2.2]) ∧ Below w.heap.size w w' := by
  have HT := fun (W : World) (h : Rd W B 1 A (bytesC l)) => rtext_any l A n c B 0 W h hn hm hnc hcm (by omega) (by omega)
  have hto := textR_to (l := l) (at_ := 0)
  have HI := fun (W : World) (h : Rd W B 1 A (bytesC l)) => rint_any l A n c B (textR l 0).2.1 W h hn hm (by omega) (by omega)
  have hit := intR_to (l := l) (at_ := (textR l 0).2.1)
  have HL : Hid (ldrR l = if (textR l 0).2.2 ≠ 0 then (ByteArray.empty, 0, 161)
    else if (intR l (textR l 0).2.1).2.2 ≠ 0 ∨ (intR l (textR l 0).2.1).2.1 ≠ (l.length : Int) then (ByteArray.empty, 0, 161)
    else ((textR l 0).1, (intR l (textR l 0).2.1).1, 0)) := rfl
  generalize textR l 0 = p at HT hto HI HL hit
  obtain ⟨s, to, e⟩ := p
  simp only at HT hto HI HL hit
  generalize intR l to = q at HI HL hit
  obtain ⟨v, to2, e2⟩ := q
  simp only at HT hto HI HL hit
  have HT := fun (W : World) (h : Rd W B 1 A (bytesC l)) => Lib.hid (HT W h)
  have HI := fun (W : World) (h : Rd W B 1 A (bytesC l)) => Lib.hid (HI W h)
  have hHL := HL.out
  rw [hn] at hHL hto hit
  have hr1 : Hid (∀ o, Rd (w.alloc o) B 1 A (bytesC l)) := fun o => hr.below ((Below.refl _ _).alloc hB o)
  have hb1 : Hid (∀ o, Below w.heap.size w (w.alloc o)) := fun o => (Below.refl _ _).alloc (Nat.le_refl _) o
  clear HL hn
  by_cases he : e = 0
  · subst he
    rw [if_neg (by simp)] at hHL
    by_cases he2 : e2 = 0
    · subst he2
      by_cases ht : to2 = (n : Int)
      · subst ht
        rw [if_neg (by simp)] at hHL
        have HLL := Lib.hid hHL
        clear hHL
        go_enter Tryd.func6, Tryd.ntmps6
        go_wp2_with (first | (go_at_call 19; refine ((HT _ (hr1.out _)).out).mono ?_; rintro e w' ⟨rfl, rfl⟩) | (go_at_call 20; refine ((HI _ (hr1.out _)).out).mono ?_; rintro e w' ⟨rfl, rfl⟩))
        (try simp only [Exit.inBlock, Exit.then]); refine bodyPost_ret (by simp [results, Tryd.results6, go_sem]; try rfl) rfl ?_
        refine ⟨?_, hb1.out _⟩
        rw [HLL.out] <;> exact ret_ldr rfl rfl rfl
      · rw [if_pos (.inr ht)] at hHL
        have HLL := Lib.hid hHL
        have htb : (to2 != (n : Int)) = true := by rw [bne_iff_ne]; exact ht
        clear hHL ht
        go_enter Tryd.func6, Tryd.ntmps6
        go_wp2_with (first | (go_at_call 19; refine ((HT _ (hr1.out _)).out).mono ?_; rintro e w' ⟨rfl, rfl⟩) | (go_at_call 20; refine ((HI _ (hr1.out _)).out).mono ?_; rintro e w' ⟨rfl, rfl⟩))
        (try simp only [Exit.inBlock, Exit.then]); refine bodyPost_ret (by simp [results, Tryd.results6, go_sem]; try rfl) rfl ?_
        refine ⟨?_, hb1.out _⟩
        rw [HLL.out] <;> exact ret_ldr rfl rfl rfl
    · rw [if_pos (.inl he2)] at hHL
      have HLL := Lib.hid hHL
      have heb : (e2 != 0) = true := by rw [bne_iff_ne]; exact he2
      clear hHL he2
      go_enter Tryd.func6, Tryd.ntmps6
      go_wp2_with (first | (go_at_call 19; refine ((HT _ (hr1.out _)).out).mono ?_; rintro e w' ⟨rfl, rfl⟩) | (go_at_call 20; refine ((HI _ (hr1.out _)).out).mono ?_; rintro e w' ⟨rfl, rfl⟩))
      (try simp only [Exit.inBlock, Exit.then]); refine bodyPost_ret (by simp [results, Tryd.results6, go_sem]; try rfl) rfl ?_
      refine ⟨?_, hb1.out _⟩
      rw [HLL.out] <;> exact ret_ldr rfl rfl rfl
  · rw [if_pos he] at hHL
    have HLL := Lib.hid hHL
    have heb : (e != 0) = true := by rw [bne_iff_ne]; exact he
    clear hHL he
    go_enter Tryd.func6, Tryd.ntmps6
    go_wp2_with (first | (go_at_call 19; refine ((HT _ (hr1.out _)).out).mono ?_; rintro e w' ⟨rfl, rfl⟩) | (go_at_call 20; refine ((HI _ (hr1.out _)).out).mono ?_; rintro e w' ⟨rfl, rfl⟩))
    (try simp only [Exit.inBlock, Exit.then]); refine bodyPost_ret (by simp [results, Tryd.results6, go_sem]; try rfl) rfl ?_
    refine ⟨?_, hb1.out _⟩
    rw [HLL.out] <;> exact ret_ldr rfl rfl rfl
end Go.Proofs.YtngboplmlkckhaaDoor
