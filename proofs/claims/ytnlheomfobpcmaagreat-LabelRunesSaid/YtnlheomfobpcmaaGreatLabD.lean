/- label.Decode at a set's own bytes, wherever they stand: package label's own. -/
import Derived.Test.YtnlheomfobpcmaaGreatCodP
import Derived.Test.YtnlheomfobpcmaaGreatLabW
import Derived.Test.YtnlheomfobpcmaaGreatCheckE
namespace Go.Proofs.YtnlheomfobpcmaaGreat
open Go.RowKit

theorem putText_app (h l : List UInt8) (s : ByteArray) : putText (h ++ l) s = h ++ putText l s := by simp [putText]
/-- A set's bytes go on from its first k labels' ones. -/
theorem encK_rest {ls : List Lab} : ∀ d k : Nat, k + d ≤ ls.length → ∃ r, encK ls (k + d) = encK ls k ++ r
  | 0, k, _ => ⟨[], by simp⟩
  | d + 1, k, h => by
    obtain ⟨r, hr⟩ := encK_rest (ls := ls) d k (by omega)
    have h2 := encK_succ (ls := ls) (k := k + d) (l := ls[k + d]'(by omega)) (List.getElem?_eq_getElem (by omega))
    rw [show k + (d + 1) = k + d + 1 from by omega, h2, hr]
    exact ⟨r ++ putU _ ++ _ ++ putU _ ++ _, by simp only [putText, List.append_assoc]; rfl⟩
theorem encL_at {ls : List Lab} {k : Nat} {l : Lab} (h : ls[k]? = some l) : ∃ r, encL ls = putText (putText (encK ls k) l.1) l.2 ++ r := by
  have hk := (List.getElem?_eq_some_iff.1 h).1
  obtain ⟨r, hr⟩ := encK_rest (ls := ls) (ls.length - (k + 1)) (k + 1) (by omega)
  rw [show k + 1 + (ls.length - (k + 1)) = ls.length from by omega, encK_succ h] at hr
  exact ⟨r, hr⟩
/-- The two texts of a label are read. -/
theorem read_lab {ls : List Lab} {k : Nat} {l : Lab} (h : ls[k]? = some l) (hd t : List UInt8) (h1 : l.1.size < 18446744073709551616) (h2 : l.2.size < 18446744073709551616) :
    textR (hd ++ encL ls ++ t) (((hd ++ encK ls k).length : Nat) : Int) = (l.1, (((hd ++ putText (encK ls k) l.1).length : Nat) : Int), 0) ∧
    textR (hd ++ encL ls ++ t) (((hd ++ putText (encK ls k) l.1).length : Nat) : Int) = (l.2, (((hd ++ encK ls (k + 1)).length : Nat) : Int), 0) := by
  obtain ⟨r, hr⟩ := encL_at h
  constructor
  · have := textR_put (hd ++ encK ls k) (putU l.2.size ++ l.2.data.toList ++ r ++ t) l.1 h1
    rw [putText_app] at this
    rw [hr]
    have e : hd ++ (putText (putText (encK ls k) l.1) l.2 ++ r) ++ t = hd ++ putText (encK ls k) l.1 ++ (putU l.2.size ++ l.2.data.toList ++ r ++ t) := by simp [putText]
    rw [e]
    exact this
  · have := textR_put (hd ++ putText (encK ls k) l.1) (r ++ t) l.2 h2
    rw [putText_app] at this
    rw [hr, encK_succ h]
    have e : hd ++ (putText (putText (encK ls k) l.1) l.2 ++ r) ++ t = hd ++ putText (putText (encK ls k) l.1) l.2 ++ (r ++ t) := by simp
    rw [e]
    exact this
theorem read_num {ls : List Lab} (hd t : List UInt8) (h : ls.length < 18446744073709551616) : uintR (hd ++ encL ls ++ t) ((hd.length : Nat) : Int) = (ls.length, (((hd ++ encK ls 0).length : Nat) : Int), 0) := by
  obtain ⟨r, hr⟩ := encK_rest (ls := ls) ls.length 0 (by omega)
  rw [Nat.zero_add] at hr
  have e0 : encK ls 0 = putU ls.length := rfl
  have := uintR_put hd (r ++ t) ls.length h
  unfold encL
  rw [hr, e0, List.length_append]
  have e : hd ++ (putU ls.length ++ r) ++ t = hd ++ putU ls.length ++ (r ++ t) := by simp
  rw [e]
  exact this
/-- The place behind the first k labels. -/
def dpos (hd : List UInt8) (ls : List Lab) (k : Nat) : Nat := (hd ++ encK ls k).length
theorem dpos_end (hd : List UInt8) (ls : List Lab) : dpos hd ls ls.length = hd.length + (encL ls).length := by unfold dpos encL; rw [List.length_append]
theorem dpos_le (hd t : List UInt8) (ls : List Lab) (k : Nat) (hk : k ≤ ls.length) : dpos hd ls k ≤ (hd ++ encL ls ++ t).length := by
  have h := encK_le (ls := ls) (ls.length - k) k (by omega)
  rw [show k + (ls.length - k) = ls.length from by omega] at h
  unfold dpos encL
  simp only [List.length_append]
  omega
/-- What has been read so far. -/
def DecAt (ls : List Lab) (w : World) (k : Nat) (v : Value) (w' : World) : Prop := ∃ A c, v = .slice A k c ∧ Own w' w.heap.size 51 2 A k c (labsC (ls.take k)) ∧ Below w.heap.size w w'
/-- The label being read, in block L: i of its texts are there. -/
def HalfAt (ls : List Lab) (w : World) (A : Option Addr) (k c L N : Nat) (l : Lab) (i : Nat) (w' : World) : Prop :=
  Below w.heap.size w w' ∧ Own w' w.heap.size 51 2 A k c (labsC (ls.take k)) ∧ Blk w' L 51 [.string (if 0 < i then l.1 else ByteArray.empty), .string (if 1 < i then l.2 else ByteArray.empty)] ∧ Blk w' N 83 [.pointer (some ⟨L, 0, none⟩), .pointer (some ⟨L, 1, none⟩)]
theorem HalfAt.set {ls : List Lab} {w : World} {A : Option Addr} {k c L N : Nat} {l : Lab} {i : Nat} {w' : World} (h : HalfAt ls w A k c L N l i w') (hi : i < 2) (hL : w.heap.size ≤ L) (hA : some L ≠ A.map Addr.block) (hN : N ≠ L) :
    HalfAt ls w A k c L N l (i + 1) (w'.setCell ⟨L, i, none⟩ (.string (if i = 0 then l.1 else l.2))) := by
  obtain ⟨h1, h2, h3, h4⟩ := h
  refine ⟨h1.setCell (p := ⟨L, i, none⟩) hL _, h2.setOther hA _ _, ?_, h4.other (a := ⟨L, i, none⟩) hN _⟩
  have := h3.set i (.string (if i = 0 then l.1 else l.2))
  match i, hi with
  | 0, _ => exact this
  | 1, _ => exact this
set_option maxRecDepth 100000 in
set_option maxHeartbeats 4000000 in
theorem decode_at (l0 : List UInt8) (hd t : List UInt8) (ls : List Lab) (A : Option Addr) (n c B : Nat) (w : World) (hl0 : l0 = hd ++ encL ls ++ t) (hr : Rd w B 1 A (bytesC l0)) (hn : l0.length = n) (hB : B ≤ w.heap.size) (hm : n ≤ 140737488355328) (hnc : n ≤ c) (hcm : c ≤ maxLen) (hls : ls.length ≤ 16) (hok : okLabs ls) (hck : checkL ls = 0) :
    Calls Tryz.prog 36 #[.slice A n c, .int .i64 (hd.length : Nat)] w fun e w' => ∃ A' c', e = .returned (.tuple #[.slice A' ls.length c', .int .i64 ((hd.length + (encL ls).length : Nat) : Int), .int .i64 0]) ∧ Own w' w.heap.size 51 2 A' ls.length c' (labsC ls) ∧ Below w.heap.size w w' := by
  have hcx := hcm
  unfold maxLen at hcx
  obtain ⟨m, hme⟩ : ∃ m, ls.length = m := ⟨_, rfl⟩
  have hhl : hd.length ≤ n := by rw [← hn, hl0]; simp only [List.length_append]; omega
  have hU := uint_any l0 A n c B (hd.length : Nat) w hr hn hm (by omega) (by omega)
  rw [hl0, read_num hd t (by omega)] at hU
  have HU : Hid (Calls Tryz.prog 70 #[.slice A n c, .int .i64 (hd.length : Nat)] w fun e w' => e = .returned (.tuple #[.int .u64 (m : Nat), .int .i64 (dpos hd ls 0 : Nat), .int .i64 0]) ∧ w = w') := by rw [← hme]; exact hU
  have hdl := dpos_le hd t ls
  rw [← hl0, hn] at hdl
  have HD := Lib.hid hdl
  have HDE := Lib.hid (dpos_end hd ls)
  have hread : ∀ k l, ls[k]? = some l → ∃ a1, a1 ≤ n ∧ textR l0 ((dpos hd ls k : Nat) : Int) = (l.1, ((a1 : Nat) : Int), 0) ∧ textR l0 ((a1 : Nat) : Int) = (l.2, ((dpos hd ls (k + 1) : Nat) : Int), 0) := by
    intro k l hl
    obtain ⟨ok1, ok2⟩ := hok l (List.mem_of_getElem? hl)
    unfold maxLen at ok1 ok2
    have := read_lab hl hd t (by omega) (by omega)
    rw [← hl0] at this
    refine ⟨_, ?_, this.1, this.2⟩
    obtain ⟨r, hr⟩ := encL_at hl
    rw [← hn, hl0, hr]
    simp only [putText, List.length_append]
    omega
  have HRD := Lib.hid hread
  have Hn := Lib.hid hn
  have Hm := Lib.hid hme
  have HCK : ∀ (A1 : Option Addr) (c1 : Nat) (W : World), Own W w.heap.size 51 2 A1 m c1 (labsC ls) → Hid (Calls Tryz.prog 10 #[.slice A1 m c1] W fun e w' => e = .returned (.int .i64 0) ∧ Below W.heap.size W w') := fun A1 c1 W ho => by
    have := check_any ls A1 m c1 W.heap.size W ho.rd hme (Nat.le_refl _) (by simp only [maxLen]; omega) hok
    rw [hck] at this
    exact this
  rw [← HDE.out]
  rw [hme] at hls HDE
  rw [hme]
  clear hU hn hme hl0 hread hdl hok hck
  have hmI : ¬ (16 : Int) < (m : Int) := by omega
  go_enter Tryz.func36, Tryz.ntmps36
  go_wp2_with (go_at_call 70; refine (HU.out).mono ?_; rintro e w' ⟨rfl, rfl⟩)
  go_loopw [7, 1, 9] (fun q a v wr => ∃ k q' : Nat, q' + k = m ∧ q = .int .u64 (q' : Nat) ∧ a = .int .i64 (dpos hd ls k : Nat) ∧ Hid (DecAt ls w k v wr)) (fun q _ _ _ => (intOf q).toNat)
  case atStart => exact ⟨0, m, by omega, rfl, rfl, none, 0, rfl, Own.nil_ (by omega), Below.refl _ _⟩
  case round =>
    clear HU
    obtain ⟨k, q, hk, rfl, rfl, HE⟩ := hrel
    obtain ⟨A2, c2, rfl, ho, hb⟩ := HE.out
    have hs := hb.size
    by_cases hlt : 0 < q
    · obtain ⟨l, hl⟩ := get_lt (k := k) Hm (by omega)
      obtain ⟨a1, ha1, r1, r2⟩ := HRD.out k l hl
      have ha0 := HD.out k (by have := Hm.out; omega)
      have ha2 := HD.out (k + 1) (by have := Hm.out; omega)
      have HT1 : ∀ W, Below w.heap.size w W → Hid (Calls Tryz.prog 71 #[.slice A n c, .int .i64 (dpos hd ls k : Nat)] W fun e w' => e = .returned (.tuple #[.string l.1, .int .i64 (a1 : Nat), .int .i64 0]) ∧ W = w') := fun W hW => by
        have := text_any l0 A n c B (dpos hd ls k : Nat) W (hr.below (hW.mono hB)) Hn.out hm hnc hcm (by omega) (by omega)
        rw [r1] at this
        exact this
      have HT2 : ∀ W, Below w.heap.size w W → Hid (Calls Tryz.prog 71 #[.slice A n c, .int .i64 (a1 : Nat)] W fun e w' => e = .returned (.tuple #[.string l.2, .int .i64 (dpos hd ls (k + 1) : Nat), .int .i64 0]) ∧ W = w') := fun W hW => by
        have := text_any l0 A n c B (a1 : Nat) W (hr.below (hW.mono hB)) Hn.out hm hnc hcm (by omega) (by omega)
        rw [r2] at this
        exact this
      obtain ⟨a0, ha0e⟩ : ∃ a0, a0 = dpos hd ls k := ⟨_, rfl⟩
      obtain ⟨a2, ha2e⟩ : ∃ a2, a2 = dpos hd ls (k + 1) := ⟨_, rfl⟩
      rw [← ha0e] at HT1 ha0
      rw [← ha2e] at HT2 ha2
      rw [← ha0e]
      have HA2e := Lib.hid ha2e
      have HO := Lib.hid ho
      have HBB := Lib.hid hb
      have HL : Hid (labsC (ls.take (k + 1)) = labsC (ls.take k) ++ labsC [l]) := by show _ = _; rw [List.take_add_one, hl]; simp [labsC]
      clear r1 r2 ha2e ha0e ho hb HE hl
      obtain ⟨L, hL⟩ : ∃ L, L = wr.heap.size := ⟨_, rfl⟩
      have hLN : L + 1 ≠ L := by omega
      have hwL : w.heap.size ≤ L := by omega
      have hAL : some L ≠ A2.map Addr.block := fun e => by have := (HO.out.block e.symm).2; omega
      have hH0 : Hid (HalfAt ls w A2 k c2 L (L + 1) l 0 ((wr.alloc (.cells #[.string ByteArray.empty, .string ByteArray.empty] 51)).alloc (.cells #[.pointer (some ⟨L, 0, none⟩), .pointer (some ⟨L, 1, none⟩)] 83))) := by
        rw [hL]
        refine ⟨(HBB.out.alloc hs _).alloc (by simp; omega) _, (HO.out.alloc _).alloc _, (Blk.new wr 51 [.string ByteArray.empty, .string ByteArray.empty]).alloc _, ?_⟩
        have := Blk.new (wr.alloc (.cells #[.string ByteArray.empty, .string ByteArray.empty] 51)) 83 [.pointer (some ⟨wr.heap.size, 0, none⟩), .pointer (some ⟨wr.heap.size, 1, none⟩)]
        simpa using this
      rw [hL] at hH0
      go_wp2_with fail
      rw [← hL] at hH0 ⊢
      clear HO HBB hL
      go_loopw [34, 1] (fun i a W => ∃ i' : Nat, i' ≤ 2 ∧ i = .int .i64 (i' : Nat) ∧ a = .int .i64 ((if i' = 0 then a0 else if i' = 1 then a1 else a2 : Nat) : Int) ∧ Hid (HalfAt ls w A2 k c2 L (L + 1) l i' W)) (fun i _ _ => 2 - (intOf i).toNat)
      case atStart => exact ⟨0, by omega, rfl, rfl, hH0⟩
      case round =>
        clear hH0
        obtain ⟨i', hi', rfl, rfl, HH⟩ := hrel
        rcases (show i' = 0 ∨ i' = 1 ∨ i' = 2 by omega) with rfl | rfl | rfl
        · have hset := Lib.hid (HH.out.set (by omega) hwL hAL hLN)
          obtain ⟨h1, h2, h3, h4⟩ := HH.out
          have c0 := h4.cell (j := 0) rfl
          have d0 := h3.cell (j := 0) rfl
          have f0 := h3.frozen 0
          have HT := HT1 _ h1
          clear h1 h2 h3 h4 HH HT1 HT2
          simp only [if_true] at hset ⊢
          go_wp2_with (go_at_call 71; refine (HT.out).mono ?_; rintro e w' ⟨rfl, rfl⟩)
          go_roundw
          case rel => exact ⟨1, by omega, rfl, rfl, hset⟩
          case measure => decide
        · have hset := Lib.hid (HH.out.set (by omega) hwL hAL hLN)
          obtain ⟨h1, h2, h3, h4⟩ := HH.out
          have c0 := h4.cell (j := 1) rfl
          have d0 := h3.cell (j := 1) rfl
          have f0 := h3.frozen 1
          have HT := HT2 _ h1
          clear h1 h2 h3 h4 HH HT1 HT2
          simp only [if_true, if_neg (show ¬ (1 : Nat) = 0 by omega)] at hset ⊢
          go_wp2_with (go_at_call 71; refine (HT.out).mono ?_; rintro e w' ⟨rfl, rfl⟩)
          go_roundw
          case rel => exact ⟨2, by omega, rfl, rfl, hset⟩
          case measure => decide
        · obtain ⟨h1, h2, h3, h4⟩ := HH.out
          have d0 := h3.cell (j := 0) rfl
          have d1 := h3.cell (j := 1) rfl
          have HB1 := Lib.hid h1
          have HO1 := Lib.hid h2
          clear h1 h2 h3 h4 HH HT1 HT2
          simp only [if_neg (show ¬ (2 : Nat) = 0 by omega), if_neg (show ¬ (2 : Nat) = 1 by omega), if_pos (show (0 : Nat) < 2 by omega), if_pos (show (1 : Nat) < 2 by omega)] at d0 d1 ⊢
          have hsw := HB1.out.size
          go_wp2_with (at_builtin; go_must (refine wpList_append_rd _ rfl (.tmp 51) (.tmp 53) _ rfl eiLab rfl (HO1.out.alloc _) rfl (Rd.new (xs := labsC [l]) wr (labsC_all _) _ rfl) rfl (labsC_one _) (by simp only [maxLen]; omega) (by omega) (by simp; omega) ?_; intro A3 c3 w3 ho3 hg3 hat3 hb3))
          have HD2 : Hid (DecAt ls w (k + 1) (.slice A3 (k + 1) c3) w3) := ⟨A3, c3, rfl, by rw [HL.out]; exact ho3, (HB1.out.alloc (by omega) _).trans hb3⟩
          clear ho3 hg3 hat3 hb3
          go_wp2_with fail
          go_roundw
          case rel => exact ⟨k + 1, q - 1, by omega, by go_num, by rw [HA2e.out], HD2⟩
          case measure => simp [intOf]; omega
    · have hkm : k = m := by omega
      have hq0 : q = 0 := by omega
      subst hkm hq0
      have HT : Hid (ls.take k = ls) := by show _ = _; rw [← Hm.out, List.take_length]
      rw [HT.out] at ho
      have HC := HCK A2 c2 wr ho
      have HO := Lib.hid ho
      have HBB := Lib.hid hb
      clear ho hb HE HCK
      go_wp2_with (go_at_call 10; refine (HC.out).mono ?_; rintro e w2 ⟨rfl, hb2⟩)
      go_ret3
      exact ⟨A2, c2, rfl, HO.out.belowAll hb2, HBB.out.trans (hb2.mono hs)⟩
end Go.Proofs.YtnlheomfobpcmaaGreat
