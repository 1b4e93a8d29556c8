/- The document's writer: a text in quotes. -/
import Derived.Test.YtakfnojiaakfpaaGreatDoorShwD
import Derived.Test.YtakfnojiaakfpaaGreatDoorNodS
import Derived.BigQuiet
import Derived.Deep.QuietTactic
import Derived.Deep.RegionHeld3
namespace Go.Proofs.YtakfnojiaakfpaaGreatDoor
open Go.RowKit
theorem bytesC_at {ls : List UInt8} {k : Nat} {l : UInt8} (h : ls[k]? = some l) : (bytesC ls)[k]? = some [.int .u8 (l.toNat : Int)] := by simp [bytesC, h]
theorem bytesC_sz (ls : List UInt8) : ∀ x ∈ bytesC ls, x.length = 1 := by
  intro x hx
  obtain ⟨l, _, rfl⟩ := List.mem_map.1 hx
  rfl
theorem bytesC_one (ls : List UInt8) : ∀ y ∈ bytesC ls, ∀ u ∈ y, u.oneCell' = true := by
  intro y hy u hu
  obtain ⟨l, _, rfl⟩ := List.mem_map.1 hy
  simp at hu
  subst hu; rfl
theorem eiBytes : EI Tryz.prog 91 5 1 1 := EI.mk' Tryz.underlying91 (z := .int .u8 0) (by kernel_rfl) rfl (by omega)
def quoL (l : List UInt8) : List UInt8 := 34 :: (escL l ++ [34])
def quoB (s : ByteArray) : ByteArray := ⟨(quoL s.data.toList).toArray⟩
/-- What has been written so far. -/
def QuoAt (s : ByteArray) (w : World) (k : Nat) (v : Value) (w' : World) : Prop := ∃ A m c, v = .slice A m c ∧ (34 :: escL (s.data.toList.take k)).length = m ∧ Own w' w.heap.size 5 1 A m c (bytesC (34 :: escL (s.data.toList.take k))) ∧ Below w.heap.size w w'
set_option maxRecDepth 100000 in
set_option maxHeartbeats 4000000 in
theorem quote_any (s : ByteArray) (w : World) (hs : s.size ≤ 1099511627776) :
    Calls Tryz.prog 76 #[.string s] w fun e w' => e = .returned (.string (quoB s)) ∧ Below w.heap.size w w' := by
  have hl : s.data.toList.length = s.size := (Lib.size_eq s).symm
  have HL := Lib.hid hl
  have hI : Hid (QuoAt s w 0 (.slice (some ⟨w.heap.size, 0, none⟩) 1 1) (w.alloc (.cells #[.int .u8 34] 5))) := by
    refine ⟨some ⟨w.heap.size, 0, none⟩, 1, 1, rfl, rfl, ?_, (Below.refl _ _).alloc (Nat.le_refl _) _⟩
    exact Own.lit (n := 1) (xs := bytesC [34]) w (by omega) (bytesC_sz _) rfl (by simp [maxLen]) (Nat.le_refl _) _ rfl
  clear hl
  go_enter Tryz.func76, Tryz.ntmps76
  go_wp2_with fail
  go_loopw [4, 3] (fun i v wr => ∃ k : Nat, i = .int .i64 k ∧ k ≤ s.size ∧ Hid (QuoAt s w k v wr)) (fun i _ _ => s.size - (intOf i).toNat)
  case atStart => exact ⟨0, rfl, by omega, hI⟩
  case round =>
    clear hI
    obtain ⟨k, rfl, hk, HQ⟩ := hrel
    obtain ⟨A, m, c, rfl, hm, ho, hb⟩ := HQ.out
    have hsz := hb.size
    have hel : (escL (s.data.toList.take k)).length ≤ 2199023255552 := by
      have h1 := (escL_len (s.data.toList.take k)).2
      rw [List.length_take, HL.out] at h1
      omega
    have hmb : m ≤ 2199023255553 := by rw [← hm]; simp; omega
    have HO := Lib.hid ho
    have HB := Lib.hid hb
    have HM := Lib.hid hm
    clear HQ ho hb hm hel
    by_cases hlt : k < s.size
    · have hltI : (k : Int) < (s.size : Int) := by omega
      have hat := str_at hlt
      have hc255 : (s[k]'hlt).toNat ≤ 255 := by have := UInt8.toNat_lt (s[k]'hlt); omega
      have hthree := esc_three (s[k]'hlt)
      obtain ⟨x, hx⟩ : ∃ x, x = s[k]'hlt := ⟨_, rfl⟩
      rw [← hx] at hat hthree hc255
      by_cases h34 : x = 34
      · have hesc : escB x = [92, 34] := by rw [h34]; rfl
        have hxk : ((s[k]'hlt).toNat : Int) = 34 := by rw [← hx, h34]; rfl
        clear hx hthree h34
        -- the bytes appended
        have HS : Hid (34 :: escL (s.data.toList.take (k + 1)) = (34 :: escL (s.data.toList.take k)) ++ [92, 34]) := by show _ = _; rw [escL_add hat, hesc]; simp
        clear hat hesc
        go_wp2_with (at_builtin; go_must (refine wpList_append_rd (ys := bytesC [92, 34]) _ rfl (.tmp 24) (.tmp 28) _ rfl eiBytes rfl (HO.out.alloc _) rfl (Rd.new wr (xs := bytesC [92, 34]) (bytesC_sz _) _ rfl) rfl (bytesC_one _) (by simp only [maxLen]; omega) (by omega) (by simp; omega) ?_; intro A3 c3 w3 ho3 hg3 hat3 hb3))
        have HQ2 : Hid (QuoAt s w (k + 1) (.slice A3 (m + 2) c3) w3) := ⟨A3, m + 2, c3, rfl, by rw [HS.out, List.length_append, HM.out]; rfl, by rw [HS.out]; simpa [bytesC] using ho3, (HB.out.alloc (by omega) _).trans hb3⟩
        clear ho3 hg3 hat3 hb3
        go_wp2_with fail
        go_roundw
        case rel => exact ⟨k + 1, by go_num, by omega, HQ2⟩
        case measure => simp [intOf]; omega
      · by_cases h92 : x = 92
        · have hesc : escB x = [92, 92] := by rw [h92]; rfl
          have hxk : ((s[k]'hlt).toNat : Int) = 92 := by rw [← hx, h92]; rfl
          clear hx hthree h34 h92
          -- the bytes appended
          have HS : Hid (34 :: escL (s.data.toList.take (k + 1)) = (34 :: escL (s.data.toList.take k)) ++ [92, 92]) := by show _ = _; rw [escL_add hat, hesc]; simp
          clear hat hesc
          go_wp2_with (at_builtin; go_must (refine wpList_append_rd (ys := bytesC [92, 92]) _ rfl (.tmp 24) (.tmp 28) _ rfl eiBytes rfl (HO.out.alloc _) rfl (Rd.new wr (xs := bytesC [92, 92]) (bytesC_sz _) _ rfl) rfl (bytesC_one _) (by simp only [maxLen]; omega) (by omega) (by simp; omega) ?_; intro A3 c3 w3 ho3 hg3 hat3 hb3))
          have HQ2 : Hid (QuoAt s w (k + 1) (.slice A3 (m + 2) c3) w3) := ⟨A3, m + 2, c3, rfl, by rw [HS.out, List.length_append, HM.out]; rfl, by rw [HS.out]; simpa [bytesC] using ho3, (HB.out.alloc (by omega) _).trans hb3⟩
          clear ho3 hg3 hat3 hb3
          go_wp2_with fail
          go_roundw
          case rel => exact ⟨k + 1, by go_num, by omega, HQ2⟩
          case measure => simp [intOf]; omega
        · by_cases h10 : x = 10
          · have hesc : escB x = [92, 110] := by rw [h10]; rfl
            have hxk : ((s[k]'hlt).toNat : Int) = 10 := by rw [← hx, h10]; rfl
            clear hx hthree h34 h92 h10
            -- the bytes appended
            have HS : Hid (34 :: escL (s.data.toList.take (k + 1)) = (34 :: escL (s.data.toList.take k)) ++ [92, 110]) := by show _ = _; rw [escL_add hat, hesc]; simp
            clear hat hesc
            go_wp2_with (at_builtin; go_must (refine wpList_append_rd (ys := bytesC [92, 110]) _ rfl (.tmp 32) (.tmp 33) _ rfl eiBytes rfl (HO.out.alloc _) rfl (Rd.new wr (xs := bytesC [92, 110]) (bytesC_sz _) _ rfl) rfl (bytesC_one _) (by simp only [maxLen]; omega) (by omega) (by simp; omega) ?_; intro A3 c3 w3 ho3 hg3 hat3 hb3))
            have HQ2 : Hid (QuoAt s w (k + 1) (.slice A3 (m + 2) c3) w3) := ⟨A3, m + 2, c3, rfl, by rw [HS.out, List.length_append, HM.out]; rfl, by rw [HS.out]; simpa [bytesC] using ho3, (HB.out.alloc (by omega) _).trans hb3⟩
            clear ho3 hg3 hat3 hb3
            go_wp2_with fail
            go_roundw
            case rel => exact ⟨k + 1, by go_num, by omega, HQ2⟩
            case measure => simp [intOf]; omega
          · have hesc : escB x = [x] := by
              refine escB_none ?_
              have := hthree.2
              rw [decide_eq_false h10, decide_eq_false h34, decide_eq_false h92] at this
              simpa using this
            have hn : ∀ z : UInt8, x ≠ z → ¬ (x.toNat : Int) = (z.toNat : Int) := fun z hz e => hz (UInt8.toNat_inj.1 (by omega))
            have n34 : ((x.toNat : Int) == 34) = false := by rw [beq_eq_false_iff_ne]; exact hn 34 h34
            have n92 : ((x.toNat : Int) == 92) = false := by rw [beq_eq_false_iff_ne]; exact hn 92 h92
            have n10 : ((x.toNat : Int) == 10) = false := by rw [beq_eq_false_iff_ne]; exact hn 10 h10
            rw [hx] at n34 n92 n10
            have HRd : Hid (∀ W : World, Rd (W.alloc (.cells #[.int .u8 ((s[k]'hlt).toNat : Int)] 5)) (W.heap.size + 1) 1 (some ⟨W.heap.size, 0, none⟩) (bytesC [x])) := fun W => by rw [hx]; exact Rd.new W (xs := bytesC [s[k]'hlt]) (bytesC_sz _) _ rfl
            clear hn hthree h34 h92 h10 hx
            have HS : Hid (34 :: escL (s.data.toList.take (k + 1)) = (34 :: escL (s.data.toList.take k)) ++ [x]) := by show _ = _; rw [escL_add hat, hesc]; simp
            clear hat hesc
            go_wp2_with (at_builtin; go_must (refine wpList_append_rd (ys := bytesC [x]) _ rfl (.tmp 15) (.tmp 19) _ rfl eiBytes rfl (HO.out.alloc _) rfl (HRd.out wr) rfl (bytesC_one _) (by simp only [maxLen]; omega) (by omega) (by simp; omega) ?_; intro A3 c3 w3 ho3 hg3 hat3 hb3))
            have HQ2 : Hid (QuoAt s w (k + 1) (.slice A3 (m + 1) c3) w3) := ⟨A3, m + 1, c3, rfl, by rw [HS.out, List.length_append, HM.out]; rfl, by rw [HS.out]; simpa [bytesC] using ho3, (HB.out.alloc (by omega) _).trans hb3⟩
            clear ho3 hg3 hat3 hb3
            go_wp2_with fail
            go_roundw
            case rel => exact ⟨k + 1, by go_num, by omega, HQ2⟩
            case measure => simp [intOf]; omega
    · have hkn : k = s.size := by omega
      subst hkn
      have hT : s.data.toList.take s.size = s.data.toList := by rw [← HL.out, List.take_length]
      have hcv : ∀ (A3 : Option Addr) (c3 : Nat) (W : World) (base : Nat), Own W base 5 1 A3 (m + 1) c3 (bytesC (quoL s.data.toList)) → (convert 91 9 (.slice A3 (m + 1) c3)).run Tryz.prog W = .ok (.string (quoB s)) W := by
        intro A3 c3 W base h
        have hlen : (quoL s.data.toList).length = m + 1 := by
          have := HM.out
          rw [hT] at this
          rw [← this]
          simp [quoL]
        rcases h.form with ⟨_, h0, _⟩ | ⟨g, rfl, _, _⟩
        · omega
        · rw [← hlen]
          refine run_convert_bytes_back (P := Tryz.prog) W 91 9 5 ⟨g, 0, none⟩ c3 (quoL s.data.toList) Tryz.underlying91 Tryz.underlying5 Tryz.underlying9 (fun i hi => ?_)
          obtain ⟨b, o, e, _, hc⟩ := h.rd.at1 (bytesC_at (List.getElem?_eq_getElem hi))
          injection e with e
          injection e with e1 e2
          subst e1 e2
          rw [add_none]
          exact hc
      have HS : Hid (quoL s.data.toList = (34 :: escL (s.data.toList.take s.size)) ++ [34]) := by show _ = _; rw [hT]; rfl
      have HC := Lib.hid hcv
      clear hcv hT
      go_wp2_with (at_builtin; go_must (refine wpList_append_rd (ys := bytesC [34]) _ rfl (.tmp 35) (.tmp 36) _ rfl eiBytes rfl (HO.out.alloc _) rfl (Rd.new wr (xs := bytesC [34]) (bytesC_sz _) _ rfl) rfl (bytesC_one _) (by simp only [maxLen]; omega) (by omega) (by simp; omega) ?_; intro A3 c3 w3 ho3 hg3 hat3 hb3; have hcv := HC.out A3 c3 w3 w.heap.size (by rw [HS.out]; simpa [bytesC] using ho3)))
      go_ret
      exact ⟨rfl, (HB.out.alloc (by omega) _).trans hb3⟩
theorem quoB_eq (s : ByteArray) : quoB s = quoT s := by
  rw [quoT_esc]
  apply WideShapes.bytes_inj
  simp [quoB, quoL, sQuote, ByteArray.data_append]
theorem rquote_any (s : ByteArray) (w : World) (hs : s.size ≤ 1099511627776) :
    Calls Tryz.prog 76 #[.string s] w fun e w' => e = .returned (.string (quoT s)) ∧ Below w.heap.size w w' := by
  rw [← quoB_eq]
  exact quote_any s w hs
end Go.Proofs.YtakfnojiaakfpaaGreatDoor
