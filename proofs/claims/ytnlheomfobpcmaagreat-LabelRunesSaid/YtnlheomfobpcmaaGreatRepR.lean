/- The replacer at work: (*byteStringReplacer).Replace at a short text. -/
import Derived.Test.YtnlheomfobpcmaaGreatRepB
import Derived.Laws.CopyRow
import Derived.Laws.CopyOwn
namespace Go.Proofs.YtnlheomfobpcmaaGreat
open Go.RowKit

/-- A byte as a label's text shows it. -/
def escB (c : UInt8) : List UInt8 := (escK 3 c.toNat).getD [c]
def escL (l : List UInt8) : List UInt8 := l.flatMap escB
def escAny (l : List UInt8) : Bool := l.any fun c => (escK 3 c.toNat).isSome
theorem escK_two {k j : Nat} {l : List UInt8} (h : escK k j = some l) : l.length = 2 := by
  unfold escK at h
  split at h
  · injection h with h; subst h; rfl
  · split at h
    · injection h with h; subst h; rfl
    · split at h
      · injection h with h; subst h; rfl
      · cases h
theorem escL_add {l : List UInt8} {k : Nat} {c : UInt8} (h : l[k]? = some c) : escL (l.take (k + 1)) = escL (l.take k) ++ escB c := by
  unfold escL
  rw [List.take_add_one, h, Option.toList_some, List.flatMap_append]
  simp
theorem escAny_add {l : List UInt8} {k : Nat} {c : UInt8} (h : l[k]? = some c) : escAny (l.take (k + 1)) = (escAny (l.take k) || (escK 3 c.toNat).isSome) := by
  unfold escAny
  rw [List.take_add_one, h, Option.toList_some, List.any_append]
  simp
theorem escB_some {c : UInt8} {l : List UInt8} (h : escK 3 c.toNat = some l) : escB c = l := by simp [escB, h]
theorem escB_none {c : UInt8} (h : escK 3 c.toNat = none) : escB c = [c] := by simp [escB, h]
theorem escL_no : ∀ {l : List UInt8}, escAny l = false → escL l = l
  | [], _ => rfl
  | c :: r, h => by
    simp only [escAny, List.any_cons, Bool.or_eq_false_iff] at h
    have h1 : escK 3 c.toNat = none := by simpa using h.1
    have h2 : escL r = r := escL_no h.2
    show escB c ++ escL r = c :: r
    rw [escB_none h1, h2]
    rfl
theorem escB_len (c : UInt8) : 1 ≤ (escB c).length ∧ (escB c).length ≤ 2 := by
  cases h : escK 3 c.toNat with
  | none => rw [escB_none h]; simp
  | some l => rw [escB_some h, escK_two h]; omega
theorem escL_len : ∀ (l : List UInt8), l.length ≤ (escL l).length ∧ (escL l).length ≤ 2 * l.length
  | [] => by decide
  | c :: r => by
    have h1 := escB_len c
    have h2 := escL_len r
    have h3 : (escL (c :: r)).length = (escB c).length + (escL r).length := by
      show (escB c ++ escL r).length = _
      rw [List.length_append]
    simp only [List.length_cons]
    omega
theorem escL_part (l : List UInt8) (k : Nat) : (escL l).length = (escL (l.take k)).length + (escL (l.drop k)).length := by
  conv => lhs; rw [← List.take_append_drop k l]
  unfold escL
  rw [List.flatMap_append, List.length_append]
/-- How many bytes are wanted, as far as k. -/
def needN (l : List UInt8) (k : Nat) : Nat := (l.length - k) + (escL (l.take k)).length
theorem needN_add {l : List UInt8} {k : Nat} {c : UInt8} (h : l[k]? = some c) : needN l (k + 1) + 1 = needN l k + (escB c).length := by
  have hk := (List.getElem?_eq_some_iff.1 h).1
  unfold needN
  rw [escL_add h, List.length_append]
  omega
theorem str_at {s : ByteArray} {k : Nat} (h : k < s.size) : s.data.toList[k]? = some s[k] := by
  have : k < s.data.toList.length := by rw [← Lib.size_eq]; exact h
  rw [List.getElem?_eq_getElem this]
  rfl
/-- Bytes as one row of cells. -/
def bytesV (l : List UInt8) : List Value := l.map fun c => .int .u8 (c.toNat : Int)
theorem bytesV_len (l : List UInt8) : (bytesV l).length = l.length := by simp [bytesV]
/-- The buffer as far as k bytes of the text are through: the rest is nought. -/
def bufC (l : List UInt8) (k : Nat) : List Value := bytesV (escL (l.take k)) ++ List.replicate ((escL l).length - (escL (l.take k)).length) (.int .u8 0)
theorem bufC_len (l : List UInt8) (k : Nat) : (bufC l k).length = (escL l).length := by
  have := escL_part l k
  simp only [bufC, List.length_append, bytesV_len, List.length_replicate]
  omega
theorem drop_len {l : List UInt8} {k : Nat} {c : UInt8} (h : l[k]? = some c) : (escL (l.take k)).length + (escB c).length ≤ (escL l).length := by
  have h1 := escL_part l (k + 1)
  rw [escL_add h, List.length_append] at h1
  omega
theorem bufC_step {l : List UInt8} {k : Nat} {c : UInt8} (h : l[k]? = some c) :
    (bufC l k).take (escL (l.take k)).length ++ bytesV (escB c) ++ (bufC l k).drop ((escL (l.take k)).length + (escB c).length) = bufC l (k + 1) := by
  have hd := drop_len h
  have e1 : (bufC l k).take (escL (l.take k)).length = bytesV (escL (l.take k)) := by
    unfold bufC
    rw [List.take_append_of_le_length (by rw [bytesV_len]; omega), ← bytesV_len, List.take_length]
  have e2 : (bufC l k).drop ((escL (l.take k)).length + (escB c).length) = List.replicate ((escL l).length - ((escL (l.take k)).length + (escB c).length)) (.int .u8 0) := by
    unfold bufC
    rw [List.drop_append, bytesV_len, List.drop_of_length_le (by rw [bytesV_len]; omega), List.nil_append, List.drop_replicate]
    congr 1
    omega
  rw [e1, e2]
  unfold bufC
  rw [escL_add h, List.length_append]
  simp [bytesV]
theorem bufC_set {l : List UInt8} {k : Nat} {c : UInt8} (h : l[k]? = some c) (h1 : escB c = [c]) :
    (bufC l k).set (escL (l.take k)).length (.int .u8 (c.toNat : Int)) = bufC l (k + 1) := by
  have h2 := bufC_step h
  rw [h1] at h2
  rw [← h2]
  have hd := drop_len h
  rw [h1] at hd
  simp only [List.length_singleton] at hd ⊢
  have hl := bufC_len l k
  rw [List.set_eq_take_append_cons_drop, if_pos (by omega)]
  simp [bytesV]
theorem bufC_at {l : List UInt8} {k : Nat} {c : UInt8} (h : l[k]? = some c) : (bufC l k)[(escL (l.take k)).length]? = some (.int .u8 0) := by
  have hd := drop_len h
  have hb := (escB_len c).1
  unfold bufC
  rw [List.getElem?_append_right (by rw [bytesV_len]; omega), bytesV_len, Nat.sub_self, List.getElem?_replicate, if_pos (by omega)]
theorem bufC_one (l : List UInt8) (k : Nat) : ∀ v ∈ bufC l k, v.oneCell' = true := by
  intro v hv
  rcases List.mem_append.1 hv with h | h
  · obtain ⟨c, _, rfl⟩ := List.mem_map.1 h; rfl
  · rw [List.mem_replicate] at h; rw [h.2]; rfl
def BufAt (w : World) (l : List UInt8) (k : Nat) (w' : World) : Prop := Blk w' w.heap.size 5 (bufC l k) ∧ Below w.heap.size w w'
set_option maxRecDepth 100000 in
set_option maxHeartbeats 2000000 in
theorem repl_any (Q : Nat) (s : ByteArray) (w : World) (hR : Repl w Q) (hs : s.size < 24) :
    Calls Tryz.prog 145 #[.pointer (some ⟨Q, 0, none⟩), .string s] w fun e w' => e = .returned (.string ⟨(escL s.data.toList).toArray⟩) ∧ Below w.heap.size w w' := by
  obtain ⟨row, A, c, hQ, hlen, h256, hrd, hes⟩ := hR
  have c256 := Blk.cell hQ h256
  have hsI : ¬ (24 : Int) ≤ (s.size : Int) := by omega
  have hl : s.data.toList.length = s.size := (Lib.size_eq s).symm
  have HE := Lib.hid hes
  have HQ := Lib.hid hQ
  have HL := Lib.hid hl
  clear hrd hes hQ hl
  go_enter Tryz.func145, Tryz.ntmps145
  go_wp2_with fail
  go_loop [10, 5, 6] (fun i v a => ∃ k : Nat, k ≤ s.size ∧ i = .int .i64 k ∧ v = .int .i64 (needN s.data.toList k : Nat) ∧ a = .bool (escAny (s.data.toList.take k))) (fun i _ _ => s.size - (intOf i).toNat)
  case atStart => exact ⟨0, by omega, rfl, by simp [needN, escL, HL.out], rfl⟩
  case round =>
    obtain ⟨k, hk, rfl, rfl, rfl⟩ := hrel
    by_cases hlt : k < s.size
    · have hltI : (k : Int) < (s.size : Int) := by omega
      have hk1 : IntKind.i64.wrap ((k : Int) + 1) = ((k + 1 : Nat) : Int) := by rw [IntKind.wrap_i64]; omega
      have hat := str_at hlt
      have hn1 := needN_add hat
      have ha1 := escAny_add hat
      have hcl : (s[k]'hlt).toNat < 256 := UInt8.toNat_lt _
      have hle : needN s.data.toList k ≤ 100 := by
        have h1 := (escL_len (s.data.toList.take k)).2
        rw [List.length_take, HL.out] at h1
        unfold needN
        rw [HL.out]
        omega
      rcases HE.out (s[k]'hlt).toNat hcl with ⟨h0, hc⟩ | ⟨l, g, c', h0, hc, hcc, hb⟩
      · have cQ := Blk.cell HQ.out hc
        rw [escB_none h0] at hn1
        rw [h0] at ha1
        have e1 : needN s.data.toList (k + 1) = needN s.data.toList k := by simpa using hn1
        have e2 : escAny (s.data.toList.take (k + 1)) = escAny (s.data.toList.take k) := by simpa using ha1
        have H1 := Lib.hid e1
        have H2 := Lib.hid e2
        clear hn1 ha1 e1 e2 hat h0 hc
        go_wp2_with fail
        go_round
        case rel => exact ⟨k + 1, by omega, by go_num, by rw [H1.out], by rw [H2.out]⟩
        case measure => simp [intOf]; omega
      · have cQ := Blk.cell HQ.out hc
        have hl2 := escK_two h0
        rw [hl2] at cQ
        rw [escB_some h0, hl2] at hn1
        rw [h0] at ha1
        have e1 : needN s.data.toList (k + 1) = needN s.data.toList k + 1 := by omega
        have e2 : escAny (s.data.toList.take (k + 1)) = true := by simpa using ha1
        have hw2 : IntKind.i64.wrap ((needN s.data.toList k : Int) + 1) = ((needN s.data.toList (k + 1) : Nat) : Int) := by rw [e1, IntKind.wrap_i64]; omega
        have H2 := Lib.hid e2
        clear hn1 ha1 e1 e2 hat h0 hc
        go_wp2_with fail
        go_round
        case rel => exact ⟨k + 1, by omega, by go_num, by first | rfl | go_num, by rw [H2.out]⟩
        case measure => simp [intOf]; omega
    · have hkn : k = s.size := by omega
      subst hkn
      have htk : s.data.toList.take s.size = s.data.toList := by rw [← HL.out, List.take_length]
      have hnn : needN s.data.toList s.size = (escL s.data.toList).length := by unfold needN; rw [htk, HL.out]; omega
      rw [htk, hnn]
      cases hany : escAny s.data.toList with
      | false =>
        have HN := Lib.hid (escL_no hany)
        clear hany htk hnn
        go_wp2_with fail
        go_ret
        rw [HN.out]
        exact ⟨rfl, Below.refl _ _⟩
      | true =>
        have hM : (escL s.data.toList).length ≤ 48 := by have := (escL_len s.data.toList).2; rw [HL.out] at this; omega
        obtain ⟨M, hMe⟩ : ∃ M, (escL s.data.toList).length = M := ⟨_, rfl⟩
        rw [hMe] at hM
        have hmk := run_make1 (P := Tryz.prog) (z := .int .u8 0) (bytes := 1) Tryz.underlying26 (by kernel_rfl) rfl M M (Nat.le_refl _) (by omega) (by simp only [maxLen]; omega) w
        have hB0 : BufAt w s.data.toList 0 (w.alloc (.cells (List.replicate M (.int .u8 0)).toArray 5)) := by
          refine ⟨?_, (Below.refl _ _).alloc (Nat.le_refl _) _⟩
          have e0 : bufC s.data.toList 0 = List.replicate M (.int .u8 0) := by simp [bufC, escL, bytesV, ← hMe]
          rw [e0]; exact Blk.new _ _ _
        have HM := Lib.hid hMe
        rw [hMe]
        clear hany htk hnn hMe
        go_wp2_with fail
        go_loopw [14, 13] (fun i v wr => ∃ k : Nat, k ≤ s.size ∧ i = .int .i64 k ∧ v = .int .i64 ((escL (s.data.toList.take k)).length : Nat) ∧ Hid (BufAt w s.data.toList k wr)) (fun i _ _ => s.size - (intOf i).toNat)
        case atStart => exact ⟨0, by omega, rfl, rfl, hB0⟩
        case round =>
          obtain ⟨k, hk, rfl, rfl, HF⟩ := hrel
          obtain ⟨hbuf, hbw⟩ := HF.out
          by_cases hlt : k < s.size
          · have hltI : (k : Int) < (s.size : Int) := by omega
            have hk1 : IntKind.i64.wrap ((k : Int) + 1) = ((k + 1 : Nat) : Int) := by rw [IntKind.wrap_i64]; omega
            have hat := str_at hlt
            have hcl : (s[k]'hlt).toNat < 256 := UInt8.toNat_lt _
            have hQr := HQ.out.below hbw HQ.out.lt
            have hd := drop_len hat
            have hadd := escL_add hat
            have hbl := (escB_len (s[k]'hlt)).1
            rw [HM.out] at hd
            obtain ⟨j, hj⟩ : ∃ j, (escL (s.data.toList.take k)).length = j := ⟨_, rfl⟩
            rw [hj] at hd
            rcases HE.out (s[k]'hlt).toNat hcl with ⟨h0, hc⟩ | ⟨l, g, c', h0, hc, hcc, hb⟩
            · have cQ := Blk.cell hQr hc
              have hset := bufC_set hat (escB_none h0)
              have hzero := bufC_at hat
              rw [hj] at hset hzero
              rw [escB_none h0] at hd hadd
              have hjM : j < M := by simp only [List.length_singleton] at hd; omega
              have hjI : (j : Int) < (M : Int) := by omega
              have cj := Blk.cell hbuf hzero
              have fj := Blk.frozen hbuf j
              have hnew : Hid (BufAt w s.data.toList (k + 1) (wr.setCell ⟨w.heap.size, j, none⟩ (.int .u8 ((s[k]'hlt).toNat : Int)))) := ⟨by rw [← hset]; exact Blk.set hbuf j _, hbw.setCell (p := ⟨w.heap.size, j, none⟩) (Nat.le_refl _) _⟩
              have hj1 : IntKind.i64.wrap ((j : Int) + 1) = (((escL (s.data.toList.take (k + 1))).length : Nat) : Int) := by rw [hadd, List.length_append, hj, IntKind.wrap_i64]; simp; omega
              clear hset hzero hadd hat h0 hc HF hbuf
              rw [hj]
              go_wp2_with fail
              go_roundw
              case rel => exact ⟨k + 1, by omega, by go_num, by first | rfl | go_num, hnew⟩
              case measure => simp [intOf]; omega
            · have cQ := Blk.cell hQr hc
              have hl2 := escK_two h0
              rw [hl2] at cQ
              have hstep := bufC_step hat
              rw [escB_some h0, hl2, hj] at hstep
              rw [escB_some h0] at hadd
              rw [escB_some h0, hl2] at hd
              have hbl2 := bufC_len s.data.toList k
              rw [HM.out] at hbl2
              have hcopy : (Builtin.copy_ #[26, 26] 3 #[.slice (some ⟨w.heap.size, j, none⟩) (M - j) (M - j), .slice (some ⟨g, 0, none⟩) 2 c']).run Tryz.prog wr.drew = .ok (.int .i64 2) (wr.drew.setRow w.heap.size (bufC s.data.toList (k + 1)).toArray) := by
                obtain ⟨cs, fr, hg1, hg2⟩ := hb.keep (hbw.block g hb.lt)
                have := run_copy_row (P := Tryz.prog) wr.drew 26 26 3 5 w.heap.size j (M - j) (M - j) ⟨g, 0, none⟩ 2 c' (bufC s.data.toList k).toArray 5 (bytesV l) Tryz.underlying26 (by kernel_rfl) hbuf (by rw [bytesV_len, hl2]; exact (Nat.min_eq_left (by omega)).symm) (fun i v hv => by
                  simp only [bytesV, List.getElem?_map, Option.map_eq_some_iff] at hv
                  obtain ⟨u, hu, rfl⟩ := hv
                  rw [show (⟨g, 0, none⟩ : Addr).add i = ⟨g, i, none⟩ from by unfold Addr.add; split <;> simp_all, World.cell?, show wr.drew.heap[g]? = _ from hg1]
                  simpa using hg2 i u hu) (by rw [bytesV_len, hl2, List.size_toArray, hbl2]; omega) (fun v hv => by obtain ⟨c, _, rfl⟩ := List.mem_map.1 hv; rfl)
                rw [this, bytesV_len, hl2, hstep]
                rfl
              have hnew : Hid (BufAt w s.data.toList (k + 1) (wr.drew.setRow w.heap.size (bufC s.data.toList (k + 1)).toArray)) := ⟨setRow_heap wr.drew w.heap.size _ _ _ _ hbuf, below_setRow (hbw.drew) (Nat.le_refl _) _⟩
              have hj1 : IntKind.i64.wrap ((j : Int) + 2) = (((escL (s.data.toList.take (k + 1))).length : Nat) : Int) := by rw [hadd, List.length_append, hj, hl2, IntKind.wrap_i64]; omega
              have hjI : (j : Int) ≤ (M : Int) := by omega
              have hjM : j ≤ M := by omega
              clear hadd hat h0 hc HF hbuf hstep
              rw [hj]
              go_wp2_with fail
              go_region
              go_wp2_with fail
              go_roundw
              case rel => exact ⟨k + 1, by omega, by go_num, by first | rfl | go_num, hnew⟩
              case measure => simp [intOf]; omega
          · have hkn : k = s.size := by omega
            subst hkn
            have htk : s.data.toList.take s.size = s.data.toList := by rw [← HL.out, List.take_length]
            have hbc : bufC s.data.toList s.size = bytesV (escL s.data.toList) := by simp [bufC, htk]
            rw [hbc] at hbuf
            have hcv : (convert 26 9 (.slice (some ⟨w.heap.size, 0, none⟩) M M)).run Tryz.prog wr = .ok (.string ⟨(escL s.data.toList).toArray⟩) wr := by
              rw [← HM.out]
              refine run_convert_bytes_back (P := Tryz.prog) wr 26 9 5 ⟨w.heap.size, 0, none⟩ (escL s.data.toList).length (escL s.data.toList) Tryz.underlying26 Tryz.underlying5 Tryz.underlying9 (fun i hi => ?_)
              rw [show (⟨w.heap.size, 0, none⟩ : Addr).add i = ⟨w.heap.size, i, none⟩ from by unfold Addr.add; split <;> simp_all]
              exact Blk.cell hbuf (by simp [bytesV, List.getElem?_eq_getElem hi])
            clear hbuf hbc htk
            go_wp2_with fail
            go_ret
            exact ⟨rfl, hbw⟩
end Go.Proofs.YtnlheomfobpcmaaGreat
