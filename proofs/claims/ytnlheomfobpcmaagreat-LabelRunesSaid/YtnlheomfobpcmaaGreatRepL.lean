/- The replacer at work at a long text: (*byteStringReplacer).Replace, whatever the text. -/
import Derived.Test.YtnlheomfobpcmaaGreatRepR
import Derived.Test.YtnlheomfobpcmaaGreatShelfLab
namespace Go.Proofs.YtnlheomfobpcmaaGreat
open Go.RowKit

/-- What the first k of the three bytes add. -/
def needC (l : List UInt8) (k : Nat) : Nat := l.length + (([10, 34, 92].take k).map fun c => Lib.countByte l c).sum
def anyC (l : List UInt8) (k : Nat) : Bool := ([10, 34, 92].take k).any fun c => decide (0 < Lib.countByte l c)
theorem count_len (l : List UInt8) (c : UInt8) : Lib.countByte l c ≤ l.length := List.count_le_length
theorem esc_three (c : UInt8) : ((escB c).length : Nat) = 1 + (if c = 10 then 1 else 0) + (if c = 34 then 1 else 0) + (if c = 92 then 1 else 0) ∧ (escK 3 c.toNat).isSome = (decide (c = 10) || decide (c = 34) || decide (c = 92)) := by
  have h : ∀ n : Nat, n < 256 → ((escB (UInt8.ofNat n)).length : Nat) = 1 + (if UInt8.ofNat n = 10 then 1 else 0) + (if UInt8.ofNat n = 34 then 1 else 0) + (if UInt8.ofNat n = 92 then 1 else 0) ∧ (escK 3 (UInt8.ofNat n).toNat).isSome = (decide (UInt8.ofNat n = 10) || decide (UInt8.ofNat n = 34) || decide (UInt8.ofNat n = 92)) := by decide +kernel
  have := h c.toNat (UInt8.toNat_lt _)
  rwa [UInt8.ofNat_toNat] at this
theorem needC_all : ∀ l : List UInt8, needC l 3 = (escL l).length
  | [] => rfl
  | c :: r => by
    have ih := needC_all r
    have e : (escL (c :: r)).length = (escB c).length + (escL r).length := by
      show (escB c ++ escL r).length = _
      rw [List.length_append]
    rw [e, (esc_three c).1, ← ih]
    simp only [needC, Lib.countByte, List.take, List.map_cons, List.map_nil, List.sum_cons, List.sum_nil, List.length_cons, List.count_cons, beq_iff_eq]
    omega
theorem anyC_all : ∀ l : List UInt8, anyC l 3 = escAny l
  | [] => rfl
  | c :: r => by
    have ih := anyC_all r
    have e : escAny (c :: r) = ((escK 3 c.toNat).isSome || escAny r) := rfl
    rw [e, (esc_three c).2, ← ih, Bool.eq_iff_iff]
    simp only [anyC, Lib.countByte, List.take, List.any_cons, List.any_nil, List.count_cons, beq_iff_eq, Bool.or_eq_true, decide_eq_true_eq, Bool.false_eq_true, or_false]
    by_cases h1 : c = 10 <;> by_cases h2 : c = 34 <;> by_cases h3 : c = 92 <;> simp_all <;> omega
theorem needC_0 (l : List UInt8) : needC l (0 + 1) = needC l 0 + Lib.countByte l 10 := by simp [needC] <;> omega
theorem anyC_0 (l : List UInt8) : anyC l (0 + 1) = (anyC l 0 || decide (0 < Lib.countByte l 10)) := by simp [anyC] <;> first | done | (rw [Bool.or_assoc])
theorem needC_1 (l : List UInt8) : needC l (1 + 1) = needC l 1 + Lib.countByte l 34 := by simp [needC] <;> omega
theorem anyC_1 (l : List UInt8) : anyC l (1 + 1) = (anyC l 1 || decide (0 < Lib.countByte l 34)) := by simp [anyC] <;> first | done | (rw [Bool.or_assoc])
theorem needC_2 (l : List UInt8) : needC l (2 + 1) = needC l 2 + Lib.countByte l 92 := by simp [needC] <;> omega
theorem anyC_2 (l : List UInt8) : anyC l (2 + 1) = (anyC l 2 || decide (0 < Lib.countByte l 92)) := by simp [anyC] <;> first | done | (rw [Bool.or_assoc])
theorem needC_le (l : List UInt8) (k : Nat) : needC l k ≤ 4 * l.length := by
  have h1 := count_len l 10
  have h2 := count_len l 34
  have h3 := count_len l 92
  unfold needC
  match k with
  | 0 => simp; omega
  | 1 => simp; omega
  | 2 => simp; omega
  | k + 3 => simp [List.take_of_length_le]; omega
set_option maxRecDepth 100000 in
set_option maxHeartbeats 2000000 in
theorem repl_long (Q : Nat) (s : ByteArray) (w : World) (hR : Repl w Q) (hs : 24 ≤ s.size) (hs2 : s.size ≤ 1099511627776) :
    Calls Tryz.prog 145 #[.pointer (some ⟨Q, 0, none⟩), .string s] w fun e w' => e = .returned (.string ⟨(escL s.data.toList).toArray⟩) ∧ Below w.heap.size w w' := by
  obtain ⟨row, A, c, hQ, hlen, h256, ⟨base, hrd⟩, hes⟩ := hR
  have c256 := Blk.cell hQ h256
  have hsI : (24 : Int) ≤ (s.size : Int) := by omega
  have hl : s.data.toList.length = s.size := (Lib.size_eq s).symm
  have hA : ∃ g, A = some ⟨g, 0, none⟩ ∧ w.cell? ⟨g, 0, none⟩ = some (.string ⟨#[10]⟩) ∧ w.cell? ⟨g, 1, none⟩ = some (.string ⟨#[34]⟩) ∧ w.cell? ⟨g, 2, none⟩ = some (.string ⟨#[92]⟩) := by
    have hf := hrd.form
    have hr := hrd.rd
    rcases hf with ⟨h1, h2, _⟩ | ⟨g, rfl, _, _⟩
    · omega
    · refine ⟨g, rfl, ?_, ?_, ?_⟩
      · obtain ⟨b, o, e, _, h⟩ := hr.at1 (k := 0) (v0 := .string ⟨#[10]⟩) rfl
        injection e with e; injection e with e1 e2; subst e1 e2; exact h
      · obtain ⟨b, o, e, _, h⟩ := hr.at1 (k := 1) (v0 := .string ⟨#[34]⟩) rfl
        injection e with e; injection e with e1 e2; subst e1 e2; exact h
      · obtain ⟨b, o, e, _, h⟩ := hr.at1 (k := 2) (v0 := .string ⟨#[92]⟩) rfl
        injection e with e; injection e with e1 e2; subst e1 e2; exact h
  obtain ⟨gA, rfl, a0, a1, a2⟩ := hA
  have HE := Lib.hid hes
  have HQ := Lib.hid hQ
  have HL := Lib.hid hl
  clear hrd hes hQ hl
  go_enter Tryz.func145, Tryz.ntmps145
  go_wp2_with fail
  go_loopw [32, 5, 6] (fun i v a wr => ∃ k q : Nat, wr = w.drewN q ∧ k ≤ 3 ∧ i = .int .i64 k ∧ v = .int .i64 (needC s.data.toList k : Nat) ∧ a = .bool (anyC s.data.toList k)) (fun i _ _ _ => 3 - (intOf i).toNat)
  case atStart => exact ⟨0, 0, rfl, by omega, rfl, by simp [needC, HL.out], rfl⟩
  case round =>
    obtain ⟨k, z, rfl, hk, rfl, rfl, rfl⟩ := hrel
    have hnle := needC_le s.data.toList k
    rw [HL.out] at hnle
    rcases (show k = 0 ∨ k = 1 ∨ k = 2 ∨ k = 3 by omega) with rfl | rfl | rfl | rfl
    · have HN := Lib.hid (needC_0 s.data.toList)
      have HA := Lib.hid (anyC_0 s.data.toList)
      have HCt : ∀ W : World, Hid (Calls Tryz.prog 147 #[.string s, .string ⟨#[10]⟩] W fun e w' => e = .returned (.int .i64 (Lib.countByte s.data.toList 10)) ∧ w' = W) := fun W => Tryz.strings_Count_one s 10 W
      have hcle := count_len s.data.toList 10
      rw [HL.out] at hcle
      obtain ⟨q, hq⟩ : ∃ q, Lib.countByte s.data.toList 10 = q := ⟨_, rfl⟩
      rw [hq] at HN HA HCt hcle
      have hx : ((⟨#[10]⟩ : ByteArray)[0]).toNat = 10 := rfl
      have c10 : ∃ g c', w.cell? ⟨Q, 10, none⟩ = some (.slice (some ⟨g, 0, none⟩) 2 c') := by
        rcases HE.out 10 (by omega) with ⟨h0, _⟩ | ⟨l, g, c', h0, hc, _, _⟩
        · simp [escK] at h0
        · have := Blk.cell HQ.out hc
          rw [escK_two h0] at this
          exact ⟨g, c', this⟩
      obtain ⟨g, c', cQ⟩ := c10
      clear hq
      by_cases hq0 : q = 0
      · subst hq0
        have e1 : needC s.data.toList (0 + 1) = needC s.data.toList 0 := by have := HN.out; omega
        have e2 : anyC s.data.toList (0 + 1) = anyC s.data.toList 0 := by rw [HA.out]; simp
        have H1 := Lib.hid e1
        have H2 := Lib.hid e2
        clear e1 e2
        go_wp2_with (go_at_call 147; refine ((HCt _).out).mono ?_; rintro e w' ⟨rfl, rfl⟩)
        go_roundw
        case rel => exact ⟨0 + 1, z, rfl, by omega, by go_num, by rw [H1.out], by rw [H2.out]⟩
        case measure => decide
      · have hqb : ((q : Int) != 0) = true := by rw [bne_iff_ne]; omega
        have hw2 : IntKind.i64.wrap ((needC s.data.toList 0 : Int) + (q : Int)) = ((needC s.data.toList (0 + 1) : Nat) : Int) := by rw [HN.out, IntKind.wrap_i64]; omega
        have H2 : Hid (anyC s.data.toList (0 + 1) = true) := by show _ = _; rw [HA.out, decide_eq_true (by omega), Bool.or_true]
        clear hq0
        go_wp2_with (go_at_call 147; refine ((HCt _).out).mono ?_; rintro e w' ⟨rfl, rfl⟩)
        go_quiet (fail)
        go_wp2_with fail
        go_roundw
        case rel => exact ⟨0 + 1, _, rfl, by omega, by go_num, by first | rfl | go_num, by rw [H2.out]⟩
        case measure => decide
    · have HN := Lib.hid (needC_1 s.data.toList)
      have HA := Lib.hid (anyC_1 s.data.toList)
      have HCt : ∀ W : World, Hid (Calls Tryz.prog 147 #[.string s, .string ⟨#[34]⟩] W fun e w' => e = .returned (.int .i64 (Lib.countByte s.data.toList 34)) ∧ w' = W) := fun W => Tryz.strings_Count_one s 34 W
      have hcle := count_len s.data.toList 34
      rw [HL.out] at hcle
      obtain ⟨q, hq⟩ : ∃ q, Lib.countByte s.data.toList 34 = q := ⟨_, rfl⟩
      rw [hq] at HN HA HCt hcle
      have hx : ((⟨#[34]⟩ : ByteArray)[0]).toNat = 34 := rfl
      have c34 : ∃ g c', w.cell? ⟨Q, 34, none⟩ = some (.slice (some ⟨g, 0, none⟩) 2 c') := by
        rcases HE.out 34 (by omega) with ⟨h0, _⟩ | ⟨l, g, c', h0, hc, _, _⟩
        · simp [escK] at h0
        · have := Blk.cell HQ.out hc
          rw [escK_two h0] at this
          exact ⟨g, c', this⟩
      obtain ⟨g, c', cQ⟩ := c34
      clear hq
      by_cases hq0 : q = 0
      · subst hq0
        have e1 : needC s.data.toList (1 + 1) = needC s.data.toList 1 := by have := HN.out; omega
        have e2 : anyC s.data.toList (1 + 1) = anyC s.data.toList 1 := by rw [HA.out]; simp
        have H1 := Lib.hid e1
        have H2 := Lib.hid e2
        clear e1 e2
        go_wp2_with (go_at_call 147; refine ((HCt _).out).mono ?_; rintro e w' ⟨rfl, rfl⟩)
        go_roundw
        case rel => exact ⟨1 + 1, z, rfl, by omega, by go_num, by rw [H1.out], by rw [H2.out]⟩
        case measure => decide
      · have hqb : ((q : Int) != 0) = true := by rw [bne_iff_ne]; omega
        have hw2 : IntKind.i64.wrap ((needC s.data.toList 1 : Int) + (q : Int)) = ((needC s.data.toList (1 + 1) : Nat) : Int) := by rw [HN.out, IntKind.wrap_i64]; omega
        have H2 : Hid (anyC s.data.toList (1 + 1) = true) := by show _ = _; rw [HA.out, decide_eq_true (by omega), Bool.or_true]
        clear hq0
        go_wp2_with (go_at_call 147; refine ((HCt _).out).mono ?_; rintro e w' ⟨rfl, rfl⟩)
        go_quiet (fail)
        go_wp2_with fail
        go_roundw
        case rel => exact ⟨1 + 1, _, rfl, by omega, by go_num, by first | rfl | go_num, by rw [H2.out]⟩
        case measure => decide
    · have HN := Lib.hid (needC_2 s.data.toList)
      have HA := Lib.hid (anyC_2 s.data.toList)
      have HCt : ∀ W : World, Hid (Calls Tryz.prog 147 #[.string s, .string ⟨#[92]⟩] W fun e w' => e = .returned (.int .i64 (Lib.countByte s.data.toList 92)) ∧ w' = W) := fun W => Tryz.strings_Count_one s 92 W
      have hcle := count_len s.data.toList 92
      rw [HL.out] at hcle
      obtain ⟨q, hq⟩ : ∃ q, Lib.countByte s.data.toList 92 = q := ⟨_, rfl⟩
      rw [hq] at HN HA HCt hcle
      have hx : ((⟨#[92]⟩ : ByteArray)[0]).toNat = 92 := rfl
      have c92 : ∃ g c', w.cell? ⟨Q, 92, none⟩ = some (.slice (some ⟨g, 0, none⟩) 2 c') := by
        rcases HE.out 92 (by omega) with ⟨h0, _⟩ | ⟨l, g, c', h0, hc, _, _⟩
        · simp [escK] at h0
        · have := Blk.cell HQ.out hc
          rw [escK_two h0] at this
          exact ⟨g, c', this⟩
      obtain ⟨g, c', cQ⟩ := c92
      clear hq
      by_cases hq0 : q = 0
      · subst hq0
        have e1 : needC s.data.toList (2 + 1) = needC s.data.toList 2 := by have := HN.out; omega
        have e2 : anyC s.data.toList (2 + 1) = anyC s.data.toList 2 := by rw [HA.out]; simp
        have H1 := Lib.hid e1
        have H2 := Lib.hid e2
        clear e1 e2
        go_wp2_with (go_at_call 147; refine ((HCt _).out).mono ?_; rintro e w' ⟨rfl, rfl⟩)
        go_roundw
        case rel => exact ⟨2 + 1, z, rfl, by omega, by go_num, by rw [H1.out], by rw [H2.out]⟩
        case measure => decide
      · have hqb : ((q : Int) != 0) = true := by rw [bne_iff_ne]; omega
        have hw2 : IntKind.i64.wrap ((needC s.data.toList 2 : Int) + (q : Int)) = ((needC s.data.toList (2 + 1) : Nat) : Int) := by rw [HN.out, IntKind.wrap_i64]; omega
        have H2 : Hid (anyC s.data.toList (2 + 1) = true) := by show _ = _; rw [HA.out, decide_eq_true (by omega), Bool.or_true]
        clear hq0
        go_wp2_with (go_at_call 147; refine ((HCt _).out).mono ?_; rintro e w' ⟨rfl, rfl⟩)
        go_quiet (fail)
        go_wp2_with fail
        go_roundw
        case rel => exact ⟨2 + 1, _, rfl, by omega, by go_num, by first | rfl | go_num, by rw [H2.out]⟩
        case measure => decide
    · rw [needC_all, anyC_all]
      have htk : s.data.toList.take s.size = s.data.toList := by rw [← HL.out, List.take_length]
      have hnn : True := trivial
      have HBQ : Hid (Below w.heap.size w (w.drewN z)) := below_drewN (Below.refl _ _) z
      replace HE : Hid (EscV (w.drewN z) (escK 3) row) := HE.out
      replace HQ : Hid (Blk (w.drewN z) Q 126 row) := HQ.out
      clear a0 a1 a2 c256 hnle
      generalize w.drewN z = w1 at *
      cases hany : escAny s.data.toList with
      | false =>
        have HN := Lib.hid (escL_no hany)
        clear hany htk hnn
        go_wp2_with fail
        go_ret
        rw [HN.out]
        exact ⟨rfl, HBQ.out⟩
      | true =>
        have hM : (escL s.data.toList).length ≤ 2199023255552 := by have := (escL_len s.data.toList).2; rw [HL.out] at this; omega
        obtain ⟨M, hMe⟩ : ∃ M, (escL s.data.toList).length = M := ⟨_, rfl⟩
        rw [hMe] at hM
        have hmk := run_make1 (P := Tryz.prog) (z := .int .u8 0) (bytes := 1) Tryz.underlying26 (by kernel_rfl) rfl M M (Nat.le_refl _) (by omega) (by simp only [maxLen]; omega) w1
        have hB0 : BufAt w1 s.data.toList 0 (w1.alloc (.cells (List.replicate M (.int .u8 0)).toArray 5)) := by
          refine ⟨?_, (Below.refl _ _).alloc (Nat.le_refl _) _⟩
          have e0 : bufC s.data.toList 0 = List.replicate M (.int .u8 0) := by simp [bufC, escL, bytesV, ← hMe]
          rw [e0]; exact Blk.new _ _ _
        have HM := Lib.hid hMe
        rw [hMe]
        clear hany htk hnn hMe
        go_wp2_with fail
        go_loopw [14, 13] (fun i v wr => ∃ k : Nat, k ≤ s.size ∧ i = .int .i64 k ∧ v = .int .i64 ((escL (s.data.toList.take k)).length : Nat) ∧ Hid (BufAt w1 s.data.toList k wr)) (fun i _ _ => s.size - (intOf i).toNat)
        case atStart => exact ⟨0, by omega, rfl, rfl, hB0⟩
        case round =>
          obtain ⟨k, hk, rfl, rfl, HF⟩ := hrel
          obtain ⟨hbuf, hbw⟩ := HF.out
          by_cases hlt : k < s.size
          · have hltI : (k : Int) < (s.size : Int) := by omega
            have hk1 : IntKind.i64.wrap ((k : Int) + 1) = ((k + 1 : Nat) : Int) := by rw [IntKind.wrap_i64]; omega
            have hat := str_at hlt
            have hcl : (s[k]'hlt).toNat < 256 := UInt8.toNat_lt _
            have hQr := HQ.out.below hbw HQ.out.lt
            have hd := drop_len hat
            have hadd := escL_add hat
            have hbl := (escB_len (s[k]'hlt)).1
            rw [HM.out] at hd
            obtain ⟨j, hj⟩ : ∃ j, (escL (s.data.toList.take k)).length = j := ⟨_, rfl⟩
            rw [hj] at hd
            rcases HE.out (s[k]'hlt).toNat hcl with ⟨h0, hc⟩ | ⟨l, g, c', h0, hc, hcc, hb⟩
            · have cQ := Blk.cell hQr hc
              have hset := bufC_set hat (escB_none h0)
              have hzero := bufC_at hat
              rw [hj] at hset hzero
              rw [escB_none h0] at hd hadd
              have hjM : j < M := by simp only [List.length_singleton] at hd; omega
              have hjI : (j : Int) < (M : Int) := by omega
              have cj := Blk.cell hbuf hzero
              have fj := Blk.frozen hbuf j
              have hnew : Hid (BufAt w1 s.data.toList (k + 1) (wr.setCell ⟨w1.heap.size, j, none⟩ (.int .u8 ((s[k]'hlt).toNat : Int)))) := ⟨by rw [← hset]; exact Blk.set hbuf j _, hbw.setCell (p := ⟨w1.heap.size, j, none⟩) (Nat.le_refl _) _⟩
              have hj1 : IntKind.i64.wrap ((j : Int) + 1) = (((escL (s.data.toList.take (k + 1))).length : Nat) : Int) := by rw [hadd, List.length_append, hj, IntKind.wrap_i64]; simp; omega
              clear hset hzero hadd hat h0 hc HF hbuf
              rw [hj]
              go_wp2_with fail
              go_roundw
              case rel => exact ⟨k + 1, by omega, by go_num, by first | rfl | go_num, hnew⟩
              case measure => simp [intOf]; omega
            · have cQ := Blk.cell hQr hc
              have hl2 := escK_two h0
              rw [hl2] at cQ
              have hstep := bufC_step hat
              rw [escB_some h0, hl2, hj] at hstep
              rw [escB_some h0] at hadd
              rw [escB_some h0, hl2] at hd
              have hbl2 := bufC_len s.data.toList k
              rw [HM.out] at hbl2
              have hcopy : (Builtin.copy_ #[26, 26] 3 #[.slice (some ⟨w1.heap.size, j, none⟩) (M - j) (M - j), .slice (some ⟨g, 0, none⟩) 2 c']).run Tryz.prog wr.drew = .ok (.int .i64 2) (wr.drew.setRow w1.heap.size (bufC s.data.toList (k + 1)).toArray) := by
                obtain ⟨cs, fr, hg1, hg2⟩ := hb.keep (hbw.block g hb.lt)
                have := run_copy_row (P := Tryz.prog) wr.drew 26 26 3 5 w1.heap.size j (M - j) (M - j) ⟨g, 0, none⟩ 2 c' (bufC s.data.toList k).toArray 5 (bytesV l) Tryz.underlying26 (by kernel_rfl) hbuf (by rw [bytesV_len, hl2]; exact (Nat.min_eq_left (by omega)).symm) (fun i v hv => by
                  simp only [bytesV, List.getElem?_map, Option.map_eq_some_iff] at hv
                  obtain ⟨u, hu, rfl⟩ := hv
                  rw [show (⟨g, 0, none⟩ : Addr).add i = ⟨g, i, none⟩ from by unfold Addr.add; split <;> simp_all, World.cell?, show wr.drew.heap[g]? = _ from hg1]
                  simpa using hg2 i u hu) (by rw [bytesV_len, hl2, List.size_toArray, hbl2]; omega) (fun v hv => by obtain ⟨c, _, rfl⟩ := List.mem_map.1 hv; rfl)
                rw [this, bytesV_len, hl2, hstep]
                rfl
              have hnew : Hid (BufAt w1 s.data.toList (k + 1) (wr.drew.setRow w1.heap.size (bufC s.data.toList (k + 1)).toArray)) := ⟨setRow_heap wr.drew w1.heap.size _ _ _ _ hbuf, below_setRow (hbw.drew) (Nat.le_refl _) _⟩
              have hj1 : IntKind.i64.wrap ((j : Int) + 2) = (((escL (s.data.toList.take (k + 1))).length : Nat) : Int) := by rw [hadd, List.length_append, hj, hl2, IntKind.wrap_i64]; omega
              have hjI : (j : Int) ≤ (M : Int) := by omega
              have hjM : j ≤ M := by omega
              clear hadd hat h0 hc HF hbuf hstep
              rw [hj]
              go_wp2_with fail
              go_region
              go_wp2_with fail
              go_roundw
              case rel => exact ⟨k + 1, by omega, by go_num, by first | rfl | go_num, hnew⟩
              case measure => simp [intOf]; omega
          · have hkn : k = s.size := by omega
            subst hkn
            have htk : s.data.toList.take s.size = s.data.toList := by rw [← HL.out, List.take_length]
            have hbc : bufC s.data.toList s.size = bytesV (escL s.data.toList) := by simp [bufC, htk]
            rw [hbc] at hbuf
            have hcv : (convert 26 9 (.slice (some ⟨w1.heap.size, 0, none⟩) M M)).run Tryz.prog wr = .ok (.string ⟨(escL s.data.toList).toArray⟩) wr := by
              rw [← HM.out]
              refine run_convert_bytes_back (P := Tryz.prog) wr 26 9 5 ⟨w1.heap.size, 0, none⟩ (escL s.data.toList).length (escL s.data.toList) Tryz.underlying26 Tryz.underlying5 Tryz.underlying9 (fun i hi => ?_)
              rw [show (⟨w1.heap.size, 0, none⟩ : Addr).add i = ⟨w1.heap.size, i, none⟩ from by unfold Addr.add; split <;> simp_all]
              exact Blk.cell hbuf (by simp [bytesV, List.getElem?_eq_getElem hi])
            clear hbuf hbc htk
            go_wp2_with fail
            go_ret
            exact ⟨rfl, HBQ.out.trans (hbw.mono HBQ.out.size)⟩
end Go.Proofs.YtnlheomfobpcmaaGreat
