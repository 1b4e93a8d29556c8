/- How the document reads a query: the operation that is reached. -/
import Derived.Test.YtdikmklijpcjdaaRefL
namespace Go.Proofs.Ytdikmklijpcjdaa
open Go.RowKit
attribute [local go_sem ↓] Go.wp_at_zero Go.wp_at_succ tok_f0 tok_f2 tok_f3

def rowN (op : Int) : Int := if op = 12 then 1 else if op = 11 ∨ op = 13 then 2 else if 5 ≤ op ∧ op ≤ 10 then 3 else if op = 1 ∨ op = 2 then 4 else 5
set_option maxHeartbeats 1000000 in
theorem rowN_any (op : Int) (w : World) : Calls Try.prog 19 #[.int .i64 op] w fun e w' => e = .returned (.int .i64 (rowN op)) ∧ w = w' := by
  have HT : Hid (rowN op = if op = 12 then 1 else if op = 11 ∨ op = 13 then 2 else if 5 ≤ op ∧ op ≤ 10 then 3 else if op = 1 ∨ op = 2 then 4 else 5) := rfl
  generalize rowN op = r at *
  have h12 : (op == 12) = decide (op = 12) := rfl
  have h11 : (op == 11) = decide (op = 11) := rfl
  have h13 : (op == 13) = decide (op = 13) := rfl
  have h1 : (op == 1) = decide (op = 1) := rfl
  have h2 : (op == 2) = decide (op = 2) := rfl
  go_enter Try.func19, Try.ntmps19
  by_cases c12 : op = 12
  · subst c12
    go_wp2; go_ret
    exact ⟨ret_int HT.out.symm, rfl⟩
  by_cases c11 : op = 11
  · subst c11
    go_wp2; go_ret
    exact ⟨ret_int HT.out.symm, rfl⟩
  by_cases c13 : op = 13
  · subst c13
    go_wp2; go_ret
    exact ⟨ret_int HT.out.symm, rfl⟩
  by_cases c1 : op = 1
  · subst c1
    go_wp2; go_ret
    exact ⟨ret_int HT.out.symm, rfl⟩
  by_cases c2 : op = 2
  · subst c2
    go_wp2; go_ret
    exact ⟨ret_int HT.out.symm, rfl⟩
  rw [decide_eq_false c12] at h12
  rw [decide_eq_false c11] at h11
  rw [decide_eq_false c13] at h13
  rw [decide_eq_false c1] at h1
  rw [decide_eq_false c2] at h2
  have HT := HT.out
  rw [if_neg c12, if_neg (by omega)] at HT
  by_cases c5 : 5 ≤ op
  · by_cases c10 : op ≤ 10
    · rw [if_pos ⟨c5, c10⟩] at HT
      subst HT
      clear c12 c11 c13 c1 c2
      go_wp2; go_ret
      exact ⟨rfl, rfl⟩
    · rw [if_neg (by omega), if_neg (by omega)] at HT
      subst HT
      clear c12 c11 c13 c1 c2
      go_wp2; go_ret
      exact ⟨rfl, rfl⟩
  · rw [if_neg (by omega), if_neg (by omega)] at HT
    subst HT
    clear c12 c11 c13 c1 c2
    go_wp2; go_ret
    exact ⟨rfl, rfl⟩
def opsQ : List ByteArray := opsL.drop 1
theorem ops_num (w : ByteArray) : numW opsL w = idxI opsQ w + 1 := idx_num (l := opsQ) (by kernel_rfl) w
set_option maxHeartbeats 1000000 in
theorem rOps_any (w : World) : Calls Try.prog 17 #[] w (WordsOut opsQ 13 w) := by
  go_enter Try.func17, Try.ntmps17
  go_wp2_with fail
  go_ret
  exact ⟨rfl, Rd.new w (textsC_sz _) _ rfl, (Below.refl _ _).alloc (Nat.le_refl _) _⟩
/-- The operation that is reached, if it is of a row. -/
def opT (kind : Int) (text : ByteArray) (row : Int) : Int :=
  if kind ≠ 3 ∧ kind ≠ 5 then 0
  else if numW opsL text = 0 ∨ decide (kind = 3) ≠ decide (11 ≤ numW opsL text) ∨ rowN (numW opsL text) ≠ row then 0 else numW opsL text
def opV (r : Rp PS) (row : Int) : Int := match r with
  | .ok s => opT s.hd.kind s.hd.text row
  | .error _ => 0
section
variable {P : Nat} {T : List Tok} {R : Option Addr × Nat} {O : List Nod} {w : World} {r : Rp PS}
set_option maxRecDepth 100000 in
set_option maxHeartbeats 4000000 in
theorem rop_any (h : TAt w P T R O r) (row : Int) : Calls Try.prog 51 #[.pointer (some ⟨P, 0, none⟩), .int .i64 row] w fun e w' => e = .returned (.int .i64 (opV r row)) ∧ TQ P T R O w r w' := by
  have h0 := Lib.hid h
  obtain ⟨q, hq, hr, _⟩ := h
  obtain ⟨b, o, ct, tk, hT, c0, hat, hbP, hbw, t0, t1, t2, t3, c1, c2, c3, c4, c5, hct, hcm, hfz⟩ := hq.head
  unfold maxLen at hcm
  have hatI : (q.at_ : Int) < T.length := by omega
  have hat0 : (0 : Int) ≤ (q.at_ : Int) := by omega
  have hPb : P ≠ b := by omega
  cases r with
  | error x =>
    have hc : (q.code != 0) = true := by rw [bne_iff_ne, hr.1]; exact hr.2.1
    clear hr hT hq
    go_enter Try.func51, Try.ntmps51
    go_wp2_with fail
    go_ret
    exact ⟨rfl, TQ.start h0.out⟩
  | ok s =>
    have hd := rel_hd hr hT
    subst hd
    have hc : (q.code != 0) = false := by rw [hr.1]; rfl
    have hlt := hq.lt
    have HB : Hid (∀ W : World, Below w.heap.size w W → TQ P T R O w (.ok s) W) := fun W hb => (TQ.start h0.out).below hb
    have HV : Hid (opV (.ok s) row = opT s.hd.kind s.hd.text row) := rfl
    clear hr hT hq
    by_cases hk : s.hd.kind ≠ 3 ∧ s.hd.kind ≠ 5
    · have k3 : (s.hd.kind != 3) = true := by rw [bne_iff_ne]; exact hk.1
      have k5 : (s.hd.kind != 5) = true := by rw [bne_iff_ne]; exact hk.2
      have HE : Hid (opT s.hd.kind s.hd.text row = 0) := by show _ = _; rw [opT, if_pos hk]
      clear hk
      go_enter Try.func51, Try.ntmps51
      go_wp2_with fail
      go_region
      generalize hW : World.drew _ = W1
      have bT : Blk W1 w.heap.size 52 (tokC s.hd) := by rw [← hW]; exact Blk.new w _ _
      have hb1 : Below w.heap.size w W1 := by rw [← hW]; exact ((Below.refl _ _).alloc (Nat.le_refl _) _).drew
      have hT1 := Lib.hid (HB.out W1 hb1)
      have e0 := bT.cell (j := 0) rfl
      have e2 := bT.cell (j := 2) rfl
      have hlt1 := bT.lt
      have BT := Lib.hid bT
      clear hW hb1 bT
      go_wp2_with fail
      go_ret
      rw [HV.out, HE.out]
      exact ⟨rfl, hT1.out⟩
    · have HE : Hid (opT s.hd.kind s.hd.text row = if numW opsL s.hd.text = 0 ∨ decide (s.hd.kind = 3) ≠ decide (11 ≤ numW opsL s.hd.text) ∨ rowN (numW opsL s.hd.text) ≠ row then 0 else numW opsL s.hd.text) := by show _ = _; rw [opT, if_neg hk]
      have hnum := ops_num s.hd.text
      have hbd := idxF_bd s.hd.text opsQ 0
      change -1 ≤ idxI opsQ s.hd.text ∧ idxI opsQ s.hd.text < ((0 + 13 : Nat) : Int) at hbd
      obtain ⟨op, hop⟩ : ∃ op, op = idxI opsQ s.hd.text + 1 := ⟨_, rfl⟩
      rw [hnum, ← hop] at HE
      have hop1 : idxI opsQ s.hd.text + 1 = op := hop.symm
      have ho0 : 0 ≤ op ∧ op ≤ 13 := by omega
      have hw1 : IntKind.i64.wrap op = op := by rw [IntKind.wrap_i64] <;> omega
      have HRow := fun (o : Int) (W : World) => Lib.hid (rowN_any o W)
      have k35 : s.hd.kind = 3 ∨ s.hd.kind = 5 := by
        by_cases h3 : s.hd.kind = 3
        · exact .inl h3
        · by_cases h5 : s.hd.kind = 5
          · exact .inr h5
          · exact absurd ⟨h3, h5⟩ hk
      clear hk hnum hop
      rcases k35 with hk | hk
      · have k3 : (s.hd.kind != 3) = false := by rw [hk]; rfl
        have kd : (s.hd.kind == 3) = true := by rw [hk]; rfl
        have HD : Hid (decide (s.hd.kind = 3) = true) := by show _ = _; rw [hk]; rfl
        clear hk
        go_enter Try.func51, Try.ntmps51
        go_wp2_with fail
        go_region
        generalize hW : World.drew _ = W1
        have bT : Blk W1 w.heap.size 52 (tokC s.hd) := by rw [← hW]; exact Blk.new w _ _
        have hb1 : Below w.heap.size w W1 := by rw [← hW]; exact ((Below.refl _ _).alloc (Nat.le_refl _) _).drew
        have hT1 := Lib.hid (HB.out W1 hb1)
        have e0 := bT.cell (j := 0) rfl
        have e2 := bT.cell (j := 2) rfl
        have hlt1 := bT.lt
        have BT := Lib.hid bT
        clear hW hb1 bT
        go_wp2_with fail
        go_region_held3 (fun w' => w'.cell? ⟨w.heap.size, 2, none⟩ = some (.string s.hd.text))
          (first | exact e4 | exact e2 | go_keep)
          (first
            | (go_at_call 17; refine (rOps_any _).mono ?_; rintro e3 w3 ⟨rfl, hr3, hb3⟩; have e4 := (hb3.cell (p := ⟨w.heap.size, 2, none⟩) hlt1).trans e2)
            | (go_at_call 40; go_must (refine (index_any opsQ s.hd.text _ 13 13 _ _ (by exact hr3) rfl (by simp [maxLen])).mono ?_; rintro e5 w5 ⟨rfl, rfl⟩)))
        go_upto_region 7 with fail
        have HF := Lib.hid (hT1.out.below (((Below.refl _ W1).drew).trans hb3))
        have e5 := (hb3.cell (p := ⟨w.heap.size, 0, none⟩) hlt1).trans e0
        clear hr3 hb3 e4 e2 e0 hT1 BT
        by_cases hz : op = 0
        · have hzb : (op == 0) = true := by rw [beq_iff_eq]; exact hz
          have HE2 := HE.out
          rw [if_pos (.inl hz)] at HE2
          have HE3 := Lib.hid HE2
          clear hz HE2
          go_wp2_with fail
          go_ret
          rw [HV.out, HE3.out]
          exact ⟨rfl, HF.out⟩
        · have hzb : (op == 0) = false := by rw [beq_eq_false_iff_ne]; exact hz
          by_cases h11 : 11 ≤ op
          · by_cases hrw : rowN op = row
            · have hrb : (rowN op != row) = false := by rw [hrw]; simp
              have HE2 := HE.out
              rw [if_neg (by rw [HD.out]; simp [hz, h11, hrw])] at HE2
              have HE3 := Lib.hid HE2
              clear hz HE2 hrw
              go_wp2_with fail
              refine ((HRow _ _).out).mono ?_
              rintro e w6 ⟨rfl, rfl⟩
              go_wp2_with fail
              go_ret
              rw [HV.out, HE3.out]
              exact ⟨rfl, HF.out⟩
            · have hrb : (rowN op != row) = true := by rw [bne_iff_ne]; exact hrw
              have HE2 := HE.out
              rw [if_pos (.inr (.inr hrw))] at HE2
              have HE3 := Lib.hid HE2
              clear hz HE2 hrw
              go_wp2_with fail
              refine ((HRow _ _).out).mono ?_
              rintro e w6 ⟨rfl, rfl⟩
              go_wp2_with fail
              go_ret
              rw [HV.out, HE3.out]
              exact ⟨rfl, HF.out⟩
          · have HE2 := HE.out
            rw [if_pos (.inr (.inl (by rw [HD.out]; simp [h11])))] at HE2
            have HE3 := Lib.hid HE2
            clear hz HE2
            go_wp2_with fail
            go_ret
            rw [HV.out, HE3.out]
            exact ⟨rfl, HF.out⟩
      · have k3 : (s.hd.kind != 3) = true := by rw [hk]; rfl
        have k5 : (s.hd.kind != 5) = false := by rw [hk]; rfl
        have kd : (s.hd.kind == 3) = false := by rw [hk]; rfl
        have HD : Hid (decide (s.hd.kind = 3) = false) := by show _ = _; rw [hk]; rfl
        clear hk
        go_enter Try.func51, Try.ntmps51
        go_wp2_with fail
        go_region
        generalize hW : World.drew _ = W1
        have bT : Blk W1 w.heap.size 52 (tokC s.hd) := by rw [← hW]; exact Blk.new w _ _
        have hb1 : Below w.heap.size w W1 := by rw [← hW]; exact ((Below.refl _ _).alloc (Nat.le_refl _) _).drew
        have hT1 := Lib.hid (HB.out W1 hb1)
        have e0 := bT.cell (j := 0) rfl
        have e2 := bT.cell (j := 2) rfl
        have hlt1 := bT.lt
        have BT := Lib.hid bT
        clear hW hb1 bT
        go_wp2_with fail
        go_region_held3 (fun w' => w'.cell? ⟨w.heap.size, 2, none⟩ = some (.string s.hd.text))
          (first | exact e4 | exact e2 | go_keep)
          (first
            | (go_at_call 17; refine (rOps_any _).mono ?_; rintro e3 w3 ⟨rfl, hr3, hb3⟩; have e4 := (hb3.cell (p := ⟨w.heap.size, 2, none⟩) hlt1).trans e2)
            | (go_at_call 40; go_must (refine (index_any opsQ s.hd.text _ 13 13 _ _ (by exact hr3) rfl (by simp [maxLen])).mono ?_; rintro e5 w5 ⟨rfl, rfl⟩)))
        go_upto_region 7 with fail
        have HF := Lib.hid (hT1.out.below (((Below.refl _ W1).drew).trans hb3))
        have e5 := (hb3.cell (p := ⟨w.heap.size, 0, none⟩) hlt1).trans e0
        clear hr3 hb3 e4 e2 e0 hT1 BT
        by_cases hz : op = 0
        · have hzb : (op == 0) = true := by rw [beq_iff_eq]; exact hz
          have HE2 := HE.out
          rw [if_pos (.inl hz)] at HE2
          have HE3 := Lib.hid HE2
          clear hz HE2
          go_wp2_with fail
          go_ret
          rw [HV.out, HE3.out]
          exact ⟨rfl, HF.out⟩
        · have hzb : (op == 0) = false := by rw [beq_eq_false_iff_ne]; exact hz
          by_cases h11 : 11 ≤ op
          · have HE2 := HE.out
            rw [if_pos (.inr (.inl (by rw [HD.out]; simp [h11])))] at HE2
            have HE3 := Lib.hid HE2
            clear hz HE2
            go_wp2_with fail
            go_ret
            rw [HV.out, HE3.out]
            exact ⟨rfl, HF.out⟩
          · by_cases hrw : rowN op = row
            · have hrb : (rowN op != row) = false := by rw [hrw]; simp
              have HE2 := HE.out
              rw [if_neg (by rw [HD.out]; simp [hz, h11, hrw])] at HE2
              have HE3 := Lib.hid HE2
              clear hz HE2 hrw
              go_wp2_with fail
              refine ((HRow _ _).out).mono ?_
              rintro e w6 ⟨rfl, rfl⟩
              go_wp2_with fail
              go_ret
              rw [HV.out, HE3.out]
              exact ⟨rfl, HF.out⟩
            · have hrb : (rowN op != row) = true := by rw [bne_iff_ne]; exact hrw
              have HE2 := HE.out
              rw [if_pos (.inr (.inr hrw))] at HE2
              have HE3 := Lib.hid HE2
              clear hz HE2 hrw
              go_wp2_with fail
              refine ((HRow _ _).out).mono ?_
              rintro e w6 ⟨rfl, rfl⟩
              go_wp2_with fail
              go_ret
              rw [HV.out, HE3.out]
              exact ⟨rfl, HF.out⟩
end
end Go.Proofs.Ytdikmklijpcjdaa
