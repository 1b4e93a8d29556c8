/- A set's text: the document's Text. -/
import Derived.Test.YtnlheomfobpcmaaGreatRTextQ
import Derived.Test.YtnlheomfobpcmaaGreatLabG
namespace Go.Proofs.YtnlheomfobpcmaaGreat
open Go.RowKit

/-- The text as far as the first k labels. -/
def txK (ls : List Lab) (k : Nat) : ByteArray := ⟨(123 :: innK ls k).toArray⟩
theorem txK_size (ls : List Lab) (k : Nat) : (txK ls k).size = (innK ls k).length + 1 := by show (123 :: innK ls k).toArray.size = _; simp
theorem quoB_size (s : ByteArray) : (quoB s).size = (escL s.data.toList).length + 2 := by show (quoL s.data.toList).toArray.size = _; simp [quoL]
theorem txK_step {ls : List Lab} {k : Nat} {l : Lab} (h : ls[k]? = some l) : (if 0 < k then txK ls k ++ (⟨#[44]⟩ : ByteArray) else txK ls k) ++ l.1 ++ (⟨#[61]⟩ : ByteArray) ++ quoB l.2 = txK ls (k + 1) := by
  apply ByteArray.ext
  apply Array.toList_inj.1
  unfold txK
  rw [innK_succ h]
  by_cases hk : 0 < k
  · rw [if_pos hk, if_neg (by omega)]; simp [labT, quoB, quoL]
  · rw [if_neg hk, if_pos (by omega)]; simp [labT, quoB, quoL]
theorem txK_end (ls : List Lab) : txK ls ls.length ++ (⟨#[125]⟩ : ByteArray) = textB ls := by
  apply ByteArray.ext
  apply Array.toList_inj.1
  simp [txK, textB, textL]
set_option maxRecDepth 100000 in
set_option maxHeartbeats 4000000 in
theorem rtext_any (ls : List Lab) (A : Option Addr) (n c B : Nat) (w : World) (hr : Rd w B 2 A (labsC ls)) (hn : ls.length = n) (hB : B ≤ w.heap.size) (hm : n ≤ 140737488355328) (he : (textL ls).length ≤ 1099511627776) :
    Calls Tryz.prog 19 #[.slice A n c] w fun e w' => e = .returned (.string (textB ls)) ∧ Below w.heap.size w w' := by
  have Hn := Lib.hid hn
  have HE := Lib.hid (txK_end ls)
  have hle : (innK ls ls.length).length ≤ 1099511627776 := by
    have h : (textL ls).length = (innK ls ls.length).length + 2 := by simp [textL]
    omega
  clear hn
  go_enter Tryz.func19, Tryz.ntmps19
  go_wp2_with fail
  go_loopw [4, 3] (fun i v wr => ∃ k : Nat, i = .int .i64 k ∧ k ≤ n ∧ v = .string (txK ls k) ∧ Hid (Below w.heap.size w wr)) (fun i _ _ => n - (intOf i).toNat)
  case atStart => exact ⟨0, rfl, by omega, rfl, Below.refl _ _⟩
  case round =>
    obtain ⟨k, rfl, hk, rfl, HB⟩ := hrel
    have hs := HB.out.size
    have hin := innK_le (ls := ls) (ls.length - k) k
    rw [show k + (ls.length - k) = ls.length from by have := Hn.out; omega] at hin
    have htz := txK_size ls k
    by_cases hlt : k < n
    · obtain ⟨l, hl⟩ := get_lt Hn hlt
      obtain ⟨b, o, rfl, hbB, g0, g1⟩ := (hr.below (HB.out.mono hB)).at2 (labsC_at hl)
      have hltI : (k : Int) < (n : Int) := by omega
      have hroom := innK_room hl
      have hes := esc_size l.2
      have HQ := fun W => Lib.hid (quote_any l.2 W (by omega))
      have hqz := quoB_size l.2
      have hstep := txK_step hl
      obtain ⟨q, hq⟩ : ∃ q, quoB l.2 = q := ⟨_, rfl⟩
      rw [hq] at HQ hqz hstep
      have HS : Hid (b < wr.heap.size) := by show _ < _; omega
      have e44 : (⟨#[44]⟩ : ByteArray).size = 1 := rfl
      have e61 : (⟨#[61]⟩ : ByteArray).size = 1 := rfl
      obtain ⟨T, hT⟩ : ∃ T, txK ls k = T := ⟨_, rfl⟩
      rw [hT] at htz hstep
      rw [hT]
      by_cases hk0 : 0 < k
      · rw [if_pos hk0] at hstep
        obtain ⟨X0, hX0⟩ : ∃ X0, X0 = T ++ (⟨#[44]⟩ : ByteArray) := ⟨_, rfl⟩
        obtain ⟨X1, hX1⟩ : ∃ X1, X1 = X0 ++ l.1 := ⟨_, rfl⟩
        obtain ⟨X2, hX2⟩ : ∃ X2, X2 = X1 ++ (⟨#[61]⟩ : ByteArray) := ⟨_, rfl⟩
        obtain ⟨X3, hX3⟩ : ∃ X3, X3 = X2 ++ q := ⟨_, rfl⟩
        have z0 : X0.size ≤ 1099511627777 := by rw [hX0, ByteArray.size_append, e44, htz]; omega
        have z1 : X1.size ≤ 3299511627777 := by rw [hX1, ByteArray.size_append]; omega
        have z2 : X2.size ≤ 3299511627778 := by rw [hX2, ByteArray.size_append, e61]; omega
        have r0 : ∀ W : World, (Op.stringOp .add T (⟨#[44]⟩ : ByteArray)).run Tryz.prog W = .ok (.string X0) W := fun W => by rw [hX0]; exact run_string_add_sum W _ _ (by rw [e44, htz]; omega)
        have r1 : ∀ W : World, (Op.stringOp .add X0 l.1).run Tryz.prog W = .ok (.string X1) W := fun W => by rw [hX1]; exact run_string_add_sum W _ _ (by omega)
        have r2 : ∀ W : World, (Op.stringOp .add X1 (⟨#[61]⟩ : ByteArray)).run Tryz.prog W = .ok (.string X2) W := fun W => by rw [hX2]; exact run_string_add_sum W _ _ (by rw [e61]; omega)
        have r3 : ∀ W : World, (Op.stringOp .add X2 q).run Tryz.prog W = .ok (.string X3) W := fun W => by rw [hX3]; exact run_string_add_sum W _ _ (by rw [hqz]; omega)
        rw [← hX0, ← hX1, ← hX2, ← hX3] at hstep
        have HX : Hid (txK ls (k + 1) = X3) := hstep.symm
        clear hX0 hX1 hX2 hX3 hstep z0 z1 z2 e44 e61 hq hT hqz htz hes hroom hin hl
        go_wp2_with fail
        go_region_held3 (fun w' => w'.cell? ⟨b, o + k * 2, none⟩ = some (.string l.1) ∧ w'.cell? ⟨b, o + k * 2 + 1, none⟩ = some (.string l.2))
          (first | exact ⟨g0, g1⟩ | exact ⟨(hb1.cell (p := ⟨b, o + k * 2, none⟩) HS.out).trans g0, (hb1.cell (p := ⟨b, o + k * 2 + 1, none⟩) HS.out).trans g1⟩ | go_keep)
          (first
            | (go_at_call 54; refine ((HQ _).out).mono ?_; rintro e w1 ⟨rfl, hb1'⟩; have hb1 : Below wr.heap.size wr w1 := (Below.refl _ _).drew.trans hb1'))
        have HB2 : Hid (Below w.heap.size w w1) := HB.out.trans (hb1.mono hs)
        clear hb1 hb1'
        go_wp2_with fail
        go_roundw
        case rel => exact ⟨k + 1, by go_num, by omega, by rw [HX.out], HB2⟩
        case measure => simp [intOf]; omega
      · rw [if_neg hk0] at hstep
        obtain ⟨X1, hX1⟩ : ∃ X1, X1 = T ++ l.1 := ⟨_, rfl⟩
        obtain ⟨X2, hX2⟩ : ∃ X2, X2 = X1 ++ (⟨#[61]⟩ : ByteArray) := ⟨_, rfl⟩
        obtain ⟨X3, hX3⟩ : ∃ X3, X3 = X2 ++ q := ⟨_, rfl⟩
        have z1 : X1.size ≤ 3299511627777 := by rw [hX1, ByteArray.size_append, htz]; omega
        have z2 : X2.size ≤ 3299511627778 := by rw [hX2, ByteArray.size_append, e61]; omega
        have r1 : ∀ W : World, (Op.stringOp .add T l.1).run Tryz.prog W = .ok (.string X1) W := fun W => by rw [hX1]; exact run_string_add_sum W _ _ (by rw [htz]; omega)
        have r2 : ∀ W : World, (Op.stringOp .add X1 (⟨#[61]⟩ : ByteArray)).run Tryz.prog W = .ok (.string X2) W := fun W => by rw [hX2]; exact run_string_add_sum W _ _ (by rw [e61]; omega)
        have r3 : ∀ W : World, (Op.stringOp .add X2 q).run Tryz.prog W = .ok (.string X3) W := fun W => by rw [hX3]; exact run_string_add_sum W _ _ (by rw [hqz]; omega)
        rw [← hX1, ← hX2, ← hX3] at hstep
        have HX : Hid (txK ls (k + 1) = X3) := hstep.symm
        clear hX1 hX2 hX3 hstep z1 z2 e44 e61 hq hT hqz htz hes hroom hin hl
        go_wp2_with fail
        go_region_held3 (fun w' => w'.cell? ⟨b, o + k * 2, none⟩ = some (.string l.1) ∧ w'.cell? ⟨b, o + k * 2 + 1, none⟩ = some (.string l.2))
          (first | exact ⟨g0, g1⟩ | exact ⟨(hb1.cell (p := ⟨b, o + k * 2, none⟩) HS.out).trans g0, (hb1.cell (p := ⟨b, o + k * 2 + 1, none⟩) HS.out).trans g1⟩ | go_keep)
          (first
            | (go_at_call 54; refine ((HQ _).out).mono ?_; rintro e w1 ⟨rfl, hb1'⟩; have hb1 : Below wr.heap.size wr w1 := (Below.refl _ _).drew.trans hb1'))
        have HB2 : Hid (Below w.heap.size w w1) := HB.out.trans (hb1.mono hs)
        clear hb1 hb1'
        go_wp2_with fail
        go_roundw
        case rel => exact ⟨k + 1, by go_num, by omega, by rw [HX.out], HB2⟩
        case measure => simp [intOf]; omega
    · have hkn : k = n := by omega
      subst hkn
      have HE2 : Hid (txK ls k ++ (⟨#[125]⟩ : ByteArray) = textB ls) := by have := HE.out; rw [Hn.out] at this; exact this
      have hz : (txK ls k).size ≤ 1099511627778 := by rw [htz]; omega
      clear htz hin
      generalize txK ls k = T at *
      go_wp2_with fail
      go_ret
      exact ⟨by rw [← HE2.out]; rfl, HB.out⟩
end Go.Proofs.YtnlheomfobpcmaaGreat
