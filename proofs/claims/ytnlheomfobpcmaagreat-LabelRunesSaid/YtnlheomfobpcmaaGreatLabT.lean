/- label.Text: a set's text: package label's own. -/
import Derived.Test.YtnlheomfobpcmaaGreatTextS
import Derived.Deep.RegionHeld3
namespace Go.Proofs.YtnlheomfobpcmaaGreat
open Go.RowKit

/-- strings.NewReplacer, then Replace, then a builder's write, in memory behind W2. -/
theorem newRep_at (W2 W : World) (A : Option Addr) (c B : Nat) (hr : Rd W B 1 A (namesC pairsS)) (hB : B ≤ W.heap.size) (h2 : Below W2.heap.size W2 W) :
    Calls Tryz.prog 46 #[.slice A 6 c] W fun e w3 => ∃ R g c3, e = .returned (.pointer (some ⟨R, 0, none⟩)) ∧ W2.heap.size ≤ R ∧ g ≠ R ∧ Rp w3 R 0 0 .nilIface (.slice (some ⟨g, 0, none⟩) 6 c3) ∧ Rd w3 w3.heap.size 1 (some ⟨g, 0, none⟩) (namesC pairsS) ∧ Below W2.heap.size W2 w3 := by
  refine (newRep_any A c B W hr hB).mono ?_
  rintro e w3 ⟨R, A3, c3, rfl, hR, hp, ho, hb⟩
  have hs := h2.size
  rcases ho.form with ⟨_, h, _⟩ | ⟨g, rfl, _, _⟩
  · omega
  · refine ⟨R, g, c3, rfl, by omega, ?_, hp, ho.rd, h2.trans (hb.mono hs)⟩
    intro e
    have := own_ne_blk ho hp (by decide)
    rw [← e] at this
    exact this rfl
theorem replace_at (W2 w3 : World) (R g c3 : Nat) (s E : ByteArray) (hE : E = ⟨(escL s.data.toList).toArray⟩) (hs : s.size ≤ 1099511627776) (hR : W2.heap.size ≤ R) (hg : g ≠ R) (hp : Rp w3 R 0 0 .nilIface (.slice (some ⟨g, 0, none⟩) 6 c3)) (hr : Rd w3 w3.heap.size 1 (some ⟨g, 0, none⟩) (namesC pairsS)) (h2 : Below W2.heap.size W2 w3) :
    Calls Tryz.prog 47 #[.pointer (some ⟨R, 0, none⟩), .string s] w3 fun e w4 => e = .returned (.string E) ∧ Below W2.heap.size W2 w4 := by
  refine (replace_any R g 0 c3 s w3.heap.size W2.heap.size w3 hp hr (Nat.le_refl _) hR hg hs).mono ?_
  rintro e w4 ⟨rfl, hb⟩
  exact ⟨by rw [hE], h2.trans hb⟩
theorem write_at (W2 w4 : World) (B b : Nat) (bs : List Value) (s : ByteArray) (h : IsBuild B b bs W2) (hlen : bs.length + s.size ≤ 140737488355328) (hBw : B ≤ W2.heap.size) (h2 : Below W2.heap.size W2 w4) :
    Calls Tryz.prog 45 #[.pointer (some ⟨b, 0, none⟩), .string s] w4 fun e w5 => (∃ v, e = .returned v) ∧ IsBuild B b (bs ++ Lib.strCells s) w5 ∧ Below B W2 w5 ∧ Spares b W2 w5 := by
  refine (writeString_any B b bs s w4 (isBuild_keep h h2) hlen (Nat.le_trans hBw h2.size)).mono ?_
  rintro e w5 ⟨hv, hb, hbl, hsp⟩
  refine ⟨hv, .inr hb, (h2.mono hBw).trans hbl, fun T cs e fr hT hne he => ?_⟩
  have h3 := h2.block T (Array.getElem?_eq_some_iff.1 hT).1
  exact (hsp T cs e fr (h3.trans hT) hne he).trans h3
/-- The loop: what has been written so far. -/
def TxtAt (ls : List Lab) (w : World) (k : Nat) (w' : World) : Prop := IsBuild w.heap.size w.heap.size (Lib.byteCells (innK ls k)) w' ∧ Below w.heap.size w w'
set_option maxRecDepth 100000 in
set_option maxHeartbeats 4000000 in
theorem labText_any (ls : List Lab) (A : Option Addr) (n c B : Nat) (w : World) (hr : Rd w B 2 A (labsC ls)) (hn : ls.length = n) (hB : B ≤ w.heap.size) (hm : n ≤ 140737488355328) (he : (textL ls).length ≤ 1099511627776) :
    Calls Tryz.prog 13 #[.slice A n c] w fun e w' => e = .returned (.string (textB ls)) ∧ Below w.heap.size w w' := by
  have Hn := Lib.hid hn
  clear hn
  have hI : Hid (TxtAt ls w 0 (w.alloc (.cells #[.pointer none, .slice none 0 0] 62))) := ⟨Lib.fresh_isBuilder _ _ w, (Below.refl _ _).alloc (Nat.le_refl _) _⟩
  go_enter Tryz.func13, Tryz.ntmps13
  go_wp2_with fail
  go_loopw [8] (fun i wr => ∃ k : Nat, i = .int .i64 k ∧ k ≤ n ∧ Hid (TxtAt ls w k wr)) (fun i _ => n - (intOf i).toNat)
  case atStart => exact ⟨0, rfl, by omega, hI⟩
  case round =>
    clear hI
    obtain ⟨k, rfl, hk, HE⟩ := hrel
    obtain ⟨hib, hb⟩ := HE.out
    have hs := hb.size
    by_cases hlt : k < n
    · obtain ⟨l, hl⟩ := get_lt Hn hlt
      obtain ⟨b, o, rfl, hbB, g0, g1⟩ := (hr.below (hb.mono hB)).at2 (labsC_at hl)
      have hroom := innK_room hl
      have hes := esc_size l.2
      have hltI : (k : Int) < (n : Int) := by omega
      have HL := Lib.hid (innK_succ hl)
      have HNe : Hid (wr.heap.size ≠ w.heap.size) := by show _ ≠ _; have := (isBuild_lt hib).2; omega
      by_cases hk0 : 0 < k
      · have HIB0 : Hid (∀ o, IsBuild w.heap.size w.heap.size (Lib.byteCells (innK ls k)) (wr.alloc o) ∧ Below w.heap.size w (wr.alloc o)) := fun o => ⟨isBuild_keep hib ((Below.refl _ _).alloc (Nat.le_refl _) o), hb.alloc hs o⟩
        have HS : Hid (sepK k = [44]) := by show _ = _; unfold sepK; rw [if_neg (by omega)]
        have HW : Hid (Calls Tryz.prog 44 #[.pointer (some ⟨w.heap.size, 0, none⟩), .int .u8 44] (wr.alloc (.cells #[.string l.1, .string l.2] 51)) fun e w' => (∃ v, e = .returned v) ∧ BuildAt w.heap.size w.heap.size (.pointer (some ⟨w.heap.size, 0, none⟩)) (Lib.byteCells (innK ls k) ++ [.int .u8 44]) w' ∧ Below w.heap.size (wr.alloc (.cells #[.string l.1, .string l.2] 51)) w' ∧ Spares w.heap.size (wr.alloc (.cells #[.string l.1, .string l.2] 51)) w') :=
          writeByte_any w.heap.size w.heap.size _ 44 _ (HIB0.out _).1 (by rw [byteCells_len]; omega) (HIB0.out _).2.size
        clear HE hib hb hr
        go_wp2_with fail
        refine (HW.out).mono ?_
        rintro e W0 ⟨⟨vv, rfl⟩, hbat, hbl, hsp⟩
        have HIB : Hid (IsBuild w.heap.size w.heap.size (Lib.byteCells (innK ls k ++ sepK k)) W0) := by
          show IsBuild _ _ _ _
          rw [HS.out, byteCells_app]
          exact .inr hbat
        have HB2 : Hid (Below w.heap.size w W0) := (HIB0.out _).2.trans hbl
        have hsz0 : wr.heap.size + 1 ≤ W0.heap.size := by have := hbl.size; simpa using this
        have HK : Hid (Blk W0 wr.heap.size 51 [.string l.1, .string l.2]) := (hsp _ _ _ _ (Blk.new wr 51 [.string l.1, .string l.2]) HNe.out (by decide)).trans (Blk.new wr 51 [.string l.1, .string l.2])
        clear hbat hbl hsp HW HIB0
        go_wp2_with fail
        have HT : Hid (wr.heap.size < W0.heap.size) := by show _ < _; omega
        have e0 := HK.out.cell (j := 0) rfl
        have e1 := HK.out.cell (j := 1) rfl
        clear hsz0
        have hE : ∃ E : ByteArray, E = ⟨(escL l.2.data.toList).toArray⟩ := ⟨_, rfl⟩
        obtain ⟨E, hE⟩ := hE
        have hEs : E.size = (escL l.2.data.toList).length := by rw [hE]; rfl
        have HCells := Lib.hid (lab_cells l E (by rw [hE]))
        obtain ⟨hl4, hx1, hx2, hl5⟩ := room_len hl hEs he
        have e2 : (⟨#[61, 34]⟩ : ByteArray).size = 2 := rfl
        have e1' : (⟨#[34]⟩ : ByteArray).size = 1 := rfl
        obtain ⟨X1, hX1⟩ : ∃ X1, X1 = l.1 ++ (⟨#[61, 34]⟩ : ByteArray) := ⟨_, rfl⟩
        obtain ⟨X2, hX2⟩ : ∃ X2, X2 = X1 ++ E := ⟨_, rfl⟩
        obtain ⟨X3, hX3⟩ : ∃ X3, X3 = X2 ++ (⟨#[34]⟩ : ByteArray) := ⟨_, rfl⟩
        have hz1 : X1.size ≤ 1099511627778 := by rw [hX1, ByteArray.size_append, e2]; omega
        have hz2 : X2.size ≤ 3299511627778 := by rw [hX2, ByteArray.size_append]; omega
        have hr1 : ∀ W : World, (Op.stringOp .add l.1 (⟨#[61, 34]⟩ : ByteArray)).run Tryz.prog W = .ok (.string X1) W := fun W => by rw [hX1]; exact run_string_add_sum W _ _ (by rw [e2]; omega)
        have hr2 : ∀ W : World, (Op.stringOp .add X1 E).run Tryz.prog W = .ok (.string X2) W := fun W => by rw [hX2]; exact run_string_add_sum W _ _ (by omega)
        have hr3 : ∀ W : World, (Op.stringOp .add X2 (⟨#[34]⟩ : ByteArray)).run Tryz.prog W = .ok (.string X3) W := fun W => by rw [hX3]; exact run_string_add_sum W _ _ (by rw [e1']; omega)
        rw [← hX1, ← hX2, ← hX3] at hl4
        have HX : Hid (Lib.strCells X3 = Lib.byteCells (labT l)) := by show _ = _; rw [hX3, hX2, hX1]; exact HCells.out
        clear hX1 hX2 hX3 e1' e2 hz1 hz2
        have HE := Lib.hid hE
        have HLen := Lib.hid hl4
        have HVs := Lib.hid hl5
        clear hE hEs hroom hes hl4 hl5 hl
        go_region_held3 (fun w' => w'.cell? ⟨wr.heap.size, 0, none⟩ = some (.string l.1) ∧ w'.cell? ⟨wr.heap.size, 1, none⟩ = some (.string l.2))
          (first | exact ⟨e0, e1⟩ | exact ⟨hk5.cell rfl, hk5.cell rfl⟩ | exact ⟨(hb3.cell (p := ⟨wr.heap.size, 0, none⟩) HT.out).trans e0, (hb3.cell (p := ⟨wr.heap.size, 1, none⟩) HT.out).trans e1⟩ | exact ⟨(hb4.cell (p := ⟨wr.heap.size, 0, none⟩) HT.out).trans e0, (hb4.cell (p := ⟨wr.heap.size, 1, none⟩) HT.out).trans e1⟩ | go_keep)
          (first
            | (go_at_call 46; refine (newRep_at W0 _ _ _ (W0.heap.size + 1) ?q1 ?q2 ?q3).mono ?_; (case q1 => exact (Rd.new W0 (namesC_sz _) _ rfl).drew); (case q2 => simp); (case q3 => exact ((Below.refl _ _).alloc (Nat.le_refl _) _).drew); rintro e w3 ⟨R, g, c3, rfl, hR, hg, hp, hr3, hb3⟩)
            | (go_at_call 47; refine (replace_at W0 w3 R g c3 l.2 E HE.out HVs.out hR hg hp hr3 hb3).mono ?_; rintro e w4 ⟨rfl, hb4⟩)
            | (go_at_call 45; refine (write_at W0 w4 w.heap.size w.heap.size (Lib.byteCells (innK ls k ++ sepK k)) _ HIB.out HLen.out HB2.out.size hb4).mono ?_; rintro e w5 ⟨⟨v5, rfl⟩, hib, hb5, hsp5⟩; have hk5 : Blk w5 wr.heap.size 51 [.string l.1, .string l.2] := (hsp5 _ _ _ _ HK.out HNe.out (by decide)).trans HK.out))
        have HI2 : Hid (TxtAt ls w (k + 1) w5) := by
          refine ⟨?_, HB2.out.trans hb5⟩
          rw [HL.out, show (if k = 0 then [] else [44]) = sepK k from rfl, byteCells_app, ← HX.out]
          exact hib
        clear hib hb5 hsp5 hk5 hb4 hb3 hp hg hR
        go_wp2_with fail
        go_roundw
        case rel => exact ⟨k + 1, by go_num, by omega, HI2⟩
        case measure => simp [intOf]; omega
      · have HS : Hid (sepK k = []) := by show _ = _; unfold sepK; rw [if_pos (by omega)]
        have HIB0 : Hid (∀ o, IsBuild w.heap.size w.heap.size (Lib.byteCells (innK ls k ++ sepK k)) (wr.alloc o) ∧ Below w.heap.size w (wr.alloc o)) := fun o => by
          rw [HS.out, List.append_nil]
          exact ⟨isBuild_keep hib ((Below.refl _ _).alloc (Nat.le_refl _) o), hb.alloc hs o⟩
        clear HE hib hb hr
        go_wp2_with fail
        have HK := Lib.hid (Blk.new wr 51 [.string l.1, .string l.2])
        have hsz0 : (wr.alloc (.cells #[.string l.1, .string l.2] 51)).heap.size = wr.heap.size + 1 := by simp
        obtain ⟨hib0, hb0⟩ := HIB0.out (.cells #[.string l.1, .string l.2] 51)
        have HIB := Lib.hid hib0
        have HB2 := Lib.hid hb0
        clear hib0 hb0 HIB0
        generalize wr.alloc (.cells #[.string l.1, .string l.2] 51) = W0 at *
        have HT : Hid (wr.heap.size < W0.heap.size) := by show _ < _; omega
        have e0 := HK.out.cell (j := 0) rfl
        have e1 := HK.out.cell (j := 1) rfl
        clear hsz0
        have hE : ∃ E : ByteArray, E = ⟨(escL l.2.data.toList).toArray⟩ := ⟨_, rfl⟩
        obtain ⟨E, hE⟩ := hE
        have hEs : E.size = (escL l.2.data.toList).length := by rw [hE]; rfl
        have HCells := Lib.hid (lab_cells l E (by rw [hE]))
        obtain ⟨hl4, hx1, hx2, hl5⟩ := room_len hl hEs he
        have e2 : (⟨#[61, 34]⟩ : ByteArray).size = 2 := rfl
        have e1' : (⟨#[34]⟩ : ByteArray).size = 1 := rfl
        obtain ⟨X1, hX1⟩ : ∃ X1, X1 = l.1 ++ (⟨#[61, 34]⟩ : ByteArray) := ⟨_, rfl⟩
        obtain ⟨X2, hX2⟩ : ∃ X2, X2 = X1 ++ E := ⟨_, rfl⟩
        obtain ⟨X3, hX3⟩ : ∃ X3, X3 = X2 ++ (⟨#[34]⟩ : ByteArray) := ⟨_, rfl⟩
        have hz1 : X1.size ≤ 1099511627778 := by rw [hX1, ByteArray.size_append, e2]; omega
        have hz2 : X2.size ≤ 3299511627778 := by rw [hX2, ByteArray.size_append]; omega
        have hr1 : ∀ W : World, (Op.stringOp .add l.1 (⟨#[61, 34]⟩ : ByteArray)).run Tryz.prog W = .ok (.string X1) W := fun W => by rw [hX1]; exact run_string_add_sum W _ _ (by rw [e2]; omega)
        have hr2 : ∀ W : World, (Op.stringOp .add X1 E).run Tryz.prog W = .ok (.string X2) W := fun W => by rw [hX2]; exact run_string_add_sum W _ _ (by omega)
        have hr3 : ∀ W : World, (Op.stringOp .add X2 (⟨#[34]⟩ : ByteArray)).run Tryz.prog W = .ok (.string X3) W := fun W => by rw [hX3]; exact run_string_add_sum W _ _ (by rw [e1']; omega)
        rw [← hX1, ← hX2, ← hX3] at hl4
        have HX : Hid (Lib.strCells X3 = Lib.byteCells (labT l)) := by show _ = _; rw [hX3, hX2, hX1]; exact HCells.out
        clear hX1 hX2 hX3 e1' e2 hz1 hz2
        have HE := Lib.hid hE
        have HLen := Lib.hid hl4
        have HVs := Lib.hid hl5
        clear hE hEs hroom hes hl4 hl5 hl
        go_region_held3 (fun w' => w'.cell? ⟨wr.heap.size, 0, none⟩ = some (.string l.1) ∧ w'.cell? ⟨wr.heap.size, 1, none⟩ = some (.string l.2))
          (first | exact ⟨e0, e1⟩ | exact ⟨hk5.cell rfl, hk5.cell rfl⟩ | exact ⟨(hb3.cell (p := ⟨wr.heap.size, 0, none⟩) HT.out).trans e0, (hb3.cell (p := ⟨wr.heap.size, 1, none⟩) HT.out).trans e1⟩ | exact ⟨(hb4.cell (p := ⟨wr.heap.size, 0, none⟩) HT.out).trans e0, (hb4.cell (p := ⟨wr.heap.size, 1, none⟩) HT.out).trans e1⟩ | go_keep)
          (first
            | (go_at_call 46; refine (newRep_at W0 _ _ _ (W0.heap.size + 1) ?q1 ?q2 ?q3).mono ?_; (case q1 => exact (Rd.new W0 (namesC_sz _) _ rfl).drew); (case q2 => simp); (case q3 => exact ((Below.refl _ _).alloc (Nat.le_refl _) _).drew); rintro e w3 ⟨R, g, c3, rfl, hR, hg, hp, hr3, hb3⟩)
            | (go_at_call 47; refine (replace_at W0 w3 R g c3 l.2 E HE.out HVs.out hR hg hp hr3 hb3).mono ?_; rintro e w4 ⟨rfl, hb4⟩)
            | (go_at_call 45; refine (write_at W0 w4 w.heap.size w.heap.size (Lib.byteCells (innK ls k ++ sepK k)) _ HIB.out HLen.out HB2.out.size hb4).mono ?_; rintro e w5 ⟨⟨v5, rfl⟩, hib, hb5, hsp5⟩; have hk5 : Blk w5 wr.heap.size 51 [.string l.1, .string l.2] := (hsp5 _ _ _ _ HK.out HNe.out (by decide)).trans HK.out))
        have HI2 : Hid (TxtAt ls w (k + 1) w5) := by
          refine ⟨?_, HB2.out.trans hb5⟩
          rw [HL.out, show (if k = 0 then [] else [44]) = sepK k from rfl, byteCells_app, ← HX.out]
          exact hib
        clear hib hb5 hsp5 hk5 hb4 hb3 hp hg hR
        go_wp2_with fail
        go_roundw
        case rel => exact ⟨k + 1, by go_num, by omega, HI2⟩
        case measure => simp [intOf]; omega
    · have hkn : k = n := by omega
      subst hkn
      have HS : Hid (Calls Tryz.prog 48 #[.pointer (some ⟨w.heap.size, 0, none⟩)] wr fun e w' => e = .returned (.string ⟨(innK ls k).toArray⟩) ∧ Below w.heap.size wr w') := Tryz.Builder_String_any w.heap.size w.heap.size (innK ls k) wr hib hs
      have HB := Lib.hid hb
      have hl : (innK ls k).length ≤ 1099511627776 := by
        have h : (textL ls).length = (innK ls k).length + 2 := by rw [textL, Hn.out]; simp
        omega
      have HT : Hid ((⟨#[123]⟩ : ByteArray) ++ ⟨(innK ls k).toArray⟩ ++ (⟨#[125]⟩ : ByteArray) = textB ls) := by
        show _ = _
        unfold textB textL
        rw [Hn.out]
        apply ByteArray.ext
        apply Array.toList_inj.1
        simp
      have hz : (⟨(innK ls k).toArray⟩ : ByteArray).size ≤ 1099511627776 := by show (innK ls k).toArray.size ≤ _; simpa using hl
      clear HE hib hb hr hl
      generalize (⟨(innK ls k).toArray⟩ : ByteArray) = X at *
      go_wp2_with (go_at_call 48; refine (HS.out).mono ?_; rintro e w2 ⟨rfl, hb2⟩)
      go_ret
      exact ⟨by rw [← HT.out]; rfl, HB.out.trans hb2⟩
end Go.Proofs.YtnlheomfobpcmaaGreat
