/- The document's values, parts of sets and sets with a label more. -/
import Derived.Test.YtnlheomfobpcmaaGreatLabI
import Derived.Test.YtnlheomfobpcmaaGreatLabK
namespace Go.Proofs.YtnlheomfobpcmaaGreat
open Go.RowKit

set_option maxHeartbeats 1000000 in
theorem rget_any (ls : List Lab) (nm : ByteArray) (A : Option Addr) (n c B : Nat) (w : World) (hr : Rd w B 2 A (labsC ls)) (hn : ls.length = n) (hm : n ≤ maxLen) :
    Calls Tryz.prog 27 #[.slice A n c, .string nm] w fun e w' => e = .returned (.string (getL ls nm)) ∧ w = w' := by
  unfold maxLen at hm
  have Hn := Lib.hid hn
  clear hn
  go_enter Tryz.func27, Tryz.ntmps27
  go_wp2_with fail
  go_loop [5] (fun i => ∃ k : Nat, i = .int .i64 k ∧ k ≤ n ∧ Hid (∀ j m, j < k → ls[j]? = some m → m.1 ≠ nm)) (fun i => n - (intOf i).toNat)
  case atStart => exact ⟨0, rfl, by omega, fun j m hj => by omega⟩
  case round =>
    obtain ⟨k, rfl, hk, HA⟩ := hrel
    by_cases hlt : k < n
    · obtain ⟨l, hl⟩ := get_lt Hn hlt
      obtain ⟨b, o, rfl, hbB, g0, g1⟩ := hr.at2 (labsC_at hl)
      have hltI : (k : Int) < (n : Int) := by omega
      by_cases he : l.1 = nm
      · have HT := Lib.hid (getL_at HA hl he)
        have heb : (l.1.toList == nm.toList) = true := by rw [beq_toList]; exact decide_eq_true he
        clear hl he HA
        go_wp2_with fail
        go_ret
        exact ⟨by rw [HT.out]; rfl, rfl⟩
      · have heb : (l.1.toList == nm.toList) = false := by rw [beq_toList]; exact decide_eq_false he
        have HA2 := getL_step HA hl he
        clear hl he HA
        go_wp2_with fail
        go_round
        case rel => exact ⟨k + 1, by go_num, by omega, HA2⟩
        case measure => simp [intOf]; omega
    · have hkn : k = n := by omega
      subst hkn
      have HT := Lib.hid (getL_none (nm := nm) (fun j m hj hm => HA.out j m (by have := Hn.out; omega) hm))
      go_wp2_with fail
      go_ret
      exact ⟨by rw [HT.out]; rfl, rfl⟩
set_option maxHeartbeats 1000000 in
theorem rin_any (ls : List ByteArray) (nm : ByteArray) (A : Option Addr) (n c B : Nat) (w : World) (hr : Rd w B 1 A (namesC ls)) (hn : ls.length = n) (hm : n ≤ maxLen) :
    Calls Tryz.prog 64 #[.slice A n c, .string nm] w fun e w' => e = .returned (.bool (memB ls nm)) ∧ w = w' := by
  unfold maxLen at hm
  have Hn := Lib.hid hn
  clear hn
  go_enter Tryz.func64, Tryz.ntmps64
  go_wp2_with fail
  go_loop [5] (fun i => ∃ k : Nat, i = .int .i64 k ∧ k ≤ n ∧ Hid (∀ j m, j < k → ls[j]? = some m → nm ≠ m)) (fun i => n - (intOf i).toNat)
  case atStart => exact ⟨0, rfl, by omega, fun j m hj => by omega⟩
  case round =>
    obtain ⟨k, rfl, hk, HA⟩ := hrel
    by_cases hlt : k < n
    · obtain ⟨l, hl⟩ := get_lt Hn hlt
      obtain ⟨b, o, rfl, hbB, g0⟩ := hr.at1 (namesC_at hl)
      have hltI : (k : Int) < (n : Int) := by omega
      by_cases he : nm = l
      · have HT : Hid (memB ls nm = true) := memB_yes (he ▸ List.mem_of_getElem? hl)
        have heb : (l.toList == nm.toList) = true := by rw [beq_toList]; exact decide_eq_true he.symm
        clear hl he HA
        go_wp2_with fail
        go_ret
        exact ⟨ret_bool HT.out.symm, rfl⟩
      · have heb : (l.toList == nm.toList) = false := by rw [beq_toList]; exact decide_eq_false fun e => he e.symm
        have HA2 := index_step HA hl he
        clear hl he HA
        go_wp2_with fail
        go_round
        case rel => exact ⟨k + 1, by go_num, by omega, HA2⟩
        case measure => simp [intOf]; omega
    · have hkn : k = n := by omega
      subst hkn
      have HT : Hid (memB ls nm = false) := memB_no (by
        intro hmem
        obtain ⟨j, hj, hje⟩ := List.getElem_of_mem hmem
        exact HA.out j _ (by have := Hn.out; omega) (List.getElem?_eq_getElem hj) hje.symm)
      go_wp2_with fail
      go_ret
      exact ⟨ret_bool HT.out.symm, rfl⟩
/-- The labels whose name is (is not) among some. -/
def someL (ls : List Lab) (ns : List ByteArray) (keep : Bool) : List Lab := ls.filter fun l => memB ns l.1 == keep
theorem someL_true (ls : List Lab) (ns : List ByteArray) : someL ls ns true = keepL ls ns := by unfold someL keepL; congr 1; funext l; simp
theorem someL_false (ls : List Lab) (ns : List ByteArray) : someL ls ns false = withoutL ls ns := by unfold someL withoutL; congr 1; funext l; simp
theorem someL_yes {ls : List Lab} {ns : List ByteArray} {keep : Bool} {k : Nat} {l : Lab} (h : ls[k]? = some l) (hm : (memB ns l.1 == keep) = true) : someL (ls.take (k + 1)) ns keep = someL (ls.take k) ns keep ++ [l] := by
  unfold someL
  rw [List.take_add_one, h, Option.toList_some, List.filter_append]
  simp only [List.filter_cons, hm, List.filter_nil, if_true]
theorem someL_no {ls : List Lab} {ns : List ByteArray} {keep : Bool} {k : Nat} {l : Lab} (h : ls[k]? = some l) (hm : (memB ns l.1 == keep) = false) : someL (ls.take (k + 1)) ns keep = someL (ls.take k) ns keep := by
  unfold someL
  rw [List.take_add_one, h, Option.toList_some, List.filter_append]
  simp [hm]
theorem someL_len (ls : List Lab) (ns : List ByteArray) (keep : Bool) : (someL ls ns keep).length ≤ ls.length := List.length_filter_le _ _
def SomAt (ls : List Lab) (ns : List ByteArray) (keep : Bool) (w : World) (k : Nat) (v : Value) (w' : World) : Prop := ∃ A m c, v = .slice A m c ∧ Own w' w.heap.size 51 2 A m c (labsC (someL (ls.take k) ns keep)) ∧ Below w.heap.size w w'
set_option maxRecDepth 100000 in
set_option maxHeartbeats 2000000 in
theorem rsome_any (ls : List Lab) (ns : List ByteArray) (keep : Bool) (A An : Option Addr) (n c B nn cn Bn : Nat) (w : World) (hr : Rd w B 2 A (labsC ls)) (hn : ls.length = n) (hB : B ≤ w.heap.size) (hm : n * 32 ≤ 140737488355328)
    (hrn : Rd w Bn 1 An (namesC ns)) (hnn : ns.length = nn) (hBn : Bn ≤ w.heap.size) (hmn : nn ≤ maxLen) :
    Calls Tryz.prog 30 #[.slice A n c, .slice An nn cn, .bool keep] w (LabsOut w (someL ls ns keep)) := by
  have Hn := Lib.hid hn
  clear hn
  have hmx := hmn
  unfold maxLen at hmx
  go_enter Tryz.func30, Tryz.ntmps30
  go_wp2_with fail
  go_loopw [8, 7] (fun i v wr => ∃ k : Nat, i = .int .i64 k ∧ k ≤ n ∧ Hid (SomAt ls ns keep w k v wr)) (fun i _ _ => n - (intOf i).toNat)
  case atStart => exact ⟨0, rfl, by omega, none, 0, 0, rfl, Own.nil_ (by omega), Below.refl _ _⟩
  case round =>
    obtain ⟨k, rfl, hk, HF⟩ := hrel
    obtain ⟨A2, m2, c2, rfl, ho, hb⟩ := HF.out
    have hs := hb.size
    by_cases hlt : k < n
    · obtain ⟨l, hl⟩ := get_lt Hn hlt
      obtain ⟨b, o, rfl, hbB, g0, g1⟩ := (hr.below (hb.mono hB)).at2 (labsC_at hl)
      have hltI : (k : Int) < (n : Int) := by omega
      have hml : m2 ≤ k := by
        have h1 := ho.len
        rw [labsC_len] at h1
        have h2 := someL_len (ls.take k) ns keep
        rw [List.length_take, Hn.out] at h2
        omega
      have HIn := Lib.hid (rin_any ns l.1 An nn cn Bn wr (hrn.below (hb.mono hBn)) hnn hmn)
      have HO := Lib.hid ho
      have HB := Lib.hid hb
      cases hmem : (memB ns l.1 == keep) with
      | false =>
        have HL := Lib.hid (someL_no hl hmem)
        generalize memB ns l.1 = q at *
        clear hl ho hb HF
        go_wp2_with (go_at_call 64; refine (HIn.out).mono ?_; rintro e w' ⟨rfl, rfl⟩)
        have HF2 : Hid (SomAt ls ns keep w (k + 1) (.slice A2 m2 c2) wr) := ⟨A2, m2, c2, rfl, by rw [HL.out]; exact HO.out, HB.out⟩
        go_roundw
        case rel => exact ⟨k + 1, by go_num, by omega, HF2⟩
        case measure => simp [intOf]; omega
      | true =>
        have HL := Lib.hid (someL_yes hl hmem)
        generalize memB ns l.1 = q at *
        clear hl ho hb HF
        go_wp2_with (first
          | (go_at_call 64; refine (HIn.out).mono ?_; rintro e w' ⟨rfl, rfl⟩)
          | (at_builtin; go_must (refine wpList_append_rd _ rfl (.tmp 24) (.tmp 29) _ rfl eiLab rfl (HO.out.alloc _) rfl (Rd.new (xs := labsC [l]) wr (labsC_all _) _ rfl) rfl (labsC_one _) (by simp only [maxLen]; omega) (by omega) (by simp; omega) ?_; intro A3 c3 w3 ho3 hg3 hat3 hb3)))
        have HF2 : Hid (SomAt ls ns keep w (k + 1) (.slice A3 (m2 + 1) c3) w3) := ⟨A3, m2 + 1, c3, rfl, by rw [HL.out]; simpa [labsC] using ho3, (HB.out.alloc hs _).trans hb3⟩
        clear ho3 hg3 hat3 hb3
        go_wp2_with fail
        go_roundw
        case rel => exact ⟨k + 1, by go_num, by omega, HF2⟩
        case measure => simp [intOf]; omega
    · have hkn : k = n := by omega
      subst hkn
      have HT : Hid (someL (ls.take k) ns keep = someL ls ns keep) := by show _ = _; rw [← Hn.out, List.take_length]
      go_wp2_with fail
      go_ret
      refine ⟨A2, m2, c2, rfl, ?_, by rw [← HT.out]; exact ho, hb⟩
      rw [← HT.out, ← labsC_len]; exact ho.len
theorem Rd.pre' {w : World} {B sz : Nat} {A : Option Addr} {xs ys : List (List Value)} (h : Rd w B sz A (xs ++ ys)) : Rd w B sz A xs := by
  refine ⟨fun x hx => h.1 x (List.mem_append_left _ hx), fun hne => ?_⟩
  obtain ⟨b, o, e, hb, hc⟩ := h.2 (by simp [hne])
  refine ⟨b, o, e, hb, fun k x j v hk hv => hc k x j v ?_ hv⟩
  rw [List.getElem?_append_left (List.getElem?_eq_some_iff.1 hk).1]
  exact hk
theorem Rd.post' {w : World} {B sz : Nat} {b o : Nat} {xs ys : List (List Value)} (h : Rd w B sz (some ⟨b, o, none⟩) (xs ++ ys)) : Rd w B sz (some ⟨b, o + xs.length * sz, none⟩) ys := by
  refine ⟨fun x hx => h.1 x (List.mem_append_right _ hx), fun hne => ?_⟩
  obtain ⟨b', o', e, hb, hc⟩ := h.2 (by simp [hne])
  injection e with e
  injection e with e1 e2
  subst e1 e2
  refine ⟨b, _, rfl, hb, fun k x j v hk hv => ?_⟩
  have := hc (xs.length + k) x j v (by rw [List.getElem?_append_right (by omega)]; rw [show xs.length + k - xs.length = k from by omega]; exact hk) hv
  rw [Nat.add_mul] at this
  rw [show o + xs.length * sz + k * sz + j = o + (xs.length * sz + k * sz) + j from by omega]
  exact this
theorem labsC_split (r : List Lab) (k : Nat) : labsC r = labsC (r.take k) ++ labsC (r.drop k) := by rw [labsC, labsC, labsC, ← List.map_append, List.take_append_drop]
set_option maxRecDepth 100000 in
set_option maxHeartbeats 2000000 in
theorem rwith_any (ls : List Lab) (nm v : ByteArray) (A : Option Addr) (n c B : Nat) (w : World) (hr : Rd w B 2 A (labsC ls)) (hn : ls.length = n) (hB : B ≤ w.heap.size) (hm : (n + 1) * 32 ≤ 140737488355328) :
    Calls Tryz.prog 29 #[.slice A n c, .string nm, .string v] w (LabsOut w (withL ls nm v)) := by
  have hb0 : Below w.heap.size w (w.alloc (.cells #[.string nm] 9)) := (Below.refl _ w).alloc (Nat.le_refl _) _
  have hrn : Rd (w.alloc (.cells #[.string nm] 9)) (w.heap.size + 1) 1 (some ⟨w.heap.size, 0, none⟩) (namesC [nm]) := Rd.new (xs := namesC [nm]) w (namesC_sz _) _ rfl
  have HO := Lib.hid (rsome_any ls [nm] false A (some ⟨w.heap.size, 0, none⟩) n c B 1 1 (w.heap.size + 1) _ (hr.below (hb0.mono hB)) hn (by simp; omega) (by omega) hrn rfl (by simp) (by simp [maxLen]))
  rw [someL_false] at HO
  have hwl : (withoutL ls [nm]).length ≤ n := by rw [← hn]; exact withoutL_len ls [nm]
  have HBB := Lib.hid hb0
  clear hr hn hb0 hrn
  obtain ⟨r, hr⟩ : ∃ r, r = withoutL ls [nm] := ⟨_, rfl⟩
  have HT : Hid (withL ls nm v = if v.size = 0 then r else insL r (nm, v)) := by show _ = _; rw [hr]; rfl
  rw [← hr] at HO hwl
  clear hr
  by_cases hv : v.size = 0
  · have hv1 : v.toList.isEmpty = true := isEmpty_yes (by omega)
    go_enter Tryz.func29, Tryz.ntmps29
    go_wp2_with (go_at_call 30; refine (HO.out).mono ?_; rintro e w1 ⟨A1, m1, c1, rfl, hm1, ho1, hb1⟩)
    go_ret
    refine ⟨A1, m1, c1, rfl, ?_, ?_, HBB.out.trans (hb1.mono (by simp))⟩
    · rw [HT.out, if_pos hv]; exact hm1
    · rw [HT.out, if_pos hv]; exact ho1.lower (by simp)
  · have hv1 : v.toList.isEmpty = false := isEmpty_no (by omega)
    have HT2 : Hid (withL ls nm v = insL r (nm, v)) := by have := HT.out; rw [if_neg hv] at this; exact this
    clear HT
    go_enter Tryz.func29, Tryz.ntmps29
    go_wp2_with fail
    refine (HO.out).mono ?_
    rintro e w1 ⟨A1, m1, c1, rfl, hm1, ho1, hb1⟩
    have hs1 : w.heap.size + 1 ≤ w1.heap.size := by have := hb1.size; simpa using this
    have HO1 := Lib.hid ho1
    have HB1 : Hid (Below w.heap.size w w1) := HBB.out.trans (hb1.mono (by simp))
    have hmm : (m1 + 1) * 32 ≤ 140737488355328 := by omega
    have hrd := ho1.rd
    have Hm := Lib.hid hm1
    have hcap := ho1.cap
    have hform := ho1.form
    clear hb1 ho1 HO hwl HBB hm1
    go_wp2_with fail
    go_loop [8] (fun i => ∃ k : Nat, i = .int .i64 k ∧ k ≤ m1 ∧ Hid (∀ j m, j < k → r[j]? = some m → leB m.1 nm = true)) (fun i => m1 - (intOf i).toNat)
    case atStart => exact ⟨0, rfl, by omega, fun j m hj => by omega⟩
    case round =>
      obtain ⟨k, rfl, hk, HA⟩ := hrel
      by_cases hlt : k < m1
      · obtain ⟨l, hl⟩ := get_lt Hm hlt
        have hltI : (k : Int) < (m1 : Int) := by omega
        obtain ⟨b, o, rfl, hbB, g0, g1⟩ := hrd.at2 (labsC_at hl)
        cases he : leB l.1 nm with
        | true =>
          have hle2 : (Op.bytesLess l.1.toList nm.toList || l.1.toList == nm.toList) = true := he
          have HA2 := posN_step HA hl he
          clear hl he HA hcap hform hrd
          go_wp2_with fail
          go_round
          case rel => exact ⟨k + 1, by go_num, by omega, HA2⟩
          case measure => simp [intOf]; omega
        | false =>
          have hle2 : (Op.bytesLess l.1.toList nm.toList || l.1.toList == nm.toList) = false := he
          have hp := posN_at HA hl he
          have Hp := Lib.hid hp
          have hr1 : Rd w1 w1.heap.size 2 (some ⟨b, o, none⟩) (labsC (r.take k)) := by have h := hrd; rw [labsC_split r k] at h; exact h.pre'
          have hr2 : Rd w1 w1.heap.size 2 (some ⟨b, o + k * 2, none⟩) (labsC (r.drop k)) := by
            have h := hrd
            rw [labsC_split r k] at h
            have := h.post'
            rwa [labsC_len, List.length_take, Nat.min_eq_left (by rw [Hm.out]; omega)] at this
          have hl1 : (labsC (r.take k)).length = k := by rw [labsC_len, List.length_take, Nat.min_eq_left (by rw [Hm.out]; omega)]
          have hl2 : (labsC (r.drop k)).length = m1 - k := by rw [labsC_len, List.length_drop, Hm.out]
          have hcc : ¬ (c1 = k) := by have := hcap.1; omega
          have hcc2 : (k : Int) ≤ (c1 : Int) := by have := hcap.1; omega
          have hkm : (k : Int) ≤ (m1 : Int) := by omega
          have hk0 : (0 : Int) ≤ (k : Int) := by omega
          have HR1 := Lib.hid hr1
          have HR2 := Lib.hid hr2
          have HL1 := Lib.hid hl1
          have HL2 := Lib.hid hl2
          clear hl he HA hp hr1 hr2 hl1 hl2 hrd hform hcap
          go_wp2_with (at_builtin; go_must (refine wpList_append_rd (ys := labsC (r.take k)) _ rfl (.tmp 32) (.tmp 35) _ rfl eiLab rfl (Own.lit (n := 0) (xs := []) w1 (by omega) (by simp) rfl (by simp [maxLen]) (Nat.le_refl _) #[] rfl) rfl (HR1.out.below ((Below.refl _ _).alloc (by omega) _)) HL1.out (labsC_one _) (by simp only [maxLen]; omega) (by omega) (by simp) ?_; intro A3 c3 w3 ho3 hg3 hat3 hb3))
          have hb13 : Below w1.heap.size w1 w3 := ((Below.refl _ _).alloc (Nat.le_refl _) _).trans hb3
          have ho3' : Own w3 w1.heap.size 51 2 A3 k c3 (labsC (r.take k)) := by simpa using ho3
          have HO3 := Lib.hid ho3'
          have HB13 := Lib.hid hb13
          have hs3 := hb13.size
          clear ho3 hg3 hat3 hb3 hb13 ho3'
          try simp only [Nat.zero_add]
          go_region_law ((first
            | (refine step_append_rd (n := k + 1) (m := m1 - k) (ys := labsC (r.drop k)) _ (by rfl) _ _ _ (by rfl) eiLab (by rfl) ho4 (by rfl) (HR2.out.below HB14.out) HL2.out (labsC_one _) (by simp only [maxLen]; omega) (by omega) (by have := HB14.out.size; omega) ?_; intro A5 c5 w5 ho5 hg5 hat5 hb5)
            | (refine step_append_rd (n := k) (m := 1) (ys := labsC [(nm, v)]) _ (by rfl) _ _ _ (by rfl) eiLab (by rfl) (HO3.out.drew.alloc _) (by rfl) (Rd.new (xs := labsC [(nm, v)]) w3.drew (labsC_all _) _ rfl) rfl (labsC_one _) (by simp only [maxLen]; omega) (by omega) (by simp; omega) ?_; intro A4 c4 w4 ho4 hg4 hat4 hb4; have HB14 : Hid (Below w1.heap.size w1 w4) := (HB13.out.drew.alloc hs3 _).trans hb4)))
          go_wp2_with fail
          go_ret
          refine ⟨A5, _, c5, rfl, ?_, ?_, HB1.out.trans ((HB14.out.trans hb5).mono (by omega))⟩
          · rw [HT2.out, insL, List.length_append, List.length_cons, List.length_take, List.length_drop, Hp.out, Hm.out]; omega
          · rw [HT2.out]
            have e : labsC (insL r (nm, v)) = labsC (r.take k) ++ labsC [(nm, v)] ++ labsC (r.drop k) := by simp [insL, Hp.out, labsC]
            rw [e]
            exact ho5.lower (by omega)
      · have hkm : k = m1 := by omega
        have hp : posN r nm = m1 := by rw [← Hm.out]; exact posN_end (by rw [Hm.out, ← hkm]; exact HA)
        subst hkm
        have Hp := Lib.hid hp
        have HR1 : Hid (Rd w1 w1.heap.size 2 A1 (labsC (r.take k))) := by show Rd _ _ _ _ _; rw [← Hm.out, List.take_length]; exact hrd
        have hd : r.drop k = [] := by rw [← Hm.out, List.drop_length]
        have HR2 : ∀ (W : World) (B : Nat) (A : Option Addr), Hid (Rd W B 2 A (labsC (r.drop k))) := fun W B A => by show Rd _ _ _ _ _; rw [hd]; exact Rd.nil_
        have HL1 : Hid ((labsC (r.take k)).length = k) := by show _ = _; rw [labsC_len, List.length_take, Nat.min_eq_left (by rw [Hm.out]; omega)]
        have HL2 : Hid ((labsC (r.drop k)).length = 0) := by show _ = _; rw [hd]; rfl
        have hcc2 : (k : Int) ≤ (c1 : Int) := by have := hcap.1; omega
        have hk0 : (0 : Int) ≤ (k : Int) := by omega
        clear hp hrd HA hd
        rcases hform with ⟨rfl, h0, h00⟩ | ⟨g, rfl, _, _⟩
        · subst h0 h00
          clear hcap
          go_wp2_with (at_builtin; go_must (refine wpList_append_rd (ys := labsC (r.take 0)) _ rfl (.tmp 32) (.tmp 35) _ rfl eiLab rfl (Own.lit (n := 0) (xs := []) w1 (by omega) (by simp) rfl (by simp [maxLen]) (Nat.le_refl _) #[] rfl) rfl (HR1.out.below ((Below.refl _ _).alloc (by omega) _)) HL1.out (labsC_one _) (by simp only [maxLen]; omega) (by omega) (by simp) ?_; intro A3 c3 w3 ho3 hg3 hat3 hb3))
          have hb13 : Below w1.heap.size w1 w3 := ((Below.refl _ _).alloc (Nat.le_refl _) _).trans hb3
          have ho3' : Own w3 w1.heap.size 51 2 A3 0 c3 (labsC (r.take 0)) := by simpa using ho3
          have HO3 := Lib.hid ho3'
          have HB13 := Lib.hid hb13
          have hs3 := hb13.size
          clear ho3 hg3 hat3 hb3 hb13 ho3'
          try simp only [Nat.zero_add]
          go_region_law ((first
            | (refine step_append_rd (n := 0 + 1) (m := 0) (ys := labsC (r.drop 0)) _ (by rfl) _ _ _ (by rfl) eiLab (by rfl) ho4 (by rfl) ((HR2 _ 0 _).out) HL2.out (labsC_one _) (by simp only [maxLen]; omega) (by omega) (by have := HB14.out.size; omega) ?_; intro A5 c5 w5 ho5 hg5 hat5 hb5)
            | (refine step_append_rd (n := 0) (m := 1) (ys := labsC [(nm, v)]) _ (by rfl) _ _ _ (by rfl) eiLab (by rfl) (HO3.out.drew.alloc _) (by rfl) (Rd.new (xs := labsC [(nm, v)]) w3.drew (labsC_all _) _ rfl) rfl (labsC_one _) (by simp only [maxLen]; omega) (by omega) (by simp; omega) ?_; intro A4 c4 w4 ho4 hg4 hat4 hb4; have HB14 : Hid (Below w1.heap.size w1 w4) := (HB13.out.drew.alloc hs3 _).trans hb4)))
          go_wp2_with fail
          go_ret
          refine ⟨A5, _, c5, rfl, ?_, ?_, HB1.out.trans ((HB14.out.trans hb5).mono (by omega))⟩
          · rw [HT2.out, insL, List.length_append, List.length_cons, List.length_take, List.length_drop, Hp.out, Hm.out]; omega
          · rw [HT2.out]
            have e : labsC (insL r (nm, v)) = labsC (r.take 0) ++ labsC [(nm, v)] ++ labsC (r.drop 0) := by simp [insL, Hp.out, labsC]
            rw [e]
            exact ho5.lower (by omega)
        · by_cases hcc : c1 = k
          · clear hcap
            go_wp2_with (at_builtin; go_must (refine wpList_append_rd (ys := labsC (r.take k)) _ rfl (.tmp 32) (.tmp 35) _ rfl eiLab rfl (Own.lit (n := 0) (xs := []) w1 (by omega) (by simp) rfl (by simp [maxLen]) (Nat.le_refl _) #[] rfl) rfl (HR1.out.below ((Below.refl _ _).alloc (by omega) _)) HL1.out (labsC_one _) (by simp only [maxLen]; omega) (by omega) (by simp) ?_; intro A3 c3 w3 ho3 hg3 hat3 hb3))
            have hb13 : Below w1.heap.size w1 w3 := ((Below.refl _ _).alloc (Nat.le_refl _) _).trans hb3
            have ho3' : Own w3 w1.heap.size 51 2 A3 k c3 (labsC (r.take k)) := by simpa using ho3
            have HO3 := Lib.hid ho3'
            have HB13 := Lib.hid hb13
            have hs3 := hb13.size
            clear ho3 hg3 hat3 hb3 hb13 ho3'
            try simp only [Nat.zero_add]
            go_region_law ((first
              | (refine step_append_rd (n := k + 1) (m := 0) (ys := labsC (r.drop k)) _ (by rfl) _ _ _ (by rfl) eiLab (by rfl) ho4 (by rfl) ((HR2 _ 0 _).out) HL2.out (labsC_one _) (by simp only [maxLen]; omega) (by omega) (by have := HB14.out.size; omega) ?_; intro A5 c5 w5 ho5 hg5 hat5 hb5)
              | (refine step_append_rd (n := k) (m := 1) (ys := labsC [(nm, v)]) _ (by rfl) _ _ _ (by rfl) eiLab (by rfl) (HO3.out.drew.alloc _) (by rfl) (Rd.new (xs := labsC [(nm, v)]) w3.drew (labsC_all _) _ rfl) rfl (labsC_one _) (by simp only [maxLen]; omega) (by omega) (by simp; omega) ?_; intro A4 c4 w4 ho4 hg4 hat4 hb4; have HB14 : Hid (Below w1.heap.size w1 w4) := (HB13.out.drew.alloc hs3 _).trans hb4)))
            go_wp2_with fail
            go_ret
            refine ⟨A5, _, c5, rfl, ?_, ?_, HB1.out.trans ((HB14.out.trans hb5).mono (by omega))⟩
            · rw [HT2.out, insL, List.length_append, List.length_cons, List.length_take, List.length_drop, Hp.out, Hm.out]; omega
            · rw [HT2.out]
              have e : labsC (insL r (nm, v)) = labsC (r.take k) ++ labsC [(nm, v)] ++ labsC (r.drop k) := by simp [insL, Hp.out, labsC]
              rw [e]
              exact ho5.lower (by omega)
          · clear hcap
            go_wp2_with (at_builtin; go_must (refine wpList_append_rd (ys := labsC (r.take k)) _ rfl (.tmp 32) (.tmp 35) _ rfl eiLab rfl (Own.lit (n := 0) (xs := []) w1 (by omega) (by simp) rfl (by simp [maxLen]) (Nat.le_refl _) #[] rfl) rfl (HR1.out.below ((Below.refl _ _).alloc (by omega) _)) HL1.out (labsC_one _) (by simp only [maxLen]; omega) (by omega) (by simp) ?_; intro A3 c3 w3 ho3 hg3 hat3 hb3))
            have hb13 : Below w1.heap.size w1 w3 := ((Below.refl _ _).alloc (Nat.le_refl _) _).trans hb3
            have ho3' : Own w3 w1.heap.size 51 2 A3 k c3 (labsC (r.take k)) := by simpa using ho3
            have HO3 := Lib.hid ho3'
            have HB13 := Lib.hid hb13
            have hs3 := hb13.size
            clear ho3 hg3 hat3 hb3 hb13 ho3'
            try simp only [Nat.zero_add]
            go_region_law ((first
              | (refine step_append_rd (n := k + 1) (m := 0) (ys := labsC (r.drop k)) _ (by rfl) _ _ _ (by rfl) eiLab (by rfl) ho4 (by rfl) ((HR2 _ 0 _).out) HL2.out (labsC_one _) (by simp only [maxLen]; omega) (by omega) (by have := HB14.out.size; omega) ?_; intro A5 c5 w5 ho5 hg5 hat5 hb5)
              | (refine step_append_rd (n := k) (m := 1) (ys := labsC [(nm, v)]) _ (by rfl) _ _ _ (by rfl) eiLab (by rfl) (HO3.out.drew.alloc _) (by rfl) (Rd.new (xs := labsC [(nm, v)]) w3.drew (labsC_all _) _ rfl) rfl (labsC_one _) (by simp only [maxLen]; omega) (by omega) (by simp; omega) ?_; intro A4 c4 w4 ho4 hg4 hat4 hb4; have HB14 : Hid (Below w1.heap.size w1 w4) := (HB13.out.drew.alloc hs3 _).trans hb4)))
            go_wp2_with fail
            go_ret
            refine ⟨A5, _, c5, rfl, ?_, ?_, HB1.out.trans ((HB14.out.trans hb5).mono (by omega))⟩
            · rw [HT2.out, insL, List.length_append, List.length_cons, List.length_take, List.length_drop, Hp.out, Hm.out]; omega
            · rw [HT2.out]
              have e : labsC (insL r (nm, v)) = labsC (r.take k) ++ labsC [(nm, v)] ++ labsC (r.drop k) := by simp [insL, Hp.out, labsC]
              rw [e]
              exact ho5.lower (by omega)
end Go.Proofs.YtnlheomfobpcmaaGreat
