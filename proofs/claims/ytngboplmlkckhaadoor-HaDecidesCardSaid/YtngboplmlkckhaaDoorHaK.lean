/- label.FNV, label.Hash, ha.Key and the document's likes. -/
import Derived.Test.YtngboplmlkckhaaDoorHaD
import Derived.Test.YtngboplmlkckhaaDoorFmtU
import Derived.Test.YtngboplmlkckhaaDoorConv
namespace Go.Proofs.YtngboplmlkckhaaDoor
open Go.RowKit

theorem fnvL_snoc (l : List UInt8) (c : UInt8) : fnvL (l ++ [c]) = ((fnvL l ^^^ c.toNat) * 16777619) % 4294967296 := by
  unfold fnvL
  rw [List.foldl_append, List.foldl_cons, List.foldl_nil]
set_option maxHeartbeats 1000000 in
theorem fnv_any (l : List UInt8) (A : Option Addr) (n c B : Nat) (w : World) (hr : Rd w B 1 A (bytesC l)) (hn : l.length = n) (hm : n ≤ 140737488355328) :
    Calls Tryd.prog 37 #[.slice A n c] w fun e w' => e = .returned (.int .u32 (fnvL l : Nat)) ∧ w = w' := by
  have Hn := Lib.hid hn
  clear hn
  go_enter Tryd.func37, Tryd.ntmps37
  go_wp2_with fail
  go_loop [8, 3] (fun i h => ∃ k x : Nat, i = .int .i64 k ∧ h = .int .u32 x ∧ k ≤ n ∧ x < 4294967296 ∧ Hid (fnvL (l.take k) = x)) (fun i _ => n - (intOf i).toNat)
  case atStart => exact ⟨0, 2166136261, rfl, rfl, by omega, by omega, rfl⟩
  case round =>
    obtain ⟨k, x, rfl, rfl, hk, hx, HX⟩ := hrel
    by_cases hlt : k < n
    · obtain ⟨ch, hch⟩ := get_lt Hn hlt
      obtain ⟨b, o, rfl, hb, hcell⟩ := hr.at1 (bytesC_at hch)
      have hltI : (k : Int) < (n : Int) := by omega
      have h255 : ch.toNat ≤ 255 := by have := ch.toNat_lt; omega
      have HS : Hid (fnvL (l.take (k + 1)) = ((x ^^^ ch.toNat) * 16777619) % 4294967296) := by show _ = _; rw [List.take_add_one, hch, Option.toList_some, fnvL_snoc, HX.out]
      clear hch HX
      go_wp2_with fail
      go_round
      case rel => exact ⟨k + 1, ((x ^^^ ch.toNat) * 16777619) % 4294967296, by go_num, congrArg (Value.int .u32) (by rw [u32_xor_nat x ch.toNat hx (by omega)]; omega), by omega, Nat.mod_lt _ (by omega), HS⟩
      case measure => simp [intOf]; omega
    · have hkn : k = n := by omega
      subst hkn
      have HT : Hid (fnvL l = x) := by show _ = _; rw [← HX.out, ← Hn.out, List.take_length]
      go_wp2_with fail
      go_ret
      exact ⟨ret_int (by rw [HT.out]), rfl⟩
set_option maxHeartbeats 1000000 in
theorem rfnv_any (l : List UInt8) (A : Option Addr) (n c B : Nat) (w : World) (hr : Rd w B 1 A (bytesC l)) (hn : l.length = n) (hm : n ≤ 140737488355328) :
    Calls Tryd.prog 40 #[.slice A n c] w fun e w' => e = .returned (.int .u32 (fnvL l : Nat)) ∧ w = w' := by
  have Hn := Lib.hid hn
  clear hn
  go_enter Tryd.func40, Tryd.ntmps40
  go_wp2_with fail
  go_loop [4, 3] (fun i h => ∃ k x : Nat, i = .int .i64 k ∧ h = .int .u32 x ∧ k ≤ n ∧ x < 4294967296 ∧ Hid (fnvL (l.take k) = x)) (fun i _ => n - (intOf i).toNat)
  case atStart => exact ⟨0, 2166136261, rfl, rfl, by omega, by omega, rfl⟩
  case round =>
    obtain ⟨k, x, rfl, rfl, hk, hx, HX⟩ := hrel
    by_cases hlt : k < n
    · obtain ⟨ch, hch⟩ := get_lt Hn hlt
      obtain ⟨b, o, rfl, hb, hcell⟩ := hr.at1 (bytesC_at hch)
      have hltI : (k : Int) < (n : Int) := by omega
      have h255 : ch.toNat ≤ 255 := by have := ch.toNat_lt; omega
      have HS : Hid (fnvL (l.take (k + 1)) = ((x ^^^ ch.toNat) * 16777619) % 4294967296) := by show _ = _; rw [List.take_add_one, hch, Option.toList_some, fnvL_snoc, HX.out]
      clear hch HX
      go_wp2_with fail
      go_round
      case rel => exact ⟨k + 1, ((x ^^^ ch.toNat) * 16777619) % 4294967296, by go_num, congrArg (Value.int .u32) (by rw [u32_xor_nat x ch.toNat hx (by omega)]; omega), by omega, Nat.mod_lt _ (by omega), HS⟩
      case measure => simp [intOf]; omega
    · have hkn : k = n := by omega
      subst hkn
      have HT : Hid (fnvL l = x) := by show _ = _; rw [← HX.out, ← Hn.out, List.take_length]
      go_wp2_with fail
      go_ret
      exact ⟨ret_int (by rw [HT.out]), rfl⟩
set_option maxHeartbeats 1000000 in
theorem hash_any (ls : List Lab) (A : Option Addr) (n c B : Nat) (w : World) (hr : Rd w B 2 A (labsC ls)) (hn : ls.length = n) (hB : B ≤ w.heap.size) (hm : n ≤ 140737488355328) (he : (encL ls).length ≤ 140737488355300) :
    Calls Tryd.prog 28 #[.slice A n c] w fun e w' => e = .returned (.int .u32 (fnvL (encL ls) : Nat)) ∧ Below w.heap.size w w' := by
  have HE := Lib.hid (labEncode_any ls A n c B w hr hn hB hm he)
  go_enter Tryd.func28, Tryd.ntmps28
  go_wp2_with (first
    | (go_at_call 38; refine (HE.out).mono ?_; rintro e w' ⟨A1, m1, c1, hm1, rfl, ho, hb⟩)
    | (go_at_call 37; refine (fnv_any (encL ls) A1 m1 c1 w'.heap.size w' ho.rd hm1 (by omega)).mono ?_; rintro e w2 ⟨rfl, rfl⟩))
  go_ret
  exact ⟨rfl, hb⟩
set_option maxHeartbeats 1000000 in
theorem rhash_any (ls : List Lab) (A : Option Addr) (n c B : Nat) (w : World) (hr : Rd w B 2 A (labsC ls)) (hn : ls.length = n) (hB : B ≤ w.heap.size) (hm : n ≤ 140737488355328) (he : (encL ls).length ≤ 140737488355300) :
    Calls Tryd.prog 30 #[.slice A n c] w fun e w' => e = .returned (.int .u32 (fnvL (encL ls) : Nat)) ∧ Below w.heap.size w w' := by
  have HE := Lib.hid (rlabEncode_any ls A n c B w hr hn hB hm he)
  go_enter Tryd.func30, Tryd.ntmps30
  go_wp2_with (first
    | (go_at_call 41; refine (HE.out).mono ?_; rintro e w' ⟨A1, m1, c1, hm1, rfl, ho, hb⟩)
    | (go_at_call 40; refine (rfnv_any (encL ls) A1 m1 c1 w'.heap.size w' ho.rd hm1 (by omega)).mono ?_; rintro e w2 ⟨rfl, rfl⟩))
  go_ret
  exact ⟨rfl, hb⟩
/-- The one label that a cluster's register hangs on. -/
def clusterS : ByteArray := ⟨#[99, 108, 117, 115, 116, 101, 114]⟩
def keyH (cl : ByteArray) : Nat := fnvL (encL [(clusterS, cl)])
theorem keyH_lt (cl : ByteArray) : keyH cl < 4294967296 := fnvL_lt _
theorem encL_one (cl : ByteArray) (h : cl.size ≤ 140737488355270) : (encL [(clusterS, cl)]).length ≤ 140737488355300 := by
  have e : encL [(clusterS, cl)] = putText (putText (putU 1) clusterS) cl := rfl
  rw [e, putText_len, putText_len]
  have h1 := putU_le10 (x := cl.size) (by omega)
  have h2 : (putU 1).length = 1 := by rw [putU_small (by omega)]; rfl
  have h3 : clusterS.size = 7 := rfl
  have h4 : (putU 7).length = 1 := by rw [putU_small (by omega)]; rfl
  rw [h3, h4, h2]
  omega
theorem key_cat (t : ByteArray) (h : Nat) : ((⟨#[104, 97, 47]⟩ : ByteArray) ++ t ++ ⟨#[47]⟩ ++ mkS (Lib.decDigits h)) = keyB t h := by
  apply ByteArray.ext
  apply Array.toList_inj.1
  simp [keyB, mkS]
set_option maxHeartbeats 1000000 in
theorem key_any (t cl : ByteArray) (w : World) (htab : Tab10 w) (ht : t.size ≤ 140737488355328) (hc : cl.size ≤ 140737488355270) :
    Calls Tryd.prog 13 #[.string t, .string cl] w fun e w' => e = .returned (.string (keyB t (keyH cl))) ∧ Below w.heap.size w w' := by
  have hr : Rd (w.alloc (.cells #[.string clusterS, .string cl] 47)) (w.heap.size + 1) 2 (some ⟨w.heap.size, 0, none⟩) (labsC [(clusterS, cl)]) := Rd.new w (labsC_all _) _ rfl
  have HH : Hid (Calls Tryd.prog 28 #[.slice (some ⟨w.heap.size, 0, none⟩) 1 1] (w.alloc (.cells #[.string clusterS, .string cl] 47)) fun e w' => e = .returned (.int .u32 (keyH cl : Nat)) ∧ Below (w.alloc (.cells #[.string clusterS, .string cl] 47)).heap.size (w.alloc (.cells #[.string clusterS, .string cl] 47)) w') := hash_any [(clusterS, cl)] (some ⟨w.heap.size, 0, none⟩) 1 1 (w.heap.size + 1) _ hr rfl (by simp) (by omega) (encL_one cl hc)
  have hlt := keyH_lt cl
  have hd := decDigits_le 9 (keyH cl) (by simp only [Nat.reduceAdd, Nat.reducePow]; omega)
  have ht0 := htab.below ((Below.refl w.heap.size w).alloc (Nat.le_refl _) (.cells #[.string clusterS, .string cl] 47))
  have hb0 := (Below.refl w.heap.size w).alloc (Nat.le_refl _) (.cells #[.string clusterS, .string cl] 47)
  have HC := Lib.hid (key_cat t (keyH cl))
  have hz0 : w.heap.size ≤ (w.alloc (.cells #[.string clusterS, .string cl] 47)).heap.size := by simp
  generalize keyH cl = h at *
  have HF := fun (W : World) (h' : Tab10 W) => Lib.hid (formatUint_any h (by omega) W h')
  have hltI : (h : Int) < 4294967296 := by omega
  have hds : (mkS (Lib.decDigits h)).size ≤ 10 := by rw [mkS_size]; exact hd
  generalize mkS (Lib.decDigits h) = dg at *
  clear hd hr
  go_enter Tryd.func13, Tryd.ntmps13
  go_wp2_with (first
    | (go_at_call 28; refine (HH.out).mono ?_; rintro e w' ⟨rfl, hb⟩)
    | (go_at_call 29; refine ((HF _ (ht0.below hb)).out).mono ?_; rintro e w2 ⟨rfl, hb2⟩))
  go_ret
  exact ⟨by rw [← HC.out]; rfl, (hb0.trans (hb.mono hz0)).trans (hb2.mono (Nat.le_trans hz0 hb.size))⟩
/-- What is left to write of a number's digits. -/
def digD (first : Bool) (h : Nat) : List UInt8 := if first = true ∨ 0 < h then Lib.decDigits h else []
theorem digD_step {first : Bool} {h : Nat} (hg : first = true ∨ 0 < h) : digD first h = digD false (h / 10) ++ [UInt8.ofNat (48 + h % 10)] := by
  unfold digD
  rw [if_pos hg]
  by_cases h10 : h < 10
  · rw [Lib.decDigits_one h10, if_neg (by simp; omega), Nat.mod_eq_of_lt h10]
    rfl
  · rw [Lib.decDigits, dif_neg h10, if_pos (.inr (by omega))]
def KeyAt (H : Nat) (w : World) (first : Bool) (h : Nat) (s : ByteArray) (w' : World) : Prop := Lib.decDigits H = digD first h ++ s.data.toList ∧ Below w.heap.size w w'
theorem KeyAt.size {H h : Nat} {w w' : World} {first : Bool} {s : ByteArray} (hH : H < 4294967296) (hk : KeyAt H w first h s w') : s.size ≤ 10 := by
  have h1 := decDigits_le 9 H (by simp only [Nat.reduceAdd, Nat.reducePow]; omega)
  rw [hk.1, List.length_append, ← Lib.size_eq] at h1
  omega
set_option maxHeartbeats 1000000 in
theorem rkey_any (t cl : ByteArray) (w : World) (ht : t.size ≤ 140737488355328) (hc : cl.size ≤ 140737488355270) :
    Calls Tryd.prog 14 #[.string t, .string cl] w fun e w' => e = .returned (.string (keyB t (keyH cl))) ∧ Below w.heap.size w w' := by
  have hr : Rd (w.alloc (.cells #[.string clusterS, .string cl] 47)) (w.heap.size + 1) 2 (some ⟨w.heap.size, 0, none⟩) (labsC [(clusterS, cl)]) := Rd.new w (labsC_all _) _ rfl
  have HH : Hid (Calls Tryd.prog 30 #[.slice (some ⟨w.heap.size, 0, none⟩) 1 1] (w.alloc (.cells #[.string clusterS, .string cl] 47)) fun e w' => e = .returned (.int .u32 (keyH cl : Nat)) ∧ Below (w.alloc (.cells #[.string clusterS, .string cl] 47)).heap.size (w.alloc (.cells #[.string clusterS, .string cl] 47)) w') := rhash_any [(clusterS, cl)] (some ⟨w.heap.size, 0, none⟩) 1 1 (w.heap.size + 1) _ hr rfl (by simp) (by omega) (encL_one cl hc)
  have hlt := keyH_lt cl
  have hb0 := (Below.refl w.heap.size w).alloc (Nat.le_refl _) (.cells #[.string clusterS, .string cl] 47)
  have HC := Lib.hid (key_cat t (keyH cl))
  have hz0 : w.heap.size ≤ (w.alloc (.cells #[.string clusterS, .string cl] 47)).heap.size := by simp
  generalize keyH cl = H at *
  clear hr
  go_enter Tryd.func14, Tryd.ntmps14
  go_wp2_with (go_at_call 30; refine (HH.out).mono ?_; rintro e w' ⟨rfl, hb⟩)
  have hI : Hid (KeyAt H w true H ByteArray.empty w') := ⟨by simp [digD], hb0.trans (hb.mono hz0)⟩
  clear hb hb0 HH hz0
  go_loopw [5, 6, 7] (fun a b c wr => ∃ (h : Nat) (s : ByteArray) (first : Bool), a = .int .u32 h ∧ b = .string s ∧ c = .bool first ∧ h < 4294967296 ∧ Hid (KeyAt H w first h s wr)) (fun a b c _ => (intOf a).toNat + (match c with | .bool true => 1 | _ => 0))
  case atStart => exact ⟨H, ByteArray.empty, true, rfl, rfl, rfl, hlt, hI⟩
  case round =>
    clear hI
    obtain ⟨h, s, first, rfl, rfl, rfl, hh, HK⟩ := hrel
    have hsz := KeyAt.size hlt HK.out
    by_cases hg : first = true ∨ 0 < h
    · have HD := Lib.hid (digD_step hg)
      have hcv := run_conv_rd (P := Tryd.prog) (w := wr.alloc (.cells #[.int .u8 (48 + (h : Int) % 10)] 5)) (Rd.byteI (m := 48 + h % 10) (by omega) (by omega) rfl) 24 5 9 Tryd.underlying24 Tryd.underlying5 Tryd.underlying9 1 1 rfl (fun _ => .inr ⟨_, _, rfl⟩)
      have hms : (mkS [UInt8.ofNat (48 + h % 10)]).size = 1 := rfl
      cases first
      · have h0 : 0 < h := by simpa using hg
        have hK := HK.out
        have HKN : Hid (∀ o, KeyAt H w false (h / 10) (mkS [UInt8.ofNat (48 + h % 10)] ++ s) (wr.alloc o)) := fun o => ⟨by rw [hK.1, HD.out]; simp [mkS], hK.2.alloc hK.2.size o⟩
        have HLT : Hid (h / 10 < 4294967296 ∧ h / 10 < h) := ⟨by omega, by omega⟩
        clear hK hg
        generalize mkS [UInt8.ofNat (48 + h % 10)] = dg at *
        go_wp2_with fail
        go_roundw
        case rel => exact ⟨h / 10, dg ++ s, false, by go_num, rfl, rfl, HLT.out.1, HKN.out _⟩
        case measure => simp [intOf]; omega
      · have hK := HK.out
        have HKN : Hid (∀ o, KeyAt H w false (h / 10) (mkS [UInt8.ofNat (48 + h % 10)] ++ s) (wr.alloc o)) := fun o => ⟨by rw [hK.1, HD.out]; simp [mkS], hK.2.alloc hK.2.size o⟩
        clear hK hg
        generalize mkS [UInt8.ofNat (48 + h % 10)] = dg at *
        go_wp2_with fail
        go_roundw
        case rel => exact ⟨h / 10, dg ++ s, false, by go_num, rfl, rfl, by omega, HKN.out _⟩
        case measure => simp [intOf]; omega
    · obtain rfl : first = false := by cases first <;> simp_all
      obtain rfl : h = 0 := by omega
      have HT : Hid (mkS (Lib.decDigits H) = s) := by show _ = _; rw [HK.out.1]; simp [digD, mkS]
      have HB := Lib.hid (HK.out.2)
      go_wp2_with fail
      go_ret
      exact ⟨by rw [← HC.out, HT.out]; rfl, HB.out⟩
end Go.Proofs.YtngboplmlkckhaaDoor
