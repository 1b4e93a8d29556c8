/- A character by its bytes; a value. -/
import Derived.Test.YtnlheomfobpcmaaGreatProg
import Derived.Test.YtnlheomfobpcmaaGreatValid
import Derived.Test.YtnlheomfobpcmaaGreatBits
namespace Go.Proofs.YtnlheomfobpcmaaGreat
open Go.RowKit

def conts : Nat → Nat → List UInt8 → Option Nat
  | 0, v, _ => some v
  | _ + 1, _, [] => none
  | k + 1, v, b :: r => if 128 ≤ b.toNat ∧ b.toNat ≤ 191 then conts k (v * 64 + b.toNat % 64) r else none
def runeOk (least v : Nat) : Bool := !(decide (v < least) || decide (1114111 < v) || (decide (55296 ≤ v) && decide (v ≤ 57343)))
def charFin (n least v : Nat) (r : List UInt8) : Nat :=
  if r.length < n - 1 then 0 else match conts (n - 1) v r with
    | none => 0
    | some v => if runeOk least v then n else 0
def charN : List UInt8 → Nat
  | [] => 0
  | c :: r => if c.toNat < 128 then 1 else if c.toNat < 192 then 0 else if c.toNat < 224 then charFin 2 128 (c.toNat % 32) r else if c.toNat < 240 then charFin 3 2048 (c.toNat % 16) r else if c.toNat < 248 then charFin 4 65536 (c.toNat % 8) r else 0

theorem conts_at {s : ByteArray} {i k v : Nat} (h : i < s.size) (hc : 128 ≤ s[i].toNat ∧ s[i].toNat ≤ 191) : conts (k + 1) v (s.data.toList.drop i) = conts k (v * 64 + s[i].toNat % 64) (s.data.toList.drop (i + 1)) := by
  rw [drop_at h]; simp [conts, hc]
theorem conts_no {s : ByteArray} {i k v : Nat} (h : i < s.size) (hc : ¬ (128 ≤ s[i].toNat ∧ s[i].toNat ≤ 191)) : conts (k + 1) v (s.data.toList.drop i) = none := by
  rw [drop_at h]; simp only [conts, if_neg hc]
theorem charFin_long {s : ByteArray} {i n least v : Nat} (h : s.size < i + (n - 1)) (hi : i ≤ s.size) : charFin n least v (s.data.toList.drop i) = 0 := by
  unfold charFin; rw [if_pos]; rw [List.length_drop, ← Lib.size_eq]; omega
theorem charFin_none {s : ByteArray} {i n least v : Nat} (h : conts (n - 1) v (s.data.toList.drop i) = none) : charFin n least v (s.data.toList.drop i) = 0 := by
  unfold charFin; split
  · rfl
  · rw [h]
theorem charFin_some {s : ByteArray} {i n least v v' : Nat} (hl : i + (n - 1) ≤ s.size) (h : conts (n - 1) v (s.data.toList.drop i) = some v') : charFin n least v (s.data.toList.drop i) = if runeOk least v' then n else 0 := by
  unfold charFin; rw [if_neg (by rw [List.length_drop, ← Lib.size_eq]; omega), h]
theorem pow_small {k V : Nat} (hk : k ≤ 2) (h : V < 32 * 64 ^ k) : V < 16777216 := by
  match k, hk with
  | 0, _ => omega
  | 1, _ => omega
  | 2, _ => omega
theorem pow_next {k V x : Nat} (h : V < 32 * 64 ^ k) (hx : x < 64) : V * 64 + x < 32 * 64 ^ (k + 1) := by
  rw [Nat.pow_succ]; omega
theorem pow_last {k V : Nat} (hk : k ≤ 3) (h : V < 32 * 64 ^ k) : V < 16777216 := by
  match k, hk with
  | 0, _ => omega
  | 1, _ => omega
  | 2, _ => omega
  | 3, _ => omega
theorem ok_yes {l v : Nat} (h : runeOk l v = true) : ¬ ((v : Int) < l) ∧ ¬ ((1114111 : Int) < v) ∧ ¬ ((55296 : Int) ≤ v ∧ (v : Int) ≤ 57343) := by
  simp [runeOk] at h; omega
theorem ok_no {l v : Nat} (h : runeOk l v = false) : ¬ (¬ ((v : Int) < l) ∧ ¬ ((1114111 : Int) < v) ∧ ¬ ((55296 : Int) ≤ v ∧ (v : Int) ≤ 57343)) := by
  simp [runeOk] at h; omega

set_option maxRecDepth 100000 in
set_option maxHeartbeats 4000000 in
theorem char2_any (s : ByteArray) (a : Nat) (w : World) (hs : s.size ≤ 65536) (ha : a < s.size) (h1 : (192 : Int) ≤ s[a].toNat) (h2 : (s[a].toNat : Int) < 224) :
    Calls Tryz.prog 75 #[.string s, .int .i64 a] w fun e w' => e = .returned (.int .i64 (charFin 2 128 (s[a].toNat % 32) (s.data.toList.drop (a + 1)))) ∧ w = w' := by
  by_cases hl : a + 2 ≤ s.size
  · go_enter Tryz.func75, Tryz.ntmps75
    have h4 : (a : Int) + 2 ≤ s.size := by omega
    go_wp2
    go_loop [8, 9] (fun v i => ∃ j V : Nat, 1 ≤ j ∧ j ≤ 2 ∧ i = .int .i64 j ∧ v = .int .i32 V ∧ V < 32 * 64 ^ (j - 1) ∧ Hid (conts (2 - 1) (s[a].toNat % 32) (s.data.toList.drop (a + 1)) = conts (2 - j) V (s.data.toList.drop (a + j)))) (fun _ i => 2 - (intOf i).toNat)
    case atStart => exact ⟨1, s[a].toNat % 32, by omega, by omega, rfl, by go_num, by simp; omega, rfl⟩
    case round =>
      obtain ⟨j, V, hj1, hj2, rfl, rfl, hV, HC⟩ := hrel
      by_cases hlt : j < 2
      · obtain ⟨k, hk⟩ : ∃ k, 2 - j = k + 1 := ⟨2 - j - 1, by omega⟩
        have hVs : V < 16777216 := pow_small (k := j - 1) (by omega) hV
        have HV := Lib.hid hV
        clear hV
        have ha2 : a + j < s.size := by omega
        have hst := rune_step V s[a + j] hVs
        by_cases hc : 128 ≤ s[a + j].toNat ∧ s[a + j].toNat ≤ 191
        · have hcc := cont_yes hc
          have HC2 : Hid (conts (2 - 1) (s[a].toNat % 32) (s.data.toList.drop (a + 1)) = conts (2 - (j + 1)) (V * 64 + s[a + j].toNat % 64) (s.data.toList.drop (a + (j + 1)))) := by
            have e := HC.out
            rw [hk, conts_at ha2 hc] at e
            rw [show 2 - (j + 1) = k from by omega]
            exact e
          have HV2 : Hid (V * 64 + s[a + j].toNat % 64 < 32 * 64 ^ (j + 1 - 1)) := by
            have e := pow_next HV.out (Nat.mod_lt s[a + j].toNat (show 0 < 64 by omega))
            rw [show j + 1 - 1 = j - 1 + 1 from by omega]
            exact e
          clear hc hk
          go_wp2
          go_round
          case rel => exact ⟨j + 1, _, by omega, by omega, by go_num, rfl, HV2.out, HC2⟩
          case measure => simp [intOf]; omega
        · have hcc := cont_no hc
          have HC2 : Hid (charFin 2 128 (s[a].toNat % 32) (s.data.toList.drop (a + 1)) = 0) := by
            have e := HC.out
            rw [hk, conts_no ha2 hc] at e
            exact charFin_none e
          clear hc hk
          go_wp2
          go_ret
          exact ⟨ret_int (by rw [HC2.out]; rfl), rfl⟩
      · obtain rfl : j = 2 := by omega
        have HC2 : Hid (charFin 2 128 (s[a].toNat % 32) (s.data.toList.drop (a + 1)) = if runeOk 128 V then 2 else 0) := charFin_some (by omega) (by have e := HC.out; simpa [conts] using e)
        have hVs : V < 16777216 := pow_last (k := 2 - 1) (by omega) hV
        clear hV
        rcases Nat.lt_or_ge V 128 with g | g
        · have g1 : (V : Int) < 128 := by omega
          have HR : Hid (runeOk 128 V = false) := by show _ = _; simp only [runeOk]; simp; omega
          go_wp2
          go_ret
          exact ⟨ret_int (by rw [HC2.out, HR.out]; rfl), rfl⟩
        · have g1 : (128 : Int) ≤ V := by omega
          rcases Nat.lt_or_ge 1114111 V with g2 | g2
          · have g3 : (1114111 : Int) < V := by omega
            have HR : Hid (runeOk 128 V = false) := by show _ = _; simp only [runeOk]; simp; omega
            clear g2
            go_wp2
            go_ret
            exact ⟨ret_int (by rw [HC2.out, HR.out]; rfl), rfl⟩
          · have g3 : (V : Int) ≤ 1114111 := by omega
            rcases Nat.lt_or_ge V 55296 with g4 | g4
            · have g5 : (V : Int) ≤ 55295 := by omega
              first
                | (exfalso; omega)
                | (have HR : Hid (runeOk 128 V = true) := by show _ = _; simp only [runeOk]; simp; omega
                   clear g g2 g4
                   go_wp2
                   go_ret
                   exact ⟨ret_int (by rw [HC2.out, HR.out]; rfl), rfl⟩)
            · have g5 : (55296 : Int) ≤ V := by omega
              rcases Nat.lt_or_ge 57343 V with g6 | g6
              · have g7 : (57343 : Int) < V := by omega
                have HR : Hid (runeOk 128 V = true) := by show _ = _; simp only [runeOk]; simp; omega
                clear g g2 g4 g6
                go_wp2
                go_ret
                exact ⟨ret_int (by rw [HC2.out, HR.out]; rfl), rfl⟩
              · have g7 : (V : Int) ≤ 57343 := by omega
                have HR : Hid (runeOk 128 V = false) := by show _ = _; simp only [runeOk]; simp; omega
                clear g g2 g4 g6
                go_wp2
                go_ret
                exact ⟨ret_int (by rw [HC2.out, HR.out]; rfl), rfl⟩
  · have HC2 : Hid (charFin 2 128 (s[a].toNat % 32) (s.data.toList.drop (a + 1)) = 0) := charFin_long (by omega) (by omega)
    have h4 : (s.size : Int) < (a : Int) + 2 := by omega
    clear hl
    go_enter Tryz.func75, Tryz.ntmps75
    go_wp2
    go_ret
    exact ⟨ret_int (by rw [HC2.out]; rfl), rfl⟩
set_option maxRecDepth 100000 in
set_option maxHeartbeats 4000000 in
theorem char3_any (s : ByteArray) (a : Nat) (w : World) (hs : s.size ≤ 65536) (ha : a < s.size) (h1 : (224 : Int) ≤ s[a].toNat) (h2 : (s[a].toNat : Int) < 240) :
    Calls Tryz.prog 75 #[.string s, .int .i64 a] w fun e w' => e = .returned (.int .i64 (charFin 3 2048 (s[a].toNat % 16) (s.data.toList.drop (a + 1)))) ∧ w = w' := by
  by_cases hl : a + 3 ≤ s.size
  · go_enter Tryz.func75, Tryz.ntmps75
    have h4 : (a : Int) + 3 ≤ s.size := by omega
    go_wp2
    go_loop [8, 9] (fun v i => ∃ j V : Nat, 1 ≤ j ∧ j ≤ 3 ∧ i = .int .i64 j ∧ v = .int .i32 V ∧ V < 32 * 64 ^ (j - 1) ∧ Hid (conts (3 - 1) (s[a].toNat % 16) (s.data.toList.drop (a + 1)) = conts (3 - j) V (s.data.toList.drop (a + j)))) (fun _ i => 3 - (intOf i).toNat)
    case atStart => exact ⟨1, s[a].toNat % 16, by omega, by omega, rfl, by go_num, by simp; omega, rfl⟩
    case round =>
      obtain ⟨j, V, hj1, hj2, rfl, rfl, hV, HC⟩ := hrel
      by_cases hlt : j < 3
      · obtain ⟨k, hk⟩ : ∃ k, 3 - j = k + 1 := ⟨3 - j - 1, by omega⟩
        have hVs : V < 16777216 := pow_small (k := j - 1) (by omega) hV
        have HV := Lib.hid hV
        clear hV
        have ha2 : a + j < s.size := by omega
        have hst := rune_step V s[a + j] hVs
        by_cases hc : 128 ≤ s[a + j].toNat ∧ s[a + j].toNat ≤ 191
        · have hcc := cont_yes hc
          have HC2 : Hid (conts (3 - 1) (s[a].toNat % 16) (s.data.toList.drop (a + 1)) = conts (3 - (j + 1)) (V * 64 + s[a + j].toNat % 64) (s.data.toList.drop (a + (j + 1)))) := by
            have e := HC.out
            rw [hk, conts_at ha2 hc] at e
            rw [show 3 - (j + 1) = k from by omega]
            exact e
          have HV2 : Hid (V * 64 + s[a + j].toNat % 64 < 32 * 64 ^ (j + 1 - 1)) := by
            have e := pow_next HV.out (Nat.mod_lt s[a + j].toNat (show 0 < 64 by omega))
            rw [show j + 1 - 1 = j - 1 + 1 from by omega]
            exact e
          clear hc hk
          go_wp2
          go_round
          case rel => exact ⟨j + 1, _, by omega, by omega, by go_num, rfl, HV2.out, HC2⟩
          case measure => simp [intOf]; omega
        · have hcc := cont_no hc
          have HC2 : Hid (charFin 3 2048 (s[a].toNat % 16) (s.data.toList.drop (a + 1)) = 0) := by
            have e := HC.out
            rw [hk, conts_no ha2 hc] at e
            exact charFin_none e
          clear hc hk
          go_wp2
          go_ret
          exact ⟨ret_int (by rw [HC2.out]; rfl), rfl⟩
      · obtain rfl : j = 3 := by omega
        have HC2 : Hid (charFin 3 2048 (s[a].toNat % 16) (s.data.toList.drop (a + 1)) = if runeOk 2048 V then 3 else 0) := charFin_some (by omega) (by have e := HC.out; simpa [conts] using e)
        have hVs : V < 16777216 := pow_last (k := 3 - 1) (by omega) hV
        clear hV
        rcases Nat.lt_or_ge V 2048 with g | g
        · have g1 : (V : Int) < 2048 := by omega
          have HR : Hid (runeOk 2048 V = false) := by show _ = _; simp only [runeOk]; simp; omega
          go_wp2
          go_ret
          exact ⟨ret_int (by rw [HC2.out, HR.out]; rfl), rfl⟩
        · have g1 : (2048 : Int) ≤ V := by omega
          rcases Nat.lt_or_ge 1114111 V with g2 | g2
          · have g3 : (1114111 : Int) < V := by omega
            have HR : Hid (runeOk 2048 V = false) := by show _ = _; simp only [runeOk]; simp; omega
            clear g2
            go_wp2
            go_ret
            exact ⟨ret_int (by rw [HC2.out, HR.out]; rfl), rfl⟩
          · have g3 : (V : Int) ≤ 1114111 := by omega
            rcases Nat.lt_or_ge V 55296 with g4 | g4
            · have g5 : (V : Int) ≤ 55295 := by omega
              first
                | (exfalso; omega)
                | (have HR : Hid (runeOk 2048 V = true) := by show _ = _; simp only [runeOk]; simp; omega
                   clear g g2 g4
                   go_wp2
                   go_ret
                   exact ⟨ret_int (by rw [HC2.out, HR.out]; rfl), rfl⟩)
            · have g5 : (55296 : Int) ≤ V := by omega
              rcases Nat.lt_or_ge 57343 V with g6 | g6
              · have g7 : (57343 : Int) < V := by omega
                have HR : Hid (runeOk 2048 V = true) := by show _ = _; simp only [runeOk]; simp; omega
                clear g g2 g4 g6
                go_wp2
                go_ret
                exact ⟨ret_int (by rw [HC2.out, HR.out]; rfl), rfl⟩
              · have g7 : (V : Int) ≤ 57343 := by omega
                have HR : Hid (runeOk 2048 V = false) := by show _ = _; simp only [runeOk]; simp; omega
                clear g g2 g4 g6
                go_wp2
                go_ret
                exact ⟨ret_int (by rw [HC2.out, HR.out]; rfl), rfl⟩
  · have HC2 : Hid (charFin 3 2048 (s[a].toNat % 16) (s.data.toList.drop (a + 1)) = 0) := charFin_long (by omega) (by omega)
    have h4 : (s.size : Int) < (a : Int) + 3 := by omega
    clear hl
    go_enter Tryz.func75, Tryz.ntmps75
    go_wp2
    go_ret
    exact ⟨ret_int (by rw [HC2.out]; rfl), rfl⟩
set_option maxRecDepth 100000 in
set_option maxHeartbeats 4000000 in
theorem char4_any (s : ByteArray) (a : Nat) (w : World) (hs : s.size ≤ 65536) (ha : a < s.size) (h1 : (240 : Int) ≤ s[a].toNat) (h2 : (s[a].toNat : Int) < 248) :
    Calls Tryz.prog 75 #[.string s, .int .i64 a] w fun e w' => e = .returned (.int .i64 (charFin 4 65536 (s[a].toNat % 8) (s.data.toList.drop (a + 1)))) ∧ w = w' := by
  by_cases hl : a + 4 ≤ s.size
  · go_enter Tryz.func75, Tryz.ntmps75
    have h4 : (a : Int) + 4 ≤ s.size := by omega
    go_wp2
    go_loop [8, 9] (fun v i => ∃ j V : Nat, 1 ≤ j ∧ j ≤ 4 ∧ i = .int .i64 j ∧ v = .int .i32 V ∧ V < 32 * 64 ^ (j - 1) ∧ Hid (conts (4 - 1) (s[a].toNat % 8) (s.data.toList.drop (a + 1)) = conts (4 - j) V (s.data.toList.drop (a + j)))) (fun _ i => 4 - (intOf i).toNat)
    case atStart => exact ⟨1, s[a].toNat % 8, by omega, by omega, rfl, by go_num, by simp; omega, rfl⟩
    case round =>
      obtain ⟨j, V, hj1, hj2, rfl, rfl, hV, HC⟩ := hrel
      by_cases hlt : j < 4
      · obtain ⟨k, hk⟩ : ∃ k, 4 - j = k + 1 := ⟨4 - j - 1, by omega⟩
        have hVs : V < 16777216 := pow_small (k := j - 1) (by omega) hV
        have HV := Lib.hid hV
        clear hV
        have ha2 : a + j < s.size := by omega
        have hst := rune_step V s[a + j] hVs
        by_cases hc : 128 ≤ s[a + j].toNat ∧ s[a + j].toNat ≤ 191
        · have hcc := cont_yes hc
          have HC2 : Hid (conts (4 - 1) (s[a].toNat % 8) (s.data.toList.drop (a + 1)) = conts (4 - (j + 1)) (V * 64 + s[a + j].toNat % 64) (s.data.toList.drop (a + (j + 1)))) := by
            have e := HC.out
            rw [hk, conts_at ha2 hc] at e
            rw [show 4 - (j + 1) = k from by omega]
            exact e
          have HV2 : Hid (V * 64 + s[a + j].toNat % 64 < 32 * 64 ^ (j + 1 - 1)) := by
            have e := pow_next HV.out (Nat.mod_lt s[a + j].toNat (show 0 < 64 by omega))
            rw [show j + 1 - 1 = j - 1 + 1 from by omega]
            exact e
          clear hc hk
          go_wp2
          go_round
          case rel => exact ⟨j + 1, _, by omega, by omega, by go_num, rfl, HV2.out, HC2⟩
          case measure => simp [intOf]; omega
        · have hcc := cont_no hc
          have HC2 : Hid (charFin 4 65536 (s[a].toNat % 8) (s.data.toList.drop (a + 1)) = 0) := by
            have e := HC.out
            rw [hk, conts_no ha2 hc] at e
            exact charFin_none e
          clear hc hk
          go_wp2
          go_ret
          exact ⟨ret_int (by rw [HC2.out]; rfl), rfl⟩
      · obtain rfl : j = 4 := by omega
        have HC2 : Hid (charFin 4 65536 (s[a].toNat % 8) (s.data.toList.drop (a + 1)) = if runeOk 65536 V then 4 else 0) := charFin_some (by omega) (by have e := HC.out; simpa [conts] using e)
        have hVs : V < 16777216 := pow_last (k := 4 - 1) (by omega) hV
        clear hV
        rcases Nat.lt_or_ge V 65536 with g | g
        · have g1 : (V : Int) < 65536 := by omega
          have HR : Hid (runeOk 65536 V = false) := by show _ = _; simp only [runeOk]; simp; omega
          go_wp2
          go_ret
          exact ⟨ret_int (by rw [HC2.out, HR.out]; rfl), rfl⟩
        · have g1 : (65536 : Int) ≤ V := by omega
          rcases Nat.lt_or_ge 1114111 V with g2 | g2
          · have g3 : (1114111 : Int) < V := by omega
            have HR : Hid (runeOk 65536 V = false) := by show _ = _; simp only [runeOk]; simp; omega
            clear g2
            go_wp2
            go_ret
            exact ⟨ret_int (by rw [HC2.out, HR.out]; rfl), rfl⟩
          · have g3 : (V : Int) ≤ 1114111 := by omega
            rcases Nat.lt_or_ge V 55296 with g4 | g4
            · have g5 : (V : Int) ≤ 55295 := by omega
              first
                | (exfalso; omega)
                | (have HR : Hid (runeOk 65536 V = true) := by show _ = _; simp only [runeOk]; simp; omega
                   clear g g2 g4
                   go_wp2
                   go_ret
                   exact ⟨ret_int (by rw [HC2.out, HR.out]; rfl), rfl⟩)
            · have g5 : (55296 : Int) ≤ V := by omega
              rcases Nat.lt_or_ge 57343 V with g6 | g6
              · have g7 : (57343 : Int) < V := by omega
                have HR : Hid (runeOk 65536 V = true) := by show _ = _; simp only [runeOk]; simp; omega
                clear g g2 g4 g6
                go_wp2
                go_ret
                exact ⟨ret_int (by rw [HC2.out, HR.out]; rfl), rfl⟩
              · have g7 : (V : Int) ≤ 57343 := by omega
                have HR : Hid (runeOk 65536 V = false) := by show _ = _; simp only [runeOk]; simp; omega
                clear g g2 g4 g6
                go_wp2
                go_ret
                exact ⟨ret_int (by rw [HC2.out, HR.out]; rfl), rfl⟩
  · have HC2 : Hid (charFin 4 65536 (s[a].toNat % 8) (s.data.toList.drop (a + 1)) = 0) := charFin_long (by omega) (by omega)
    have h4 : (s.size : Int) < (a : Int) + 4 := by omega
    clear hl
    go_enter Tryz.func75, Tryz.ntmps75
    go_wp2
    go_ret
    exact ⟨ret_int (by rw [HC2.out]; rfl), rfl⟩

set_option maxRecDepth 100000 in
set_option maxHeartbeats 1000000 in
theorem char_any (s : ByteArray) (a : Nat) (w : World) (hs : s.size ≤ 65536) (ha : a < s.size) :
    Calls Tryz.prog 75 #[.string s, .int .i64 a] w fun e w' => e = .returned (.int .i64 (charN (s.data.toList.drop a))) ∧ w = w' := by
  have hd := Lib.hid (drop_at ha)
  have hu := u8_le s[a]
  by_cases h1 : s[a].toNat < 128
  · have HC : Hid (charN (s.data.toList.drop a) = 1) := by show _ = _; rw [hd.out]; simp only [charN, if_pos h1]
    have g1 : (s[a].toNat : Int) < 128 := by omega
    clear h1
    go_enter Tryz.func75, Tryz.ntmps75
    go_wp2
    go_ret
    exact ⟨ret_int (by rw [HC.out]; rfl), rfl⟩
  · by_cases h2 : s[a].toNat < 192
    · have HC : Hid (charN (s.data.toList.drop a) = 0) := by show _ = _; rw [hd.out]; simp only [charN, if_neg h1, if_pos h2]
      have g1 : (128 : Int) ≤ (s[a].toNat : Int) := by omega
      have g2 : (s[a].toNat : Int) < 192 := by omega
      clear h1 h2
      go_enter Tryz.func75, Tryz.ntmps75
      go_wp2
      go_ret
      exact ⟨ret_int (by rw [HC.out]; rfl), rfl⟩
    · by_cases h3 : s[a].toNat < 224
      · have HC : charN (s.data.toList.drop a) = charFin 2 128 (s[a].toNat % 32) (s.data.toList.drop (a + 1)) := by rw [hd.out]; simp only [charN, if_neg h1, if_neg h2, if_pos h3]
        rw [HC]
        exact char2_any s a w hs ha (by omega) (by omega)
      · by_cases h4 : s[a].toNat < 240
        · have HC : charN (s.data.toList.drop a) = charFin 3 2048 (s[a].toNat % 16) (s.data.toList.drop (a + 1)) := by rw [hd.out]; simp only [charN, if_neg h1, if_neg h2, if_neg h3, if_pos h4]
          rw [HC]
          exact char3_any s a w hs ha (by omega) (by omega)
        · by_cases h5 : s[a].toNat < 248
          · have HC : charN (s.data.toList.drop a) = charFin 4 65536 (s[a].toNat % 8) (s.data.toList.drop (a + 1)) := by rw [hd.out]; simp only [charN, if_neg h1, if_neg h2, if_neg h3, if_neg h4, if_pos h5]
            rw [HC]
            exact char4_any s a w hs ha (by omega) (by omega)
          · have HC : Hid (charN (s.data.toList.drop a) = 0) := by show _ = _; rw [hd.out]; simp only [charN, if_neg h1, if_neg h2, if_neg h3, if_neg h4, if_neg h5]
            have g1 : (248 : Int) ≤ (s[a].toNat : Int) := by omega
            clear h1 h2 h3 h4 h5
            go_enter Tryz.func75, Tryz.ntmps75
            go_wp2
            go_ret
            exact ⟨ret_int (by rw [HC.out]; rfl), rfl⟩
end Go.Proofs.YtnlheomfobpcmaaGreat
