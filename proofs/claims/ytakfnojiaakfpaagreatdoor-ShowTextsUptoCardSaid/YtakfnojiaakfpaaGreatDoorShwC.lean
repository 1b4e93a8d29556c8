/- How a tree is written: names in brackets. -/
import Derived.Test.YtakfnojiaakfpaaGreatDoorShowD
import Derived.Test.YtakfnojiaakfpaaGreatDoorTypSrc
import Derived.RegionTactic
import Derived.Shelf.Strings.Builder1
import Derived.Shelf.Strings.Builder2
import Derived.Shelf.Strings.OnBuilder
import Derived.Shelf.Small.Strs
import Derived.Shelf.Strings.BuilderF
import Derived.Shelf.Strings.BuilderK
import Derived.Shelf.Utf8.RuneCount
import Derived.Shelf.Strings.Builder2Cap
import Derived.Shelf.Strconv.Itoa0
import Derived.Shelf.Strconv.Itoa1
import Derived.Shelf.LaysM
import Derived.Shelf.Strconv.Itoa2
import Derived.Shelf.Strconv.Itoa3
import Derived.Shelf.Strconv.Itoa4
import Derived.Shelf.Strings.Search1
import Derived.Shelf.Strings.Search2
import Derived.Shelf.Strings.Search3
import Derived.Shelf.Strings.Count
import Derived.Shelf.Strings.Shaped
import Derived.Shelf.Strings.Prefix
import Derived.Shelf.Strings.Split
import Derived.Shelf.Strings.RuneCount
import Derived.Shelf.Strings.BuilderCap
import Derived.Test.YtakfnojiaakfpaaGreatDoorProg
import Derived.Lib.AppendIntMem
import Derived.Lib.Walk
import Derived.WalkKit
import Derived.BigCall
import Derived.BigGuard
import Derived.Lib.Join
namespace Go.Proofs.YtakfnojiaakfpaaGreatDoor
section
open Go.RowKit
def sdV (s : Sd) : Value := .agg #[.string s.text, .int .i64 s.row, .int .i64 s.deep]
set_option maxHeartbeats 400000 in
theorem srow_any (v : Int) (w : World) : Calls Tryz.prog 86 #[.int .i64 v] w fun e w' => e = .returned (.int .i64 (rowN v)) ∧ w = w' := by
  have H1 := fun W => Lib.hid (tsetB_any v W)
  have H2 := fun W => Lib.hid (tcmpB_any v W)
  go_enter Tryz.func86, Tryz.ntmps86
  go_wp2_with (first | (go_at_call 106; refine ((H1 _).out).mono ?_; rintro e w' ⟨rfl, rfl⟩) | (go_at_call 102; refine ((H2 _).out).mono ?_; rintro e w' ⟨rfl, rfl⟩))
  all_goals
    go_ret
    refine ⟨?_, rfl⟩
    simp only [rowN]
    simp_all
set_option maxHeartbeats 400000 in
theorem sinside_any (s : Sd) (wd : ByteArray) (w : World) (h1 : s.text.size ≤ 1000000) (h2 : wd.size ≤ 1099511627776) (h3 : 0 ≤ s.deep) (h4 : s.deep ≤ 1000) :
    Calls Tryz.prog 48 #[sdV s, .string wd] w fun e w' => e = .returned (sdV (s.inside wd)) ∧ Below w.heap.size w w' := by
  unfold sdV
  go_enter Tryz.func48, Tryz.ntmps48
  go_wp2_with fail
  exact bodyPost_ret (v := sdV (s.inside wd)) (by simp [results, Tryz.results48, go_sem]; rfl) rfl ⟨rfl, ((Below.refl _ _).alloc (Nat.le_refl _) _).alloc (by simp) _⟩
set_option maxHeartbeats 400000 in
theorem swithin_any (s : Sd) (k : Int) (w : World) (h1 : s.text.size ≤ 1000000) (h3 : 0 ≤ s.deep) (h4 : s.deep ≤ 1000) :
    Calls Tryz.prog 55 #[sdV s, .int .i64 k] w fun e w' => e = .returned (sdV (s.within k)) ∧ Below w.heap.size w w' := by
  have H1 := fun W => Lib.hid (sinside_any s ByteArray.empty W h1 (by decide) h3 h4)
  unfold sdV at H1 ⊢
  by_cases hk : k ≤ s.row
  · go_enter Tryz.func55, Tryz.ntmps55
    go_wp2_with fail
    exact bodyPost_ret (v := sdV s) (by simp [results, Tryz.results55, go_sem]; rfl) rfl ⟨by rw [Sd.within, if_pos hk]; rfl, ((Below.refl _ _).alloc (Nat.le_refl _) _).alloc (by simp) _⟩
  · go_enter Tryz.func55, Tryz.ntmps55
    go_wp2_with fail
    refine ((H1 _).out).mono ?_
    rintro e w' ⟨rfl, hb⟩
    have bR : Blk w' (w.heap.size + 1) 53 [.string ⟨#[]⟩, .int .i64 0, .int .i64 0] := by
      have := (Blk.new (w.alloc (.cells #[.string s.text, .int .i64 s.row, .int .i64 s.deep] 53)) 53 [.string ⟨#[]⟩, .int .i64 0, .int .i64 0]).below hb (by simp)
      simpa using this
    have hB : Below w.heap.size w w' := (((Below.refl _ _).alloc (Nat.le_refl _) _).alloc (by simp) _).trans (hb.mono (by simp; omega))
    clear hb
    have c0 := bR.cell (j := 0) rfl
    have c1 := bR.cell (j := 1) rfl
    have c2 := bR.cell (j := 2) rfl
    have f0 := bR.frozen
    go_wp2_with fail
    have bS := ((bR.set 0 (.string (s.inside ByteArray.empty).text)).set 1 (.int .i64 (s.inside ByteArray.empty).row)).set 2 (.int .i64 (s.inside ByteArray.empty).deep)
    have d0 := bS.cell (j := 0) rfl
    have d1 := bS.cell (j := 1) rfl
    have d2 := bS.cell (j := 2) rfl
    exact bodyPost_ret (v := sdV (s.inside ByteArray.empty)) (by simp [results, Tryz.results55, go_sem, d0, d1, d2]; rfl) rfl ⟨by rw [Sd.within, if_neg (by omega)]; rfl, ((hB.setCell (Nat.le_succ _) _).setCell (Nat.le_succ _) _).setCell (Nat.le_succ _) _⟩
theorem decT_eq {v : Int} (h : 0 ≤ v) : decT v = mkB (Lib.itoa v) := by
  rw [decT, Lib.itoa, if_neg (by omega)]
end
section
open Go.Shelf
def Tryz.lays156_ren : Go.Shelf.Ren := ⟨fun | 156 => 81 | 165 => 114 | 166 => 115 | 169 => 116 | 240 => 130 | 241 => 131 | 276 => 139 | 277 => 140 | n => n, fun | 31 => 39 | 9 => 9 | 3 => 3 | 4 => 4 | 0 => 0 | 20 => 20 | 72 => 120 | 76 => 124 | 70 => 118 | 37 => 91 | 75 => 123 | 127 => 138 | 164 => 157 | 5 => 5 | 80 => 126 | n => n, fun | n => n⟩
theorem Tryz.lays156 : Go.Proofs.Lays.n156 Tryz.prog Tryz.lays156_ren := {
  mixed := by kernel_rfl
  f156 := Tryz.func81.trans (congrArg some (by kernel_rfl))
  f165 := Tryz.func114.trans (congrArg some (by kernel_rfl))
  f166 := Tryz.func115.trans (congrArg some (by kernel_rfl))
  f169 := Tryz.func116.trans (congrArg some (by kernel_rfl))
  f240 := Tryz.func130.trans (congrArg some (by kernel_rfl))
  f241 := Tryz.func131.trans (congrArg some (by kernel_rfl))
  f276 := Tryz.func139.trans (congrArg some (by kernel_rfl))
  f277 := Tryz.func140.trans (congrArg some (by kernel_rfl))
  t0 := Tryz.underlying0
  a0 := Tryz.isAgg0
  z0 := Tryz.sizeOf0
  v0 := Tryz.zeroValue0
  t3 := Tryz.underlying3
  a3 := Tryz.isAgg3
  z3 := Tryz.sizeOf3
  v3 := Tryz.zeroValue3
  t4 := Tryz.underlying4
  a4 := Tryz.isAgg4
  z4 := Tryz.sizeOf4
  v4 := Tryz.zeroValue4
  t9 := Tryz.underlying9
  a9 := Tryz.isAgg9
  z9 := Tryz.sizeOf9
  v9 := Tryz.zeroValue9
  t20 := Tryz.underlying20
  a20 := Tryz.isAgg20
  z20 := Tryz.sizeOf20
  v20 := Tryz.zeroValue20
  t31 := Tryz.underlying39
  a31 := Tryz.isAgg39
  z31 := Tryz.sizeOf39
  v31 := Tryz.zeroValue39
  t37 := Tryz.underlying91
  a37 := Tryz.isAgg91
  z37 := Tryz.sizeOf91
  v37 := Tryz.zeroValue91
  t70 := Tryz.underlying118
  a70 := Tryz.isAgg118
  z70 := Tryz.sizeOf118
  v70 := Tryz.zeroValue118
  t72 := Tryz.underlying120
  a72 := Tryz.isAgg120
  z72 := Tryz.sizeOf120
  v72 := Tryz.zeroValue120
  t75 := Tryz.underlying123
  a75 := Tryz.isAgg123
  z75 := Tryz.sizeOf123
  v75 := Tryz.zeroValue123
  t76 := Tryz.underlying124
  a76 := Tryz.isAgg124
  z76 := Tryz.sizeOf124
  v76 := Tryz.zeroValue124
  t127 := Tryz.underlying138
  a127 := Tryz.isAgg138
  z127 := Tryz.sizeOf138
  v127 := Tryz.zeroValue138
  t164 := Tryz.underlying157
  a164 := Tryz.isAgg157
  z164 := Tryz.sizeOf157
  v164 := Tryz.zeroValue157 }
theorem Tryz.Builder_Extra_156 : Builder.Extra Tryz.prog Tryz.lays156_ren := {
  sizeBuilder := by kernel_rfl
  liesBuilder := by kernel_rfl
  t5 := Tryz.underlying5
  a5 := Tryz.isAgg5
  z5 := Tryz.sizeOf5
  v5 := Tryz.zeroValue5
  infoByte := by kernel_rfl
  cellsByte := by kernel_rfl
  sizeByte := by kernel_rfl
  neB5 := by decide }
open Go.RowKit in
/-- No element: the empty string; the world is as it was. (Whatever the slice's address and capacity: a nil slice too.) (LAID: no walk: one application.) -/
theorem Tryz.strings_Join_none (a : Option Addr) (c : Nat) (sep : ByteArray) (w : World) :
    Calls Tryz.prog 81 #[.slice a 0 c, .string sep] w fun e w' => e = .returned (.string ⟨#[]⟩) ∧ w' = w := Any.strings_Join_none Tryz.lays156 Tryz.Builder_Extra_156 a c sep w
open Go.RowKit in
/-- strings.Join: "Join concatenates the elements of its first argument to create a single string. The separator string sep is placed between elements in the resulting string.": HOWEVER MANY ELEMENTS. Below the heap's end the world is as it was. (LAID: no walk: one application.) -/
theorem Tryz.strings_Join (bk o c : Nat) (xs : List ByteArray) (sep : ByteArray) (w : World) (hcells : ∀ (j : Nat) x, xs[j]? = some x → w.cell? ⟨bk, o + j, none⟩ = some (.string x)) (hbk : bk < w.heap.size) (hN : xs.length ≤ 140737488355328) (hcap : xs.length ≤ c) (hlen : (Lib.join (xs.map (·.data.toList)) sep.data.toList).length ≤ 140737488355328) :
    Calls Tryz.prog 81 #[.slice (some ⟨bk, o, none⟩) xs.length c, .string sep] w fun e w' => e = .returned (.string ⟨(Lib.join (xs.map (·.data.toList)) sep.data.toList).toArray⟩) ∧ Below w.heap.size w w' := Any.strings_Join Tryz.lays156 Tryz.Builder_Extra_156 bk o c xs sep w hcells hbk hN hcap hlen
def Tryz.laysM173_ren : Go.Shelf.Ren := ⟨fun | 173 => 117 | 246 => 132 | 283 => 141 | 284 => 142 | 285 => 143 | 286 => 144 | 129 => 150 | 317 => 149 | 318 => 151 | 319 => 152 | 320 => 153 | 337 => 162 | 338 => 163 | n => n, fun | 2 => 2 | 3 => 3 | 9 => 9 | 4 => 4 | 171 => 160 | 0 => 0 | 53 => 161 | 37 => 91 | 5 => 5 | 173 => 164 | 212 => 169 | 51 => 143 | 20 => 20 | 213 => 170 | 46 => 171 | 232 => 203 | 233 => 204 | n => n, fun | 17 => 1 | 18 => 2 | 19 => 3 | n => n⟩
theorem Tryz.laysM173 : Go.Proofs.LaysM.n173 Tryz.prog Tryz.laysM173_ren := {
  mixed := by kernel_rfl
  f129 := Tryz.func150.trans (congrArg some (by kernel_rfl))
  f173 := Tryz.func117.trans (congrArg some (by kernel_rfl))
  f246 := Tryz.func132.trans (congrArg some (by kernel_rfl))
  f283 := Tryz.func141.trans (congrArg some (by kernel_rfl))
  f284 := Tryz.func142.trans (congrArg some (by kernel_rfl))
  f285 := Tryz.func143.trans (congrArg some (by kernel_rfl))
  f286 := Tryz.func144.trans (congrArg some (by kernel_rfl))
  f317 := Tryz.func149.trans (congrArg some (by kernel_rfl))
  f318 := Tryz.func151.trans (congrArg some (by kernel_rfl))
  f319 := Tryz.func152.trans (congrArg some (by kernel_rfl))
  f320 := Tryz.func153.trans (congrArg some (by kernel_rfl))
  f337 := Tryz.func162.trans (congrArg some (by kernel_rfl))
  f338 := Tryz.func163.trans (congrArg some (by kernel_rfl))
  t0 := Tryz.underlying0
  a0 := Tryz.isAgg0
  z0 := Tryz.sizeOf0
  v0 := Tryz.zeroValue0
  t2 := Tryz.underlying2
  a2 := Tryz.isAgg2
  z2 := Tryz.sizeOf2
  v2 := Tryz.zeroValue2
  t3 := Tryz.underlying3
  a3 := Tryz.isAgg3
  z3 := Tryz.sizeOf3
  v3 := Tryz.zeroValue3
  t4 := Tryz.underlying4
  a4 := Tryz.isAgg4
  z4 := Tryz.sizeOf4
  v4 := Tryz.zeroValue4
  t5 := Tryz.underlying5
  a5 := Tryz.isAgg5
  z5 := Tryz.sizeOf5
  v5 := Tryz.zeroValue5
  t9 := Tryz.underlying9
  a9 := Tryz.isAgg9
  z9 := Tryz.sizeOf9
  v9 := Tryz.zeroValue9
  t20 := Tryz.underlying20
  a20 := Tryz.isAgg20
  z20 := Tryz.sizeOf20
  v20 := Tryz.zeroValue20
  t37 := Tryz.underlying91
  a37 := Tryz.isAgg91
  z37 := Tryz.sizeOf91
  v37 := Tryz.zeroValue91
  t46 := Tryz.underlying171
  a46 := Tryz.isAgg171
  z46 := Tryz.sizeOf171
  v46 := Tryz.zeroValue171
  t51 := Tryz.underlying143
  a51 := Tryz.isAgg143
  z51 := Tryz.sizeOf143
  v51 := Tryz.zeroValue143
  t53 := Tryz.underlying161
  a53 := Tryz.isAgg161
  z53 := Tryz.sizeOf161
  v53 := Tryz.zeroValue161
  t171 := Tryz.underlying160
  a171 := Tryz.isAgg160
  z171 := Tryz.sizeOf160
  v171 := Tryz.zeroValue160
  t173 := Tryz.underlying164
  a173 := Tryz.isAgg164
  z173 := Tryz.sizeOf164
  v173 := Tryz.zeroValue164
  t212 := Tryz.underlying169
  a212 := Tryz.isAgg169
  z212 := Tryz.sizeOf169
  v212 := Tryz.zeroValue169
  t213 := Tryz.underlying170
  a213 := Tryz.isAgg170
  z213 := Tryz.sizeOf170
  t232 := Tryz.underlying203
  a232 := Tryz.isAgg203
  z232 := Tryz.sizeOf203
  v232 := Tryz.zeroValue203
  t233 := Tryz.underlying204
  a233 := Tryz.isAgg204
  z233 := Tryz.sizeOf204
  v233 := Tryz.zeroValue204
  g17 := by kernel_rfl
  g18 := by kernel_rfl
  g19 := by kernel_rfl
  i0 := by kernel_rfl
  i2 := by kernel_rfl
  i3 := by kernel_rfl
  i4 := by kernel_rfl
  i5 := by kernel_rfl
  i9 := by kernel_rfl
  i20 := by kernel_rfl
  i37 := by kernel_rfl
  i46 := by kernel_rfl
  i51 := by kernel_rfl
  i53 := by kernel_rfl
  i171 := by kernel_rfl
  i173 := by kernel_rfl
  i212 := by kernel_rfl
  i232 := by kernel_rfl
  i233 := by kernel_rfl
  m17 := by kernel_rfl
  m18 := by kernel_rfl
  m19 := by kernel_rfl }
open Go.RowKit Go.Sort Go.Lib in
/-- strconv.FormatInt: "FormatInt returns the string representation of i in the given base": AT BASE 10: i's decimal numeral, for every int64. (LAID: no walk: one application.) -/
theorem Tryz.strconv_FormatInt_10 (n : Int) (h0 : -9223372036854775808 ≤ n) (h1 : n ≤ 9223372036854775807) (w : World) (htab : Lib.TabIs Tryz.prog w "internal/strconv.uint64pow10" .u64 Lib.pow10Tab) :
    Calls Tryz.prog 117 #[.int .i64 n, .int .i64 10] w fun e w' => e = .returned (.string ⟨(Lib.itoa n).toArray⟩) ∧ ∃ k os, w' = grow (w.drewN k) os := Any.strconv_FormatInt_10 Tryz.laysM173 n h0 h1 w htab
def Tryz.lays138_ren : Go.Shelf.Ren := ⟨fun | 138 => 221 | 195 => 222 | 218 => 223 | 143 => 224 | 219 => 225 | 217 => 118 | 225 => 226 | 224 => 227 | 267 => 228 | 266 => 133 | 314 => 229 | n => n, fun | 9 => 9 | 3 => 3 | 4 => 4 | 5 => 5 | 0 => 0 | 46 => 171 | 146 => 246 | 51 => 143 | n => n, fun | 1 => 0 | n => n⟩
theorem Tryz.lays138 : Go.Proofs.Lays.n138 Tryz.prog Tryz.lays138_ren := {
  mixed := by kernel_rfl
  f138 := Tryz.func221.trans (congrArg some (by kernel_rfl))
  f143 := Tryz.func224.trans (congrArg some (by kernel_rfl))
  f195 := Tryz.func222.trans (congrArg some (by kernel_rfl))
  f217 := Tryz.func118.trans (congrArg some (by kernel_rfl))
  f218 := Tryz.func223.trans (congrArg some (by kernel_rfl))
  f219 := Tryz.func225.trans (congrArg some (by kernel_rfl))
  f224 := Tryz.func227.trans (congrArg some (by kernel_rfl))
  f225 := Tryz.func226.trans (congrArg some (by kernel_rfl))
  f266 := Tryz.func133.trans (congrArg some (by kernel_rfl))
  f267 := Tryz.func228.trans (congrArg some (by kernel_rfl))
  f314 := Tryz.func229.trans (congrArg some (by kernel_rfl))
  t0 := Tryz.underlying0
  a0 := Tryz.isAgg0
  z0 := Tryz.sizeOf0
  v0 := Tryz.zeroValue0
  t3 := Tryz.underlying3
  a3 := Tryz.isAgg3
  z3 := Tryz.sizeOf3
  v3 := Tryz.zeroValue3
  t4 := Tryz.underlying4
  a4 := Tryz.isAgg4
  z4 := Tryz.sizeOf4
  v4 := Tryz.zeroValue4
  t5 := Tryz.underlying5
  a5 := Tryz.isAgg5
  z5 := Tryz.sizeOf5
  v5 := Tryz.zeroValue5
  t9 := Tryz.underlying9
  a9 := Tryz.isAgg9
  z9 := Tryz.sizeOf9
  v9 := Tryz.zeroValue9
  t46 := Tryz.underlying171
  a46 := Tryz.isAgg171
  z46 := Tryz.sizeOf171
  v46 := Tryz.zeroValue171
  t51 := Tryz.underlying143
  a51 := Tryz.isAgg143
  z51 := Tryz.sizeOf143
  v51 := Tryz.zeroValue143
  t146 := Tryz.underlying246
  a146 := Tryz.isAgg246
  z146 := Tryz.sizeOf246
  v146 := Tryz.zeroValue246
  g1 := by kernel_rfl }
open Go.RowKit Go.Lib in
/-- strings.Count AT A substr OF ONE BYTE ('hp'): "Count counts the number of non-overlapping instances of substr in s.": IT RETURNS 'Lib.countByte s (that byte)'; the world is as it was. ✋ NO CONTRACT HERE YET at an empty substr (utf8.RuneCountInString) or at a longer one (a loop over strings.Index). (LAID: no walk: one application.) -/
theorem Tryz.strings_Count_one (s : ByteArray) (c : UInt8) (w : World) :
    Calls Tryz.prog 221 #[.string s, .string ⟨#[c]⟩] w fun e w' => e = .returned (.int .i64 (Lib.countByte s.data.toList c)) ∧ w' = w := Any.strings_Count_one Tryz.lays138 s c w
end
section
open Go.RowKit
def Tab10 (w : World) : Prop := Lib.TabIs Tryz.prog w "internal/strconv.uint64pow10" .u64 Lib.pow10Tab
theorem fmt_any (v : Int) (w : World) (h0 : 0 ≤ v) (h1 : v < 9223372036854775808) (htab : Tab10 w) :
    Calls Tryz.prog 117 #[.int .i64 v, .int .i64 10] w fun e w' => e = .returned (.string (decT v)) ∧ Below w.heap.size w w' := by
  refine (Tryz.strconv_FormatInt_10 v (by omega) (by omega) w htab).mono ?_
  rintro e w' ⟨rfl, k, os, rfl⟩
  exact ⟨by rw [decT_eq h0]; rfl, Lib.below_grow w.heap.size w (Nat.le_refl _) k os⟩
theorem Tab10.keep {w w' : World} (h : Tab10 w) (hk : ∀ b, b < w.heap.size → w'.heap[b]? = w.heap[b]?) : Tab10 w' := by
  unfold Tab10 Lib.TabIs World.var? at h ⊢
  cases hg : Tryz.prog.globalNamed "internal/strconv.uint64pow10" with
  | none => rw [hg] at h; simp at h
  | some g =>
    rw [hg] at h
    simp only [Option.bind_some] at h ⊢
    have hlt : g < w.heap.size := by
      rcases Nat.lt_or_ge g w.heap.size with h' | h'
      · exact h'
      · rw [Array.getElem?_eq_none h'] at h; cases h
    rw [hk _ hlt]
    exact h
theorem Tab10.below {w w' : World} (h : Tab10 w) (hb : Below w.heap.size w w') : Tab10 w' := h.keep fun b hlt => hb.block b hlt
theorem decT_size {v : Int} (h : v < 9223372036854775808) : (decT v).size ≤ 20 := by
  have h1 := dd_len 19 v.toNat (by omega)
  have h2 : (decT v).size = (Lib.decDigits v.toNat).length := by rw [Lib.size_eq, decT, mkB_toList]
  omega
/-- The units gone through. -/
def SpanSt (v : Int) (k : Nat) : Prop := (1 ≤ k → ¬ v % 86400 = 0) ∧ (2 ≤ k → ¬ v % 3600 = 0) ∧ (3 ≤ k → ¬ v % 60 = 0)
def unitCells : List Value := [.string ⟨#[100]⟩, .int .i64 86400, .string ⟨#[104]⟩, .int .i64 3600, .string ⟨#[109]⟩, .int .i64 60]
set_option maxHeartbeats 1000000 in
theorem sspan_any (v : Int) (w : World) (h0 : 0 ≤ v) (h1 : v < 9223372036854775808) (htab : Tab10 w) :
    Calls Tryz.prog 82 #[.int .i64 v] w fun e w' => e = .returned (.string (spanT v)) ∧ Below w.heap.size w w' := by
  have HT := Lib.hid htab
  clear htab
  go_enter Tryz.func82, Tryz.ntmps82
  go_wp2_with fail
  generalize hW : World.alloc _ _ = W0
  have hB0 : Below w.heap.size w W0 := by rw [← hW]; exact (Below.refl _ _).alloc (Nat.le_refl _) _
  obtain ⟨t, hX⟩ : ∃ t, Blk W0 w.heap.size t unitCells := by rw [← hW]; exact ⟨_, Blk.new _ _ _⟩
  clear hW
  go_loopw [10] (fun i wr => ∃ k : Nat, k ≤ 3 ∧ i = .int .i64 k ∧ Hid (SpanSt v k) ∧ Hid (Blk wr w.heap.size t unitCells) ∧ Hid (Below w.heap.size w wr)) (fun i _ => 3 - (intOf i).toNat)
  case atStart => exact ⟨0, by omega, rfl, ⟨fun h => by omega, fun h => by omega, fun h => by omega⟩, hX, hB0⟩
  case round =>
    obtain ⟨k, hk, rfl, HS, HX, HB⟩ := hrel
    clear hX hB0
    have hbs := HB.out.size
    by_cases hlt : k < 3
    · rcases (by omega : k = 0 ∨ k = 1 ∨ k = 2) with rfl | rfl | rfl
      · have p0 := HX.out.cell (j := 0) rfl
        have p1 := HX.out.cell (j := 1) rfl
        by_cases hd : v % 86400 = 0
        · have hT : Hid (spanT v = decT (v / 86400) ++ (⟨#[100]⟩ : ByteArray)) := by
            have hs := HS.out
            unfold SpanSt at hs
            show _ = _
            unfold spanT
            rw [if_pos hd]
            rfl
          have hb : ((v % 86400 == 0) : Bool) = true := by simp [hd]
          go_wp2_with fail
          generalize hW : World.alloc _ _ = W1
          have hB1 : Below w.heap.size w W1 := by rw [← hW]; exact HB.out.alloc hbs _
          have hX1 : Blk W1 wr.heap.size 127 [.string ⟨#[100]⟩, .int .i64 86400] := by rw [← hW]; exact Blk.new _ _ _
          clear hW HB HX p0 p1
          have hsz := decT_size (v := v / 86400) (by omega)
          have H := fun z : Later W1 => Lib.hid (fmt_any (v / 86400) (later W1 z) (by omega) (by omega) ((HT.out.below hB1).below (later_below z)))
          have L0 := fun z : Later W1 => later_cell hX1 (j := 0) rfl z
          have L1 := fun z : Later W1 => later_cell hX1 (j := 1) rfl z
          refine wp_region_later (by kernel_rfl) (by kernel_rfl) ?_
          repeat (any_goals (first | go_big_quiet_step ((first | (go_at_call 117; with_reducible exact later_call (H _).out))) | quiet_step ((first | (go_at_call 117; with_reducible exact later_call (H _).out))) | (refine wpQuiet_step (fun K hK => ?_); go_simp; split <;> (refine hK _ ?_; clear hK K))))
          all_goals (refine wpQuiet_nil ?_; intro _ hw'; obtain ⟨z, rfl⟩ := hw')
          all_goals
            go_wp2_with fail
            go_ret
            exact ⟨ret_string hT.out.symm, hB1.trans ((later_below z).mono hB1.size)⟩
        · have hb : ((v % 86400 == 0) : Bool) = false := by simp [hd]
          have hs2 : Hid (SpanSt v (0 + 1)) := by
            have hs := HS.out
            unfold SpanSt at hs
            refine ⟨fun h => ?_, fun h => ?_, fun h => ?_⟩ <;> first | exact hd | exact hs.1 (by omega) | exact hs.2.1 (by omega) | (exfalso; omega)
          go_wp2_with fail
          go_roundw
          case rel => exact ⟨0 + 1, by omega, by go_num, hs2, HX.out.alloc _, HB.out.alloc hbs _⟩
          case measure => simp [intOf]
      · have p0 := HX.out.cell (j := 2) rfl
        have p1 := HX.out.cell (j := 3) rfl
        by_cases hd : v % 3600 = 0
        · have hT : Hid (spanT v = decT (v / 3600) ++ (⟨#[104]⟩ : ByteArray)) := by
            have hs := HS.out
            unfold SpanSt at hs
            show _ = _
            unfold spanT
            rw [if_neg (hs.1 (by decide)), if_pos hd]
            rfl
          have hb : ((v % 3600 == 0) : Bool) = true := by simp [hd]
          go_wp2_with fail
          generalize hW : World.alloc _ _ = W1
          have hB1 : Below w.heap.size w W1 := by rw [← hW]; exact HB.out.alloc hbs _
          have hX1 : Blk W1 wr.heap.size 127 [.string ⟨#[104]⟩, .int .i64 3600] := by rw [← hW]; exact Blk.new _ _ _
          clear hW HB HX p0 p1
          have hsz := decT_size (v := v / 3600) (by omega)
          have H := fun z : Later W1 => Lib.hid (fmt_any (v / 3600) (later W1 z) (by omega) (by omega) ((HT.out.below hB1).below (later_below z)))
          have L0 := fun z : Later W1 => later_cell hX1 (j := 0) rfl z
          have L1 := fun z : Later W1 => later_cell hX1 (j := 1) rfl z
          refine wp_region_later (by kernel_rfl) (by kernel_rfl) ?_
          repeat (any_goals (first | go_big_quiet_step ((first | (go_at_call 117; with_reducible exact later_call (H _).out))) | quiet_step ((first | (go_at_call 117; with_reducible exact later_call (H _).out))) | (refine wpQuiet_step (fun K hK => ?_); go_simp; split <;> (refine hK _ ?_; clear hK K))))
          all_goals (refine wpQuiet_nil ?_; intro _ hw'; obtain ⟨z, rfl⟩ := hw')
          all_goals
            go_wp2_with fail
            go_ret
            exact ⟨ret_string hT.out.symm, hB1.trans ((later_below z).mono hB1.size)⟩
        · have hb : ((v % 3600 == 0) : Bool) = false := by simp [hd]
          have hs2 : Hid (SpanSt v (1 + 1)) := by
            have hs := HS.out
            unfold SpanSt at hs
            refine ⟨fun h => ?_, fun h => ?_, fun h => ?_⟩ <;> first | exact hd | exact hs.1 (by omega) | exact hs.2.1 (by omega) | (exfalso; omega)
          go_wp2_with fail
          go_roundw
          case rel => exact ⟨1 + 1, by omega, by go_num, hs2, HX.out.alloc _, HB.out.alloc hbs _⟩
          case measure => simp [intOf]
      · have p0 := HX.out.cell (j := 4) rfl
        have p1 := HX.out.cell (j := 5) rfl
        by_cases hd : v % 60 = 0
        · have hT : Hid (spanT v = decT (v / 60) ++ (⟨#[109]⟩ : ByteArray)) := by
            have hs := HS.out
            unfold SpanSt at hs
            show _ = _
            unfold spanT
            rw [if_neg (hs.1 (by decide)), if_neg (hs.2.1 (by decide)), if_pos hd]
            rfl
          have hb : ((v % 60 == 0) : Bool) = true := by simp [hd]
          go_wp2_with fail
          generalize hW : World.alloc _ _ = W1
          have hB1 : Below w.heap.size w W1 := by rw [← hW]; exact HB.out.alloc hbs _
          have hX1 : Blk W1 wr.heap.size 127 [.string ⟨#[109]⟩, .int .i64 60] := by rw [← hW]; exact Blk.new _ _ _
          clear hW HB HX p0 p1
          have hsz := decT_size (v := v / 60) (by omega)
          have H := fun z : Later W1 => Lib.hid (fmt_any (v / 60) (later W1 z) (by omega) (by omega) ((HT.out.below hB1).below (later_below z)))
          have L0 := fun z : Later W1 => later_cell hX1 (j := 0) rfl z
          have L1 := fun z : Later W1 => later_cell hX1 (j := 1) rfl z
          refine wp_region_later (by kernel_rfl) (by kernel_rfl) ?_
          repeat (any_goals (first | go_big_quiet_step ((first | (go_at_call 117; with_reducible exact later_call (H _).out))) | quiet_step ((first | (go_at_call 117; with_reducible exact later_call (H _).out))) | (refine wpQuiet_step (fun K hK => ?_); go_simp; split <;> (refine hK _ ?_; clear hK K))))
          all_goals (refine wpQuiet_nil ?_; intro _ hw'; obtain ⟨z, rfl⟩ := hw')
          all_goals
            go_wp2_with fail
            go_ret
            exact ⟨ret_string hT.out.symm, hB1.trans ((later_below z).mono hB1.size)⟩
        · have hb : ((v % 60 == 0) : Bool) = false := by simp [hd]
          have hs2 : Hid (SpanSt v (2 + 1)) := by
            have hs := HS.out
            unfold SpanSt at hs
            refine ⟨fun h => ?_, fun h => ?_, fun h => ?_⟩ <;> first | exact hd | exact hs.1 (by omega) | exact hs.2.1 (by omega) | (exfalso; omega)
          go_wp2_with fail
          go_roundw
          case rel => exact ⟨2 + 1, by omega, by go_num, hs2, HX.out.alloc _, HB.out.alloc hbs _⟩
          case measure => simp [intOf]
    · obtain rfl : k = 3 := by omega
      have hT : Hid (spanT v = decT v ++ (⟨#[115]⟩ : ByteArray)) := by
        have hs := HS.out
        unfold SpanSt at hs
        show _ = _
        unfold spanT
        rw [if_neg (hs.1 (by decide)), if_neg (hs.2.1 (by decide)), if_neg (hs.2.2 (by decide))]
        rfl
      have hsz := decT_size h1
      have H := Lib.hid (fmt_any v wr h0 h1 (HT.out.below HB.out))
      go_wp2_with (go_at_call 117; refine (H.out).mono ?_; rintro e w' ⟨rfl, hb⟩)
      go_ret
      exact ⟨ret_string hT.out.symm, HB.out.trans (hb.mono hbs)⟩
end
section
open Go.RowKit
theorem joinT_lib : ∀ l : List ByteArray, (joinT l).data.toList = Lib.join (l.map (·.data.toList)) [44, 32]
  | [] => rfl
  | [x] => (Lib.join_one _ _).symm
  | x :: y :: r => by
    have ih := joinT_lib (y :: r)
    show (x ++ sCommaB ++ joinT (y :: r)).data.toList = _
    rw [app_data, app_data, ih]
    simp only [List.map_cons, Lib.join_cons, Lib.joinTail, List.flatten_cons]
    show x.data.toList ++ [44, 32] ++ _ = _
    simp
theorem join_any (l : List ByteArray) (A : Option Addr) (n c B : Nat) (w : World) (hr : Rd w B 1 A (textsC l)) (hn : l.length = n) (hc : n ≤ c) (hN : n ≤ 140737488355328) (hB : B ≤ w.heap.size) (hz : (joinT l).size ≤ 140737488355328) :
    Calls Tryz.prog 81 #[.slice A n c, .string ⟨#[44, 32]⟩] w fun e w' => e = .returned (.string (joinT l)) ∧ Below w.heap.size w w' := by
  have e2 : joinT l = ⟨(Lib.join (l.map (·.data.toList)) [44, 32]).toArray⟩ := by rw [← joinT_lib]
  cases l with
  | nil =>
    simp at hn
    subst hn
    refine (Tryz.strings_Join_none A c ⟨#[44, 32]⟩ w).mono ?_
    rintro e w' ⟨rfl, rfl⟩
    exact ⟨rfl, Below.refl _ _⟩
  | cons x r =>
    obtain ⟨b, o, rfl, hb, hcell⟩ := hr.2 (by simp [textsC])
    subst hn
    rw [Lib.size_eq, joinT_lib] at hz
    refine (Tryz.strings_Join b o c (x :: r) ⟨#[44, 32]⟩ w (fun j y hy => ?_) (by omega) hN hc hz).mono ?_
    · have := hcell j [.string y] 0 (.string y) (textsC_at hy) rfl
      simpa using this
    · rintro e w' ⟨rfl, hb⟩
      exact ⟨by rw [e2], hb⟩
set_option maxHeartbeats 400000 in
theorem snames_any (l : List ByteArray) (A : Option Addr) (n c B : Nat) (w : World) (hr : Rd w B 1 A (textsC l)) (hn : l.length = n) (hc : n ≤ c) (hN : n ≤ 140737488355328) (hB : B ≤ w.heap.size) (hz : (joinT l).size ≤ 1099511627776) :
    Calls Tryz.prog 85 #[.slice A n c] w fun e w' => e = .returned (.string (namesT l)) ∧ Below w.heap.size w w' := by
  have H := Lib.hid (join_any l A n c B w hr hn hc hN hB (by omega))
  go_enter Tryz.func85, Tryz.ntmps85
  go_wp2_with (go_at_call 81; refine (H.out).mono ?_; rintro e w' ⟨rfl, hb⟩)
  go_ret
  exact ⟨rfl, hb⟩
end
end Go.Proofs.YtakfnojiaakfpaaGreatDoor
