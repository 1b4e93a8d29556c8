/- The replacer that strings.NewReplacer's texts make: (*Replacer).build. -/
import Derived.Test.YtnlheomfobpcmaaGreatRepN
import Derived.Deep.WholeRow
import Derived.Laws.Cover3
import Derived.Deep.DeepCutAuto
import Derived.Laws.IdiomStrings
namespace Go.Proofs.YtnlheomfobpcmaaGreat
open Go.RowKit

/-- A row of nil slices. -/
def nilRow (n : Nat) : List Value := List.replicate n (Value.slice none 0 0)
theorem nilRow_len (n : Nat) : (nilRow n).length = n := by simp [nilRow]
theorem nilRow_at {n j : Nat} (h : j < n) : (nilRow n)[j]? = some (.slice none 0 0) := by simp [nilRow, h]
theorem set_one {l : List Value} {j : Nat} {v : Value} (hl : ∀ u ∈ l, u.oneCell' = true) (hv : v.oneCell' = true) : ∀ u ∈ l.set j v, u.oneCell' = true := by
  intro u hu
  rcases List.mem_or_eq_of_mem_set hu with h | h
  · exact hl u h
  · subst h; exact hv
theorem nilRow_one (n : Nat) : ∀ u ∈ nilRow n, u.oneCell' = true := by
  intro u hu
  rw [nilRow, List.mem_replicate] at hu
  rw [hu.2]; rfl
theorem zero126 : Tryz.zeroCells126 = (nilRow 257).toArray := by kernel_rfl
theorem store126 (w : World) (v : Value) (hv : v.oneCell' = true) :
    (storeCells ⟨w.heap.size, 0, none⟩ (Tryz.zeroCells126.toList.set 256 v)).run Tryz.prog (w.alloc (.cells Tryz.zeroCells126 126)) = .ok () (w.alloc (.cells ((nilRow 257).set 256 v).toArray 126)) := by
  rw [zero126]
  have hs : ((nilRow 257).set 256 v).toArray.size = 257 := by rw [List.size_toArray, List.length_set, nilRow_len]
  refine run_storeCells_new (P := Tryz.prog) w 126 (nilRow 257).toArray ((nilRow 257).set 256 v).toArray (by rw [hs]; kernel_rfl) (by rw [hs, List.size_toArray, nilRow_len]) ?_
  rw [Array.all_eq_true]
  intro i hi
  exact set_one (nilRow_one _) hv _ (by rw [List.getElem_toArray]; exact List.getElem_mem _)
theorem run_eql_nil {P : Program} {t e : TypeId} (h : P.underlying t = some (.slice e)) (W : World) : (binOp .eql t (.slice none 0 0) (.slice none 0 0)).run P W = .ok (.bool true) W := by
  have := run_equal_slice_nil (P := P) W t e none 0 0 h
  simp [binOp, this]
/-- The bytes l lie at the head of block g. -/
def BytesIn (w : World) (g : Nat) (l : List UInt8) : Prop := ∃ cs fr, w.heap[g]? = some (.cells cs 5 fr) ∧ ∀ (j : Nat) u, l[j]? = some u → cs[j]? = some (.int .u8 (u.toNat : Int))
theorem BytesIn.keep {w w' : World} {g : Nat} {l : List UInt8} (h : BytesIn w g l) (hk : w'.heap[g]? = w.heap[g]?) : BytesIn w' g l := by
  obtain ⟨cs, fr, h1, h2⟩ := h
  exact ⟨cs, fr, hk.trans h1, h2⟩
theorem BytesIn.lt {w : World} {g : Nat} {l : List UInt8} (h : BytesIn w g l) : g < w.heap.size := by
  obtain ⟨cs, fr, h1, h2⟩ := h
  exact (Array.getElem?_eq_some_iff.1 h1).1
theorem BytesIn.rd {w : World} {g : Nat} {l : List UInt8} (h : BytesIn w g l) : Rd w w.heap.size 1 (some ⟨g, 0, none⟩) (bytesC l) := by
  obtain ⟨cs, fr, h1, h2⟩ := h
  refine ⟨by intro x hx; obtain ⟨c, _, rfl⟩ := List.mem_map.1 hx; rfl, fun hn => ⟨g, 0, rfl, (Array.getElem?_eq_some_iff.1 h1).1, ?_⟩⟩
  intro k x j v hx hv
  simp only [bytesC, List.getElem?_map, Option.map_eq_some_iff] at hx
  obtain ⟨u, hu, rfl⟩ := hx
  match j, hv with
  | 0, hv =>
    simp at hv
    subst hv
    rw [World.cell?, h1]
    simpa using h2 k u hu
theorem own_ne_bytes {w : World} {base sz n c g : Nat} {e : TypeId} {A : Option Addr} {xs : List (List Value)} {l : List UInt8} (h : Own w base e sz A n c xs) (hb : BytesIn w g l) (hne : e ≠ 5) : some g ≠ A.map Addr.block := by
  obtain ⟨cs, fr, h1, h2⟩ := hb
  rcases h.2.2.2.2 with ⟨hv, h0⟩ | ⟨g', cap, cur, hv, hbg, hg, _⟩
  · injection hv with e1; subst e1; simp
  · injection hv with e1
    subst e1
    intro e
    simp at e
    subst e
    rw [h1] at hg
    injection hg with hg
    injection hg with _ ht
    exact hne ht.symm
theorem blk_ne_bytes {w : World} {Q g : Nat} {e : TypeId} {cs : List Value} {l : List UInt8} (h : Blk w Q e cs) (hb : BytesIn w g l) (hne : e ≠ 5) : g ≠ Q := by
  rintro rfl
  obtain ⟨cs, fr, h1, h2⟩ := hb
  rw [h] at h1
  injection h1 with h1
  injection h1 with _ ht
  exact hne ht
theorem bytes_of (w : World) (s : ByteArray) : ∃ c w', (convert 9 26 (.string s)).run Tryz.prog w = .ok (.slice (some ⟨w.heap.size, 0, none⟩) s.data.toList.length c) w' ∧ s.data.toList.length ≤ c ∧ BytesIn w' w.heap.size s.data.toList ∧ Below w.heap.size w w' := by
  have hrun := run_bytes_of_string (P := Tryz.prog) w 9 26 5 s Tryz.underlying9 Tryz.underlying26 Tryz.underlying5
  have hsz : s.size = s.data.toList.length := Lib.size_eq s
  rw [hsz] at hrun
  refine ⟨_, _, hrun, grownCap_ge w _ 0 _, ⟨_, _, heap_alloc_new w.drew _, ?_⟩, ⟨rfl, rfl, rfl, by simp, fun k hk => Below.heap_alloc w.drew _ k hk⟩⟩
  intro j u hu
  obtain ⟨hj, rfl⟩ := List.getElem?_eq_some_iff.1 hu
  have := bytesRow_at s (grownCap w s.data.toList.length 0 5) j (by simpa using hj)
  simpa using this
theorem rd_new2 (w : World) (o : Obj) (x : ByteArray) : Rd ((w.alloc o).alloc (.cells #[.string x] 9)) (w.heap.size + 2) 1 (some ⟨w.heap.size + 1, 0, none⟩) (namesC [x]) := by
  have := Rd.new (xs := namesC [x]) (sz := 1) (e := 9) (w.alloc o) (by simp [namesC]) #[.string x] rfl
  rw [show (w.alloc o).heap.size = w.heap.size + 1 from by simp] at this
  exact this
/-- What becomes of a byte, of the first k of the three that are told: last pair first. -/
def escK (k j : Nat) : Option (List UInt8) :=
  if j = 10 ∧ 0 < k then some [92, 110] else if j = 34 ∧ 1 < k then some [92, 34] else if j = 92 ∧ 2 < k then some [92, 92] else none
def EscV (w : World) (es : Nat → Option (List UInt8)) (row : List Value) : Prop :=
  ∀ j, j < 256 → (es j = none ∧ row[j]? = some (.slice none 0 0)) ∨ ∃ l g c, es j = some l ∧ row[j]? = some (.slice (some ⟨g, 0, none⟩) l.length c) ∧ l.length ≤ c ∧ BytesIn w g l
theorem EscV.keep {w w' : World} {es : Nat → Option (List UInt8)} {row : List Value} (h : EscV w es row) (hk : ∀ g l, BytesIn w g l → w'.heap[g]? = w.heap[g]?) : EscV w' es row := by
  intro j hj
  rcases h j hj with h | ⟨l, g, c, h1, h2, h3, h4⟩
  · exact .inl h
  · exact .inr ⟨l, g, c, h1, h2, h3, h4.keep (hk g l h4)⟩
theorem EscV.set {w : World} {es es' : Nat → Option (List UInt8)} {row : List Value} (h : EscV w es row) {x : Nat} {l : List UInt8} {g c : Nat} (hx : x < 256) (hr : row.length = 257) (hb : BytesIn w g l) (hc : l.length ≤ c) (he : ∀ j, es' j = if j = x then some l else es j) :
    EscV w es' (row.set x (.slice (some ⟨g, 0, none⟩) l.length c)) := by
  intro j hj
  rw [he j]
  by_cases hjx : j = x
  · subst hjx
    rw [if_pos rfl]
    exact .inr ⟨l, g, c, rfl, by rw [List.getElem?_set_self (by omega)], hc, hb⟩
  · rw [if_neg hjx, List.getElem?_set_ne (fun e => hjx e.symm)]
    exact h j hj
theorem EscV.set256 {w : World} {es : Nat → Option (List UInt8)} {row : List Value} (h : EscV w es row) (v : Value) : EscV w es (row.set 256 v) := by
  intro j hj
  rw [List.getElem?_set_ne (by omega)]
  exact h j hj
def repS : List ByteArray := [⟨#[10]⟩, ⟨#[34]⟩, ⟨#[92]⟩]
/-- The replacer, in new memory, its first k bytes told. -/
def BsAt (w : World) (Q k : Nat) (w' : World) : Prop :=
  ∃ row A c, w.heap.size ≤ Q ∧ Blk w' Q 126 row ∧ row.length = 257 ∧ row[256]? = some (.slice A k c) ∧ Own w' w.heap.size 9 1 A k c (namesC (repS.take k)) ∧ EscV w' (escK k) row ∧ Below w.heap.size w w'
set_option maxRecDepth 100000 in
set_option maxHeartbeats 2000000 in
theorem build_any (R b o c : Nat) (d s : Int) (r : Value) (B : Nat) (w : World) (hw : Rp w R d s r (.slice (some ⟨b, o, none⟩) 6 c)) (hr : Rd w B 1 (some ⟨b, o, none⟩) (namesC pairsS)) (hB : B ≤ w.heap.size) :
    Calls Tryz.prog 83 #[.pointer (some ⟨R, 0, none⟩)] w fun e w' => ∃ Q, e = .returned (.iface 127 (.pointer (some ⟨Q, 0, none⟩))) ∧ BsAt w Q 3 w' := by
  have c4 := Blk.cell hw (j := 4) rfl
  have hk : ∀ (k : Nat) (x : ByteArray), pairsS[k]? = some x → w.cell? ⟨b, o + k, none⟩ = some (.string x) := by
    intro k x hx
    obtain ⟨b', o', e, _, h⟩ := hr.at1 (k := k) (v0 := .string x) (by simp [namesC, hx])
    injection e with e
    injection e with e1 e2
    subst e1 e2
    exact h
  have k0 := hk 0 _ rfl
  have k1 := hk 1 _ rfl
  have k2 := hk 2 _ rfl
  have k3 := hk 3 _ rfl
  have k4 := hk 4 _ rfl
  have k5 := hk 5 _ rfl
  rw [Nat.add_zero] at k0
  have hmk : ∀ W, (Instr.makeSlice 35 (.int .i64 0) (.int .i64 3)).run Tryz.prog W = .ok (.slice (some ⟨W.heap.size, 0, none⟩) 0 3) (W.alloc (.cells #[.string ByteArray.empty, .string ByteArray.empty, .string ByteArray.empty] 9)) := fun W => run_make1 (P := Tryz.prog) (z := .string ByteArray.empty) (bytes := 16) Tryz.underlying35 (by kernel_rfl) rfl 0 3 (by omega) (by omega) (by simp only [maxLen]; omega) W
  have hst := store126 (w.alloc (.cells #[.string ByteArray.empty, .string ByteArray.empty, .string ByteArray.empty] 9)) (.slice (some ⟨w.heap.size, 0, none⟩) 0 3) rfl
  rw [show (w.alloc (.cells #[.string ByteArray.empty, .string ByteArray.empty, .string ByteArray.empty] 9)).heap.size = w.heap.size + 1 from by simp] at hst
  have hbs : b < w.heap.size := by
    obtain ⟨b', o', e, hb', _⟩ := hr.at1 (k := 0) (v0 := .string ⟨#[92]⟩) rfl
    injection e with e
    injection e with e1 e2
    subst e1 e2
    omega
  have hnil : ∀ W, (binOp .eql 26 (.slice none 0 0) (.slice none 0 0)).run Tryz.prog W = .ok (.bool true) W := fun W => run_eql_nil Tryz.underlying26 W
  have hconv : ∀ (W : World) (x : Nat), x < 256 → (convert 26 9 (.slice (some ⟨W.heap.size, 0, none⟩) 1 1)).run Tryz.prog (W.alloc (.cells #[.int .u8 (x : Int)] 5)) = .ok (.string ⟨#[UInt8.ofNat x]⟩) (W.alloc (.cells #[.int .u8 (x : Int)] 5)) := by
    intro W x hx
    refine run_convert_bytes_back (P := Tryz.prog) (W.alloc (.cells #[.int .u8 (x : Int)] 5)) 26 9 5 ⟨W.heap.size, 0, none⟩ 1 [UInt8.ofNat x] Tryz.underlying26 Tryz.underlying5 Tryz.underlying9 ?_
    intro j hj
    obtain rfl : j = 0 := by simpa using hj
    have h2 : (UInt8.ofNat x).toNat = x := by rw [UInt8.toNat_ofNat']; omega
    simp [Addr.add, h2]
  clear hk hr
  go_enter Tryz.func83, Tryz.ntmps83
  go_wp2_with fail
  go_loop [5, 4] (fun i v => (i = .int .i64 0 ∧ v = .bool true) ∨ (i = .int .i64 2 ∧ v = .bool false) ∨ (i = .int .i64 4 ∧ v = .bool false) ∨ (i = .int .i64 6 ∧ v = .bool false)) (fun i _ => 6 - (intOf i).toNat)
  case atStart => exact .inl ⟨rfl, rfl⟩
  case round =>
    rcases hrel with ⟨rfl, rfl⟩ | ⟨rfl, rfl⟩ | ⟨rfl, rfl⟩ | ⟨rfl, rfl⟩
    · go_wp2_with fail
      go_round
      case rel => exact .inr (.inl ⟨rfl, rfl⟩)
      case measure => decide
    · go_wp2_with fail
      go_round
      case rel => exact .inr (.inr (.inl ⟨rfl, rfl⟩))
      case measure => decide
    · go_wp2_with fail
      go_round
      case rel => exact .inr (.inr (.inr ⟨rfl, rfl⟩))
      case measure => decide
    · go_wp2_with fail
      have hzs : (w.alloc (.cells #[.string ByteArray.empty, .string ByteArray.empty, .string ByteArray.empty] 9)).heap.size = w.heap.size + 1 := by simp
      have hB0 : BsAt w (w.heap.size + 1) 0 ((w.alloc (.cells #[.string ByteArray.empty, .string ByteArray.empty, .string ByteArray.empty] 9)).alloc (.cells ((nilRow 257).set 256 (.slice (some ⟨w.heap.size, 0, none⟩) 0 3)).toArray 126)) := by
        refine ⟨(nilRow 257).set 256 (.slice (some ⟨w.heap.size, 0, none⟩) 0 3), some ⟨w.heap.size, 0, none⟩, 3, by omega, ?_, by rw [List.length_set, nilRow_len], by rw [List.getElem?_set_self (by rw [nilRow_len]; omega)], ?_, ?_, ?_⟩
        · rw [← hzs]; exact Blk.new _ _ _
        · refine Own.alloc ⟨by omega, by simp [namesC], rfl, ?_, .inr ⟨w.heap.size, 3, _, rfl, Nat.le_refl _, heap_alloc_new w _, by simp [namesC], by simp only [maxLen]; omega, rfl, rfl⟩⟩ _
          simp [namesC]
        · intro j hj
          exact .inl ⟨by simp [escK], by rw [List.getElem?_set_ne (by omega), nilRow_at (by omega)]⟩
        · exact ((Below.refl _ _).alloc (Nat.le_refl _) _).alloc (by simp) _
      generalize hQ : w.heap.size + 1 = Q at *
      generalize hw0 : (w.alloc (.cells #[.string ByteArray.empty, .string ByteArray.empty, .string ByteArray.empty] 9)).alloc (.cells ((nilRow 257).set 256 (.slice (some ⟨w.heap.size, 0, none⟩) 0 3)).toArray 126) = w0 at *
      have hwle : w.heap.size ≤ Q := by omega
      clear hw0 hst hQ hzs
      go_loopw [12] (fun i wr => ∃ k : Nat, ((k = 0 ∧ i = .int .i64 4) ∨ (k = 1 ∧ i = .int .i64 2) ∨ (k = 2 ∧ i = .int .i64 0) ∨ (k = 3 ∧ i = .int .i64 (-2))) ∧ BsAt w Q k wr) (fun i _ => (intOf i + 2).toNat)
      case atStart => exact ⟨0, .inl ⟨rfl, rfl⟩, hB0⟩
      case round =>
        obtain ⟨k, hk, row, T, ct, hQw, hQb, hlen, h256, ho, hes, hbw⟩ := hrel
        rcases hk with ⟨rfl, rfl⟩ | ⟨rfl, rfl⟩ | ⟨rfl, rfl⟩ | ⟨rfl, rfl⟩
        · have cS := (hbw.cell (p := ⟨b, o + 4, none⟩) hbs).trans k4
          have cR := (hbw.cell (p := ⟨b, o + 5, none⟩) hbs).trans k5
          have c256 := Blk.cell hQb h256
          have cX : wr.cell? ⟨Q, 10, none⟩ = some (.slice none 0 0) := by
            rcases hes 10 (by omega) with ⟨_, h⟩ | ⟨l, g, c', h1, _⟩
            · exact Blk.cell hQb h
            · simp [escK] at h1
          have hx : ((⟨#[10]⟩ : ByteArray)[0]).toNat = 10 := rfl
          have hcv : (convert 26 9 (.slice (some ⟨wr.heap.size, 0, none⟩) 1 1)).run Tryz.prog (wr.alloc (.cells #[.int .u8 10] 5)) = .ok (.string ⟨#[10]⟩) (wr.alloc (.cells #[.int .u8 10] 5)) := hconv wr 10 (by omega)
          have HO := Lib.hid ho
          clear ho
          have HBw := Lib.hid hbw
          have HQ := Lib.hid hQb
          have HE := Lib.hid hes
          have HL := Lib.hid hlen
          clear hbw hQb hes hlen
          go_upto_region 34 with (at_builtin; go_must (refine wpList_append_ex _ rfl (.tmp 119) (.tmp 123) _ rfl eiStrs rfl ((HO.out.alloc _).alloc _) rfl (rd_new2 wr _ ⟨#[10]⟩) rfl (namesC_one _) (by simp only [maxLen]; omega) (by omega) (by have := HBw.out.size; simp; omega) ?_; intro T2 c2 w2 ho2 hg2 hat2 hb2; have hne := own_ne_blk ((HO.out.alloc (.cells #[.int .u8 10] 5)).alloc (.cells #[.string ⟨#[10]⟩] 9)) ((HQ.out.alloc (.cells #[.int .u8 10] 5)).alloc (.cells #[.string ⟨#[10]⟩] 9)) (by decide); have hQ2 := ((HQ.out.alloc (.cells #[.int .u8 10] 5)).alloc (.cells #[.string ⟨#[10]⟩] 9)).grown hg2 hne; have z1 := Blk.cell hQ2 h256; have z2 := Blk.frozen hQ2 256))
          have hE2 : EscV w2 (escK 0) row := HE.out.keep fun g l hb => by
            have h1 := hg2.block g (by have := hb.lt; simp; omega) (own_ne_bytes HO.out hb (by decide))
            rw [h1, Below.heap_alloc _ _ _ (by have := hb.lt; simp; omega), Below.heap_alloc _ _ _ hb.lt]
          have hne3 := own_ne_blk ho2 hQ2 (by decide)
          have hQ3 := Blk.set hQ2 256 (.slice T2 1 c2)
          have ho3 := ho2.setOther hne3 256 (.slice T2 1 c2)
          have hE3 : EscV (w2.setCell ⟨Q, 256, none⟩ (.slice T2 1 c2)) (escK 0) (row.set 256 (.slice T2 1 c2)) := (hE2.keep fun g l hb => Below.heap_setCell w2 ⟨Q, 256, none⟩ _ g (blk_ne_bytes hQ2 hb (by decide))).set256 _
          have hb3 : Below w.heap.size w (w2.setCell ⟨Q, 256, none⟩ (.slice T2 1 c2)) := (HBw.out.trans ((((Below.refl _ wr).alloc HBw.out.size _).alloc (by have := HBw.out.size; simp; omega) _).trans hb2)).setCell (p := ⟨Q, 256, none⟩) hwle _
          have hl3 : (row.set 256 (.slice T2 1 c2)).length = 257 := by rw [List.length_set]; exact HL.out
          have h256' : (row.set 256 (.slice T2 1 c2))[256]? = some (.slice T2 1 c2) := List.getElem?_set_self (by rw [HL.out]; omega)
          have hx3 : (row.set 256 (.slice T2 1 c2))[10]? = some (.slice none 0 0) := by
            rcases hE3 10 (by omega) with ⟨_, h⟩ | ⟨l, g, c', h1, _⟩
            · exact h
            · simp [escK] at h1
          generalize w2.setCell ⟨Q, 256, none⟩ (.slice T2 1 c2) = w3 at *
          generalize row.set 256 (.slice T2 1 c2) = row3 at *
          obtain ⟨cb, w4, hrun0, hcl, hin, hb4⟩ := bytes_of w3 ⟨#[92, 110]⟩
          have hrun : (convert 9 26 (.string ⟨#[92, 110]⟩)).run Tryz.prog w3 = .ok (.slice (some ⟨w3.heap.size, 0, none⟩) 2 cb) w4 := hrun0
          have hQ4 := hQ3.below hb4 hQ3.lt
          have z3 := Blk.cell hQ4 hx3
          have z4 := Blk.frozen hQ4 10
          have H4 : Hid (BsAt w Q 1 (w4.setCell ⟨Q, 10, none⟩ (.slice (some ⟨w3.heap.size, 0, none⟩) 2 cb))) := by
            have ho4 := ho3.belowAll hb4
            refine ⟨row3.set 10 (.slice (some ⟨w3.heap.size, 0, none⟩) 2 cb), T2, c2, hQw, Blk.set hQ4 _ _, by rw [List.length_set]; exact hl3, by rw [List.getElem?_set_ne (by omega)]; exact h256', ho4.setOther (own_ne_blk ho4 hQ4 (by decide)) _ _, ?_, (hb3.trans (hb4.mono hb3.size)).setCell (p := ⟨Q, 10, none⟩) hwle _⟩
            refine (EscV.set (es := escK 0) (l := [92, 110]) (g := w3.heap.size) (hE3.keep fun g l hb => hb4.block g hb.lt) (by omega) hl3 hin hcl ?_).keep fun g l hb => Below.heap_setCell w4 ⟨Q, 10, none⟩ _ g (blk_ne_bytes hQ4 hb (by decide))
            intro j
            by_cases h : j = 10
            · subst h; rfl
            · simp [escK, h]
          clear hE2 hne3 hQ3 ho3 hE3 hb3 hrun0 hin hb4 hQ4 ho2 hg2 hat2 hb2 hQ2
          go_wp2_with fail
          go_roundw
          case rel => exact ⟨1, .inr (.inl ⟨rfl, rfl⟩), H4.out⟩
          case measure => decide
        · have cS := (hbw.cell (p := ⟨b, o + 2, none⟩) hbs).trans k2
          have cR := (hbw.cell (p := ⟨b, o + 3, none⟩) hbs).trans k3
          have c256 := Blk.cell hQb h256
          have cX : wr.cell? ⟨Q, 34, none⟩ = some (.slice none 0 0) := by
            rcases hes 34 (by omega) with ⟨_, h⟩ | ⟨l, g, c', h1, _⟩
            · exact Blk.cell hQb h
            · simp [escK] at h1
          have hx : ((⟨#[34]⟩ : ByteArray)[0]).toNat = 34 := rfl
          have hcv : (convert 26 9 (.slice (some ⟨wr.heap.size, 0, none⟩) 1 1)).run Tryz.prog (wr.alloc (.cells #[.int .u8 34] 5)) = .ok (.string ⟨#[34]⟩) (wr.alloc (.cells #[.int .u8 34] 5)) := hconv wr 34 (by omega)
          have HO := Lib.hid ho
          clear ho
          have HBw := Lib.hid hbw
          have HQ := Lib.hid hQb
          have HE := Lib.hid hes
          have HL := Lib.hid hlen
          clear hbw hQb hes hlen
          go_upto_region 34 with (at_builtin; go_must (refine wpList_append_ex _ rfl (.tmp 119) (.tmp 123) _ rfl eiStrs rfl ((HO.out.alloc _).alloc _) rfl (rd_new2 wr _ ⟨#[34]⟩) rfl (namesC_one _) (by simp only [maxLen]; omega) (by omega) (by have := HBw.out.size; simp; omega) ?_; intro T2 c2 w2 ho2 hg2 hat2 hb2; have hne := own_ne_blk ((HO.out.alloc (.cells #[.int .u8 34] 5)).alloc (.cells #[.string ⟨#[34]⟩] 9)) ((HQ.out.alloc (.cells #[.int .u8 34] 5)).alloc (.cells #[.string ⟨#[34]⟩] 9)) (by decide); have hQ2 := ((HQ.out.alloc (.cells #[.int .u8 34] 5)).alloc (.cells #[.string ⟨#[34]⟩] 9)).grown hg2 hne; have z1 := Blk.cell hQ2 h256; have z2 := Blk.frozen hQ2 256))
          have hE2 : EscV w2 (escK 1) row := HE.out.keep fun g l hb => by
            have h1 := hg2.block g (by have := hb.lt; simp; omega) (own_ne_bytes HO.out hb (by decide))
            rw [h1, Below.heap_alloc _ _ _ (by have := hb.lt; simp; omega), Below.heap_alloc _ _ _ hb.lt]
          have hne3 := own_ne_blk ho2 hQ2 (by decide)
          have hQ3 := Blk.set hQ2 256 (.slice T2 2 c2)
          have ho3 := ho2.setOther hne3 256 (.slice T2 2 c2)
          have hE3 : EscV (w2.setCell ⟨Q, 256, none⟩ (.slice T2 2 c2)) (escK 1) (row.set 256 (.slice T2 2 c2)) := (hE2.keep fun g l hb => Below.heap_setCell w2 ⟨Q, 256, none⟩ _ g (blk_ne_bytes hQ2 hb (by decide))).set256 _
          have hb3 : Below w.heap.size w (w2.setCell ⟨Q, 256, none⟩ (.slice T2 2 c2)) := (HBw.out.trans ((((Below.refl _ wr).alloc HBw.out.size _).alloc (by have := HBw.out.size; simp; omega) _).trans hb2)).setCell (p := ⟨Q, 256, none⟩) hwle _
          have hl3 : (row.set 256 (.slice T2 2 c2)).length = 257 := by rw [List.length_set]; exact HL.out
          have h256' : (row.set 256 (.slice T2 2 c2))[256]? = some (.slice T2 2 c2) := List.getElem?_set_self (by rw [HL.out]; omega)
          have hx3 : (row.set 256 (.slice T2 2 c2))[34]? = some (.slice none 0 0) := by
            rcases hE3 34 (by omega) with ⟨_, h⟩ | ⟨l, g, c', h1, _⟩
            · exact h
            · simp [escK] at h1
          generalize w2.setCell ⟨Q, 256, none⟩ (.slice T2 2 c2) = w3 at *
          generalize row.set 256 (.slice T2 2 c2) = row3 at *
          obtain ⟨cb, w4, hrun0, hcl, hin, hb4⟩ := bytes_of w3 ⟨#[92, 34]⟩
          have hrun : (convert 9 26 (.string ⟨#[92, 34]⟩)).run Tryz.prog w3 = .ok (.slice (some ⟨w3.heap.size, 0, none⟩) 2 cb) w4 := hrun0
          have hQ4 := hQ3.below hb4 hQ3.lt
          have z3 := Blk.cell hQ4 hx3
          have z4 := Blk.frozen hQ4 34
          have H4 : Hid (BsAt w Q 2 (w4.setCell ⟨Q, 34, none⟩ (.slice (some ⟨w3.heap.size, 0, none⟩) 2 cb))) := by
            have ho4 := ho3.belowAll hb4
            refine ⟨row3.set 34 (.slice (some ⟨w3.heap.size, 0, none⟩) 2 cb), T2, c2, hQw, Blk.set hQ4 _ _, by rw [List.length_set]; exact hl3, by rw [List.getElem?_set_ne (by omega)]; exact h256', ho4.setOther (own_ne_blk ho4 hQ4 (by decide)) _ _, ?_, (hb3.trans (hb4.mono hb3.size)).setCell (p := ⟨Q, 34, none⟩) hwle _⟩
            refine (EscV.set (es := escK 1) (l := [92, 34]) (g := w3.heap.size) (hE3.keep fun g l hb => hb4.block g hb.lt) (by omega) hl3 hin hcl ?_).keep fun g l hb => Below.heap_setCell w4 ⟨Q, 34, none⟩ _ g (blk_ne_bytes hQ4 hb (by decide))
            intro j
            by_cases h : j = 34
            · subst h; rfl
            · simp [escK, h]
          clear hE2 hne3 hQ3 ho3 hE3 hb3 hrun0 hin hb4 hQ4 ho2 hg2 hat2 hb2 hQ2
          go_wp2_with fail
          go_roundw
          case rel => exact ⟨2, .inr (.inr (.inl ⟨rfl, rfl⟩)), H4.out⟩
          case measure => decide
        · have cS := (hbw.cell (p := ⟨b, o , none⟩) hbs).trans k0
          have cR := (hbw.cell (p := ⟨b, o + 1, none⟩) hbs).trans k1
          have c256 := Blk.cell hQb h256
          have cX : wr.cell? ⟨Q, 92, none⟩ = some (.slice none 0 0) := by
            rcases hes 92 (by omega) with ⟨_, h⟩ | ⟨l, g, c', h1, _⟩
            · exact Blk.cell hQb h
            · simp [escK] at h1
          have hx : ((⟨#[92]⟩ : ByteArray)[0]).toNat = 92 := rfl
          have hcv : (convert 26 9 (.slice (some ⟨wr.heap.size, 0, none⟩) 1 1)).run Tryz.prog (wr.alloc (.cells #[.int .u8 92] 5)) = .ok (.string ⟨#[92]⟩) (wr.alloc (.cells #[.int .u8 92] 5)) := hconv wr 92 (by omega)
          have HO := Lib.hid ho
          clear ho
          have HBw := Lib.hid hbw
          have HQ := Lib.hid hQb
          have HE := Lib.hid hes
          have HL := Lib.hid hlen
          clear hbw hQb hes hlen
          go_upto_region 34 with (at_builtin; go_must (refine wpList_append_ex _ rfl (.tmp 119) (.tmp 123) _ rfl eiStrs rfl ((HO.out.alloc _).alloc _) rfl (rd_new2 wr _ ⟨#[92]⟩) rfl (namesC_one _) (by simp only [maxLen]; omega) (by omega) (by have := HBw.out.size; simp; omega) ?_; intro T2 c2 w2 ho2 hg2 hat2 hb2; have hne := own_ne_blk ((HO.out.alloc (.cells #[.int .u8 92] 5)).alloc (.cells #[.string ⟨#[92]⟩] 9)) ((HQ.out.alloc (.cells #[.int .u8 92] 5)).alloc (.cells #[.string ⟨#[92]⟩] 9)) (by decide); have hQ2 := ((HQ.out.alloc (.cells #[.int .u8 92] 5)).alloc (.cells #[.string ⟨#[92]⟩] 9)).grown hg2 hne; have z1 := Blk.cell hQ2 h256; have z2 := Blk.frozen hQ2 256))
          have hE2 : EscV w2 (escK 2) row := HE.out.keep fun g l hb => by
            have h1 := hg2.block g (by have := hb.lt; simp; omega) (own_ne_bytes HO.out hb (by decide))
            rw [h1, Below.heap_alloc _ _ _ (by have := hb.lt; simp; omega), Below.heap_alloc _ _ _ hb.lt]
          have hne3 := own_ne_blk ho2 hQ2 (by decide)
          have hQ3 := Blk.set hQ2 256 (.slice T2 3 c2)
          have ho3 := ho2.setOther hne3 256 (.slice T2 3 c2)
          have hE3 : EscV (w2.setCell ⟨Q, 256, none⟩ (.slice T2 3 c2)) (escK 2) (row.set 256 (.slice T2 3 c2)) := (hE2.keep fun g l hb => Below.heap_setCell w2 ⟨Q, 256, none⟩ _ g (blk_ne_bytes hQ2 hb (by decide))).set256 _
          have hb3 : Below w.heap.size w (w2.setCell ⟨Q, 256, none⟩ (.slice T2 3 c2)) := (HBw.out.trans ((((Below.refl _ wr).alloc HBw.out.size _).alloc (by have := HBw.out.size; simp; omega) _).trans hb2)).setCell (p := ⟨Q, 256, none⟩) hwle _
          have hl3 : (row.set 256 (.slice T2 3 c2)).length = 257 := by rw [List.length_set]; exact HL.out
          have h256' : (row.set 256 (.slice T2 3 c2))[256]? = some (.slice T2 3 c2) := List.getElem?_set_self (by rw [HL.out]; omega)
          have hx3 : (row.set 256 (.slice T2 3 c2))[92]? = some (.slice none 0 0) := by
            rcases hE3 92 (by omega) with ⟨_, h⟩ | ⟨l, g, c', h1, _⟩
            · exact h
            · simp [escK] at h1
          generalize w2.setCell ⟨Q, 256, none⟩ (.slice T2 3 c2) = w3 at *
          generalize row.set 256 (.slice T2 3 c2) = row3 at *
          obtain ⟨cb, w4, hrun0, hcl, hin, hb4⟩ := bytes_of w3 ⟨#[92, 92]⟩
          have hrun : (convert 9 26 (.string ⟨#[92, 92]⟩)).run Tryz.prog w3 = .ok (.slice (some ⟨w3.heap.size, 0, none⟩) 2 cb) w4 := hrun0
          have hQ4 := hQ3.below hb4 hQ3.lt
          have z3 := Blk.cell hQ4 hx3
          have z4 := Blk.frozen hQ4 92
          have H4 : Hid (BsAt w Q 3 (w4.setCell ⟨Q, 92, none⟩ (.slice (some ⟨w3.heap.size, 0, none⟩) 2 cb))) := by
            have ho4 := ho3.belowAll hb4
            refine ⟨row3.set 92 (.slice (some ⟨w3.heap.size, 0, none⟩) 2 cb), T2, c2, hQw, Blk.set hQ4 _ _, by rw [List.length_set]; exact hl3, by rw [List.getElem?_set_ne (by omega)]; exact h256', ho4.setOther (own_ne_blk ho4 hQ4 (by decide)) _ _, ?_, (hb3.trans (hb4.mono hb3.size)).setCell (p := ⟨Q, 92, none⟩) hwle _⟩
            refine (EscV.set (es := escK 2) (l := [92, 92]) (g := w3.heap.size) (hE3.keep fun g l hb => hb4.block g hb.lt) (by omega) hl3 hin hcl ?_).keep fun g l hb => Below.heap_setCell w4 ⟨Q, 92, none⟩ _ g (blk_ne_bytes hQ4 hb (by decide))
            intro j
            by_cases h : j = 92
            · subst h; rfl
            · simp [escK, h]
          clear hE2 hne3 hQ3 ho3 hE3 hb3 hrun0 hin hb4 hQ4 ho2 hg2 hat2 hb2 hQ2
          go_wp2_with fail
          go_roundw
          case rel => exact ⟨3, .inr (.inr (.inr ⟨rfl, rfl⟩)), H4.out⟩
          case measure => decide
        · go_wp2_with fail
          go_ret
          exact ⟨Q, rfl, row, T, ct, hQw, hQb, hlen, h256, ho, hes, hbw⟩
/-- A byteStringReplacer at Q that knows the three bytes. -/
def Repl (w : World) (Q : Nat) : Prop := ∃ row A c, Blk w Q 126 row ∧ row.length = 257 ∧ row[256]? = some (.slice A 3 c) ∧ (∃ base, Own w base 9 1 A 3 c (namesC repS)) ∧ EscV w (escK 3) row
set_option maxRecDepth 100000 in
set_option maxHeartbeats 1000000 in
theorem buildOnce_any (R b o c : Nat) (d s : Int) (r : Value) (B B0 : Nat) (w : World) (hw : Rp w R d s r (.slice (some ⟨b, o, none⟩) 6 c)) (hr : Rd w B 1 (some ⟨b, o, none⟩) (namesC pairsS)) (hB : B ≤ w.heap.size) (hR : B0 ≤ R) :
    Calls Tryz.prog 74 #[.pointer (some ⟨R, 0, none⟩)] w fun e w' => e = .returned (.tuple #[]) ∧ ∃ Q, w.heap.size ≤ Q ∧ Repl w' Q ∧ Rp w' R d s (.iface 127 (.pointer (some ⟨Q, 0, none⟩))) (.slice none 0 0) ∧ Below B0 w w' := by
  have HB := Lib.hid (build_any R b o c d s r B w hw hr hB)
  have hlt := Blk.lt hw
  have hB0 : B0 ≤ w.heap.size := by omega
  have HW := Lib.hid hw
  clear hr hw
  go_enter Tryz.func74, Tryz.ntmps74
  go_wp2_with (go_at_call 83; refine (HB.out).mono ?_; rintro e w1 ⟨Q, rfl, row, A, ca, hQw, hQ, hl, h256, ho, he, hb⟩; have h1 : Rp w1 R d s r (.slice (some ⟨b, o, none⟩) 6 c) := Blk.below HW.out hb hlt; have y3 := Blk.cell h1 (j := 3) rfl; have y4 := Blk.cell h1 (j := 4) rfl; have z3 := Blk.frozen h1 3; have z4 := Blk.frozen h1 4)
  go_end0
  have hRQ : R ≠ Q := by omega
  have keep : ∀ g, g ≠ R → ((w1.setCell ⟨R, 3, none⟩ (.iface 127 (.pointer (some ⟨Q, 0, none⟩)))).setCell ⟨R, 4, none⟩ (.slice none 0 0)).heap[g]? = w1.heap[g]? := fun g hg => (Below.heap_setCell _ ⟨R, 4, none⟩ _ g hg).trans (Below.heap_setCell _ ⟨R, 3, none⟩ _ g hg)
  refine ⟨rfl, Q, hQw, ⟨row, A, ca, hQ.keep (keep Q (fun e => hRQ e.symm)), hl, h256, ?_, he.keep fun g l hg => keep g (blk_ne_bytes h1 hg (by decide))⟩, ?_, ?_⟩
  · have ha := own_ne_blk ho h1 (by decide)
    exact ⟨_, (ho.setOther ha 3 (.iface 127 (.pointer (some ⟨Q, 0, none⟩)))).setOther ha 4 (.slice none 0 0)⟩
  · exact Blk.set (Blk.set h1 3 _) 4 _
  · exact ((hb.mono hB0).setCell (p := ⟨R, 3, none⟩) hR _).setCell (p := ⟨R, 4, none⟩) hR _
end Go.Proofs.YtnlheomfobpcmaaGreat
