/- (*Replacer).Replace at any text. -/
import Derived.Test.YtakfnojiaakfpaaGreatDoorNodC
import Derived.Test.YtakfnojiaakfpaaGreatDoorProg
import Derived.WalkKit
import Derived.Tactics2
import Derived.Defers
import Derived.Laws.Pointers
import Derived.Laws.LoneSync
import Derived.RegionCalls
import Derived.Test.YtakfnojiaakfpaaGreatDoorNodS
import Derived.Test.YtakfnojiaakfpaaGreatDoorTypSrc
import Derived.Laws.MakeOwn
import Derived.Deep.WholeRow
import Derived.Laws.Cover3
import Derived.Deep.DeepCutAuto
import Derived.Laws.IdiomStrings
import Derived.Laws.CopyRow
import Derived.Laws.CopyOwn
import Derived.Test.YtakfnojiaakfpaaGreatDoorShwC
namespace Go.Proofs.YtakfnojiaakfpaaGreatDoor
section
open Go.RowKit
theorem once_disable (w : World) : (callFunc 176 #[]).run Tryz.prog w = .ok (.value (.tuple #[])) w := run_call_mark0 Tryz.func176 (by kernel_rfl) (by kernel_rfl) (by kernel_rfl) .disable (by kernel_rfl) w
theorem once_enable (w : World) : (callFunc 178 #[]).run Tryz.prog w = .ok (.value (.tuple #[])) w := run_call_mark0 Tryz.func178 (by kernel_rfl) (by kernel_rfl) (by kernel_rfl) .enable (by kernel_rfl) w
theorem once_acquire (a : Addr) (w : World) : (callFunc 179 #[.pointer (some a)]).run Tryz.prog w = .ok (.value (.tuple #[])) w := run_call_marked Tryz.func179 (by kernel_rfl) (by kernel_rfl) (by kernel_rfl) .acquire (by kernel_rfl) a w
theorem once_merge (a : Addr) (w : World) : (callFunc 181 #[.pointer (some a)]).run Tryz.prog w = .ok (.value (.tuple #[])) w := run_call_marked Tryz.func181 (by kernel_rfl) (by kernel_rfl) (by kernel_rfl) .releaseMerge (by kernel_rfl) a w
set_option maxRecDepth 100000 in
theorem store_deferred (a : Addr) (x : Value) (u : FrameMode) (w : World) (hc : w.cell? a = some x) (hz : w.frozen? a = false) :
    CallsD Tryz.prog 159 #[.pointer (some a), .bool true] u w fun e u' w' => u' = u ∧ (e = .returned (.tuple #[]) ∧ w' = w.drew.setCell a (.int .u32 1)) := by
  have hc' : w.drew.cell? a = some x := by go_simp
  have hz' : w.drew.frozen? a = false := by go_simp
  have hst := run_call_store (P := Tryz.prog) Tryz.func168 (by kernel_rfl) (by kernel_rfl) (by kernel_rfl) (by kernel_rfl) (k := .u32) (y := 1) hc' hz'
  go_enter_d Tryz.func159, Tryz.ntmps159
  go_wp2
  go_region_calls
  all_goals (go_end0; exact ⟨rfl, rfl⟩)
set_option maxRecDepth 100000 in
set_option maxHeartbeats 1000000 in
theorem iunlock_any (a : Addr) (w : World) (hc : w.cell? a = some (.int .i32 1)) (hz : w.frozen? a = false) :
    Calls Tryz.prog 167 #[.pointer (some a)] w fun e w' => e = .returned (.tuple #[]) ∧ w' = w.setCell a (.int .i32 0) := by
  have hd := once_disable
  have he := once_enable
  have hr := once_merge
  have hadd := run_call_add (P := Tryz.prog) Tryz.func182 (by kernel_rfl) (by kernel_rfl) (by kernel_rfl) .i32 (by kernel_rfl) (y := -1) (s := 0) hc hz (by simp [go_sem]; rfl)
  have hcv := run_convert_to_unsafe (P := Tryz.prog) (src := 208) (dst := 157) Tryz.underlying208 Tryz.underlying157 (by kernel_rfl) hc
  go_enter Tryz.func167, Tryz.ntmps167
  go_wp2
  go_end0
  exact ⟨rfl, rfl⟩
set_option maxRecDepth 100000 in
set_option maxHeartbeats 1000000 in
theorem unlock_deferred (a : Addr) (u : FrameMode) (w : World) (hc : w.cell? a = some (.int .i32 1)) (hz : w.frozen? a = false) :
    CallsD Tryz.prog 158 #[.pointer (some a)] u w fun e u' w' => u' = u ∧ (e = .returned (.tuple #[]) ∧ w' = w.setCell a (.int .i32 0)) := by
  have HU := Lib.hid (iunlock_any a w hc hz)
  go_enter_d Tryz.func158, Tryz.ntmps158
  go_wp2_with (go_at_call 167; refine (HU.out).mono ?_; rintro e w' ⟨rfl, rfl⟩)
  go_end0
  exact ⟨rfl, rfl⟩
set_option maxRecDepth 100000 in
set_option maxHeartbeats 1000000 in
theorem ilock_any (a : Addr) (w : World) (hc : w.cell? a = some (.int .i32 0)) (hz : w.frozen? a = false) :
    Calls Tryz.prog 166 #[.pointer (some a)] w fun e w' => e = .returned (.tuple #[]) ∧ w' = w.setCell a (.int .i32 1) := by
  have hd := once_disable
  have he := once_enable
  have ha := once_acquire
  have hcas := run_call_cas_hit (P := Tryz.prog) Tryz.func177 (by kernel_rfl) (by kernel_rfl) (by kernel_rfl) .i32 (by kernel_rfl) (y := 1) hc hz
  have hc' : (w.setCell a (.int .i32 1)).cell? a = some (.int .i32 1) := World.cell?_setCell_same w a _ hc
  have hcv := run_convert_to_unsafe (P := Tryz.prog) (src := 208) (dst := 157) Tryz.underlying208 Tryz.underlying157 (by kernel_rfl) hc'
  go_enter Tryz.func166, Tryz.ntmps166
  go_wp2
  first | go_end0 | (simp only [Exit.inBlock, Exit.then]; refine bodyPost_ret (results_none rfl _ _ _) rfl ?_) | refine bodyPost_ret (results_none rfl _ _ _) rfl ?_
  exact ⟨rfl, rfl⟩
set_option maxRecDepth 100000 in
theorem lock_any (a : Addr) (w : World) (hc : w.cell? a = some (.int .i32 0)) (hz : w.frozen? a = false) :
    Calls Tryz.prog 157 #[.pointer (some a)] w fun e w' => e = .returned (.tuple #[]) ∧ w' = w.setCell a (.int .i32 1) := by
  have HU := Lib.hid (ilock_any a w hc hz)
  go_enter Tryz.func157, Tryz.ntmps157
  go_wp2_with (go_at_call 166; refine (HU.out).mono ?_; rintro e w' ⟨rfl, rfl⟩)
  go_end0
  exact ⟨rfl, rfl⟩
/-- A Replacer's cells: done, the lock's state, its semaphore, the replacer, the pairs. -/
def RplAt (w : World) (R : Nat) (d s : Int) (r o : Value) : Prop := Blk w R 155 [.int .u32 d, .int .i32 s, .int .u32 0, r, o]
set_option maxRecDepth 100000 in
set_option maxHeartbeats 1600000 in
theorem slow_any (R : Nat) (r o : Value) (Q : World → Prop) (w : World) (hw : RplAt w R 0 0 r o)
    (HQ : Calls Tryz.prog 138 #[.pointer (some ⟨R, 0, none⟩)] (w.setCell ⟨R, 1, none⟩ (.int .i32 1)) fun e w' => e = .returned (.tuple #[]) ∧ Q w') (hQ : ∀ w', Q w' → ∃ r o, RplAt w' R 0 1 r o) :
    Calls Tryz.prog 147 #[.pointer (some ⟨R, 0, none⟩), .func (.func 138) #[.pointer (some ⟨R, 0, none⟩)] #[]] w fun e w'' => e = .returned (.tuple #[]) ∧
      ∃ w', Q w' ∧ w'' = (w'.drew.setCell ⟨R, 0, none⟩ (.int .u32 1)).setCell ⟨R, 1, none⟩ (.int .i32 0) := by
  have hw1 : RplAt (w.setCell ⟨R, 1, none⟩ (.int .i32 1)) R 0 1 r o := Blk.set hw 1 _
  have hl := run_call_load (P := Tryz.prog) Tryz.func156 (by kernel_rfl) (by kernel_rfl) (by kernel_rfl) .u32 (by kernel_rfl) (w := w.setCell ⟨R, 1, none⟩ (.int .i32 1)) (a := ⟨R, 0, none⟩) (x := 0) (Blk.cell hw1 rfl)
  have hnot : ∀ (x : Bool) (w : World), (Op.unary .not (.bool x)).run Tryz.prog w = .ok (.bool (!x)) w := fun _ _ => rfl
  have HL := Lib.hid (lock_any ⟨R, 1, none⟩ w (Blk.cell hw rfl) (Blk.frozen hw 1))
  have HC := Lib.hid HQ
  clear HQ
  go_enter_defers Tryz.func147, Tryz.ntmps147
  go_wp2_with (first
    | (go_at_call 157; refine (HL.out).mono ?_; rintro e w' ⟨rfl, rfl⟩)
    | (go_at_call 146; go_in)
    | (go_at_call 138; refine (HC.out).mono ?_; rintro e w2 ⟨rfl, hq⟩))
  obtain ⟨r2, o2, h2⟩ := hQ w2 hq
  go_wp2
  refine leaves_cons (f := 159) (args := #[.pointer (some ⟨R, 0, none⟩), .bool true]) (by simp) (by simp [go_sem]) ?_
  refine (store_deferred ⟨R, 0, none⟩ (.int .u32 0) .returning w2 (Blk.cell h2 rfl) (Blk.frozen h2 0)).mono ?_
  rintro e u' w'' ⟨rfl, rfl, rfl⟩
  have h3 : RplAt (w2.drew.setCell ⟨R, 0, none⟩ (.int .u32 1)) R 1 1 r2 o2 := Blk.set (w := w2.drew) h2 0 _
  refine leaves_cons (f := 158) (args := #[.pointer (some ⟨R, 1, none⟩)]) (by simp [settle]) (by simp [go_sem]) ?_
  refine (unlock_deferred ⟨R, 1, none⟩ _ _ (Blk.cell h3 rfl) (Blk.frozen h3 1)).mono ?_
  rintro e u' w'' ⟨rfl, rfl, rfl⟩
  exact ⟨_, results_none rfl _ _ _, rfl, w2, hq, rfl⟩
set_option maxRecDepth 100000 in
set_option maxHeartbeats 1600000 in
theorem once_any (R : Nat) (r o : Value) (Q : World → Prop) (w : World) (hw : RplAt w R 0 0 r o)
    (HQ : Calls Tryz.prog 138 #[.pointer (some ⟨R, 0, none⟩)] (w.setCell ⟨R, 1, none⟩ (.int .i32 1)) fun e w' => e = .returned (.tuple #[]) ∧ Q w') (hQ : ∀ w', Q w' → ∃ r o, RplAt w' R 0 1 r o) :
    Calls Tryz.prog 137 #[.pointer (some ⟨R, 0, none⟩), .func (.func 138) #[.pointer (some ⟨R, 0, none⟩)] #[]] w fun e w'' => e = .returned (.tuple #[]) ∧
      ∃ w', Q w' ∧ w'' = (w'.drew.setCell ⟨R, 0, none⟩ (.int .u32 1)).setCell ⟨R, 1, none⟩ (.int .i32 0) := by
  have hl := run_call_load (P := Tryz.prog) Tryz.func156 (by kernel_rfl) (by kernel_rfl) (by kernel_rfl) .u32 (by kernel_rfl) (Blk.cell hw (j := 0) rfl)
  have hnot : ∀ (x : Bool) (w : World), (Op.unary .not (.bool x)).run Tryz.prog w = .ok (.bool (!x)) w := fun _ _ => rfl
  have HS := Lib.hid (slow_any R r o Q w hw HQ hQ)
  clear HQ
  go_enter Tryz.func137, Tryz.ntmps137
  go_wp2_with (first
    | (go_at_call 146; go_in)
    | (go_at_call 147; refine (HS.out).mono ?_; rintro e w2 ⟨rfl, hq⟩))
  go_end0
  exact ⟨rfl, hq⟩
end
section
open Go.RowKit
def namesC (l : List ByteArray) : List (List Value) := l.map fun x => [.string x]
theorem namesC_sz (ls : List ByteArray) : ∀ x ∈ namesC ls, x.length = 1 := by
  intro x hx
  obtain ⟨l, _, rfl⟩ := List.mem_map.1 hx
  rfl
end
section
open Go.RowKit
theorem eiStrs : EI Tryz.prog 39 9 1 16 := EI.mk' Tryz.underlying39 (z := .string ByteArray.empty) (by kernel_rfl) rfl (by omega)
theorem madeCells_one (v : Value) (n : Nat) : madeCells #[v] n = (List.replicate n v).toArray := by
  apply Array.ext
  · simp [madeCells]
  · intro i h1 h2
    simp [madeCells, Nat.mod_one]
/-- make of a slice whose elements are one cell. -/
theorem run_make1 {P : Program} {t e : TypeId} {bytes : Nat} {z : Value} (ht : P.underlying t = some (.slice e)) (hi : (P.info? e).map (fun i => (i.zero, i.size, i.bytes)) = some (some z, 1, bytes)) (hz : z.cells = #[z]) (n c : Nat) (hn : n ≤ c) (hb : bytes * c ≤ 281474976710656) (hc : c ≤ maxLen) (w : World) :
    (Instr.makeSlice t (.int .i64 (n : Int)) (.int .i64 (c : Int))).run P w = .ok (.slice (some ⟨w.heap.size, 0, none⟩) n c) (w.alloc (.cells (List.replicate c z).toArray e)) := by
  obtain ⟨i, h1, h2, h3, h4⟩ := info_parts hi
  have h5 : (c : Int) ≤ 9223372036854775807 := by simp only [maxLen] at hc; omega
  have hb' : (i.bytes : Int) * (c : Int) ≤ 281474976710656 := by
    rw [h4, ← Int.natCast_mul]; omega
  have := run_make (P := P) w t e i z ht h1 h2 .i64 .i64 n c (by omega) (by omega) hb' h5
  rw [this, h3, hz]
  simp [madeCells_one]
/-- The six texts. -/
def pairsS : List ByteArray := [⟨#[92]⟩, ⟨#[92, 92]⟩, ⟨#[34]⟩, ⟨#[92, 34]⟩, ⟨#[10]⟩, ⟨#[92, 110]⟩]
def NewRep (w : World) (e : Ending) (w' : World) : Prop := ∃ R A c, e = .returned (.pointer (some ⟨R, 0, none⟩)) ∧ w.heap.size ≤ R ∧ RplAt w' R 0 0 .nilIface (.slice A 6 c) ∧ Own w' w.heap.size 9 1 A 6 c (namesC pairsS) ∧ Below w.heap.size w w'
theorem namesC_one (l : List ByteArray) : ∀ y ∈ namesC l, ∀ u ∈ y, u.oneCell' = true := by
  intro y hy u hu
  obtain ⟨x, _, rfl⟩ := List.mem_map.1 hy
  simp at hu
  subst hu
  rfl
set_option maxRecDepth 100000 in
set_option maxHeartbeats 1000000 in
theorem newRep_any (A : Option Addr) (c B : Nat) (w : World) (hr : Rd w B 1 A (namesC pairsS)) (_hB : B ≤ w.heap.size) :
    Calls Tryz.prog 128 #[.slice A 6 c] w (NewRep w) := by
  have hl : (namesC pairsS).length = 6 := rfl
  have Hr := Lib.hid hr
  clear hr
  go_enter Tryz.func128, Tryz.ntmps128
  go_wp2_with (at_builtin; (refine wpList_append_ex (n := 0) (c := 0) (A := none) (xs := []) (base := w.heap.size) _ rfl (.const (.slice none 0 0)) (.tmp 8) _ rfl eiStrs rfl (Own.nil_ (by omega)) rfl Hr.out hl (namesC_one _) (by simp only [maxLen]; omega) (by omega) (by omega) ?_; intro A1 c1 w1 ho hg hat hb))
  go_ret
  exact ⟨w1.heap.size, A1, c1, rfl, hb.size, Blk.new w1 155 [.int .u32 0, .int .i32 0, .int .u32 0, .nilIface, .slice A1 6 c1], ho.alloc _, hb.alloc hb.size _⟩
end
section
open Go.RowKit
/-- A row of nil slices. -/
def nilRow (n : Nat) : List Value := List.replicate n (Value.slice none 0 0)
theorem nilRow_len (n : Nat) : (nilRow n).length = n := by simp [nilRow]
theorem nilRow_at {n j : Nat} (h : j < n) : (nilRow n)[j]? = some (.slice none 0 0) := by simp [nilRow, h]
theorem set_one {l : List Value} {j : Nat} {v : Value} (hl : ∀ u ∈ l, u.oneCell' = true) (hv : v.oneCell' = true) : ∀ u ∈ l.set j v, u.oneCell' = true := by
  intro u hu
  rcases List.mem_or_eq_of_mem_set hu with h | h
  · exact hl u h
  · subst h; exact hv
theorem nilRow_one (n : Nat) : ∀ u ∈ nilRow n, u.oneCell' = true := by
  intro u hu
  rw [nilRow, List.mem_replicate] at hu
  rw [hu.2]; rfl
theorem zero126 : Tryz.zeroCells186 = (nilRow 257).toArray := by kernel_rfl
theorem store126 (w : World) (v : Value) (hv : v.oneCell' = true) :
    (storeCells ⟨w.heap.size, 0, none⟩ (Tryz.zeroCells186.toList.set 256 v)).run Tryz.prog (w.alloc (.cells Tryz.zeroCells186 186)) = .ok () (w.alloc (.cells ((nilRow 257).set 256 v).toArray 186)) := by
  rw [zero126]
  have hs : ((nilRow 257).set 256 v).toArray.size = 257 := by rw [List.size_toArray, List.length_set, nilRow_len]
  refine run_storeCells_new (P := Tryz.prog) w 186 (nilRow 257).toArray ((nilRow 257).set 256 v).toArray (by rw [hs]; kernel_rfl) (by rw [hs, List.size_toArray, nilRow_len]) ?_
  rw [Array.all_eq_true]
  intro i hi
  exact set_one (nilRow_one _) hv _ (by rw [List.getElem_toArray]; exact List.getElem_mem _)
theorem run_eql_nil {P : Program} {t e : TypeId} (h : P.underlying t = some (.slice e)) (W : World) : (binOp .eql t (.slice none 0 0) (.slice none 0 0)).run P W = .ok (.bool true) W := by
  have := run_equal_slice_nil (P := P) W t e none 0 0 h
  simp [binOp, this]
/-- The bytes l lie at the head of block g. -/
def BytesIn (w : World) (g : Nat) (l : List UInt8) : Prop := ∃ cs fr, w.heap[g]? = some (.cells cs 5 fr) ∧ ∀ (j : Nat) u, l[j]? = some u → cs[j]? = some (.int .u8 (u.toNat : Int))
theorem BytesIn.keep {w w' : World} {g : Nat} {l : List UInt8} (h : BytesIn w g l) (hk : w'.heap[g]? = w.heap[g]?) : BytesIn w' g l := by
  obtain ⟨cs, fr, h1, h2⟩ := h
  exact ⟨cs, fr, hk.trans h1, h2⟩
theorem BytesIn.lt {w : World} {g : Nat} {l : List UInt8} (h : BytesIn w g l) : g < w.heap.size := by
  obtain ⟨cs, fr, h1, h2⟩ := h
  exact (Array.getElem?_eq_some_iff.1 h1).1
theorem BytesIn.rd {w : World} {g : Nat} {l : List UInt8} (h : BytesIn w g l) : Rd w w.heap.size 1 (some ⟨g, 0, none⟩) (bytesC l) := by
  obtain ⟨cs, fr, h1, h2⟩ := h
  refine ⟨by intro x hx; obtain ⟨c, _, rfl⟩ := List.mem_map.1 hx; rfl, fun hn => ⟨g, 0, rfl, (Array.getElem?_eq_some_iff.1 h1).1, ?_⟩⟩
  intro k x j v hx hv
  simp only [bytesC, List.getElem?_map, Option.map_eq_some_iff] at hx
  obtain ⟨u, hu, rfl⟩ := hx
  match j, hv with
  | 0, hv =>
    simp at hv
    subst hv
    rw [World.cell?, h1]
    simpa using h2 k u hu
theorem own_ne_bytes {w : World} {base sz n c g : Nat} {e : TypeId} {A : Option Addr} {xs : List (List Value)} {l : List UInt8} (h : Own w base e sz A n c xs) (hb : BytesIn w g l) (hne : e ≠ 5) : some g ≠ A.map Addr.block := by
  obtain ⟨cs, fr, h1, h2⟩ := hb
  rcases h.2.2.2.2 with ⟨hv, h0⟩ | ⟨g', cap, cur, hv, hbg, hg, _⟩
  · injection hv with e1; subst e1; simp
  · injection hv with e1
    subst e1
    intro e
    simp at e
    subst e
    rw [h1] at hg
    injection hg with hg
    injection hg with _ ht
    exact hne ht.symm
theorem blk_ne_bytes {w : World} {Q g : Nat} {e : TypeId} {cs : List Value} {l : List UInt8} (h : Blk w Q e cs) (hb : BytesIn w g l) (hne : e ≠ 5) : g ≠ Q := by
  rintro rfl
  obtain ⟨cs, fr, h1, h2⟩ := hb
  rw [h] at h1
  injection h1 with h1
  injection h1 with _ ht
  exact hne ht
theorem bytes_of (w : World) (s : ByteArray) : ∃ c w', (convert 9 91 (.string s)).run Tryz.prog w = .ok (.slice (some ⟨w.heap.size, 0, none⟩) s.data.toList.length c) w' ∧ s.data.toList.length ≤ c ∧ BytesIn w' w.heap.size s.data.toList ∧ Below w.heap.size w w' := by
  have hrun := run_bytes_of_string (P := Tryz.prog) w 9 91 5 s Tryz.underlying9 Tryz.underlying91 Tryz.underlying5
  have hsz : s.size = s.data.toList.length := Lib.size_eq s
  rw [hsz] at hrun
  refine ⟨_, _, hrun, grownCap_ge w _ 0 _, ⟨_, _, heap_alloc_new w.drew _, ?_⟩, ⟨rfl, rfl, rfl, by simp, fun k hk => Below.heap_alloc w.drew _ k hk⟩⟩
  intro j u hu
  obtain ⟨hj, rfl⟩ := List.getElem?_eq_some_iff.1 hu
  have := bytesRow_at s (grownCap w s.data.toList.length 0 5) j (by simpa using hj)
  simpa using this
theorem rd_new2 (w : World) (o : Obj) (x : ByteArray) : Rd ((w.alloc o).alloc (.cells #[.string x] 9)) (w.heap.size + 2) 1 (some ⟨w.heap.size + 1, 0, none⟩) (namesC [x]) := by
  have := Rd.new (xs := namesC [x]) (sz := 1) (e := 9) (w.alloc o) (by simp [namesC]) #[.string x] rfl
  rw [show (w.alloc o).heap.size = w.heap.size + 1 from by simp] at this
  exact this
/-- What becomes of a byte, of the first k of the three that are told: last pair first. -/
def escK (k j : Nat) : Option (List UInt8) :=
  if j = 10 ∧ 0 < k then some [92, 110] else if j = 34 ∧ 1 < k then some [92, 34] else if j = 92 ∧ 2 < k then some [92, 92] else none
def EscV (w : World) (es : Nat → Option (List UInt8)) (row : List Value) : Prop :=
  ∀ j, j < 256 → (es j = none ∧ row[j]? = some (.slice none 0 0)) ∨ ∃ l g c, es j = some l ∧ row[j]? = some (.slice (some ⟨g, 0, none⟩) l.length c) ∧ l.length ≤ c ∧ BytesIn w g l
theorem EscV.keep {w w' : World} {es : Nat → Option (List UInt8)} {row : List Value} (h : EscV w es row) (hk : ∀ g l, BytesIn w g l → w'.heap[g]? = w.heap[g]?) : EscV w' es row := by
  intro j hj
  rcases h j hj with h | ⟨l, g, c, h1, h2, h3, h4⟩
  · exact .inl h
  · exact .inr ⟨l, g, c, h1, h2, h3, h4.keep (hk g l h4)⟩
theorem EscV.set {w : World} {es es' : Nat → Option (List UInt8)} {row : List Value} (h : EscV w es row) {x : Nat} {l : List UInt8} {g c : Nat} (hx : x < 256) (hr : row.length = 257) (hb : BytesIn w g l) (hc : l.length ≤ c) (he : ∀ j, es' j = if j = x then some l else es j) :
    EscV w es' (row.set x (.slice (some ⟨g, 0, none⟩) l.length c)) := by
  intro j hj
  rw [he j]
  by_cases hjx : j = x
  · subst hjx
    rw [if_pos rfl]
    exact .inr ⟨l, g, c, rfl, by rw [List.getElem?_set_self (by omega)], hc, hb⟩
  · rw [if_neg hjx, List.getElem?_set_ne (fun e => hjx e.symm)]
    exact h j hj
theorem EscV.set256 {w : World} {es : Nat → Option (List UInt8)} {row : List Value} (h : EscV w es row) (v : Value) : EscV w es (row.set 256 v) := by
  intro j hj
  rw [List.getElem?_set_ne (by omega)]
  exact h j hj
def repS : List ByteArray := [⟨#[10]⟩, ⟨#[34]⟩, ⟨#[92]⟩]
/-- The replacer, in new memory, its first k bytes told. -/
def BsAt (w : World) (Q k : Nat) (w' : World) : Prop :=
  ∃ row A c, w.heap.size ≤ Q ∧ Blk w' Q 186 row ∧ row.length = 257 ∧ row[256]? = some (.slice A k c) ∧ Own w' w.heap.size 9 1 A k c (namesC (repS.take k)) ∧ EscV w' (escK k) row ∧ Below w.heap.size w w'
set_option maxRecDepth 100000 in
set_option maxHeartbeats 2000000 in
theorem build_any (R b o c : Nat) (d s : Int) (r : Value) (B : Nat) (w : World) (hw : RplAt w R d s r (.slice (some ⟨b, o, none⟩) 6 c)) (hr : Rd w B 1 (some ⟨b, o, none⟩) (namesC pairsS)) (hB : B ≤ w.heap.size) :
    Calls Tryz.prog 148 #[.pointer (some ⟨R, 0, none⟩)] w fun e w' => ∃ Q, e = .returned (.iface 187 (.pointer (some ⟨Q, 0, none⟩))) ∧ BsAt w Q 3 w' := by
  have c4 := Blk.cell hw (j := 4) rfl
  have hk : ∀ (k : Nat) (x : ByteArray), pairsS[k]? = some x → w.cell? ⟨b, o + k, none⟩ = some (.string x) := by
    intro k x hx
    obtain ⟨b', o', e, _, h⟩ := hr.at1 (k := k) (v0 := .string x) (by simp [namesC, hx])
    injection e with e
    injection e with e1 e2
    subst e1 e2
    exact h
  have k0 := hk 0 _ rfl
  have k1 := hk 1 _ rfl
  have k2 := hk 2 _ rfl
  have k3 := hk 3 _ rfl
  have k4 := hk 4 _ rfl
  have k5 := hk 5 _ rfl
  rw [Nat.add_zero] at k0
  have hmk : ∀ W, (Instr.makeSlice 39 (.int .i64 0) (.int .i64 3)).run Tryz.prog W = .ok (.slice (some ⟨W.heap.size, 0, none⟩) 0 3) (W.alloc (.cells #[.string ByteArray.empty, .string ByteArray.empty, .string ByteArray.empty] 9)) := fun W => run_make1 (P := Tryz.prog) (z := .string ByteArray.empty) (bytes := 16) Tryz.underlying39 (by kernel_rfl) rfl 0 3 (by omega) (by omega) (by simp only [maxLen]; omega) W
  have hst := store126 (w.alloc (.cells #[.string ByteArray.empty, .string ByteArray.empty, .string ByteArray.empty] 9)) (.slice (some ⟨w.heap.size, 0, none⟩) 0 3) rfl
  rw [show (w.alloc (.cells #[.string ByteArray.empty, .string ByteArray.empty, .string ByteArray.empty] 9)).heap.size = w.heap.size + 1 from by simp] at hst
  have hbs : b < w.heap.size := by
    obtain ⟨b', o', e, hb', _⟩ := hr.at1 (k := 0) (v0 := .string ⟨#[92]⟩) rfl
    injection e with e
    injection e with e1 e2
    subst e1 e2
    omega
  have hnil : ∀ W, (binOp .eql 91 (.slice none 0 0) (.slice none 0 0)).run Tryz.prog W = .ok (.bool true) W := fun W => run_eql_nil Tryz.underlying91 W
  have hconv : ∀ (W : World) (x : Nat), x < 256 → (convert 91 9 (.slice (some ⟨W.heap.size, 0, none⟩) 1 1)).run Tryz.prog (W.alloc (.cells #[.int .u8 (x : Int)] 5)) = .ok (.string ⟨#[UInt8.ofNat x]⟩) (W.alloc (.cells #[.int .u8 (x : Int)] 5)) := by
    intro W x hx
    refine run_convert_bytes_back (P := Tryz.prog) (W.alloc (.cells #[.int .u8 (x : Int)] 5)) 91 9 5 ⟨W.heap.size, 0, none⟩ 1 [UInt8.ofNat x] Tryz.underlying91 Tryz.underlying5 Tryz.underlying9 ?_
    intro j hj
    obtain rfl : j = 0 := by simpa using hj
    have h2 : (UInt8.ofNat x).toNat = x := by rw [UInt8.toNat_ofNat']; omega
    simp [Addr.add, h2]
  clear hk hr
  go_enter Tryz.func148, Tryz.ntmps148
  go_wp2_with fail
  go_loop [5, 4] (fun i v => (i = .int .i64 0 ∧ v = .bool true) ∨ (i = .int .i64 2 ∧ v = .bool false) ∨ (i = .int .i64 4 ∧ v = .bool false) ∨ (i = .int .i64 6 ∧ v = .bool false)) (fun i _ => 6 - (intOf i).toNat)
  case atStart => exact .inl ⟨rfl, rfl⟩
  case round =>
    rcases hrel with ⟨rfl, rfl⟩ | ⟨rfl, rfl⟩ | ⟨rfl, rfl⟩ | ⟨rfl, rfl⟩
    · go_wp2_with fail
      go_round
      case rel => exact .inr (.inl ⟨rfl, rfl⟩)
      case measure => decide
    · go_wp2_with fail
      go_round
      case rel => exact .inr (.inr (.inl ⟨rfl, rfl⟩))
      case measure => decide
    · go_wp2_with fail
      go_round
      case rel => exact .inr (.inr (.inr ⟨rfl, rfl⟩))
      case measure => decide
    · go_wp2_with fail
      have hzs : (w.alloc (.cells #[.string ByteArray.empty, .string ByteArray.empty, .string ByteArray.empty] 9)).heap.size = w.heap.size + 1 := by simp
      have hB0 : BsAt w (w.heap.size + 1) 0 ((w.alloc (.cells #[.string ByteArray.empty, .string ByteArray.empty, .string ByteArray.empty] 9)).alloc (.cells ((nilRow 257).set 256 (.slice (some ⟨w.heap.size, 0, none⟩) 0 3)).toArray 186)) := by
        refine ⟨(nilRow 257).set 256 (.slice (some ⟨w.heap.size, 0, none⟩) 0 3), some ⟨w.heap.size, 0, none⟩, 3, by omega, ?_, by rw [List.length_set, nilRow_len], by rw [List.getElem?_set_self (by rw [nilRow_len]; omega)], ?_, ?_, ?_⟩
        · rw [← hzs]; exact Blk.new _ _ _
        · refine Own.alloc ⟨by omega, by simp [namesC], rfl, ?_, .inr ⟨w.heap.size, 3, _, rfl, Nat.le_refl _, heap_alloc_new w _, by simp [namesC], by simp only [maxLen]; omega, rfl, rfl⟩⟩ _
          simp [namesC]
        · intro j hj
          exact .inl ⟨by simp [escK], by rw [List.getElem?_set_ne (by omega), nilRow_at (by omega)]⟩
        · exact ((Below.refl _ _).alloc (Nat.le_refl _) _).alloc (by simp) _
      generalize hQ : w.heap.size + 1 = Q at *
      generalize hw0 : (w.alloc (.cells #[.string ByteArray.empty, .string ByteArray.empty, .string ByteArray.empty] 9)).alloc (.cells ((nilRow 257).set 256 (.slice (some ⟨w.heap.size, 0, none⟩) 0 3)).toArray 186) = w0 at *
      have hwle : w.heap.size ≤ Q := by omega
      clear hw0 hst hQ hzs
      go_loopw [12] (fun i wr => ∃ k : Nat, ((k = 0 ∧ i = .int .i64 4) ∨ (k = 1 ∧ i = .int .i64 2) ∨ (k = 2 ∧ i = .int .i64 0) ∨ (k = 3 ∧ i = .int .i64 (-2))) ∧ BsAt w Q k wr) (fun i _ => (intOf i + 2).toNat)
      case atStart => exact ⟨0, .inl ⟨rfl, rfl⟩, hB0⟩
      case round =>
        obtain ⟨k, hk, row, T, ct, hQw, hQb, hlen, h256, ho, hes, hbw⟩ := hrel
        rcases hk with ⟨rfl, rfl⟩ | ⟨rfl, rfl⟩ | ⟨rfl, rfl⟩ | ⟨rfl, rfl⟩
        · have cS := (hbw.cell (p := ⟨b, o + 4, none⟩) hbs).trans k4
          have cR := (hbw.cell (p := ⟨b, o + 5, none⟩) hbs).trans k5
          have c256 := Blk.cell hQb h256
          have cX : wr.cell? ⟨Q, 10, none⟩ = some (.slice none 0 0) := by
            rcases hes 10 (by omega) with ⟨_, h⟩ | ⟨l, g, c', h1, _⟩
            · exact Blk.cell hQb h
            · simp [escK] at h1
          have hx : ((⟨#[10]⟩ : ByteArray)[0]).toNat = 10 := rfl
          have hcv : (convert 91 9 (.slice (some ⟨wr.heap.size, 0, none⟩) 1 1)).run Tryz.prog (wr.alloc (.cells #[.int .u8 10] 5)) = .ok (.string ⟨#[10]⟩) (wr.alloc (.cells #[.int .u8 10] 5)) := hconv wr 10 (by omega)
          have HO := Lib.hid ho
          clear ho
          have HBw := Lib.hid hbw
          have HQ := Lib.hid hQb
          have HE := Lib.hid hes
          have HL := Lib.hid hlen
          clear hbw hQb hes hlen
          go_upto_region 34 with (at_builtin; go_must (refine wpList_append_ex _ rfl (.tmp 119) (.tmp 123) _ rfl eiStrs rfl ((HO.out.alloc _).alloc _) rfl (rd_new2 wr _ ⟨#[10]⟩) rfl (namesC_one _) (by simp only [maxLen]; omega) (by omega) (by have := HBw.out.size; simp; omega) ?_; intro T2 c2 w2 ho2 hg2 hat2 hb2; have hne := own_ne_blk ((HO.out.alloc (.cells #[.int .u8 10] 5)).alloc (.cells #[.string ⟨#[10]⟩] 9)) ((HQ.out.alloc (.cells #[.int .u8 10] 5)).alloc (.cells #[.string ⟨#[10]⟩] 9)) (by decide); have hQ2 := ((HQ.out.alloc (.cells #[.int .u8 10] 5)).alloc (.cells #[.string ⟨#[10]⟩] 9)).grown hg2 hne; have z1 := Blk.cell hQ2 h256; have z2 := Blk.frozen hQ2 256))
          have hE2 : EscV w2 (escK 0) row := HE.out.keep fun g l hb => by
            have h1 := hg2.block g (by have := hb.lt; simp; omega) (own_ne_bytes HO.out hb (by decide))
            rw [h1, Below.heap_alloc _ _ _ (by have := hb.lt; simp; omega), Below.heap_alloc _ _ _ hb.lt]
          have hne3 := own_ne_blk ho2 hQ2 (by decide)
          have hQ3 := Blk.set hQ2 256 (.slice T2 1 c2)
          have ho3 := ho2.setOther hne3 256 (.slice T2 1 c2)
          have hE3 : EscV (w2.setCell ⟨Q, 256, none⟩ (.slice T2 1 c2)) (escK 0) (row.set 256 (.slice T2 1 c2)) := (hE2.keep fun g l hb => Below.heap_setCell w2 ⟨Q, 256, none⟩ _ g (blk_ne_bytes hQ2 hb (by decide))).set256 _
          have hb3 : Below w.heap.size w (w2.setCell ⟨Q, 256, none⟩ (.slice T2 1 c2)) := (HBw.out.trans ((((Below.refl _ wr).alloc HBw.out.size _).alloc (by have := HBw.out.size; simp; omega) _).trans hb2)).setCell (p := ⟨Q, 256, none⟩) hwle _
          have hl3 : (row.set 256 (.slice T2 1 c2)).length = 257 := by rw [List.length_set]; exact HL.out
          have h256' : (row.set 256 (.slice T2 1 c2))[256]? = some (.slice T2 1 c2) := List.getElem?_set_self (by rw [HL.out]; omega)
          have hx3 : (row.set 256 (.slice T2 1 c2))[10]? = some (.slice none 0 0) := by
            rcases hE3 10 (by omega) with ⟨_, h⟩ | ⟨l, g, c', h1, _⟩
            · exact h
            · simp [escK] at h1
          generalize w2.setCell ⟨Q, 256, none⟩ (.slice T2 1 c2) = w3 at *
          generalize row.set 256 (.slice T2 1 c2) = row3 at *
          obtain ⟨cb, w4, hrun0, hcl, hin, hb4⟩ := bytes_of w3 ⟨#[92, 110]⟩
          have hrun : (convert 9 91 (.string ⟨#[92, 110]⟩)).run Tryz.prog w3 = .ok (.slice (some ⟨w3.heap.size, 0, none⟩) 2 cb) w4 := hrun0
          have hQ4 := hQ3.below hb4 hQ3.lt
          have z3 := Blk.cell hQ4 hx3
          have z4 := Blk.frozen hQ4 10
          have H4 : Hid (BsAt w Q 1 (w4.setCell ⟨Q, 10, none⟩ (.slice (some ⟨w3.heap.size, 0, none⟩) 2 cb))) := by
            have ho4 := ho3.belowAll hb4
            refine ⟨row3.set 10 (.slice (some ⟨w3.heap.size, 0, none⟩) 2 cb), T2, c2, hQw, Blk.set hQ4 _ _, by rw [List.length_set]; exact hl3, by rw [List.getElem?_set_ne (by omega)]; exact h256', ho4.setOther (own_ne_blk ho4 hQ4 (by decide)) _ _, ?_, (hb3.trans (hb4.mono hb3.size)).setCell (p := ⟨Q, 10, none⟩) hwle _⟩
            refine (EscV.set (es := escK 0) (l := [92, 110]) (g := w3.heap.size) (hE3.keep fun g l hb => hb4.block g hb.lt) (by omega) hl3 hin hcl ?_).keep fun g l hb => Below.heap_setCell w4 ⟨Q, 10, none⟩ _ g (blk_ne_bytes hQ4 hb (by decide))
            intro j
            by_cases h : j = 10
            · subst h; rfl
            · simp [escK, h]
          clear hE2 hne3 hQ3 ho3 hE3 hb3 hrun0 hin hb4 hQ4 ho2 hg2 hat2 hb2 hQ2
          go_wp2_with fail
          go_roundw
          case rel => exact ⟨1, .inr (.inl ⟨rfl, rfl⟩), H4.out⟩
          case measure => decide
        · have cS := (hbw.cell (p := ⟨b, o + 2, none⟩) hbs).trans k2
          have cR := (hbw.cell (p := ⟨b, o + 3, none⟩) hbs).trans k3
          have c256 := Blk.cell hQb h256
          have cX : wr.cell? ⟨Q, 34, none⟩ = some (.slice none 0 0) := by
            rcases hes 34 (by omega) with ⟨_, h⟩ | ⟨l, g, c', h1, _⟩
            · exact Blk.cell hQb h
            · simp [escK] at h1
          have hx : ((⟨#[34]⟩ : ByteArray)[0]).toNat = 34 := rfl
          have hcv : (convert 91 9 (.slice (some ⟨wr.heap.size, 0, none⟩) 1 1)).run Tryz.prog (wr.alloc (.cells #[.int .u8 34] 5)) = .ok (.string ⟨#[34]⟩) (wr.alloc (.cells #[.int .u8 34] 5)) := hconv wr 34 (by omega)
          have HO := Lib.hid ho
          clear ho
          have HBw := Lib.hid hbw
          have HQ := Lib.hid hQb
          have HE := Lib.hid hes
          have HL := Lib.hid hlen
          clear hbw hQb hes hlen
          go_upto_region 34 with (at_builtin; go_must (refine wpList_append_ex _ rfl (.tmp 119) (.tmp 123) _ rfl eiStrs rfl ((HO.out.alloc _).alloc _) rfl (rd_new2 wr _ ⟨#[34]⟩) rfl (namesC_one _) (by simp only [maxLen]; omega) (by omega) (by have := HBw.out.size; simp; omega) ?_; intro T2 c2 w2 ho2 hg2 hat2 hb2; have hne := own_ne_blk ((HO.out.alloc (.cells #[.int .u8 34] 5)).alloc (.cells #[.string ⟨#[34]⟩] 9)) ((HQ.out.alloc (.cells #[.int .u8 34] 5)).alloc (.cells #[.string ⟨#[34]⟩] 9)) (by decide); have hQ2 := ((HQ.out.alloc (.cells #[.int .u8 34] 5)).alloc (.cells #[.string ⟨#[34]⟩] 9)).grown hg2 hne; have z1 := Blk.cell hQ2 h256; have z2 := Blk.frozen hQ2 256))
          have hE2 : EscV w2 (escK 1) row := HE.out.keep fun g l hb => by
            have h1 := hg2.block g (by have := hb.lt; simp; omega) (own_ne_bytes HO.out hb (by decide))
            rw [h1, Below.heap_alloc _ _ _ (by have := hb.lt; simp; omega), Below.heap_alloc _ _ _ hb.lt]
          have hne3 := own_ne_blk ho2 hQ2 (by decide)
          have hQ3 := Blk.set hQ2 256 (.slice T2 2 c2)
          have ho3 := ho2.setOther hne3 256 (.slice T2 2 c2)
          have hE3 : EscV (w2.setCell ⟨Q, 256, none⟩ (.slice T2 2 c2)) (escK 1) (row.set 256 (.slice T2 2 c2)) := (hE2.keep fun g l hb => Below.heap_setCell w2 ⟨Q, 256, none⟩ _ g (blk_ne_bytes hQ2 hb (by decide))).set256 _
          have hb3 : Below w.heap.size w (w2.setCell ⟨Q, 256, none⟩ (.slice T2 2 c2)) := (HBw.out.trans ((((Below.refl _ wr).alloc HBw.out.size _).alloc (by have := HBw.out.size; simp; omega) _).trans hb2)).setCell (p := ⟨Q, 256, none⟩) hwle _
          have hl3 : (row.set 256 (.slice T2 2 c2)).length = 257 := by rw [List.length_set]; exact HL.out
          have h256' : (row.set 256 (.slice T2 2 c2))[256]? = some (.slice T2 2 c2) := List.getElem?_set_self (by rw [HL.out]; omega)
          have hx3 : (row.set 256 (.slice T2 2 c2))[34]? = some (.slice none 0 0) := by
            rcases hE3 34 (by omega) with ⟨_, h⟩ | ⟨l, g, c', h1, _⟩
            · exact h
            · simp [escK] at h1
          generalize w2.setCell ⟨Q, 256, none⟩ (.slice T2 2 c2) = w3 at *
          generalize row.set 256 (.slice T2 2 c2) = row3 at *
          obtain ⟨cb, w4, hrun0, hcl, hin, hb4⟩ := bytes_of w3 ⟨#[92, 34]⟩
          have hrun : (convert 9 91 (.string ⟨#[92, 34]⟩)).run Tryz.prog w3 = .ok (.slice (some ⟨w3.heap.size, 0, none⟩) 2 cb) w4 := hrun0
          have hQ4 := hQ3.below hb4 hQ3.lt
          have z3 := Blk.cell hQ4 hx3
          have z4 := Blk.frozen hQ4 34
          have H4 : Hid (BsAt w Q 2 (w4.setCell ⟨Q, 34, none⟩ (.slice (some ⟨w3.heap.size, 0, none⟩) 2 cb))) := by
            have ho4 := ho3.belowAll hb4
            refine ⟨row3.set 34 (.slice (some ⟨w3.heap.size, 0, none⟩) 2 cb), T2, c2, hQw, Blk.set hQ4 _ _, by rw [List.length_set]; exact hl3, by rw [List.getElem?_set_ne (by omega)]; exact h256', ho4.setOther (own_ne_blk ho4 hQ4 (by decide)) _ _, ?_, (hb3.trans (hb4.mono hb3.size)).setCell (p := ⟨Q, 34, none⟩) hwle _⟩
            refine (EscV.set (es := escK 1) (l := [92, 34]) (g := w3.heap.size) (hE3.keep fun g l hb => hb4.block g hb.lt) (by omega) hl3 hin hcl ?_).keep fun g l hb => Below.heap_setCell w4 ⟨Q, 34, none⟩ _ g (blk_ne_bytes hQ4 hb (by decide))
            intro j
            by_cases h : j = 34
            · subst h; rfl
            · simp [escK, h]
          clear hE2 hne3 hQ3 ho3 hE3 hb3 hrun0 hin hb4 hQ4 ho2 hg2 hat2 hb2 hQ2
          go_wp2_with fail
          go_roundw
          case rel => exact ⟨2, .inr (.inr (.inl ⟨rfl, rfl⟩)), H4.out⟩
          case measure => decide
        · have cS := (hbw.cell (p := ⟨b, o , none⟩) hbs).trans k0
          have cR := (hbw.cell (p := ⟨b, o + 1, none⟩) hbs).trans k1
          have c256 := Blk.cell hQb h256
          have cX : wr.cell? ⟨Q, 92, none⟩ = some (.slice none 0 0) := by
            rcases hes 92 (by omega) with ⟨_, h⟩ | ⟨l, g, c', h1, _⟩
            · exact Blk.cell hQb h
            · simp [escK] at h1
          have hx : ((⟨#[92]⟩ : ByteArray)[0]).toNat = 92 := rfl
          have hcv : (convert 91 9 (.slice (some ⟨wr.heap.size, 0, none⟩) 1 1)).run Tryz.prog (wr.alloc (.cells #[.int .u8 92] 5)) = .ok (.string ⟨#[92]⟩) (wr.alloc (.cells #[.int .u8 92] 5)) := hconv wr 92 (by omega)
          have HO := Lib.hid ho
          clear ho
          have HBw := Lib.hid hbw
          have HQ := Lib.hid hQb
          have HE := Lib.hid hes
          have HL := Lib.hid hlen
          clear hbw hQb hes hlen
          go_upto_region 34 with (at_builtin; go_must (refine wpList_append_ex _ rfl (.tmp 119) (.tmp 123) _ rfl eiStrs rfl ((HO.out.alloc _).alloc _) rfl (rd_new2 wr _ ⟨#[92]⟩) rfl (namesC_one _) (by simp only [maxLen]; omega) (by omega) (by have := HBw.out.size; simp; omega) ?_; intro T2 c2 w2 ho2 hg2 hat2 hb2; have hne := own_ne_blk ((HO.out.alloc (.cells #[.int .u8 92] 5)).alloc (.cells #[.string ⟨#[92]⟩] 9)) ((HQ.out.alloc (.cells #[.int .u8 92] 5)).alloc (.cells #[.string ⟨#[92]⟩] 9)) (by decide); have hQ2 := ((HQ.out.alloc (.cells #[.int .u8 92] 5)).alloc (.cells #[.string ⟨#[92]⟩] 9)).grown hg2 hne; have z1 := Blk.cell hQ2 h256; have z2 := Blk.frozen hQ2 256))
          have hE2 : EscV w2 (escK 2) row := HE.out.keep fun g l hb => by
            have h1 := hg2.block g (by have := hb.lt; simp; omega) (own_ne_bytes HO.out hb (by decide))
            rw [h1, Below.heap_alloc _ _ _ (by have := hb.lt; simp; omega), Below.heap_alloc _ _ _ hb.lt]
          have hne3 := own_ne_blk ho2 hQ2 (by decide)
          have hQ3 := Blk.set hQ2 256 (.slice T2 3 c2)
          have ho3 := ho2.setOther hne3 256 (.slice T2 3 c2)
          have hE3 : EscV (w2.setCell ⟨Q, 256, none⟩ (.slice T2 3 c2)) (escK 2) (row.set 256 (.slice T2 3 c2)) := (hE2.keep fun g l hb => Below.heap_setCell w2 ⟨Q, 256, none⟩ _ g (blk_ne_bytes hQ2 hb (by decide))).set256 _
          have hb3 : Below w.heap.size w (w2.setCell ⟨Q, 256, none⟩ (.slice T2 3 c2)) := (HBw.out.trans ((((Below.refl _ wr).alloc HBw.out.size _).alloc (by have := HBw.out.size; simp; omega) _).trans hb2)).setCell (p := ⟨Q, 256, none⟩) hwle _
          have hl3 : (row.set 256 (.slice T2 3 c2)).length = 257 := by rw [List.length_set]; exact HL.out
          have h256' : (row.set 256 (.slice T2 3 c2))[256]? = some (.slice T2 3 c2) := List.getElem?_set_self (by rw [HL.out]; omega)
          have hx3 : (row.set 256 (.slice T2 3 c2))[92]? = some (.slice none 0 0) := by
            rcases hE3 92 (by omega) with ⟨_, h⟩ | ⟨l, g, c', h1, _⟩
            · exact h
            · simp [escK] at h1
          generalize w2.setCell ⟨Q, 256, none⟩ (.slice T2 3 c2) = w3 at *
          generalize row.set 256 (.slice T2 3 c2) = row3 at *
          obtain ⟨cb, w4, hrun0, hcl, hin, hb4⟩ := bytes_of w3 ⟨#[92, 92]⟩
          have hrun : (convert 9 91 (.string ⟨#[92, 92]⟩)).run Tryz.prog w3 = .ok (.slice (some ⟨w3.heap.size, 0, none⟩) 2 cb) w4 := hrun0
          have hQ4 := hQ3.below hb4 hQ3.lt
          have z3 := Blk.cell hQ4 hx3
          have z4 := Blk.frozen hQ4 92
          have H4 : Hid (BsAt w Q 3 (w4.setCell ⟨Q, 92, none⟩ (.slice (some ⟨w3.heap.size, 0, none⟩) 2 cb))) := by
            have ho4 := ho3.belowAll hb4
            refine ⟨row3.set 92 (.slice (some ⟨w3.heap.size, 0, none⟩) 2 cb), T2, c2, hQw, Blk.set hQ4 _ _, by rw [List.length_set]; exact hl3, by rw [List.getElem?_set_ne (by omega)]; exact h256', ho4.setOther (own_ne_blk ho4 hQ4 (by decide)) _ _, ?_, (hb3.trans (hb4.mono hb3.size)).setCell (p := ⟨Q, 92, none⟩) hwle _⟩
            refine (EscV.set (es := escK 2) (l := [92, 92]) (g := w3.heap.size) (hE3.keep fun g l hb => hb4.block g hb.lt) (by omega) hl3 hin hcl ?_).keep fun g l hb => Below.heap_setCell w4 ⟨Q, 92, none⟩ _ g (blk_ne_bytes hQ4 hb (by decide))
            intro j
            by_cases h : j = 92
            · subst h; rfl
            · simp [escK, h]
          clear hE2 hne3 hQ3 ho3 hE3 hb3 hrun0 hin hb4 hQ4 ho2 hg2 hat2 hb2 hQ2
          go_wp2_with fail
          go_roundw
          case rel => exact ⟨3, .inr (.inr (.inr ⟨rfl, rfl⟩)), H4.out⟩
          case measure => decide
        · go_wp2_with fail
          go_ret
          exact ⟨Q, rfl, row, T, ct, hQw, hQb, hlen, h256, ho, hes, hbw⟩
/-- A byteStringReplacer at Q that knows the three bytes. -/
def Repl (w : World) (Q : Nat) : Prop := ∃ row A c, Blk w Q 186 row ∧ row.length = 257 ∧ row[256]? = some (.slice A 3 c) ∧ (∃ base, Own w base 9 1 A 3 c (namesC repS)) ∧ EscV w (escK 3) row
set_option maxRecDepth 100000 in
set_option maxHeartbeats 1000000 in
theorem buildOnce_any (R b o c : Nat) (d s : Int) (r : Value) (B B0 : Nat) (w : World) (hw : RplAt w R d s r (.slice (some ⟨b, o, none⟩) 6 c)) (hr : Rd w B 1 (some ⟨b, o, none⟩) (namesC pairsS)) (hB : B ≤ w.heap.size) (hR : B0 ≤ R) :
    Calls Tryz.prog 138 #[.pointer (some ⟨R, 0, none⟩)] w fun e w' => e = .returned (.tuple #[]) ∧ ∃ Q, w.heap.size ≤ Q ∧ Repl w' Q ∧ RplAt w' R d s (.iface 187 (.pointer (some ⟨Q, 0, none⟩))) (.slice none 0 0) ∧ Below B0 w w' := by
  have HB := Lib.hid (build_any R b o c d s r B w hw hr hB)
  have hlt := Blk.lt hw
  have hB0 : B0 ≤ w.heap.size := by omega
  have HW := Lib.hid hw
  clear hr hw
  go_enter Tryz.func138, Tryz.ntmps138
  go_wp2_with (go_at_call 148; refine (HB.out).mono ?_; rintro e w1 ⟨Q, rfl, row, A, ca, hQw, hQ, hl, h256, ho, he, hb⟩; have h1 : RplAt w1 R d s r (.slice (some ⟨b, o, none⟩) 6 c) := Blk.below HW.out hb hlt; have y3 := Blk.cell h1 (j := 3) rfl; have y4 := Blk.cell h1 (j := 4) rfl; have z3 := Blk.frozen h1 3; have z4 := Blk.frozen h1 4)
  go_end0
  have hRQ : R ≠ Q := by omega
  have keep : ∀ g, g ≠ R → ((w1.setCell ⟨R, 3, none⟩ (.iface 187 (.pointer (some ⟨Q, 0, none⟩)))).setCell ⟨R, 4, none⟩ (.slice none 0 0)).heap[g]? = w1.heap[g]? := fun g hg => (Below.heap_setCell _ ⟨R, 4, none⟩ _ g hg).trans (Below.heap_setCell _ ⟨R, 3, none⟩ _ g hg)
  refine ⟨rfl, Q, hQw, ⟨row, A, ca, hQ.keep (keep Q (fun e => hRQ e.symm)), hl, h256, ?_, he.keep fun g l hg => keep g (blk_ne_bytes h1 hg (by decide))⟩, ?_, ?_⟩
  · have ha := own_ne_blk ho h1 (by decide)
    exact ⟨_, (ho.setOther ha 3 (.iface 187 (.pointer (some ⟨Q, 0, none⟩)))).setOther ha 4 (.slice none 0 0)⟩
  · exact Blk.set (Blk.set h1 3 _) 4 _
  · exact ((hb.mono hB0).setCell (p := ⟨R, 3, none⟩) hR _).setCell (p := ⟨R, 4, none⟩) hR _
end
section
open Go.RowKit
/-- A byte as a label's text shows it. -/
def escB (c : UInt8) : List UInt8 := (escK 3 c.toNat).getD [c]
def escL (l : List UInt8) : List UInt8 := l.flatMap escB
def escAny (l : List UInt8) : Bool := l.any fun c => (escK 3 c.toNat).isSome
theorem escK_two {k j : Nat} {l : List UInt8} (h : escK k j = some l) : l.length = 2 := by
  unfold escK at h
  split at h
  · injection h with h; subst h; rfl
  · split at h
    · injection h with h; subst h; rfl
    · split at h
      · injection h with h; subst h; rfl
      · cases h
theorem escL_add {l : List UInt8} {k : Nat} {c : UInt8} (h : l[k]? = some c) : escL (l.take (k + 1)) = escL (l.take k) ++ escB c := by
  unfold escL
  rw [List.take_add_one, h, Option.toList_some, List.flatMap_append]
  simp
theorem escAny_add {l : List UInt8} {k : Nat} {c : UInt8} (h : l[k]? = some c) : escAny (l.take (k + 1)) = (escAny (l.take k) || (escK 3 c.toNat).isSome) := by
  unfold escAny
  rw [List.take_add_one, h, Option.toList_some, List.any_append]
  simp
theorem escB_some {c : UInt8} {l : List UInt8} (h : escK 3 c.toNat = some l) : escB c = l := by simp [escB, h]
theorem escB_none {c : UInt8} (h : escK 3 c.toNat = none) : escB c = [c] := by simp [escB, h]
theorem escL_no : ∀ {l : List UInt8}, escAny l = false → escL l = l
  | [], _ => rfl
  | c :: r, h => by
    simp only [escAny, List.any_cons, Bool.or_eq_false_iff] at h
    have h1 : escK 3 c.toNat = none := by simpa using h.1
    have h2 : escL r = r := escL_no h.2
    show escB c ++ escL r = c :: r
    rw [escB_none h1, h2]
    rfl
theorem escB_len (c : UInt8) : 1 ≤ (escB c).length ∧ (escB c).length ≤ 2 := by
  cases h : escK 3 c.toNat with
  | none => rw [escB_none h]; simp
  | some l => rw [escB_some h, escK_two h]; omega
theorem escL_len : ∀ (l : List UInt8), l.length ≤ (escL l).length ∧ (escL l).length ≤ 2 * l.length
  | [] => by decide
  | c :: r => by
    have h1 := escB_len c
    have h2 := escL_len r
    have h3 : (escL (c :: r)).length = (escB c).length + (escL r).length := by
      show (escB c ++ escL r).length = _
      rw [List.length_append]
    simp only [List.length_cons]
    omega
theorem escL_part (l : List UInt8) (k : Nat) : (escL l).length = (escL (l.take k)).length + (escL (l.drop k)).length := by
  conv => lhs; rw [← List.take_append_drop k l]
  unfold escL
  rw [List.flatMap_append, List.length_append]
/-- How many bytes are wanted, as far as k. -/
def needN (l : List UInt8) (k : Nat) : Nat := (l.length - k) + (escL (l.take k)).length
theorem needN_add {l : List UInt8} {k : Nat} {c : UInt8} (h : l[k]? = some c) : needN l (k + 1) + 1 = needN l k + (escB c).length := by
  have hk := (List.getElem?_eq_some_iff.1 h).1
  unfold needN
  rw [escL_add h, List.length_append]
  omega
theorem str_at {s : ByteArray} {k : Nat} (h : k < s.size) : s.data.toList[k]? = some s[k] := by
  have : k < s.data.toList.length := by rw [← Lib.size_eq]; exact h
  rw [List.getElem?_eq_getElem this]
  rfl
/-- Bytes as one row of cells. -/
def bytesV (l : List UInt8) : List Value := l.map fun c => .int .u8 (c.toNat : Int)
theorem bytesV_len (l : List UInt8) : (bytesV l).length = l.length := by simp [bytesV]
/-- The buffer as far as k bytes of the text are through: the rest is nought. -/
def bufC (l : List UInt8) (k : Nat) : List Value := bytesV (escL (l.take k)) ++ List.replicate ((escL l).length - (escL (l.take k)).length) (.int .u8 0)
theorem bufC_len (l : List UInt8) (k : Nat) : (bufC l k).length = (escL l).length := by
  have := escL_part l k
  simp only [bufC, List.length_append, bytesV_len, List.length_replicate]
  omega
theorem drop_len {l : List UInt8} {k : Nat} {c : UInt8} (h : l[k]? = some c) : (escL (l.take k)).length + (escB c).length ≤ (escL l).length := by
  have h1 := escL_part l (k + 1)
  rw [escL_add h, List.length_append] at h1
  omega
theorem bufC_step {l : List UInt8} {k : Nat} {c : UInt8} (h : l[k]? = some c) :
    (bufC l k).take (escL (l.take k)).length ++ bytesV (escB c) ++ (bufC l k).drop ((escL (l.take k)).length + (escB c).length) = bufC l (k + 1) := by
  have hd := drop_len h
  have e1 : (bufC l k).take (escL (l.take k)).length = bytesV (escL (l.take k)) := by
    unfold bufC
    rw [List.take_append_of_le_length (by rw [bytesV_len]; omega), ← bytesV_len, List.take_length]
  have e2 : (bufC l k).drop ((escL (l.take k)).length + (escB c).length) = List.replicate ((escL l).length - ((escL (l.take k)).length + (escB c).length)) (.int .u8 0) := by
    unfold bufC
    rw [List.drop_append, bytesV_len, List.drop_of_length_le (by rw [bytesV_len]; omega), List.nil_append, List.drop_replicate]
    congr 1
    omega
  rw [e1, e2]
  unfold bufC
  rw [escL_add h, List.length_append]
  simp [bytesV]
theorem bufC_set {l : List UInt8} {k : Nat} {c : UInt8} (h : l[k]? = some c) (h1 : escB c = [c]) :
    (bufC l k).set (escL (l.take k)).length (.int .u8 (c.toNat : Int)) = bufC l (k + 1) := by
  have h2 := bufC_step h
  rw [h1] at h2
  rw [← h2]
  have hd := drop_len h
  rw [h1] at hd
  simp only [List.length_singleton] at hd ⊢
  have hl := bufC_len l k
  rw [List.set_eq_take_append_cons_drop, if_pos (by omega)]
  simp [bytesV]
theorem bufC_at {l : List UInt8} {k : Nat} {c : UInt8} (h : l[k]? = some c) : (bufC l k)[(escL (l.take k)).length]? = some (.int .u8 0) := by
  have hd := drop_len h
  have hb := (escB_len c).1
  unfold bufC
  rw [List.getElem?_append_right (by rw [bytesV_len]; omega), bytesV_len, Nat.sub_self, List.getElem?_replicate, if_pos (by omega)]
def BufAt (w : World) (l : List UInt8) (k : Nat) (w' : World) : Prop := Blk w' w.heap.size 5 (bufC l k) ∧ Below w.heap.size w w'
set_option maxRecDepth 100000 in
set_option maxHeartbeats 2000000 in
theorem repl_any (Q : Nat) (s : ByteArray) (w : World) (hR : Repl w Q) (hs : s.size < 24) :
    Calls Tryz.prog 219 #[.pointer (some ⟨Q, 0, none⟩), .string s] w fun e w' => e = .returned (.string ⟨(escL s.data.toList).toArray⟩) ∧ Below w.heap.size w w' := by
  obtain ⟨row, A, c, hQ, hlen, h256, hrd, hes⟩ := hR
  have c256 := Blk.cell hQ h256
  have hsI : ¬ (24 : Int) ≤ (s.size : Int) := by omega
  have hl : s.data.toList.length = s.size := (Lib.size_eq s).symm
  have HE := Lib.hid hes
  have HQ := Lib.hid hQ
  have HL := Lib.hid hl
  clear hrd hes hQ hl
  go_enter Tryz.func219, Tryz.ntmps219
  go_wp2_with fail
  go_loop [10, 5, 6] (fun i v a => ∃ k : Nat, k ≤ s.size ∧ i = .int .i64 k ∧ v = .int .i64 (needN s.data.toList k : Nat) ∧ a = .bool (escAny (s.data.toList.take k))) (fun i _ _ => s.size - (intOf i).toNat)
  case atStart => exact ⟨0, by omega, rfl, by simp [needN, escL, HL.out], rfl⟩
  case round =>
    obtain ⟨k, hk, rfl, rfl, rfl⟩ := hrel
    by_cases hlt : k < s.size
    · have hltI : (k : Int) < (s.size : Int) := by omega
      have hk1 : IntKind.i64.wrap ((k : Int) + 1) = ((k + 1 : Nat) : Int) := by rw [IntKind.wrap_i64]; omega
      have hat := str_at hlt
      have hn1 := needN_add hat
      have ha1 := escAny_add hat
      have hcl : (s[k]'hlt).toNat < 256 := UInt8.toNat_lt _
      have hle : needN s.data.toList k ≤ 100 := by
        have h1 := (escL_len (s.data.toList.take k)).2
        rw [List.length_take, HL.out] at h1
        unfold needN
        rw [HL.out]
        omega
      rcases HE.out (s[k]'hlt).toNat hcl with ⟨h0, hc⟩ | ⟨l, g, c', h0, hc, hcc, hb⟩
      · have cQ := Blk.cell HQ.out hc
        rw [escB_none h0] at hn1
        rw [h0] at ha1
        have e1 : needN s.data.toList (k + 1) = needN s.data.toList k := by simpa using hn1
        have e2 : escAny (s.data.toList.take (k + 1)) = escAny (s.data.toList.take k) := by simpa using ha1
        have H1 := Lib.hid e1
        have H2 := Lib.hid e2
        clear hn1 ha1 e1 e2 hat h0 hc
        go_wp2_with fail
        go_round
        case rel => exact ⟨k + 1, by omega, by go_num, by rw [H1.out], by rw [H2.out]⟩
        case measure => simp [intOf]; omega
      · have cQ := Blk.cell HQ.out hc
        have hl2 := escK_two h0
        rw [hl2] at cQ
        rw [escB_some h0, hl2] at hn1
        rw [h0] at ha1
        have e1 : needN s.data.toList (k + 1) = needN s.data.toList k + 1 := by omega
        have e2 : escAny (s.data.toList.take (k + 1)) = true := by simpa using ha1
        have hw2 : IntKind.i64.wrap ((needN s.data.toList k : Int) + 1) = ((needN s.data.toList (k + 1) : Nat) : Int) := by rw [e1, IntKind.wrap_i64]; omega
        have H2 := Lib.hid e2
        clear hn1 ha1 e1 e2 hat h0 hc
        go_wp2_with fail
        go_round
        case rel => exact ⟨k + 1, by omega, by go_num, by first | rfl | go_num, by rw [H2.out]⟩
        case measure => simp [intOf]; omega
    · have hkn : k = s.size := by omega
      subst hkn
      have htk : s.data.toList.take s.size = s.data.toList := by rw [← HL.out, List.take_length]
      have hnn : needN s.data.toList s.size = (escL s.data.toList).length := by unfold needN; rw [htk, HL.out]; omega
      rw [htk, hnn]
      cases hany : escAny s.data.toList with
      | false =>
        have HN := Lib.hid (escL_no hany)
        clear hany htk hnn
        go_wp2_with fail
        go_ret
        rw [HN.out]
        exact ⟨rfl, Below.refl _ _⟩
      | true =>
        have hM : (escL s.data.toList).length ≤ 48 := by have := (escL_len s.data.toList).2; rw [HL.out] at this; omega
        obtain ⟨M, hMe⟩ : ∃ M, (escL s.data.toList).length = M := ⟨_, rfl⟩
        rw [hMe] at hM
        have hmk := run_make1 (P := Tryz.prog) (z := .int .u8 0) (bytes := 1) Tryz.underlying91 (by kernel_rfl) rfl M M (Nat.le_refl _) (by omega) (by simp only [maxLen]; omega) w
        have hB0 : BufAt w s.data.toList 0 (w.alloc (.cells (List.replicate M (.int .u8 0)).toArray 5)) := by
          refine ⟨?_, (Below.refl _ _).alloc (Nat.le_refl _) _⟩
          have e0 : bufC s.data.toList 0 = List.replicate M (.int .u8 0) := by simp [bufC, escL, bytesV, ← hMe]
          rw [e0]; exact Blk.new _ _ _
        have HM := Lib.hid hMe
        rw [hMe]
        clear hany htk hnn hMe
        go_wp2_with fail
        go_loopw [14, 13] (fun i v wr => ∃ k : Nat, k ≤ s.size ∧ i = .int .i64 k ∧ v = .int .i64 ((escL (s.data.toList.take k)).length : Nat) ∧ Hid (BufAt w s.data.toList k wr)) (fun i _ _ => s.size - (intOf i).toNat)
        case atStart => exact ⟨0, by omega, rfl, rfl, hB0⟩
        case round =>
          obtain ⟨k, hk, rfl, rfl, HF⟩ := hrel
          obtain ⟨hbuf, hbw⟩ := HF.out
          by_cases hlt : k < s.size
          · have hltI : (k : Int) < (s.size : Int) := by omega
            have hk1 : IntKind.i64.wrap ((k : Int) + 1) = ((k + 1 : Nat) : Int) := by rw [IntKind.wrap_i64]; omega
            have hat := str_at hlt
            have hcl : (s[k]'hlt).toNat < 256 := UInt8.toNat_lt _
            have hQr := HQ.out.below hbw HQ.out.lt
            have hd := drop_len hat
            have hadd := escL_add hat
            have hbl := (escB_len (s[k]'hlt)).1
            rw [HM.out] at hd
            obtain ⟨j, hj⟩ : ∃ j, (escL (s.data.toList.take k)).length = j := ⟨_, rfl⟩
            rw [hj] at hd
            rcases HE.out (s[k]'hlt).toNat hcl with ⟨h0, hc⟩ | ⟨l, g, c', h0, hc, hcc, hb⟩
            · have cQ := Blk.cell hQr hc
              have hset := bufC_set hat (escB_none h0)
              have hzero := bufC_at hat
              rw [hj] at hset hzero
              rw [escB_none h0] at hd hadd
              have hjM : j < M := by simp only [List.length_singleton] at hd; omega
              have hjI : (j : Int) < (M : Int) := by omega
              have cj := Blk.cell hbuf hzero
              have fj := Blk.frozen hbuf j
              have hnew : Hid (BufAt w s.data.toList (k + 1) (wr.setCell ⟨w.heap.size, j, none⟩ (.int .u8 ((s[k]'hlt).toNat : Int)))) := ⟨by rw [← hset]; exact Blk.set hbuf j _, hbw.setCell (p := ⟨w.heap.size, j, none⟩) (Nat.le_refl _) _⟩
              have hj1 : IntKind.i64.wrap ((j : Int) + 1) = (((escL (s.data.toList.take (k + 1))).length : Nat) : Int) := by rw [hadd, List.length_append, hj, IntKind.wrap_i64]; simp; omega
              clear hset hzero hadd hat h0 hc HF hbuf
              rw [hj]
              go_wp2_with fail
              go_roundw
              case rel => exact ⟨k + 1, by omega, by go_num, by first | rfl | go_num, hnew⟩
              case measure => simp [intOf]; omega
            · have cQ := Blk.cell hQr hc
              have hl2 := escK_two h0
              rw [hl2] at cQ
              have hstep := bufC_step hat
              rw [escB_some h0, hl2, hj] at hstep
              rw [escB_some h0] at hadd
              rw [escB_some h0, hl2] at hd
              have hbl2 := bufC_len s.data.toList k
              rw [HM.out] at hbl2
              have hcopy : (Builtin.copy_ #[91, 91] 3 #[.slice (some ⟨w.heap.size, j, none⟩) (M - j) (M - j), .slice (some ⟨g, 0, none⟩) 2 c']).run Tryz.prog wr.drew = .ok (.int .i64 2) (wr.drew.setRow w.heap.size (bufC s.data.toList (k + 1)).toArray) := by
                obtain ⟨cs, fr, hg1, hg2⟩ := hb.keep (hbw.block g hb.lt)
                have := run_copy_row (P := Tryz.prog) wr.drew 91 91 3 5 w.heap.size j (M - j) (M - j) ⟨g, 0, none⟩ 2 c' (bufC s.data.toList k).toArray 5 (bytesV l) Tryz.underlying91 (by kernel_rfl) hbuf (by rw [bytesV_len, hl2]; exact (Nat.min_eq_left (by omega)).symm) (fun i v hv => by
                  simp only [bytesV, List.getElem?_map, Option.map_eq_some_iff] at hv
                  obtain ⟨u, hu, rfl⟩ := hv
                  rw [show (⟨g, 0, none⟩ : Addr).add i = ⟨g, i, none⟩ from by unfold Addr.add; split <;> simp_all, World.cell?, show wr.drew.heap[g]? = _ from hg1]
                  simpa using hg2 i u hu) (by rw [bytesV_len, hl2, List.size_toArray, hbl2]; omega) (fun v hv => by obtain ⟨c, _, rfl⟩ := List.mem_map.1 hv; rfl)
                rw [this, bytesV_len, hl2, hstep]
                rfl
              have hnew : Hid (BufAt w s.data.toList (k + 1) (wr.drew.setRow w.heap.size (bufC s.data.toList (k + 1)).toArray)) := ⟨setRow_heap wr.drew w.heap.size _ _ _ _ hbuf, below_setRow (hbw.drew) (Nat.le_refl _) _⟩
              have hj1 : IntKind.i64.wrap ((j : Int) + 2) = (((escL (s.data.toList.take (k + 1))).length : Nat) : Int) := by rw [hadd, List.length_append, hj, hl2, IntKind.wrap_i64]; omega
              have hjI : (j : Int) ≤ (M : Int) := by omega
              have hjM : j ≤ M := by omega
              clear hadd hat h0 hc HF hbuf hstep
              rw [hj]
              go_wp2_with fail
              go_region
              go_wp2_with fail
              go_roundw
              case rel => exact ⟨k + 1, by omega, by go_num, by first | rfl | go_num, hnew⟩
              case measure => simp [intOf]; omega
          · have hkn : k = s.size := by omega
            subst hkn
            have htk : s.data.toList.take s.size = s.data.toList := by rw [← HL.out, List.take_length]
            have hbc : bufC s.data.toList s.size = bytesV (escL s.data.toList) := by simp [bufC, htk]
            rw [hbc] at hbuf
            have hcv : (convert 91 9 (.slice (some ⟨w.heap.size, 0, none⟩) M M)).run Tryz.prog wr = .ok (.string ⟨(escL s.data.toList).toArray⟩) wr := by
              rw [← HM.out]
              refine run_convert_bytes_back (P := Tryz.prog) wr 91 9 5 ⟨w.heap.size, 0, none⟩ (escL s.data.toList).length (escL s.data.toList) Tryz.underlying91 Tryz.underlying5 Tryz.underlying9 (fun i hi => ?_)
              rw [show (⟨w.heap.size, 0, none⟩ : Addr).add i = ⟨w.heap.size, i, none⟩ from by unfold Addr.add; split <;> simp_all]
              exact Blk.cell hbuf (by simp [bytesV, List.getElem?_eq_getElem hi])
            clear hbuf hbc htk
            go_wp2_with fail
            go_ret
            exact ⟨rfl, hbw⟩
end
section
open Go.RowKit
/-- What the first k of the three bytes add. -/
def needC (l : List UInt8) (k : Nat) : Nat := l.length + (([10, 34, 92].take k).map fun c => Lib.countByte l c).sum
def anyC (l : List UInt8) (k : Nat) : Bool := ([10, 34, 92].take k).any fun c => decide (0 < Lib.countByte l c)
theorem count_len (l : List UInt8) (c : UInt8) : Lib.countByte l c ≤ l.length := List.count_le_length
theorem esc_three (c : UInt8) : ((escB c).length : Nat) = 1 + (if c = 10 then 1 else 0) + (if c = 34 then 1 else 0) + (if c = 92 then 1 else 0) ∧ (escK 3 c.toNat).isSome = (decide (c = 10) || decide (c = 34) || decide (c = 92)) := by
  have h : ∀ n : Nat, n < 256 → ((escB (UInt8.ofNat n)).length : Nat) = 1 + (if UInt8.ofNat n = 10 then 1 else 0) + (if UInt8.ofNat n = 34 then 1 else 0) + (if UInt8.ofNat n = 92 then 1 else 0) ∧ (escK 3 (UInt8.ofNat n).toNat).isSome = (decide (UInt8.ofNat n = 10) || decide (UInt8.ofNat n = 34) || decide (UInt8.ofNat n = 92)) := by decide +kernel
  have := h c.toNat (UInt8.toNat_lt _)
  rwa [UInt8.ofNat_toNat] at this
theorem needC_all : ∀ l : List UInt8, needC l 3 = (escL l).length
  | [] => rfl
  | c :: r => by
    have ih := needC_all r
    have e : (escL (c :: r)).length = (escB c).length + (escL r).length := by
      show (escB c ++ escL r).length = _
      rw [List.length_append]
    rw [e, (esc_three c).1, ← ih]
    simp only [needC, Lib.countByte, List.take, List.map_cons, List.map_nil, List.sum_cons, List.sum_nil, List.length_cons, List.count_cons, beq_iff_eq]
    omega
theorem anyC_all : ∀ l : List UInt8, anyC l 3 = escAny l
  | [] => rfl
  | c :: r => by
    have ih := anyC_all r
    have e : escAny (c :: r) = ((escK 3 c.toNat).isSome || escAny r) := rfl
    rw [e, (esc_three c).2, ← ih, Bool.eq_iff_iff]
    simp only [anyC, Lib.countByte, List.take, List.any_cons, List.any_nil, List.count_cons, beq_iff_eq, Bool.or_eq_true, decide_eq_true_eq, Bool.false_eq_true, or_false]
    by_cases h1 : c = 10 <;> by_cases h2 : c = 34 <;> by_cases h3 : c = 92 <;> simp_all <;> omega
theorem needC_0 (l : List UInt8) : needC l (0 + 1) = needC l 0 + Lib.countByte l 10 := by simp [needC] <;> omega
theorem anyC_0 (l : List UInt8) : anyC l (0 + 1) = (anyC l 0 || decide (0 < Lib.countByte l 10)) := by simp [anyC] <;> first | done | (rw [Bool.or_assoc])
theorem needC_1 (l : List UInt8) : needC l (1 + 1) = needC l 1 + Lib.countByte l 34 := by simp [needC] <;> omega
theorem anyC_1 (l : List UInt8) : anyC l (1 + 1) = (anyC l 1 || decide (0 < Lib.countByte l 34)) := by simp [anyC] <;> first | done | (rw [Bool.or_assoc])
theorem needC_2 (l : List UInt8) : needC l (2 + 1) = needC l 2 + Lib.countByte l 92 := by simp [needC] <;> omega
theorem anyC_2 (l : List UInt8) : anyC l (2 + 1) = (anyC l 2 || decide (0 < Lib.countByte l 92)) := by simp [anyC] <;> first | done | (rw [Bool.or_assoc])
theorem needC_le (l : List UInt8) (k : Nat) : needC l k ≤ 4 * l.length := by
  have h1 := count_len l 10
  have h2 := count_len l 34
  have h3 := count_len l 92
  unfold needC
  match k with
  | 0 => simp; omega
  | 1 => simp; omega
  | 2 => simp; omega
  | k + 3 => simp [List.take_of_length_le]; omega
set_option maxRecDepth 100000 in
set_option maxHeartbeats 2000000 in
theorem repl_long (Q : Nat) (s : ByteArray) (w : World) (hR : Repl w Q) (hs : 24 ≤ s.size) (hs2 : s.size ≤ 1099511627776) :
    Calls Tryz.prog 219 #[.pointer (some ⟨Q, 0, none⟩), .string s] w fun e w' => e = .returned (.string ⟨(escL s.data.toList).toArray⟩) ∧ Below w.heap.size w w' := by
  obtain ⟨row, A, c, hQ, hlen, h256, ⟨base, hrd⟩, hes⟩ := hR
  have c256 := Blk.cell hQ h256
  have hsI : (24 : Int) ≤ (s.size : Int) := by omega
  have hl : s.data.toList.length = s.size := (Lib.size_eq s).symm
  have hA : ∃ g, A = some ⟨g, 0, none⟩ ∧ w.cell? ⟨g, 0, none⟩ = some (.string ⟨#[10]⟩) ∧ w.cell? ⟨g, 1, none⟩ = some (.string ⟨#[34]⟩) ∧ w.cell? ⟨g, 2, none⟩ = some (.string ⟨#[92]⟩) := by
    have hf := hrd.form
    have hr := hrd.rd
    rcases hf with ⟨h1, h2, _⟩ | ⟨g, rfl, _, _⟩
    · omega
    · refine ⟨g, rfl, ?_, ?_, ?_⟩
      · obtain ⟨b, o, e, _, h⟩ := hr.at1 (k := 0) (v0 := .string ⟨#[10]⟩) rfl
        injection e with e; injection e with e1 e2; subst e1 e2; exact h
      · obtain ⟨b, o, e, _, h⟩ := hr.at1 (k := 1) (v0 := .string ⟨#[34]⟩) rfl
        injection e with e; injection e with e1 e2; subst e1 e2; exact h
      · obtain ⟨b, o, e, _, h⟩ := hr.at1 (k := 2) (v0 := .string ⟨#[92]⟩) rfl
        injection e with e; injection e with e1 e2; subst e1 e2; exact h
  obtain ⟨gA, rfl, a0, a1, a2⟩ := hA
  have HE := Lib.hid hes
  have HQ := Lib.hid hQ
  have HL := Lib.hid hl
  clear hrd hes hQ hl
  go_enter Tryz.func219, Tryz.ntmps219
  go_wp2_with fail
  go_loopw [32, 5, 6] (fun i v a wr => ∃ k q : Nat, wr = w.drewN q ∧ k ≤ 3 ∧ i = .int .i64 k ∧ v = .int .i64 (needC s.data.toList k : Nat) ∧ a = .bool (anyC s.data.toList k)) (fun i _ _ _ => 3 - (intOf i).toNat)
  case atStart => exact ⟨0, 0, rfl, by omega, rfl, by simp [needC, HL.out], rfl⟩
  case round =>
    obtain ⟨k, z, rfl, hk, rfl, rfl, rfl⟩ := hrel
    have hnle := needC_le s.data.toList k
    rw [HL.out] at hnle
    rcases (show k = 0 ∨ k = 1 ∨ k = 2 ∨ k = 3 by omega) with rfl | rfl | rfl | rfl
    · have HN := Lib.hid (needC_0 s.data.toList)
      have HA := Lib.hid (anyC_0 s.data.toList)
      have HCt : ∀ W : World, Hid (Calls Tryz.prog 221 #[.string s, .string ⟨#[10]⟩] W fun e w' => e = .returned (.int .i64 (Lib.countByte s.data.toList 10)) ∧ w' = W) := fun W => Tryz.strings_Count_one s 10 W
      have hcle := count_len s.data.toList 10
      rw [HL.out] at hcle
      obtain ⟨q, hq⟩ : ∃ q, Lib.countByte s.data.toList 10 = q := ⟨_, rfl⟩
      rw [hq] at HN HA HCt hcle
      have hx : ((⟨#[10]⟩ : ByteArray)[0]).toNat = 10 := rfl
      have c10 : ∃ g c', w.cell? ⟨Q, 10, none⟩ = some (.slice (some ⟨g, 0, none⟩) 2 c') := by
        rcases HE.out 10 (by omega) with ⟨h0, _⟩ | ⟨l, g, c', h0, hc, _, _⟩
        · simp [escK] at h0
        · have := Blk.cell HQ.out hc
          rw [escK_two h0] at this
          exact ⟨g, c', this⟩
      obtain ⟨g, c', cQ⟩ := c10
      clear hq
      by_cases hq0 : q = 0
      · subst hq0
        have e1 : needC s.data.toList (0 + 1) = needC s.data.toList 0 := by have := HN.out; omega
        have e2 : anyC s.data.toList (0 + 1) = anyC s.data.toList 0 := by rw [HA.out]; simp
        have H1 := Lib.hid e1
        have H2 := Lib.hid e2
        clear e1 e2
        go_wp2_with (go_at_call 221; refine ((HCt _).out).mono ?_; rintro e w' ⟨rfl, rfl⟩)
        go_roundw
        case rel => exact ⟨0 + 1, z, rfl, by omega, by go_num, by rw [H1.out], by rw [H2.out]⟩
        case measure => decide
      · have hqb : ((q : Int) != 0) = true := by rw [bne_iff_ne]; omega
        have hw2 : IntKind.i64.wrap ((needC s.data.toList 0 : Int) + (q : Int)) = ((needC s.data.toList (0 + 1) : Nat) : Int) := by rw [HN.out, IntKind.wrap_i64]; omega
        have H2 : Hid (anyC s.data.toList (0 + 1) = true) := by show _ = _; rw [HA.out, decide_eq_true (by omega), Bool.or_true]
        clear hq0
        go_wp2_with (go_at_call 221; refine ((HCt _).out).mono ?_; rintro e w' ⟨rfl, rfl⟩)
        go_quiet (fail)
        go_wp2_with fail
        go_roundw
        case rel => exact ⟨0 + 1, _, rfl, by omega, by go_num, by first | rfl | go_num, by rw [H2.out]⟩
        case measure => decide
    · have HN := Lib.hid (needC_1 s.data.toList)
      have HA := Lib.hid (anyC_1 s.data.toList)
      have HCt : ∀ W : World, Hid (Calls Tryz.prog 221 #[.string s, .string ⟨#[34]⟩] W fun e w' => e = .returned (.int .i64 (Lib.countByte s.data.toList 34)) ∧ w' = W) := fun W => Tryz.strings_Count_one s 34 W
      have hcle := count_len s.data.toList 34
      rw [HL.out] at hcle
      obtain ⟨q, hq⟩ : ∃ q, Lib.countByte s.data.toList 34 = q := ⟨_, rfl⟩
      rw [hq] at HN HA HCt hcle
      have hx : ((⟨#[34]⟩ : ByteArray)[0]).toNat = 34 := rfl
      have c34 : ∃ g c', w.cell? ⟨Q, 34, none⟩ = some (.slice (some ⟨g, 0, none⟩) 2 c') := by
        rcases HE.out 34 (by omega) with ⟨h0, _⟩ | ⟨l, g, c', h0, hc, _, _⟩
        · simp [escK] at h0
        · have := Blk.cell HQ.out hc
          rw [escK_two h0] at this
          exact ⟨g, c', this⟩
      obtain ⟨g, c', cQ⟩ := c34
      clear hq
      by_cases hq0 : q = 0
      · subst hq0
        have e1 : needC s.data.toList (1 + 1) = needC s.data.toList 1 := by have := HN.out; omega
        have e2 : anyC s.data.toList (1 + 1) = anyC s.data.toList 1 := by rw [HA.out]; simp
        have H1 := Lib.hid e1
        have H2 := Lib.hid e2
        clear e1 e2
        go_wp2_with (go_at_call 221; refine ((HCt _).out).mono ?_; rintro e w' ⟨rfl, rfl⟩)
        go_roundw
        case rel => exact ⟨1 + 1, z, rfl, by omega, by go_num, by rw [H1.out], by rw [H2.out]⟩
        case measure => decide
      · have hqb : ((q : Int) != 0) = true := by rw [bne_iff_ne]; omega
        have hw2 : IntKind.i64.wrap ((needC s.data.toList 1 : Int) + (q : Int)) = ((needC s.data.toList (1 + 1) : Nat) : Int) := by rw [HN.out, IntKind.wrap_i64]; omega
        have H2 : Hid (anyC s.data.toList (1 + 1) = true) := by show _ = _; rw [HA.out, decide_eq_true (by omega), Bool.or_true]
        clear hq0
        go_wp2_with (go_at_call 221; refine ((HCt _).out).mono ?_; rintro e w' ⟨rfl, rfl⟩)
        go_quiet (fail)
        go_wp2_with fail
        go_roundw
        case rel => exact ⟨1 + 1, _, rfl, by omega, by go_num, by first | rfl | go_num, by rw [H2.out]⟩
        case measure => decide
    · have HN := Lib.hid (needC_2 s.data.toList)
      have HA := Lib.hid (anyC_2 s.data.toList)
      have HCt : ∀ W : World, Hid (Calls Tryz.prog 221 #[.string s, .string ⟨#[92]⟩] W fun e w' => e = .returned (.int .i64 (Lib.countByte s.data.toList 92)) ∧ w' = W) := fun W => Tryz.strings_Count_one s 92 W
      have hcle := count_len s.data.toList 92
      rw [HL.out] at hcle
      obtain ⟨q, hq⟩ : ∃ q, Lib.countByte s.data.toList 92 = q := ⟨_, rfl⟩
      rw [hq] at HN HA HCt hcle
      have hx : ((⟨#[92]⟩ : ByteArray)[0]).toNat = 92 := rfl
      have c92 : ∃ g c', w.cell? ⟨Q, 92, none⟩ = some (.slice (some ⟨g, 0, none⟩) 2 c') := by
        rcases HE.out 92 (by omega) with ⟨h0, _⟩ | ⟨l, g, c', h0, hc, _, _⟩
        · simp [escK] at h0
        · have := Blk.cell HQ.out hc
          rw [escK_two h0] at this
          exact ⟨g, c', this⟩
      obtain ⟨g, c', cQ⟩ := c92
      clear hq
      by_cases hq0 : q = 0
      · subst hq0
        have e1 : needC s.data.toList (2 + 1) = needC s.data.toList 2 := by have := HN.out; omega
        have e2 : anyC s.data.toList (2 + 1) = anyC s.data.toList 2 := by rw [HA.out]; simp
        have H1 := Lib.hid e1
        have H2 := Lib.hid e2
        clear e1 e2
        go_wp2_with (go_at_call 221; refine ((HCt _).out).mono ?_; rintro e w' ⟨rfl, rfl⟩)
        go_roundw
        case rel => exact ⟨2 + 1, z, rfl, by omega, by go_num, by rw [H1.out], by rw [H2.out]⟩
        case measure => decide
      · have hqb : ((q : Int) != 0) = true := by rw [bne_iff_ne]; omega
        have hw2 : IntKind.i64.wrap ((needC s.data.toList 2 : Int) + (q : Int)) = ((needC s.data.toList (2 + 1) : Nat) : Int) := by rw [HN.out, IntKind.wrap_i64]; omega
        have H2 : Hid (anyC s.data.toList (2 + 1) = true) := by show _ = _; rw [HA.out, decide_eq_true (by omega), Bool.or_true]
        clear hq0
        go_wp2_with (go_at_call 221; refine ((HCt _).out).mono ?_; rintro e w' ⟨rfl, rfl⟩)
        go_quiet (fail)
        go_wp2_with fail
        go_roundw
        case rel => exact ⟨2 + 1, _, rfl, by omega, by go_num, by first | rfl | go_num, by rw [H2.out]⟩
        case measure => decide
    · rw [needC_all, anyC_all]
      have htk : s.data.toList.take s.size = s.data.toList := by rw [← HL.out, List.take_length]
      have hnn : True := trivial
      have HBQ : Hid (Below w.heap.size w (w.drewN z)) := below_drewN (Below.refl _ _) z
      replace HE : Hid (EscV (w.drewN z) (escK 3) row) := HE.out
      replace HQ : Hid (Blk (w.drewN z) Q 186 row) := HQ.out
      clear a0 a1 a2 c256 hnle
      generalize w.drewN z = w1 at *
      cases hany : escAny s.data.toList with
      | false =>
        have HN := Lib.hid (escL_no hany)
        clear hany htk hnn
        go_wp2_with fail
        go_ret
        rw [HN.out]
        exact ⟨rfl, HBQ.out⟩
      | true =>
        have hM : (escL s.data.toList).length ≤ 2199023255552 := by have := (escL_len s.data.toList).2; rw [HL.out] at this; omega
        obtain ⟨M, hMe⟩ : ∃ M, (escL s.data.toList).length = M := ⟨_, rfl⟩
        rw [hMe] at hM
        have hmk := run_make1 (P := Tryz.prog) (z := .int .u8 0) (bytes := 1) Tryz.underlying91 (by kernel_rfl) rfl M M (Nat.le_refl _) (by omega) (by simp only [maxLen]; omega) w1
        have hB0 : BufAt w1 s.data.toList 0 (w1.alloc (.cells (List.replicate M (.int .u8 0)).toArray 5)) := by
          refine ⟨?_, (Below.refl _ _).alloc (Nat.le_refl _) _⟩
          have e0 : bufC s.data.toList 0 = List.replicate M (.int .u8 0) := by simp [bufC, escL, bytesV, ← hMe]
          rw [e0]; exact Blk.new _ _ _
        have HM := Lib.hid hMe
        rw [hMe]
        clear hany htk hnn hMe
        go_wp2_with fail
        go_loopw [14, 13] (fun i v wr => ∃ k : Nat, k ≤ s.size ∧ i = .int .i64 k ∧ v = .int .i64 ((escL (s.data.toList.take k)).length : Nat) ∧ Hid (BufAt w1 s.data.toList k wr)) (fun i _ _ => s.size - (intOf i).toNat)
        case atStart => exact ⟨0, by omega, rfl, rfl, hB0⟩
        case round =>
          obtain ⟨k, hk, rfl, rfl, HF⟩ := hrel
          obtain ⟨hbuf, hbw⟩ := HF.out
          by_cases hlt : k < s.size
          · have hltI : (k : Int) < (s.size : Int) := by omega
            have hk1 : IntKind.i64.wrap ((k : Int) + 1) = ((k + 1 : Nat) : Int) := by rw [IntKind.wrap_i64]; omega
            have hat := str_at hlt
            have hcl : (s[k]'hlt).toNat < 256 := UInt8.toNat_lt _
            have hQr := HQ.out.below hbw HQ.out.lt
            have hd := drop_len hat
            have hadd := escL_add hat
            have hbl := (escB_len (s[k]'hlt)).1
            rw [HM.out] at hd
            obtain ⟨j, hj⟩ : ∃ j, (escL (s.data.toList.take k)).length = j := ⟨_, rfl⟩
            rw [hj] at hd
            rcases HE.out (s[k]'hlt).toNat hcl with ⟨h0, hc⟩ | ⟨l, g, c', h0, hc, hcc, hb⟩
            · have cQ := Blk.cell hQr hc
              have hset := bufC_set hat (escB_none h0)
              have hzero := bufC_at hat
              rw [hj] at hset hzero
              rw [escB_none h0] at hd hadd
              have hjM : j < M := by simp only [List.length_singleton] at hd; omega
              have hjI : (j : Int) < (M : Int) := by omega
              have cj := Blk.cell hbuf hzero
              have fj := Blk.frozen hbuf j
              have hnew : Hid (BufAt w1 s.data.toList (k + 1) (wr.setCell ⟨w1.heap.size, j, none⟩ (.int .u8 ((s[k]'hlt).toNat : Int)))) := ⟨by rw [← hset]; exact Blk.set hbuf j _, hbw.setCell (p := ⟨w1.heap.size, j, none⟩) (Nat.le_refl _) _⟩
              have hj1 : IntKind.i64.wrap ((j : Int) + 1) = (((escL (s.data.toList.take (k + 1))).length : Nat) : Int) := by rw [hadd, List.length_append, hj, IntKind.wrap_i64]; simp; omega
              clear hset hzero hadd hat h0 hc HF hbuf
              rw [hj]
              go_wp2_with fail
              go_roundw
              case rel => exact ⟨k + 1, by omega, by go_num, by first | rfl | go_num, hnew⟩
              case measure => simp [intOf]; omega
            · have cQ := Blk.cell hQr hc
              have hl2 := escK_two h0
              rw [hl2] at cQ
              have hstep := bufC_step hat
              rw [escB_some h0, hl2, hj] at hstep
              rw [escB_some h0] at hadd
              rw [escB_some h0, hl2] at hd
              have hbl2 := bufC_len s.data.toList k
              rw [HM.out] at hbl2
              have hcopy : (Builtin.copy_ #[91, 91] 3 #[.slice (some ⟨w1.heap.size, j, none⟩) (M - j) (M - j), .slice (some ⟨g, 0, none⟩) 2 c']).run Tryz.prog wr.drew = .ok (.int .i64 2) (wr.drew.setRow w1.heap.size (bufC s.data.toList (k + 1)).toArray) := by
                obtain ⟨cs, fr, hg1, hg2⟩ := hb.keep (hbw.block g hb.lt)
                have := run_copy_row (P := Tryz.prog) wr.drew 91 91 3 5 w1.heap.size j (M - j) (M - j) ⟨g, 0, none⟩ 2 c' (bufC s.data.toList k).toArray 5 (bytesV l) Tryz.underlying91 (by kernel_rfl) hbuf (by rw [bytesV_len, hl2]; exact (Nat.min_eq_left (by omega)).symm) (fun i v hv => by
                  simp only [bytesV, List.getElem?_map, Option.map_eq_some_iff] at hv
                  obtain ⟨u, hu, rfl⟩ := hv
                  rw [show (⟨g, 0, none⟩ : Addr).add i = ⟨g, i, none⟩ from by unfold Addr.add; split <;> simp_all, World.cell?, show wr.drew.heap[g]? = _ from hg1]
                  simpa using hg2 i u hu) (by rw [bytesV_len, hl2, List.size_toArray, hbl2]; omega) (fun v hv => by obtain ⟨c, _, rfl⟩ := List.mem_map.1 hv; rfl)
                rw [this, bytesV_len, hl2, hstep]
                rfl
              have hnew : Hid (BufAt w1 s.data.toList (k + 1) (wr.drew.setRow w1.heap.size (bufC s.data.toList (k + 1)).toArray)) := ⟨setRow_heap wr.drew w1.heap.size _ _ _ _ hbuf, below_setRow (hbw.drew) (Nat.le_refl _) _⟩
              have hj1 : IntKind.i64.wrap ((j : Int) + 2) = (((escL (s.data.toList.take (k + 1))).length : Nat) : Int) := by rw [hadd, List.length_append, hj, hl2, IntKind.wrap_i64]; omega
              have hjI : (j : Int) ≤ (M : Int) := by omega
              have hjM : j ≤ M := by omega
              clear hadd hat h0 hc HF hbuf hstep
              rw [hj]
              go_wp2_with fail
              go_region
              go_wp2_with fail
              go_roundw
              case rel => exact ⟨k + 1, by omega, by go_num, by first | rfl | go_num, hnew⟩
              case measure => simp [intOf]; omega
          · have hkn : k = s.size := by omega
            subst hkn
            have htk : s.data.toList.take s.size = s.data.toList := by rw [← HL.out, List.take_length]
            have hbc : bufC s.data.toList s.size = bytesV (escL s.data.toList) := by simp [bufC, htk]
            rw [hbc] at hbuf
            have hcv : (convert 91 9 (.slice (some ⟨w1.heap.size, 0, none⟩) M M)).run Tryz.prog wr = .ok (.string ⟨(escL s.data.toList).toArray⟩) wr := by
              rw [← HM.out]
              refine run_convert_bytes_back (P := Tryz.prog) wr 91 9 5 ⟨w1.heap.size, 0, none⟩ (escL s.data.toList).length (escL s.data.toList) Tryz.underlying91 Tryz.underlying5 Tryz.underlying9 (fun i hi => ?_)
              rw [show (⟨w1.heap.size, 0, none⟩ : Addr).add i = ⟨w1.heap.size, i, none⟩ from by unfold Addr.add; split <;> simp_all]
              exact Blk.cell hbuf (by simp [bytesV, List.getElem?_eq_getElem hi])
            clear hbuf hbc htk
            go_wp2_with fail
            go_ret
            exact ⟨rfl, HBQ.out.trans (hbw.mono HBQ.out.size)⟩
end
section
open Go.RowKit
theorem repl_all (Q : Nat) (s : ByteArray) (w : World) (hR : Repl w Q) (hs : s.size ≤ 1099511627776) :
    Calls Tryz.prog 219 #[.pointer (some ⟨Q, 0, none⟩), .string s] w fun e w' => e = .returned (.string ⟨(escL s.data.toList).toArray⟩) ∧ Below w.heap.size w w' := by
  by_cases h : s.size < 24
  · exact repl_any Q s w hR h
  · exact repl_long Q s w hR (by omega) hs
set_option maxRecDepth 100000 in
set_option maxHeartbeats 2000000 in
theorem replace_any (R b o c : Nat) (s : ByteArray) (B B0 : Nat) (w : World) (hw : RplAt w R 0 0 .nilIface (.slice (some ⟨b, o, none⟩) 6 c)) (hr : Rd w B 1 (some ⟨b, o, none⟩) (namesC pairsS)) (hB : B ≤ w.heap.size) (hB0 : B0 ≤ R) (hbR : b ≠ R) (hs : s.size ≤ 1099511627776) :
    Calls Tryz.prog 129 #[.pointer (some ⟨R, 0, none⟩), .string s] w fun e w' => e = .returned (.string ⟨(escL s.data.toList).toArray⟩) ∧ Below B0 w w' := by
  have hw1 : RplAt (w.setCell ⟨R, 1, none⟩ (.int .i32 1)) R 0 1 .nilIface (.slice (some ⟨b, o, none⟩) 6 c) := Blk.set hw 1 _
  have hr1 : Rd (w.setCell ⟨R, 1, none⟩ (.int .i32 1)) (w.setCell ⟨R, 1, none⟩ (.int .i32 1)).heap.size 1 (some ⟨b, o, none⟩) (namesC pairsS) := by
    refine ⟨hr.1, fun hn => ?_⟩
    obtain ⟨b', o', e, hb', hc⟩ := hr.2 hn
    injection e with e
    injection e with e1 e2
    subst e1 e2
    exact ⟨b, o, rfl, by simp; omega, fun k x j v hx hv => (World.cell?_setCell_other _ _ _ _ (fun e => hbR (congrArg Addr.block e).symm)).trans (hc k x j v hx hv)⟩
  have hO := once_any R .nilIface (.slice (some ⟨b, o, none⟩) 6 c) (fun w' => ∃ Q, (w.setCell ⟨R, 1, none⟩ (.int .i32 1)).heap.size ≤ Q ∧ Repl w' Q ∧ RplAt w' R 0 1 (.iface 187 (.pointer (some ⟨Q, 0, none⟩))) (.slice none 0 0) ∧ Below B0 (w.setCell ⟨R, 1, none⟩ (.int .i32 1)) w') w hw
    (buildOnce_any R b o c 0 1 .nilIface _ B0 _ hw1 hr1 (Nat.le_refl _) hB0) (fun w' h => by obtain ⟨Q, _, _, h, _⟩ := h; exact ⟨_, _, h⟩)
  have HO := Lib.hid hO
  have hlt := Blk.lt hw
  have hmf : ∀ (fn : Fn) (first cap : Array Value) (w : World), (Instr.makeFunc fn first cap).run Tryz.prog w = .ok (.func fn first cap) w := fun _ _ _ _ => rfl
  clear hO hr1 hw1 hr hw
  go_enter Tryz.func129, Tryz.ntmps129
  go_wp2_with fail
  refine (HO.out).mono ?_
  rintro e w3 ⟨rfl, w2, ⟨Q, hQ, hrep, hrp, hb⟩, rfl⟩
  have h3 : RplAt ((w2.drew.setCell ⟨R, 0, none⟩ (.int .u32 1)).setCell ⟨R, 1, none⟩ (.int .i32 0)) R 1 0 (.iface 187 (.pointer (some ⟨Q, 0, none⟩))) (.slice none 0 0) := Blk.set (Blk.set (w := w2.drew) hrp 0 _) 1 _
  have hRQ : R ≠ Q := by
    have : w.heap.size ≤ Q := by simpa using hQ
    omega
  have keep : ∀ g, g ≠ R → ((w2.drew.setCell ⟨R, 0, none⟩ (.int .u32 1)).setCell ⟨R, 1, none⟩ (.int .i32 0)).heap[g]? = w2.heap[g]? := fun g hg => (Below.heap_setCell _ ⟨R, 1, none⟩ _ g hg).trans (Below.heap_setCell w2.drew ⟨R, 0, none⟩ _ g hg)
  have hrep3 : Repl ((w2.drew.setCell ⟨R, 0, none⟩ (.int .u32 1)).setCell ⟨R, 1, none⟩ (.int .i32 0)) Q := by
    obtain ⟨row, A, ca, h1, h2, h3', h4, h5⟩ := hrep
    refine ⟨row, A, ca, h1.keep (keep Q (fun e => hRQ e.symm)), h2, h3', ?_, h5.keep fun g l hg => keep g (blk_ne_bytes hrp hg (by decide))⟩
    obtain ⟨base, ho⟩ := h4
    have ha := own_ne_blk ho hrp (by decide)
    exact ⟨base, (ho.drew.setOther ha 0 (.int .u32 1)).setOther ha 1 (.int .i32 0)⟩
  have hb3 : Below B0 w ((w2.drew.setCell ⟨R, 0, none⟩ (.int .u32 1)).setCell ⟨R, 1, none⟩ (.int .i32 0)) := ((((Below.refl B0 w).setCell (p := ⟨R, 1, none⟩) hB0 (.int .i32 1)).trans hb).drew.setCell (p := ⟨R, 0, none⟩) hB0 _).setCell (p := ⟨R, 1, none⟩) hB0 _
  generalize (w2.drew.setCell ⟨R, 0, none⟩ (.int .u32 1)).setCell ⟨R, 1, none⟩ (.int .i32 0) = w3 at *
  have c3 := Blk.cell h3 (j := 3) rfl
  have HR := Lib.hid (repl_all Q s w3 hrep3 hs)
  have hm : ∀ W : World, (method 348 187 (.pointer (some ⟨Q, 0, none⟩)) "Replace").run Tryz.prog W = .ok (219, .pointer (some ⟨Q, 0, none⟩)) W := fun _ => by kernel_rfl
  clear keep hrep3 hrp hb HO hrep
  go_wp2_with (go_at_call 219; refine (HR.out).mono ?_; rintro e w4 ⟨rfl, hb4⟩)
  go_ret
  exact ⟨rfl, hb3.trans (hb4.mono (Nat.le_trans (by omega) hb3.size))⟩
end
end Go.Proofs.YtakfnojiaakfpaaGreatDoor
