/- The calls of a law over label sets, each in a world whose sets are known. -/
import Derived.Test.YtnlheomfobpcmaaGreatLabA
namespace Go.Proofs.YtnlheomfobpcmaaGreat
open Go.RowKit

theorem lab_new (W : World) (l : Lab) : Rd (W.alloc (.cells #[.string l.1, .string l.2] 51)) (W.alloc (.cells #[.string l.1, .string l.2] 51)).heap.size 2 (some ⟨W.heap.size, 0, none⟩) (labsC [l]) := by
  have := Rd.new (xs := labsC [l]) (sz := 2) (e := 51) W (labsC_all _) #[.string l.1, .string l.2] rfl
  simpa using this
theorem names_new (W : World) (x : ByteArray) : Rd (W.alloc (.cells #[.string x] 9)) (W.alloc (.cells #[.string x] 9)).heap.size 1 (some ⟨W.heap.size, 0, none⟩) (namesC [x]) := by
  have := Rd.new (xs := namesC [x]) (sz := 1) (e := 9) W (namesC_sz _) #[.string x] rfl
  simpa using this
section
variable {w W : World} {rows : List (Option Addr × List Lab)} {A B : Option Addr} {x y : List Lab} {n m c d : Nat}
theorem awl_copy (hk : Aw w rows W) (hx : (A, x) ∈ rows) (hn : x.length = n) (hm : n * 32 ≤ 140737488355328) :
    Calls Tryz.prog 33 #[.slice A n c] W fun e w' => ∃ A' c', e = .returned (.slice A' n c') ∧ Aw w ((A', x) :: rows) w' := by
  refine (copyLabels_any x A n c _ W (hk.get hx) hn (Nat.le_refl _) hm).mono ?_
  rintro e w' ⟨A', c', rfl, ho, hb⟩
  exact ⟨A', c', rfl, (hk.step hb).add ho.rd⟩
theorem awl_check (hk : Aw w rows W) (hx : (A, x) ∈ rows) (hn : x.length = n) (hm : n * 32 ≤ 140737488355328) (hok : okLabs x) :
    Calls Tryz.prog 10 #[.slice A n c] W fun e w' => e = .returned (.int .i64 (checkL x)) ∧ Aw w rows w' := by
  refine (check_any x A n c _ W (hk.get hx) hn (Nat.le_refl _) (by simp only [maxLen]; omega) hok).mono ?_
  rintro e w' ⟨rfl, hb⟩
  exact ⟨rfl, hk.step hb⟩
theorem awl_with (nm v : ByteArray) (hk : Aw w rows W) (hx : (A, x) ∈ rows) (hn : x.length = n) (hm : (n + 1) * 32 ≤ 140737488355328) (hy : withL x nm v = y) (hy2 : y.length = m) :
    Calls Tryz.prog 23 #[.slice A n c, .string nm, .string v] W fun e w' => ∃ A' c', e = .returned (.slice A' m c') ∧ Aw w ((A', y) :: rows) w' := by
  refine (with_any x nm v A n c _ W (hk.get hx) hn (Nat.le_refl _) hm).mono ?_
  rintro e w' ⟨A', m', c', rfl, hm, ho, hb⟩
  rw [hy] at hm ho
  obtain rfl : m' = m := hm.symm.trans hy2
  exact ⟨A', c', rfl, (hk.step hb).add ho.rd⟩
theorem awl_get (nm : ByteArray) (hk : Aw w rows W) (hx : (A, x) ∈ rows) (hn : x.length = n) (hm : n * 32 ≤ 140737488355328) :
    Calls Tryz.prog 22 #[.slice A n c, .string nm] W fun e w' => e = .returned (.string (getL x nm)) ∧ Aw w rows w' := by
  refine (labGet_any x nm A n c _ W (hk.get hx) hn (Nat.le_refl _) (by simp only [maxLen]; omega)).mono ?_
  rintro e w' ⟨rfl, hb⟩
  exact ⟨rfl, hk.step hb⟩
theorem awl_without {An : Option Addr} {nn cn Bn : Nat} {ns : List ByteArray} (hk : Aw w rows W) (hx : (A, x) ∈ rows) (hn : x.length = n) (hm : n * 32 ≤ 140737488355328) (hr : Rd W Bn 1 An (namesC ns)) (hnn : ns.length = nn) (hBn : Bn ≤ W.heap.size) (hmn : nn ≤ maxLen) (hy : withoutL x ns = y) (hy2 : y.length = m) :
    Calls Tryz.prog 25 #[.slice A n c, .slice An nn cn] W fun e w' => ∃ A' c', e = .returned (.slice A' m c') ∧ Aw w ((A', y) :: rows) w' := by
  refine (without_any x ns A An n c _ nn cn Bn W (hk.get hx) hn (Nat.le_refl _) hm hr hnn hBn hmn).mono ?_
  rintro e w' ⟨A', m', c', rfl, hm, ho, hb⟩
  rw [hy] at hm ho
  obtain rfl : m' = m := hm.symm.trans hy2
  exact ⟨A', c', rfl, (hk.step hb).add ho.rd⟩
theorem awl_keep {An : Option Addr} {nn cn Bn : Nat} {ns : List ByteArray} (hk : Aw w rows W) (hx : (A, x) ∈ rows) (hn : x.length = n) (hm : n * 32 ≤ 140737488355328) (hr : Rd W Bn 1 An (namesC ns)) (hnn : ns.length = nn) (hBn : Bn ≤ W.heap.size) (hmn : nn ≤ maxLen) (hy : keepL x ns = y) (hy2 : y.length = m) :
    Calls Tryz.prog 24 #[.slice A n c, .slice An nn cn] W fun e w' => ∃ A' c', e = .returned (.slice A' m c') ∧ Aw w ((A', y) :: rows) w' := by
  refine (keep_any x ns A An n c _ nn cn Bn W (hk.get hx) hn (Nat.le_refl _) hm hr hnn hBn hmn).mono ?_
  rintro e w' ⟨A', m', c', rfl, hm, ho, hb⟩
  rw [hy] at hm ho
  obtain rfl : m' = m := hm.symm.trans hy2
  exact ⟨A', c', rfl, (hk.step hb).add ho.rd⟩
theorem awl_same (hk : Aw w rows W) (hx : (A, x) ∈ rows) (hy : (B, y) ∈ rows) (hn : x.length = n) (hn2 : y.length = m) (hm : n * 32 ≤ 140737488355328) (hm2 : m * 32 ≤ 140737488355328) :
    Calls Tryz.prog 28 #[.slice A n c, .slice B m d] W fun e w' => e = .returned (.bool (decide (x = y))) ∧ Aw w rows w' := by
  refine (sameLabels_any x y A B n m c d _ _ W (hk.get hx) (hk.get hy) hn hn2 (by simp only [maxLen]; omega) (by simp only [maxLen]; omega)).mono ?_
  rintro e w' ⟨rfl, q, rfl⟩
  exact ⟨rfl, hk.drewN q⟩
theorem awl_awake (hk : Aw w rows W) : Calls Tryz.prog 20 #[] W fun e w' => e = .returned (.bool true) ∧ Aw w rows w' := by
  refine (awake_any W).mono ?_
  rintro e w' ⟨rfl, hb⟩
  exact ⟨rfl, hk.step hb⟩
end
theorem withL_len (ls : List Lab) (nm v : ByteArray) : (withL ls nm v).length ≤ ls.length + 1 := by
  have h := withoutL_len ls [nm]
  unfold withL
  split
  · omega
  · unfold insL
    rw [List.length_append, List.length_cons, List.length_take, List.length_drop]
    omega
theorem keepL_le (ls : List Lab) (ns : List ByteArray) : (keepL ls ns).length ≤ ls.length := List.length_filter_le _ _
theorem okLabs_of {ls ms : List Lab} (h : okLabs ls) (hs : ∀ x ∈ ms, x ∈ ls) : okLabs ms := fun l hl => h l (hs l hl)
theorem okLabs_with {ls : List Lab} {nm v : ByteArray} (h : okLabs ls) (h1 : nm.size ≤ maxLen) (h2 : v.size ≤ maxLen) : okLabs (withL ls nm v) := by
  intro l hl
  have hw : ∀ x ∈ withoutL ls [nm], x ∈ ls := fun x hx => (List.mem_filter.1 hx).1
  unfold withL at hl
  split at hl
  · exact h l (hw l hl)
  · unfold insL at hl
    rcases List.mem_append.1 hl with hx | hx
    · exact h l (hw l (List.mem_of_mem_take hx))
    · rcases List.mem_cons.1 hx with rfl | hx
      · exact ⟨h1, h2⟩
      · exact h l (hw l (List.mem_of_mem_drop hx))
end Go.Proofs.YtnlheomfobpcmaaGreat
