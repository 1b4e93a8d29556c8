/- Samples in memory: held against one another, copied. -/
import Derived.Test.YtpoefknaaohmhaaLabs
import Derived.Deep.RegionHeld3
namespace Go.Proofs.Ytpoefknaaohmhaa
open Go.RowKit

structure Samp where
  ls : List Lab
  t : Int
  v : Int
/-- The three cells of a sample. -/
def SampAt (w : World) (B : Nat) (x : List Value) (s : Samp) : Prop :=
  ∃ A c, x = [.slice A s.ls.length c, .int .i64 s.t, .int .u64 s.v] ∧ Rd w B 2 A (labsC s.ls) ∧ s.ls.length ≤ c ∧ c ≤ maxLen
def RdSamps (w : World) (B : Nat) (A : Option Addr) (ss : List Samp) : Prop :=
  ∃ cs, Rd w B 3 A cs ∧ cs.length = ss.length ∧ ∀ (k : Nat) (s : Samp), ss[k]? = some s → ∃ x, cs[k]? = some x ∧ SampAt w B x s

section
variable {w w' : World} {B B' : Nat} {A : Option Addr} {ss : List Samp}
theorem SampAt.keep {x : List Value} {s : Samp} (h : SampAt w B x s) (hk : ∀ b o, b < B → w'.cell? ⟨b, o, none⟩ = w.cell? ⟨b, o, none⟩) : SampAt w' B x s := by
  obtain ⟨A, c, h1, h2, h3⟩ := h
  exact ⟨A, c, h1, h2.keep hk, h3⟩
theorem SampAt.more {x : List Value} {s : Samp} (h : SampAt w B x s) (hB : B ≤ B') : SampAt w B' x s := by
  obtain ⟨A, c, h1, h2, h3⟩ := h
  exact ⟨A, c, h1, h2.more hB, h3⟩
theorem RdSamps.keep (h : RdSamps w B A ss) (hk : ∀ b o, b < B → w'.cell? ⟨b, o, none⟩ = w.cell? ⟨b, o, none⟩) : RdSamps w' B A ss := by
  obtain ⟨cs, h1, h2, h3⟩ := h
  refine ⟨cs, h1.keep hk, h2, fun k s hs => ?_⟩
  obtain ⟨x, hx, h4⟩ := h3 k s hs
  exact ⟨x, hx, h4.keep hk⟩
theorem RdSamps.below (h : RdSamps w B A ss) (hb : Below B w w') : RdSamps w' B A ss := h.keep fun _ _ hp => hb.cell (p := ⟨_, _, none⟩) hp
theorem RdSamps.more (h : RdSamps w B A ss) (hB : B ≤ B') : RdSamps w B' A ss := by
  obtain ⟨cs, h1, h2, h3⟩ := h
  refine ⟨cs, h1.more hB, h2, fun k s hs => ?_⟩
  obtain ⟨x, hx, h4⟩ := h3 k s hs
  exact ⟨x, hx, h4.more hB⟩
theorem RdSamps.at_ {k : Nat} {s : Samp} (h : RdSamps w B A ss) (hs : ss[k]? = some s) : ∃ b o A' c, A = some ⟨b, o, none⟩ ∧ b < B ∧ w.cell? ⟨b, o + k * 3, none⟩ = some (.slice A' s.ls.length c) ∧
    w.cell? ⟨b, o + k * 3 + 1, none⟩ = some (.int .i64 s.t) ∧ w.cell? ⟨b, o + k * 3 + 2, none⟩ = some (.int .u64 s.v) ∧ Rd w B 2 A' (labsC s.ls) ∧ s.ls.length ≤ c ∧ c ≤ maxLen := by
  obtain ⟨cs, h1, h2, h3⟩ := h
  obtain ⟨x, hx, A', c, rfl, hr, hc, hc2⟩ := h3 k s hs
  obtain ⟨b, o, e, hb, p1, p2, p3⟩ := h1.at3 hx
  exact ⟨b, o, A', c, e, hb, p1, p2, p3, hr, hc, hc2⟩
end
def sampEq (a b : Samp) : Bool := decide (a.ls = b.ls) && decide (a.t = b.t) && decide (a.v = b.v)
theorem sampEq_iff {a b : Samp} : sampEq a b = true ↔ a = b := by
  cases a; cases b; simp [sampEq, and_assoc]

instance : DecidableEq Samp := fun a b => if h : sampEq a b = true then isTrue (sampEq_iff.1 h) else isFalse (fun e => h (sampEq_iff.2 e))

set_option maxHeartbeats 1000000 in
theorem sameSamples_any (ss rs : List Samp) (A1 A2 : Option Addr) (n1 n2 c1 c2 B1 B2 : Nat) (w : World) (h1 : RdSamps w B1 A1 ss) (h2 : RdSamps w B2 A2 rs) (hn1 : ss.length = n1) (hn2 : rs.length = n2) (hm1 : n1 ≤ maxLen) (hm2 : n2 ≤ maxLen) :
    Calls Try.prog 9 #[.slice A1 n1 c1, .slice A2 n2 c2] w fun e w' => e = .returned (.bool (decide (ss = rs))) ∧ ∃ n, w' = w.drewN n := by
  unfold maxLen at hm1 hm2
  by_cases hl : n1 = n2
  · obtain rfl : n1 = n2 := hl
    have Hn1 := Lib.hid hn1
    have Hn2 := Lib.hid hn2
    clear hn1 hn2
    go_enter Try.func9, Try.ntmps9
    go_wp2
    go_loopw [5] (fun i wr => ∃ k q : Nat, k ≤ n1 ∧ i = .int .i64 k ∧ wr = w.drewN q ∧ Hid (∀ j, j < k → ss[j]? = rs[j]?)) (fun i _ => n1 - (intOf i).toNat)
    case atStart => exact ⟨0, 0, by omega, rfl, rfl, fun j hj => by omega⟩
    case round =>
      obtain ⟨k, q, hk, rfl, rfl, hall⟩ := hrel
      by_cases hlt : k < n1
      · obtain ⟨l, e1⟩ := get_lt Hn1 hlt
        obtain ⟨m, e2⟩ := get_lt Hn2 hlt
        obtain ⟨b1, o1, A1', c1', hA1, hb1, p1, p2, p3, r1, r2, r3⟩ := h1.at_ e1
        obtain ⟨b2, o2, A2', c2', hA2, hb2, p4, p5, p6, s1, s2, s3⟩ := h2.at_ e2
        have HC := fun qq => Lib.hid (sameLabels_any l.ls m.ls A1' A2' l.ls.length m.ls.length c1' c2' B1 B2 (w.drewN qq) (r1.drewN _) (s1.drewN _) rfl rfl (by omega) (by omega))
        subst hA1 hA2
        have E1 := Lib.hid e1
        have E2 := Lib.hid e2
        clear e1 e2 r1 s1
        by_cases he : l.ls = m.ls
        · have hd : decide (l.ls = m.ls) = true := decide_eq_true he
          rw [hd] at HC
          have He := Lib.hid he
          clear he
          by_cases ht : l.t = m.t
          · have htd : ((l.t : Int) != m.t) = false := by rw [ht]; simp
            by_cases hv : l.v = m.v
            · have hvd : ((l.v : Int) != m.v) = false := by rw [hv]; simp
              have Heq : Hid (l = m) := sampEq_iff.1 (by simp [sampEq, He.out, ht, hv])
              clear ht hv
              go_wp2
              go_quiet ((go_at_call 19; exact quiet_add (HC _).out))
              go_wp2
              go_roundw
              case rel => exact ⟨k + 1, _, by omega, by go_num, rfl, fun j hj => by
                by_cases ej : j = k
                · subst ej; rw [E1.out, E2.out]; exact congrArg some Heq.out
                · exact hall j (by omega)⟩
              case measure => simp [intOf]; omega
            · have hvd : ((l.v : Int) != m.v) = true := by rw [bne_iff_ne]; exact hv
              have HD := Lib.hid (decide_eq_false (take_ne E1.out E2.out (fun e => hv (by rw [e]))))
              clear ht hv
              go_wp2
              go_quiet ((go_at_call 19; exact quiet_add (HC _).out))
              go_wp2
              go_ret
              exact ⟨ret_bool HD.out.symm, q + nq, World.drewN_drewN ..⟩
          · have htd : ((l.t : Int) != m.t) = true := by rw [bne_iff_ne]; exact ht
            have HD := Lib.hid (decide_eq_false (take_ne E1.out E2.out (fun e => ht (by rw [e]))))
            clear ht
            go_wp2
            go_quiet ((go_at_call 19; exact quiet_add (HC _).out))
            go_wp2
            go_ret
            exact ⟨ret_bool HD.out.symm, q + nq, World.drewN_drewN ..⟩
        · have hd : decide (l.ls = m.ls) = false := decide_eq_false he
          rw [hd] at HC
          have HD := Lib.hid (decide_eq_false (take_ne E1.out E2.out (fun e => he (by rw [e]))))
          clear he
          go_wp2
          go_quiet ((go_at_call 19; exact quiet_add (HC _).out))
          go_wp2
          go_ret
          exact ⟨ret_bool HD.out.symm, q + nq, World.drewN_drewN ..⟩
      · have HD : Hid (decide (ss = rs) = true) := decide_eq_true (eq_of_upto (by rw [Hn1.out, Hn2.out]) fun j hj => hall j (by rw [Hn1.out] at hj; omega))
        go_wp2
        go_ret
        exact ⟨ret_bool HD.out.symm, _, rfl⟩
  · have HD : Hid (decide (ss = rs) = false) := decide_eq_false (by rintro rfl; omega)
    have hl2 : ¬ (n1 : Int) = (n2 : Int) := by omega
    have hl3 : ((n1 : Int) != (n2 : Int)) = true := by rw [bne_iff_ne]; exact hl2
    clear hl hl2
    go_enter Try.func9, Try.ntmps9
    go_wp2
    go_ret
    exact ⟨ret_bool HD.out.symm, 0, rfl⟩

/-- Samples that the call has made. -/
def OwnSamps (w : World) (base : Nat) (A : Option Addr) (n c : Nat) (ss : List Samp) : Prop :=
  ∃ cs, Own w base 37 3 A n c cs ∧ ss.length = n ∧ ∀ (k : Nat) (s : Samp), ss[k]? = some s → ∃ A' c', cs[k]? = some [.slice A' s.ls.length c', .int .i64 s.t, .int .u64 s.v] ∧ Own w base 52 2 A' s.ls.length c' (labsC s.ls)
theorem OwnSamps.rd {w : World} {base n c : Nat} {A : Option Addr} {ss : List Samp} (h : OwnSamps w base A n c ss) : RdSamps w w.heap.size A ss := by
  obtain ⟨cs, h1, h2, h3⟩ := h
  refine ⟨cs, h1.rd, by rw [h1.len, h2], fun k s hs => ?_⟩
  obtain ⟨A', c', hx, ho⟩ := h3 k s hs
  exact ⟨_, hx, A', c', rfl, ho.rd, ho.cap.1, ho.cap.2⟩
theorem OwnSamps.belowAll {w w' : World} {base n c : Nat} {A : Option Addr} {ss : List Samp} (h : OwnSamps w base A n c ss) (hb : Below w.heap.size w w') : OwnSamps w' base A n c ss := by
  obtain ⟨cs, h1, h2, h3⟩ := h
  refine ⟨cs, h1.belowAll hb, h2, fun k s hs => ?_⟩
  obtain ⟨A', c', hx, ho⟩ := h3 k s hs
  exact ⟨A', c', hx, ho.belowAll hb⟩
theorem OwnSamps.snoc {w w' : World} {base n c c' c2 : Nat} {A A' A2 : Option Addr} {ss : List Samp} {s : Samp} {cs : List (List Value)}
    (h2 : ss.length = n) (h3 : ∀ (k : Nat) (s : Samp), ss[k]? = some s → ∃ A' c', cs[k]? = some [.slice A' s.ls.length c', .int .i64 s.t, .int .u64 s.v] ∧ Own w base 52 2 A' s.ls.length c' (labsC s.ls))
    (h1 : Own w base 37 3 A n c cs) (ho : Own w' base 37 3 A' (n + 1) c' (cs ++ [[.slice A2 s.ls.length c2, .int .i64 s.t, .int .u64 s.v]]))
    (hl : Own w base 52 2 A2 s.ls.length c2 (labsC s.ls)) (hg : w.grownBy w' (A.map Addr.block)) : OwnSamps w' base A' (n + 1) c' (ss ++ [s]) := by
  refine ⟨_, ho, by simp [h2], fun k r hr => ?_⟩
  by_cases hk : k < ss.length
  · rw [List.getElem?_append_left hk] at hr
    obtain ⟨A3, c3, hx, ho3⟩ := h3 k r hr
    refine ⟨A3, c3, ?_, ho3.grown hg (ho3.ne_ h1 (by decide))⟩
    rw [List.getElem?_append_left (List.getElem?_eq_some_iff.1 hx).1, hx]
  · rw [List.getElem?_append_right (by omega)] at hr
    have hk2 : k - ss.length = 0 := by
      rcases Nat.eq_zero_or_pos (k - ss.length) with h0 | h0
      · exact h0
      · rw [List.getElem?_eq_none (by simp; omega)] at hr; cases hr
    rw [hk2] at hr
    simp at hr
    subst hr
    refine ⟨A2, c2, ?_, hl.grown hg (hl.ne_ h1 (by decide))⟩
    rw [List.getElem?_append_right (by rw [h1.len]; omega), h1.len]
    rw [show k - n = 0 from by omega]
    rfl
theorem eiSamp : EI Try.prog 22 37 3 40 := EI.mk' Try.underlying22 (z := .agg #[.slice none 0 0, .int .i64 0, .int .u64 0]) (by kernel_rfl) rfl (by omega)

set_option maxRecDepth 100000 in
set_option maxHeartbeats 1000000 in
theorem copySamples_any (ss : List Samp) (A1 : Option Addr) (n1 c1 B1 : Nat) (w : World) (h1 : RdSamps w B1 A1 ss) (hn1 : ss.length = n1) (hB : B1 ≤ w.heap.size) (hm1 : n1 * 40 ≤ 140737488355328) (hml : ∀ s ∈ ss, s.ls.length * 32 ≤ 140737488355328) :
    Calls Try.prog 7 #[.slice A1 n1 c1] w fun e w' => ∃ A c, e = .returned (.slice A n1 c) ∧ OwnSamps w' w.heap.size A n1 c ss ∧ Below w.heap.size w w' := by
  have Hn1 := Lib.hid hn1
  clear hn1
  go_enter Try.func7, Try.ntmps7
  go_wp2
  go_loopw [3, 4] (fun v i wr => ∃ (k c : Nat) (A : Option Addr), k ≤ n1 ∧ i = .int .i64 k ∧ v = .slice A k c ∧ OwnSamps wr w.heap.size A k c (ss.take k) ∧ Below w.heap.size w wr) (fun _ i _ => n1 - (intOf i).toNat)
  case atStart => exact ⟨0, 0, none, by omega, rfl, rfl, ⟨[], Own.nil_ (by omega), rfl, fun k s h => by simp at h⟩, Below.refl _ _⟩
  case round =>
    obtain ⟨k, c, A, hk, rfl, rfl, ⟨cs, ho1, ho2, ho3⟩, hb⟩ := hrel
    by_cases hlt : k < n1
    · obtain ⟨l, e1⟩ := get_lt Hn1 hlt
      obtain ⟨b1, o1, A1', c1', hA1, hb1, p1, p2, p3, r1, r2, r3⟩ := (h1.below (hb.mono hB)).at_ e1
      subst hA1
      have HO2 := Lib.hid ho2
      have HO3 := Lib.hid ho3
      have E1 := Lib.hid e1
      have hml1 := hml l (List.mem_of_getElem? e1)
      have hk0 : (0 : Int) ≤ (k : Int) := Int.natCast_nonneg _
      have hk1 : (k : Int) < (n1 : Int) := by omega
      have hsz := hb.size
      clear e1 ho2 ho3
      go_wp2
      go_region_held3 (fun w' => w'.cell? ⟨b1, o1 + k * 3, none⟩ = some (.slice A1' l.ls.length c1') ∧ w'.cell? ⟨b1, o1 + k * 3 + 1, none⟩ = some (.int .i64 l.t) ∧ w'.cell? ⟨b1, o1 + k * 3 + 2, none⟩ = some (.int .u64 l.v))
        (first | go_keep | (go_split_ands; refine ⟨?_, ?_, ?_⟩ <;> (rw [hb3.cell (by simp; omega)]; assumption)) | (go_split_ands; refine ⟨?_, ?_, ?_⟩ <;> (rw [hb2.cell (by simp; omega)]; assumption)))
        (first
          | (go_at_call 17; refine (copyLabels_any l.ls A1' l.ls.length c1' B1 _ ?q1 rfl ?q2 hml1).mono ?_; (case q1 => exact r1.drew); (case q2 => (simp; omega)); rintro e w2 ⟨A2, c2, rfl, ho2, hb2⟩)
          | (refine step_append_rd _ (by rfl) _ _ _ (by rfl) eiSamp (by rfl) ((ho1.drew.belowAll hb2).alloc _) (m := 1) (by rfl) (Rd.new w2 (xs := [[.slice A2 l.ls.length c2, .int .i64 l.t, .int .u64 l.v]]) (by simp) _ rfl) rfl (by simp [Value.oneCell']) (by simp only [maxLen]; omega) (by omega) (by have := hb2.size; simp at this; simp; omega) ?_; intro A' c' w3 ho3 hg3 hat3 hb3))
      go_wp2
      have R : OwnSamps w3 w.heap.size A' (k + 1) c' (ss.take (k + 1)) := by
        rw [List.take_add_one, E1.out]
        exact OwnSamps.snoc HO2.out (fun j s hs => by
          obtain ⟨A3, c3, hx, ho⟩ := HO3.out j s hs
          exact ⟨A3, c3, hx, (ho.drew.belowAll hb2).alloc _⟩) ((ho1.drew.belowAll hb2).alloc _) ho3 ((ho2.lower hsz).alloc _) hg3
      have hb4 := ((hb.drew.trans (hb2.mono (by simp; omega))).alloc (by have := hb2.size; simp at this; omega) _).trans hb3
      go_roundw
      case rel => exact ⟨k + 1, c', A', by omega, by go_num, rfl, R, hb4⟩
      case measure => simp [intOf]; omega
    · have hkn : k = n1 := by omega
      have HT : Hid (ss.take k = ss) := by rw [hkn, ← Hn1.out]; exact List.take_length
      have HK := Lib.hid hkn
      clear hkn
      go_wp2
      go_ret
      refine ⟨A, c, by simp; exact HK.out, ?_, hb⟩
      rw [HT.out] at ho2 ho3
      rw [← HK.out]
      exact ⟨cs, ho1, ho2, ho3⟩
end Go.Proofs.Ytpoefknaaohmhaa
