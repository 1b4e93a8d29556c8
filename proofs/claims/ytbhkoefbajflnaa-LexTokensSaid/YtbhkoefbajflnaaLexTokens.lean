/- LexTokens: any text is cut into the tokens that the document says, or refused at the place that it says. -/
import Derived.Test.YtbhkoefbajflnaaRefLex
import Derived.Test.YtbhkoefbajflnaaLexJoins
namespace Go.Proofs.Ytbhkoefbajflnaa
open Go.RowKit

def tokR : LexR → List Tok
  | .ok ts => ts
  | .err _ _ => []
def posR : LexR → Nat
  | .ok _ => 0
  | .err p _ => p
def LexAll (ts : List Tok) (n p : Nat) (x : Int) (w : World) (e : Ending) (w' : World) : Prop := ∃ A c, e = .returned (.tuple #[.slice A n c, .int .i64 (p : Int), .int .i64 x]) ∧ Own w' w.heap.size 32 4 A n c (toksC ts) ∧ Below w.heap.size w w'
theorem lexOk_all {w w' : World} {r : LexR} {e : Ending} (h : LexOk w.heap.size r e w') (hb : Below w.heap.size w w') : LexAll (tokR r) (tokR r).length (posR r) (codeR r) w e w' := by
  cases r with
  | ok ts => obtain ⟨A, c, h1, h2⟩ := h; exact ⟨A, c, h1, h2, hb⟩
  | err p x => exact ⟨none, 0, h, Own.nil_ (by omega), hb⟩
set_option maxRecDepth 100000 in
set_option maxHeartbeats 4000000 in
theorem lexTokens_any (s : ByteArray) (w : World) (hs : s.size ≤ 140737488351232) : Calls Try.prog 3 #[.string s] w (AwakeOk w) := by
  have HA := fun W => Lib.hid (awake17_any W)
  have hm : s.size ≤ maxLen := by simp only [maxLen]; omega
  have H1 : ∀ W, Hid (Calls Try.prog 14 #[.string s] W (LexAll (tokR (lexR s)) (tokR (lexR s)).length (posR (lexR s)) (codeR (lexR s)) W)) := fun W => (rlex_any s W hm).mono fun e w' ⟨h1, h2⟩ => lexOk_all h1 h2
  have H2 : ∀ W, Hid (Calls Try.prog 15 #[.string s] W (LexAll (tokR (lexR s)) (tokR (lexR s)).length (posR (lexR s)) (codeR (lexR s)) W)) := fun W => (lex_any s W hm).mono fun e w' ⟨h1, h2⟩ => lexOk_all h1 h2
  have hfew : (tokR (lexR s)).length ≤ 4097 := by
    cases h : lexR s with
    | ok ts => have := lexR_few h; have := lexR_size h; simp only [tokR]; omega
    | err p x => simp [tokR]
  obtain ⟨n, hn⟩ : ∃ n, (tokR (lexR s)).length = n := ⟨_, rfl⟩
  rw [hn] at H1 H2 hfew
  generalize tokR (lexR s) = ts at *
  generalize posR (lexR s) = p at *
  generalize codeR (lexR s) = x at *
  have Hn := Lib.hid hn
  clear hn
  have hx0 : ((x : Int) != x) = false := by simp
  have hp0 : ((p : Int) != p) = false := by simp
  go_enter Try.func3, Try.ntmps3
  go_wp2_with fail
  refine ((H1 _).out).mono ?_
  rintro e w1 ⟨A1, c1, rfl, ho1, hb1⟩
  go_wp2_with fail
  refine ((H2 _).out).mono ?_
  rintro e w2 ⟨A2, c2, rfl, ho2, hb2⟩
  go_wp2_with fail
  refine ((H2 _).out).mono ?_
  rintro e w3 ⟨A3, c3, rfl, ho3, hb3⟩
  have z1 := hb1.size; have z2 := hb2.size; have z3 := hb3.size
  have hr1 := (ho1.rd.below hb2).below (hb3.mono z2)
  have ho2' := ho2.belowAll hb3
  have hS := fun W r1 r2 => Lib.hid (sameTokens_any ts ts A2 A1 n n c2 c1 w2.heap.size w1.heap.size W r1 r2 Hn.out Hn.out (by simp only [maxLen]; omega) (by simp only [maxLen]; omega))
  have hS3 := fun W r1 r2 => Lib.hid (sameTokens_any ts ts A3 A1 n n c3 c1 w3.heap.size w1.heap.size W r1 r2 Hn.out Hn.out (by simp only [maxLen]; omega) (by simp only [maxLen]; omega))
  simp only [decide_true] at hS hS3
  have hr2 := ho2.rd.below hb3
  go_wp2_with fail
  refine ((hS _ hr2 hr1).out).mono ?_
  rintro e w4 ⟨rfl, q, rfl⟩
  go_wp2_with fail
  have ho2q : Own (w3.drewN q) w1.heap.size 32 4 A2 n c2 (toksC ts) := ho2'
  refine (spoilTokens_any (toksC ts) A2 n c2 w1.heap.size (w3.drewN q) ho2q (by omega) (by show w1.heap.size ≤ w3.heap.size; omega)).mono ?_
  rintro e w5 ⟨rfl, hg⟩
  have hg1 := (show Rd (w3.drewN q) w1.heap.size 4 A1 (toksC ts) from hr1).grown hg (by show w1.heap.size ≤ w3.heap.size; omega) (fun g hg => (ho2.block hg).1)
  have ho3q : Own (w3.drewN q) w2.heap.size 32 4 A3 n c3 (toksC ts) := ho3
  have hg3 := ho3q.grown hg (by
    cases hA : A3 with
    | none => exact .inl rfl
    | some a =>
      right
      rw [← hA]
      intro heq
      have h1 := (ho3.block (b := a.block) (by rw [hA]; rfl)).1
      have h2 := (ho2.block (b := a.block) (by rw [← heq, hA]; rfl)).2
      omega)
  have hb5 : Below w.heap.size w w5 := by
    have := (hb1.trans (hb2.mono z1)).trans (hb3.mono (by omega))
    exact (below_drewN this q).grown hg (by show w.heap.size ≤ w3.heap.size; omega) (fun g hg => by have := (ho2.block hg).1; omega)
  have z5 := hb5.size
  have hr3 : Rd w5 w3.heap.size 4 A3 (toksC ts) := by
    refine ⟨hg3.rd.1, fun hne => ?_⟩
    obtain ⟨b, o, h1, h2, h3⟩ := hg3.rd.2 hne
    exact ⟨b, o, h1, (ho3.block (by rw [h1]; rfl)).2, h3⟩
  go_wp2_with fail
  refine ((hS3 _ hr3 hg1).out).mono ?_
  rintro e w6 ⟨rfl, q2, rfl⟩
  go_wp2_with fail
  refine ((HA _).out).mono ?_
  rintro e w7 ⟨rfl, hb7⟩
  go_wp2_with fail
  go_ret
  exact ⟨rfl, (below_drewN hb5 q2).trans (hb7.mono z5)⟩
end Go.Proofs.Ytbhkoefbajflnaa
