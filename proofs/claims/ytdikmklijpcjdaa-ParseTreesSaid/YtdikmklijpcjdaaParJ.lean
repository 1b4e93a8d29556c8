/- How a query is read: signs ahead, and the whole grammar. -/
import Derived.Test.YtdikmklijpcjdaaParI
namespace Go.Proofs.Ytdikmklijpcjdaa
open Go.RowKit
attribute [local go_sem ↓] Go.wp_at_zero Go.wp_at_succ tok_f0 tok_f2 tok_f3

set_option maxRecDepth 100000 in
set_option maxHeartbeats 4000000 in
theorem unary_step {P M n : Nat} (hMM : M ≤ 1000000) (hu : PartC P M 92 #[.pointer (some ⟨P, 0, none⟩)] (unaryP n) (fun s => s.toks.length ≤ n)) :
    PartC P M 92 #[.pointer (some ⟨P, 0, none⟩)] (unaryP (n + 1)) (fun s => s.toks.length ≤ n + 1) := by
  intro M' R s w hM hg hl h
  have hok := unaryP_ok n
  have HOne := Lib.hid (one_any hMM (por_all hMM hu hok) (orP_ok hok))
  have HU := Lib.hid hu
  have HOK := Lib.hid hok
  have HIs := Lib.hid (is_st hg (StQ.start h) 5 sMinus)
  have HG := Lib.hid hg
  have hmf : ∀ (fn : Fn) (first cap : Array Value) (w : World), (Instr.makeFunc fn first cap).run Try.prog w = .ok (.func fn first cap) w := fun _ _ _ _ => rfl
  clear hu hok h
  cases hi : s.is 5 sMinus with
  | false =>
    have HT : Hid (unaryP (n + 1) s = oneP (orP (unaryP n)) s) := by show _ = _; rw [unaryP, if_neg (by rw [hi]; decide)]
    rw [hi] at HIs
    clear hi
    go_enter Try.func92, Try.ntmps92
    go_wp2_with fail
    refine (HIs.out).mono ?_
    rintro e1 w1 ⟨rfl, k1⟩
    have K1 := Lib.hid k1
    have HO := Lib.hid (HOne.out M' R s w1 hM HG.out hl k1.1)
    clear k1 HIs
    go_wp2_with fail
    refine (HO.out).mono ?_
    intro e2 w2 hres
    have hres2 := ResS.st K1.out.st hres
    rw [← HT.out] at hres2
    cases hb : unaryP (n + 1) s with
    | error z =>
      rw [hb] at hres2
      obtain ⟨rfl, hf⟩ := hres2
      clear hb hres
      go_wp2_with fail
      exact ⟨rfl, rfl, hf⟩
    | ok s2 =>
      rw [hb] at hres2
      obtain ⟨rfl, R', hS⟩ := hres2
      have HO2 := Lib.hid hb
      clear hb hres
      go_wp2_with fail
      first | go_end0 | refine bodyPost_ret (results_none rfl _ _ _) rfl ?_
      rw [HO2.out]
      exact ⟨rfl, R', hS⟩
  | true =>
    have HT : Hid (unaryP (n + 1) s = match openP (unaryP n) s with
      | .error e => .error e
      | .ok s1 => .ok (s1.lay negN)) := by show _ = _; rw [unaryP, if_pos hi]; rfl
    have hk : s.hd.kind ≠ 0 := by rw [is_kind hi]; decide
    have hlen := hg.on_len
    rw [hi] at HIs
    clear hi
    go_enter Try.func92, Try.ntmps92
    go_wp2_with fail
    refine (HIs.out).mono ?_
    rintro e1 w1 ⟨rfl, k1⟩
    have K1 := Lib.hid k1
    clear k1 HIs
    have HOp := Lib.hid (openU_any (p := unaryP n) HG.out K1.out.1 hk HOK.out (fun hlt w' hP' _ => HU.out M' R _ w' hM (by
      have g := HG.out.on hk
      exact ⟨g.ends, g.room, by show s.deep + 1 ≤ 64; omega, g.text⟩) (by show s.toks.tail.length ≤ n; have : s.on.toks.length = s.toks.tail.length := rfl; omega) hP'))
    have HK := Lib.hid hk
    clear hk
    go_wp2_with fail
    refine (HOp.out).mono ?_
    intro e2 w2 hres
    cases hb : openP (unaryP n) s with
    | error z =>
      have HT2 : Hid (unaryP (n + 1) s = .error z) := by show _ = _; rw [HT.out, hb]
      rw [hb] at hres
      obtain ⟨rfl, hf⟩ := hres
      have hf2 := K1.out.st.fail hf
      clear hb
      go_wp2_with fail
      refine ⟨rfl, ?_⟩
      rw [HT2.out]
      exact ⟨rfl, hf2⟩
    | ok s1 =>
      have HT2 : Hid (unaryP (n + 1) s = .ok (s1.lay negN)) := by show _ = _; rw [HT.out, hb]
      have hg2 := ((openP_ok HOK.out _ _ HK.out hb).2 _ HG.out).1
      rw [hb] at hres
      obtain ⟨rfl, R2, hS⟩ := hres
      have HNd := Lib.hid (pnode_any P R2 s1 w2 hS.1 negN none none 0 0 (Own.nil_ (by decide)) (Own.nil_ (by decide)) (by have := hg2.room; omega))
      have S2 := Lib.hid (K1.out.st.next hS)
      clear hb hS HOp
      go_wp2_with fail
      refine (HNd.out).mono ?_
      rintro e4 w3 ⟨rfl, R3, hS3⟩
      have S3 := Lib.hid (S2.out.next hS3)
      clear hS3
      go_wp2_with fail
      first | go_end0 | refine bodyPost_ret (results_none rfl _ _ _) rfl ?_
      rw [HT2.out]
      exact ⟨rfl, R3, S3.out⟩
theorem unary_all {P M : Nat} (hMM : M ≤ 1000000) : ∀ n, PartC P M 92 #[.pointer (some ⟨P, 0, none⟩)] (unaryP n) (fun s => s.toks.length ≤ n)
  | 0 => fun M' R s w _ hg hl _ => absurd hg.pos.2 (by omega)
  | n + 1 => unary_step hMM (unary_all hMM n)
/-- The whole grammar, off any tokens. -/
theorem read_all {P M : Nat} (hMM : M ≤ 1000000) (n : Nat) : PartC P M 26 #[.pointer (some ⟨P, 0, none⟩)] (orP (unaryP n)) (fun s => s.toks.length ≤ n) := por_all hMM (unary_all hMM n) (unaryP_ok n)
end Go.Proofs.Ytdikmklijpcjdaa
