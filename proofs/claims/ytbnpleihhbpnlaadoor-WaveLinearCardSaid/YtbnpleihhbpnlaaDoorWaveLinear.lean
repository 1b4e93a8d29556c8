/- WaveLinear: the spectrum of sums is the sum of the spectra, within a rounding; that of opposites its opposite. -/
import Derived.Test.YtbnpleihhbpnlaaDoorLinP
import Derived.Test.YtbnpleihhbpnlaaDoorRows4
import Derived.Test.YtbnpleihhbpnlaaDoorWavW
import Derived.Test.YtbnpleihhbpnlaaDoorBlk
import Derived.Test.YtbnpleihhbpnlaaDoorOpenInts
import Derived.Deep.DeepCutAuto
namespace Go.Proofs.YtbnpleihhbpnlaaDoor
open Go.RowKit

set_option maxRecDepth 100000 in
set_option maxHeartbeats 1000000 in
theorem near_any (c a b : Nat) (h1 : nanN (opF .sub c a) = false) (h2 : nanN (opF .sub (opF .sub c a) b) = false)
    (h3 : (FloatKind.f64.format.order (absW (opF .sub (opF .sub c a) b)) 4517329193108106637 == some .lt || FloatKind.f64.format.order (absW (opF .sub (opF .sub c a) b)) 4517329193108106637 == some .eq) = true) (w : World) :
    Calls Tryd.prog 19 #[.int .u64 c, .int .u64 a, .int .u64 b] w fun e w' => e = .returned (.bool true) ∧ w = w' := by
  have hfb := frombits
  have r1 := fun t W => run_num (P := Tryd.prog) h1 t W
  have r2 := fun t W => run_num (P := Tryd.prog) h2 t W
  have HB := fun W => Lib.hid (absM_any _ W (opF_lt .sub (opF .sub c a) b))
  clear h1 h2
  go_enter Tryd.func19, Tryd.ntmps19
  go_wp2_with (first
    | (go_at_call 12; refine ((HB _).out).mono ?_; rintro e w' ⟨rfl, rfl⟩)
    | simp only [r1, r2])
  go_ret
  exact ⟨rfl, rfl⟩
theorem quiet_same2 {P : Program} {f : FuncId} {args : Array Value} {w : World} {q n : Nat} {v : Value}
    (h : Calls P f args (w.drewN (q + n)) fun e w' => e = .returned v ∧ w.drewN (q + n) = w') :
    Calls P f args (w.drewN (q + n)) fun e w'' => e = .returned v ∧ ∃ m, w'' = w.drewN (q + m) :=
  h.mono fun _ _ ⟨he, hm⟩ => ⟨he, n, hm.symm⟩
/-- The four lists so far. -/
def Lin4 (f g : Nat → Int) (w : World) (k : Nat) (v1 v2 v3 v4 : Value) (w' : World) : Prop :=
  ∃ A1 c1 A2 c2 A3 c3 A4 c4, v1 = .slice A1 k c1 ∧ v2 = .slice A2 k c2 ∧ v3 = .slice A3 k c3 ∧ v4 = .slice A4 k c4 ∧
    Rows w [⟨A1, k, c1, wX f k⟩, ⟨A2, k, c2, wX g k⟩, ⟨A3, k, c3, wX (fun i => f i + g i) k⟩, ⟨A4, k, c4, wX (fun i => - f i) k⟩] w'
theorem lin_start (f g : Nat → Int) (w : World) (o : Obj) : Lin4 f g w 0 (.slice none 0 0) (.slice none 0 0) (.slice none 0 0) (.slice none 0 0) (w.alloc o) := by
  refine ⟨none, 0, none, 0, none, 0, none, 0, rfl, rfl, rfl, rfl, ?_, ?_, (Below.refl _ _).alloc (Nat.le_refl _) _⟩
  · intro r hr
    simp at hr
    rcases hr with rfl | rfl | rfl | rfl <;> exact Own.nil_ (by omega)
  · simp [Apart]
theorem wk_case {xa : List Int} {m k B : Nat} {A : Option Addr} {w wr : World} (hr : Rd w B 1 A (intC xa)) (hl : xa.length = m) (hb : Below w.heap.size w wr) (hB : B ≤ w.heap.size) :
    (∃ z b0 o0, k < m ∧ A = some ⟨b0, o0, none⟩ ∧ wr.cell? ⟨b0, o0 + k, none⟩ = some (.int .i64 z) ∧ Int.tmod z 1000 = wkI xa k) ∨ (¬ k < m ∧ (0 : Int) = wkI xa k) := by
  by_cases hkm : k < m
  · left
    obtain ⟨z, hz⟩ := get_lt (Lib.hid hl) hkm
    obtain ⟨b0, o0, hA, _, hcell⟩ := (hr.below (hb.mono hB)).at1 (intC_at hz)
    exact ⟨z, b0, o0, hkm, hA, hcell, (wkI_at hz).symm⟩
  · right; exact ⟨hkm, (wkI_no (by rw [hl]; exact hkm)).symm⟩
theorem spec_rows {w0 w1 w2 : World} {A1 A2 : Option Addr} {n c1 c2 : Nat} {xs : List Nat} {f : Nat → Int} (hT : Two w0 A1 n c1 (specR xs n n) A2 n c2 (specI xs n n) w1) (hb : Below w1.heap.size w1 w2) (hs : SmallX (xg xs) f n) (h0 : 0 < n) :
    ∃ b1 o1 b2 o2, A1 = some ⟨b1, o1, none⟩ ∧ A2 = some ⟨b2, o2, none⟩ ∧ Hid (∀ j, j < n → w2.cell? ⟨b1, o1 + j, none⟩ = some (.int .u64 (lineR (xg xs) n j : Nat))) ∧ Hid (∀ j, j < n → w2.cell? ⟨b2, o2 + j, none⟩ = some (.int .u64 (lineI (xg xs) n j : Nat))) := by
  have hT2 := hT.after hb
  obtain ⟨b1, o1, hA1, _, hre⟩ := rd_cells hT2.1.rd (by rw [specR_len]; exact h0)
  obtain ⟨b2, o2, hA2, _, him⟩ := rd_cells hT2.2.1.rd (by rw [specI_len]; exact h0)
  exact ⟨b1, o1, b2, o2, hA1, hA2, Lib.hid (fun j hj => hre j _ (spec_at hs (j := j) hj).1), Lib.hid (fun j hj => him j _ (spec_at hs (j := j) hj).2)⟩
set_option maxRecDepth 100000 in
set_option maxHeartbeats 4000000 in
theorem waveLinear_any (xa : List Int) (Aa : Option Addr) (ma ca Ba : Nat) (xb : List Int) (Ab : Option Addr) (mb cb Bb : Nat) (sz : Int) (w : World) (hF : FloatMem w) (hra : Rd w Ba 1 Aa (intC xa)) (hla : xa.length = ma) (hma : ma ≤ maxLen) (hBa : Ba ≤ w.heap.size)
    (hrb : Rd w Bb 1 Ab (intC xb)) (hlb : xb.length = mb) (hmb : mb ≤ maxLen) (hBb : Bb ≤ w.heap.size) (_ : -9223372036854775808 ≤ sz ∧ sz < 9223372036854775808) :
    Calls Tryd.prog 6 #[.slice Aa ma ca, .slice Ab mb cb, .int .i64 sz] w fun e w' => e = .returned (.bool true) ∧ Below w.heap.size w w' := by
  unfold maxLen at hma hmb
  obtain ⟨i, n, hi, hi4, hn4, hn⟩ := size_of sz
  have h8 := size_le hn
  have hiI : (i : Int) < 4 := by omega
  have HLow := fun W => Lib.hid (low_any sz W)
  have hc0 : (w.alloc (.cells #[.int .i64 1, .int .i64 2, .int .i64 4, .int .i64 8] 3)).cell? ⟨w.heap.size, i, none⟩ = some (.int .i64 n) :=
    (Blk.new w 3 [.int .i64 1, .int .i64 2, .int .i64 4, .int .i64 8]).cell (by
      have := congrArg (Option.map (fun z => Value.int .i64 z)) hn4
      rw [← List.getElem?_map] at this
      exact this)
  have hla' := wkI_le xa
  have hlb' := wkI_le xb
  have HG := Lib.hid (lin_g hn hla' hlb')
  have HF := Lib.hid hF
  have Hra := Lib.hid hra
  have Hla := Lib.hid hla
  have Hrb := Lib.hid hrb
  have Hlb := Lib.hid hlb
  have Hn := Lib.hid hn
  have Hwa := Lib.hid hla'
  have Hwb := Lib.hid hlb'
  generalize lowI sz = L at *
  have hfc := fltI_eq
  have htb := tobits
  have hfb := frombits
  clear hF hra hla hrb hlb hn hn4 hla' hlb'
  go_enter Tryd.func6, Tryd.ntmps6
  go_wp2_with (go_at_call 7; refine ((HLow _).out).mono ?_; rintro e w' ⟨rfl, rfl⟩)
  clear hc0
  go_loopw [12, 8, 9, 10, 11] (fun i v1 v2 v3 v4 wr => ∃ k : Nat, i = .int .i64 k ∧ k ≤ n ∧ Hid (Lin4 (wkI xa) (wkI xb) w k v1 v2 v3 v4 wr)) (fun i _ _ _ _ _ => n - (intOf i).toNat)
  case atStart => exact ⟨0, rfl, by omega, lin_start _ _ w _⟩
  case round =>
    obtain ⟨k, rfl, hk, HW⟩ := hrel
    obtain ⟨A1, c1, A2, c2, A3, c3, A4, c4, rfl, rfl, rfl, rfl, hR⟩ := HW.out
    by_cases hlt : k < n
    · have hltI : (k : Int) < (n : Int) := by omega
      have hca := wk_case (k := k) Hra.out Hla.out hR.2.2 hBa
      have hcb := wk_case (k := k) Hrb.out Hlb.out hR.2.2 hBb
      have wa := Hwa.out k
      have wb := Hwb.out k
      have HR := Lib.hid hR
      clear hR HW
      go_upto_if 42 with fail
      go_cut [13] (fun p wx => p = .int .i64 (wkI xa k) ∧ wr = wx)
      case first =>
        rcases hca with ⟨za, b0, o0, hka, rfl, hcela, hza⟩ | ⟨hka, hza⟩
        · have hkaI : (k : Int) < (ma : Int) := by omega
          go_wp2_with fail
          go_meet
          exact ⟨rfl, rfl⟩
        · have hkaI : ¬ (k : Int) < (ma : Int) := by omega
          have HY := Lib.hid hza
          clear hza
          go_wp2_with fail
          go_meet
          exact ⟨congrArg (Value.int .i64) HY.out, rfl⟩
      case rest =>
      obtain ⟨rfl, rfl⟩ := hcut
      go_upto_if 51 with fail
      go_cut [14] (fun q wx => q = .int .i64 (wkI xb k) ∧ wr = wx)
      case first =>
        rcases hcb with ⟨zb, b1, o1, hkb, rfl, hcelb, hzb⟩ | ⟨hkb, hzb⟩
        · have hkbI : (k : Int) < (mb : Int) := by omega
          go_wp2_with fail
          go_meet
          exact ⟨rfl, rfl⟩
        · have hkbI : ¬ (k : Int) < (mb : Int) := by omega
          have HZ := Lib.hid hzb
          clear hzb
          go_wp2_with fail
          go_meet
          exact ⟨congrArg (Value.int .i64) HZ.out, rfl⟩
      case rest =>
        obtain ⟨rfl, rfl⟩ := hcut
        clear hca hcb
        obtain ⟨p, hp⟩ : ∃ p, wkI xa k = p := ⟨_, rfl⟩
        obtain ⟨q, hq⟩ : ∃ q, wkI xb k = q := ⟨_, rfl⟩
        have Hp := Lib.hid hp
        have Hq := Lib.hid hq
        rw [hp] at wa
        rw [hq] at wb
        rw [hp, hq]
        clear hp hq
        have hw1 : IntKind.i64.wrap (p + q) = p + q := by rw [IntKind.wrap_i64]; omega
        have hw2 : IntKind.i64.wrap (-p) = -p := by rw [IntKind.wrap_i64]; omega
        have hk1 : IntKind.i64.wrap ((k : Int) + 1) = ((k + 1 : Nat) : Int) := by rw [IntKind.wrap_i64]; omega
        clear wa wb
        go_wp2_with (first
          | (at_builtin; (refine wpList_append_ex _ rfl (.tmp 57) (.tmp 61) _ rfl eiU64 rfl (HR.out.alloc _).head rfl (Rd.new (xs := wrdC [fltI p]) wr (wrdC_all _) _ rfl) rfl (wrdC_one _) (by simp only [maxLen]; omega) (by omega) (by have := HR.out.2.2.size; simp; omega) ?_; intro A5 c5 w5 ho5 hg5 hat5 hb5; have HR5 := Lib.hid ((HR.out.alloc _).grow ho5 hg5 hat5 hb5); clear ho5 hg5 hat5 hb5))
          | (at_builtin; (refine wpList_append_ex _ rfl (.tmp 63) (.tmp 67) _ rfl eiU64 rfl (HR5.out.alloc _).head rfl (Rd.new (xs := wrdC [fltI q]) w5 (wrdC_all _) _ rfl) rfl (wrdC_one _) (by simp only [maxLen]; omega) (by omega) (by have := HR5.out.2.2.size; simp; omega) ?_; intro A6 c6 w6 ho6 hg6 hat6 hb6; have HR6 := Lib.hid ((HR5.out.alloc _).grow ho6 hg6 hat6 hb6); clear ho6 hg6 hat6 hb6))
          | (at_builtin; (refine wpList_append_ex _ rfl (.tmp 69) (.tmp 75) _ rfl eiU64 rfl (HR6.out.alloc _).head rfl (Rd.new (xs := wrdC [fltI (p + q)]) w6 (wrdC_all _) _ rfl) rfl (wrdC_one _) (by simp only [maxLen]; omega) (by omega) (by have := HR6.out.2.2.size; simp; omega) ?_; intro A7 c7 w7 ho7 hg7 hat7 hb7; have HR7 := Lib.hid ((HR6.out.alloc _).grow ho7 hg7 hat7 hb7); clear ho7 hg7 hat7 hb7))
          | (at_builtin; (refine wpList_append_ex _ rfl (.tmp 77) (.tmp 82) _ rfl eiU64 rfl (HR7.out.alloc _).head rfl (Rd.new (xs := wrdC [fltI (-p)]) w7 (wrdC_all _) _ rfl) rfl (wrdC_one _) (by simp only [maxLen]; omega) (by omega) (by have := HR7.out.2.2.size; simp; omega) ?_; intro A8 c8 w8 ho8 hg8 hat8 hb8; have HR8 := Lib.hid ((HR7.out.alloc _).grow ho8 hg8 hat8 hb8); clear ho8 hg8 hat8 hb8))
          | simp only [hfc])
        go_roundw
        case rel => exact ⟨k + 1, by go_num, by omega, A5, c5, A6, c6, A7, c7, A8, c8, rfl, rfl, rfl, rfl, by rw [wX_add, wX_add, wX_add, wX_add]; rw [Hp.out, Hq.out]; exact HR8.out⟩
        case measure => simp [intOf]; omega
    · have hkn : k = n := by omega
      subst hkn
      clear hlt hk HW
      have h0 : 0 < k := by rcases Hn.out with rfl | rfl | rfl | rfl <;> decide
      have hbw := hR.2.2
      have o1 := (hR.1 ⟨A1, k, c1, wX (wkI xa) k⟩ (by simp)).rd
      have o2 := (hR.1 ⟨A2, k, c2, wX (wkI xb) k⟩ (by simp)).rd
      have o3 := (hR.1 ⟨A3, k, c3, wX (fun i => wkI xa i + wkI xb i) k⟩ (by simp)).rd
      have o4 := (hR.1 ⟨A4, k, c4, wX (fun i => - wkI xa i) k⟩ (by simp)).rd
      clear hR
      have HS1 := Lib.hid (spectrum_any _ A1 k c1 wr.heap.size wr Hn.out (wX_len _ _) o1 (Nat.le_refl _))
      have O2 := Lib.hid o2
      have O3 := Lib.hid o3
      have O4 := Lib.hid o4
      have Hb := Lib.hid hbw
      clear o1 o2 o3 o4 hbw
      go_upto_region 16 with ((go_at_call 9; refine (HS1.out).mono ?_; rintro e w2 ⟨E1, d1, E2, d2, rfl, hT1⟩))
      have b2 : Below wr.heap.size wr w2 := hT1.2.2.2
      have HS2 := Lib.hid (spectrum_any _ A2 k c2 wr.heap.size w2 Hn.out (wX_len _ _) (O2.out.below b2) b2.size)
      have T1 := Lib.hid hT1
      have B2 := Lib.hid b2
      clear HS1 hT1 b2 O2
      go_upto_region 17 with ((go_at_call 9; refine (HS2.out).mono ?_; rintro e w3 ⟨E3, d3, E4, d4, rfl, hT2⟩))
      have b3 : Below w2.heap.size w2 w3 := hT2.2.2.2
      have b3' := B2.out.trans (b3.mono B2.out.size)
      have HS3 := Lib.hid (spectrum_any _ A3 k c3 wr.heap.size w3 Hn.out (wX_len _ _) (O3.out.below b3') b3'.size)
      have T2 := Lib.hid hT2
      have B3 := Lib.hid b3
      have C3 := Lib.hid b3'
      clear HS2 hT2 b3 b3' O3
      go_upto_region 18 with ((go_at_call 9; refine (HS3.out).mono ?_; rintro e w4 ⟨E5, d5, E6, d6, rfl, hT3⟩))
      have b4 : Below w3.heap.size w3 w4 := hT3.2.2.2
      have b4' := C3.out.trans (b4.mono C3.out.size)
      have HS4 := Lib.hid (spectrum_any _ A4 k c4 wr.heap.size w4 Hn.out (wX_len _ _) (O4.out.below b4') b4'.size)
      have T3 := Lib.hid hT3
      have B4 := Lib.hid b4
      have C4 := Lib.hid b4'
      clear HS3 hT3 b4 b4' O4 C3
      go_upto_region 19 with ((go_at_call 9; refine (HS4.out).mono ?_; rintro e w5 ⟨E7, d7, E8, d8, rfl, hT4⟩))
      have b5 : Below w4.heap.size w4 w5 := hT4.2.2.2
      have q4 := B4.out.trans (b5.mono B4.out.size)
      have q3 := B3.out.trans (q4.mono B3.out.size)
      have B5 := Lib.hid (Hb.out.trans ((C4.out.trans (b5.mono C4.out.size)).mono Hb.out.size))
      have sx := wX_small (f := wkI xa) Hn.out (fun i => Nat.le_trans (Hwa.out i) (by decide))
      have sy := wX_small (f := wkI xb) Hn.out (fun i => Nat.le_trans (Hwb.out i) (by decide))
      have sz := wX_small (f := fun i => wkI xa i + wkI xb i) Hn.out (fun i => by have := Hwa.out i; have := Hwb.out i; show (wkI xa i + wkI xb i).natAbs ≤ 1998; omega)
      have sm := wX_small (f := fun i => - wkI xa i) Hn.out (fun i => by have := Hwa.out i; show (- wkI xa i).natAbs ≤ 1998; omega)
      obtain ⟨x1, p1, x2, p2, rfl, rfl, K1, K2⟩ := spec_rows T1.out q3 sx h0
      obtain ⟨x3, p3, x4, p4, rfl, rfl, K3, K4⟩ := spec_rows T2.out q4 sy h0
      obtain ⟨x5, p5, x6, p6, rfl, rfl, K5, K6⟩ := spec_rows T3.out b5 sz h0
      obtain ⟨x7, p7, x8, p8, rfl, rfl, K7, K8⟩ := spec_rows hT4 (Below.refl _ _) sm h0
      have HA := fun d => Lib.hid (awake_any (w5.drewN d) ((HF.out.below B5.out).drewN d))
      clear hT4 b5 q4 q3 sx sy sz sm T1 T2 T3 B2 B3 B4 C4 HS4 Hb
      generalize lineR (xg (wX (wkI xa) k)) k = XR at *
      generalize lineI (xg (wX (wkI xa) k)) k = XI at *
      generalize lineR (xg (wX (wkI xb) k)) k = YR at *
      generalize lineI (xg (wX (wkI xb) k)) k = YI at *
      generalize lineR (xg (wX (fun i => wkI xa i + wkI xb i) k)) k = ZR at *
      generalize lineI (xg (wX (fun i => wkI xa i + wkI xb i) k)) k = ZI at *
      generalize lineR (xg (wX (fun i => - wkI xa i) k)) k = MR at *
      generalize lineI (xg (wX (fun i => - wkI xa i) k)) k = MI at *
      go_wp2_with fail
      go_loopw [27] (fun i wx => ∃ j q : Nat, i = .int .i64 j ∧ j ≤ k ∧ wx = w5.drewN q) (fun i _ => k - (intOf i).toNat)
      case atStart => exact ⟨0, 0, rfl, by omega, rfl⟩
      case round =>
        obtain ⟨j, q, rfl, hj, rfl⟩ := hrel
        by_cases hlt : j < k
        · have hltI : (j : Int) < (k : Int) := by omega
          have hj1 : IntKind.i64.wrap ((j : Int) + 1) = ((j + 1 : Nat) : Int) := by rw [IntKind.wrap_i64]; omega
          have d1 := K1.out j hlt
          have d2 := K2.out j hlt
          have d3 := K3.out j hlt
          have d4 := K4.out j hlt
          have d5 := K5.out j hlt
          have d6 := K6.out j hlt
          have d7 := K7.out j hlt
          have d8 := K8.out j hlt
          have N1 := fun W => Lib.hid (near_any (ZR j) (XR j) (YR j) (HG.out.1.sub1 j) (HG.out.1.sub2 j) (HG.out.1.near j) W)
          have N2 := fun W => Lib.hid (near_any (ZI j) (XI j) (YI j) (HG.out.2.sub1 j) (HG.out.2.sub2 j) (HG.out.2.near j) W)
          have g1 := HG.out.1.opp j
          have g2 := HG.out.2.opp j
          have rn := run_neg
          generalize XR j = ax at *
          generalize XI j = bx at *
          generalize YR j = ay at *
          generalize YI j = ey at *
          generalize ZR j = az at *
          generalize ZI j = ez at *
          generalize MR j = am at *
          generalize MI j = em at *
          go_wp2_with fail
          go_quiet ((go_at_call 19; first | with_reducible exact quiet_same2 (N1 _).out | with_reducible exact quiet_same2 (N2 _).out))
          go_wp2_with fail
          go_roundw
          case rel => exact ⟨j + 1, _, by go_num, by omega, by first | rfl | (simp only [World.drewN_drewN]; rfl)⟩
          case measure => simp [intOf]; omega
        · have hjn : j = k := by omega
          subst hjn
          clear hlt
          go_wp2_with (go_at_call 13; refine ((HA _).out).mono ?_; rintro e w' ⟨rfl, hb6⟩)
          go_ret
          exact ⟨rfl, (below_drewN B5.out q).trans (hb6.mono B5.out.size)⟩
end Go.Proofs.YtbnpleihhbpnlaaDoor
