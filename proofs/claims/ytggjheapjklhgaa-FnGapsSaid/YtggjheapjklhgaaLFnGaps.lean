/- The law 'FnGaps': for every input the program's function and the reference's agree, so the call returns true and leaves its arguments as they were; no condition. -/
import Derived.Test.YtggjheapjklhgaaRows
import Derived.Test.YtggjheapjklhgaaHead
import Derived.Test.YtggjheapjklhgaaDrU
import Derived.Test.YtggjheapjklhgaaDrC
import Derived.Test.YtggjheapjklhgaaTfP
import Derived.Test.YtggjheapjklhgaaGapB
import Derived.Test.YtggjheapjklhgaaGapG
import Derived.Test.YtggjheapjklhgaaAdrW
import Derived.Test.YtggjheapjklhgaaRdyP
import Derived.WalkKit
import Derived.ProofKit
import Derived.OpenShut
import Derived.ShutString
import Derived.ChangeOld
import Derived.Below
namespace Go.Proofs.Ytggjheapjklhgaa.fnGaps
open Go.ChangeShapes Go.WideShapes Go.ChangeAt Go.RowKit
set_option linter.unusedVariables false

theorem own : ownKnob Try.prog.godebug = none := by kernel_rfl
theorem laidOut : laidOutB Try.prog = true := by kernel_rfl

theorem bankGap_yes {T : Tim} (h : timOk T = true) (a b : Int) : bankGap T a b = bankG T a b := by unfold bankGap; rw [if_pos h]
theorem fast_ok : timOk fastT = true := by decide
theorem rank_far (a b : Int) (near : Bool) : rankG fastT a b false ≤ rankG fastT a b near := by
  cases near with
  | false => exact Int.le_refl _
  | true =>
    unfold rankG
    by_cases h1 : (a == 7) = true
    · rw [if_pos h1, if_pos h1]; exact Int.le_refl _
    rw [if_neg h1, if_neg h1]
    by_cases h2 : (a == 9) = true
    · rw [if_pos h2, if_pos h2]; exact Int.le_refl _
    rw [if_neg h2, if_neg h2]
    by_cases h3 : (a == 1 && b == 1) = true
    · rw [if_pos h3, if_pos h3]; decide
    rw [if_neg h3, if_neg h3]
    by_cases h4 : (a == 2 && b == 2 || a == 3 && b == 3) = true
    · rw [if_pos h4, if_pos h4]; decide
    rw [if_neg h4, if_neg h4]
    by_cases h5 : (a == 3 && b == 2) = true
    · rw [if_pos h5, if_pos h5]; decide
    rw [if_neg h5, if_neg h5]
    exact Int.le_refl _
theorem rankGap_fast {a b : Int} (h : 1 ≤ b ∧ b ≤ 9) (near : Bool) : rankGap fastT a b near = rankG fastT a b near := by
  unfold rankGap
  rw [if_pos (by rw [fast_ok, inB_iff.2 h]; rfl)]
theorem gap_rank {G : Geo} {A B : Cmd} (h : 1 ≤ B.k ∧ B.k ≤ 9) : rankGap fastT A.k B.k false ≤ gapF G fastT A B := by
  rw [rankGap_fast h]
  have h1 := rank_far A.k B.k (usesB A.k && usesB B.k && grpOf G A.b == grpOf G B.b)
  have h2 := (mx_le 1 (rankG fastT A.k B.k (usesB A.k && usesB B.k && grpOf G A.b == grpOf G B.b))).2
  unfold gapF
  split
  · have h3 := (mx_le (mx 1 (rankG fastT A.k B.k (usesB A.k && usesB B.k && grpOf G A.b == grpOf G B.b))) (bankG fastT A.k B.k)).1
    omega
  · omega
theorem gap_bank {G : Geo} {A B : Cmd} (h1 : usesB A.k = true) (h2 : usesB B.k = true) (h3 : A.b = B.b) : bankGap fastT A.k B.k ≤ gapF G fastT A B := by
  rw [bankGap_yes fast_ok]
  unfold gapF
  rw [if_pos (by rw [h1, h2, h3]; simp)]
  exact (mx_le _ _).2
theorem uses_of {k : Int} (h : 1 ≤ k) (h2 : k ≤ 5) : usesB k = true := inB_iff.2 ⟨h, h2⟩
theorem cmdB_ok {G : Geo} (hg : gOk G = true) {k b : Int} (hk : 1 ≤ k ∧ k ≤ 9) (h1 : k ≤ 5 → 0 ≤ b ∧ b < bankN G) (h2 : ¬ k ≤ 5 → b = 0) : cmdOk G ⟨k, b, 0, 0⟩ = true := by
  obtain ⟨_, _, hr, hc⟩ := gOk_iff.1 hg
  unfold cmdOk
  rw [hg, Bool.true_and, wellF_iff]
  refine ⟨hk, ⟨fun h => ?_, fun h => ?_⟩, ⟨fun _ => ⟨Int.le_refl _, by show (0 : Int) ≤ G.r - 1; omega⟩, fun _ => rfl⟩, ⟨fun _ => ⟨Int.le_refl _, by show (0 : Int) ≤ G.c - 1; omega⟩, fun _ => rfl⟩⟩
  · have := h1 (inB_iff.1 h).2
    exact ⟨this.1, by show b ≤ bankN G - 1; omega⟩
  · refine h2 fun h5 => ?_
    have : usesB k = true := uses_of hk.1 h5
    rw [this] at h; cases h
theorem tmod_of {x m : Int} (h0 : 0 ≤ x) (hm : 0 < m) : ∃ k : Int, x.tmod m = k ∧ x % m = k ∧ 0 ≤ k ∧ k < m :=
  ⟨x % m, Int.tmod_eq_emod_of_nonneg h0, rfl, Int.emod_nonneg x (by omega), Int.emod_lt_of_pos x hm⟩

set_option maxHeartbeats 4000000 in
set_option maxRecDepth 100000 in
theorem walk (w : World) (a0 : Option Addr) (len0 cap0 : Nat) (w0 : BytesR w a0 len0) (m0 : len0 ≤ maxLen) :
    Calls Try.prog 15 #[.slice a0 len0 cap0] w fun e w' => e = .returned (.bool true) ∧ Below w.heap.size w w' := by
  by_cases hlen : 1048576 < len0
  · have hd : decide (1048576 < (len0 : Int)) = true := by simp; omega
    go_enter Try.func15, Try.ntmps15
    go_wp2_with fail
    refine (big_any _ _ _ _ m0).mono ?_
    rintro e w1 ⟨rfl, rfl⟩
    go_wp2_with fail
    go_ret
    exact ⟨rfl, Below.refl _ _⟩
  have hd : decide (1048576 < (len0 : Int)) = false := by simp; omega
  have HW := hid w0
  clear w0
  go_enter Try.func15, Try.ntmps15
  go_wp2_with fail
  refine (big_any _ _ _ _ m0).mono ?_
  rintro e w1 ⟨rfl, rfl⟩
  go_wp2_with fail
  refine (DrawCommand_any _ _ _ _ HW.out (by omega)).mono ?_
  rintro e w1 ⟨G, A, rfl, hco, B⟩
  have HCO := hid hco
  have HGO := hid (cmdOk_geo hco)
  have HAK := hid (cmdOk_parts hco).2.1
  have HB := hid B
  have HW := hid (HW.out.old B)
  clear hd B hco
  go_upto_region 4 with (fail)
  refine wp_world (fun w2 hw => ?_)
  have HG := hid (show BoxG w2 w1.heap.size G by rw [hw.out]; exact (BoxG.new_ _ _ _ rfl).old (below_alloc _ _))
  have HA := hid (show BoxC w2 (w1.heap.size + 1) A by rw [hw.out]; exact BoxC.new_ _ _ _ (by simp))
  have B : Below w1.heap.size w1 w2 := by rw [hw.out]; exact below_alloc2 _ _ _
  have HB := hid (below_step HB.out B (Nat.le_refl _))
  have HW := hid (HW.out.old B)
  clear hw B
  generalize w1.heap.size = p3 at *
  go_wp2_with fail
  refine (DrawPlaces_any _ _ _ _ HW.out (by omega)).mono ?_
  rintro e w3 ⟨g5, c5, ps, rfl, hg5, R, hps, B⟩
  have HG := hid (HG.out.old B)
  have HA := hid (HA.out.old B)
  have HB := hid (below_step HB.out B (Nat.le_refl _))
  have HL := hid R.length
  have hpa := hid (And.intro HG.out.lt HA.out.lt)
  have hgx := hid HB.out.size
  obtain ⟨p0, hp0⟩ : ∃ x, ps[0]? = some x := ⟨ps[0]'(by rw [HL.out]; omega), List.getElem?_eq_getElem _⟩
  obtain ⟨p1, hp1⟩ : ∃ x, ps[1]? = some x := ⟨ps[1]'(by rw [HL.out]; omega), List.getElem?_eq_getElem _⟩
  obtain ⟨a0', a1'⟩ := hps p0 (List.mem_of_getElem? hp0)
  obtain ⟨d0', d1'⟩ := hps p1 (List.mem_of_getElem? hp1)
  have HP1 := hid (And.intro d0' d1')
  have K1 := hid (R.cell hp1)
  have LT5 := hid R.lt
  have k0 := R.cell hp0
  obtain ⟨k, ek, ek', hk0, hk9⟩ := tmod_of (x := p0) (m := 9) a0' (by omega)
  have sk : IntKind.i64.wrap (1 + k) = 1 + k := IntWalk.i64_in _ (by omega)
  clear B hps R hp0 hp1 d0' d1' HW
  go_upto_region 6 with (fail)
  refine wp_world (fun w4 hw => ?_)
  obtain ⟨k2, hk2⟩ : ∃ k2 : Int, 1 + k = k2 := ⟨_, rfl⟩
  rw [hk2] at hw
  have HK2 := hid (show 1 ≤ k2 ∧ k2 ≤ 9 by omega)
  have HX := hid (show Blk w4 w3.heap.size 32 [.int .i64 k2, .int .i64 0, .int .i64 0, .int .i64 0] by rw [hw.out]; exact Blk.new _ _ _)
  have B : Below w3.heap.size w3 w4 := by rw [hw.out]; exact below_alloc _ _
  have HG := hid (HG.out.old B)
  have HA := hid (HA.out.old B)
  have HB := hid (below_step HB.out B (Nat.le_refl _))
  have K1 := hid ((B.cell (p := ⟨g5, 1, none⟩) LT5.out).trans K1.out)
  have h5x := hid (show g5 < w3.heap.size from LT5.out)
  have h5y := hid (show g5 < w4.heap.size by have h1 := LT5.out; have h2 := B.size; omega)
  clear hw B ek ek' sk hk2 hk0 hk9 k0 a0' a1' LT5 HL hg5
  generalize w3.heap.size = p6 at *
  have x0 := HX.out.cell (j := 0) rfl
  by_cases h5 : k2 ≤ 5
  · have hbn := hid (bankN_pos HGO.out)
    have hbd := hid (bankN_bd G)
    obtain ⟨b2, eb, eb', hb0, hb9⟩ := tmod_of (x := p1) (m := bankN G) HP1.out.1 (by have h1 := hbn.out; omega)
    have HBO := hid (cmdB_ok HGO.out HK2.out (fun _ => ⟨hb0, hb9⟩) (fun h => absurd h5 h))
    have HEB := hid eb
    have HEB' := hid eb'
    clear eb eb' hb0 hb9
    go_upto_region 7 with (fail)
    clear x0
    have HGw := HG
    refine growR_of 7 (fr := ?fr1)
      (fun i v w' => match i with
          | 0 => v = .slice (some ⟨g5, 0, none⟩) 12 c5
          | 1 => v = .pointer (some ⟨g5, 1, none⟩)
          | 2 => v = .int .i64 p1
          | 3 => v = .agg #[.int .i64 G.a, .int .i64 G.b, .int .i64 G.r, .int .i64 G.c]
          | 4 => v = .int .i64 (bankN G)
          | 5 => v = .int .i64 b2
          | _ => v = .pointer (some ⟨p6, 1, none⟩)
        ) (by kernel_rfl) (by kernel_rfl) (by decide) (by kernel_rfl) ?hfr1 ⟨fun _ => undef, ?h01⟩ ?hF1 ?hstep1 ?hend1
    case hfr1 => intro vs; simp only [frOf, List.take_succ_cons, List.take_zero]; go_simp; exact rfl
    case h01 => rfl
    case hF1 =>
      intro i v w' w'' h hb
      match i, h with
      | 0, h => exact h
      | 1, h => exact h
      | 2, h => exact h
      | 3, h => exact h
      | 4, h => exact h
      | 5, h => exact h
      | n + 6, h => exact h
    case hstep1 =>
      intro vs w' i o hin ho hb hd
      match i, ho, hin with
      | 0, ho, _ =>
        simp only [List.getElem?_cons_zero, Option.some.injEq] at ho
        subst ho
        refine ⟨wanted_none rfl, ?_⟩
        generalize hK : (fun (a' : Act) (w'' : World) => ∃ v : Value, _ ∧ _ ∧ _) = K
        go_simp
        rw [← hK]
        exact ⟨_, rfl, rfl, Below.refl _ _⟩
      | 1, ho, _ =>
        simp only [List.getElem?_cons_succ, List.getElem?_cons_zero, Option.some.injEq] at ho
        subst ho
        refine ⟨wanted_none rfl, ?_⟩
        have x0 : vs 0 = .slice (some ⟨g5, 0, none⟩) 12 c5 := hd 0 (by kernel_rfl)
        generalize hK : (fun (a' : Act) (w'' : World) => ∃ v : Value, _ ∧ _ ∧ _) = K
        generalize hu0 : vs 0 = u0 at x0 ⊢
        subst x0
        go_simp
        rw [← hK]
        exact ⟨_, by simp [upd, hu0], rfl, Below.refl _ _⟩
      | 2, ho, _ =>
        simp only [List.getElem?_cons_succ, List.getElem?_cons_zero, Option.some.injEq] at ho
        subst ho
        refine ⟨wanted_none rfl, ?_⟩
        have x1 : vs 1 = .pointer (some ⟨g5, 1, none⟩) := hd 1 (by kernel_rfl)
        have k1 := (hb.cell (p := ⟨g5, 1, none⟩) h5y.out).trans K1.out
        generalize hK : (fun (a' : Act) (w'' : World) => ∃ v : Value, _ ∧ _ ∧ _) = K
        generalize hu1 : vs 1 = u1 at x1 ⊢
        subst x1
        go_simp
        rw [← hK]
        exact ⟨_, by simp [upd, hu1], rfl, Below.refl _ _⟩
      | 3, ho, _ =>
        simp only [List.getElem?_cons_succ, List.getElem?_cons_zero, Option.some.injEq] at ho
        subst ho
        refine ⟨wanted_none rfl, ?_⟩
        obtain ⟨_, g0, g1, g2, g3⟩ := HG.out.old hb
        generalize hK : (fun (a' : Act) (w'' : World) => ∃ v : Value, _ ∧ _ ∧ _) = K
        go_simp
        rw [← hK]
        exact ⟨_, rfl, rfl, Below.refl _ _⟩
      | 4, ho, _ =>
        simp only [List.getElem?_cons_succ, List.getElem?_cons_zero, Option.some.injEq] at ho
        subst ho
        refine ⟨wanted_none rfl, ?_⟩
        have HE3 : Hid (vs 3 = .agg #[.int .i64 G.a, .int .i64 G.b, .int .i64 G.r, .int .i64 G.c]) := hd 3 (by kernel_rfl)
        generalize hK : (fun (a' : Act) (w'' : World) => ∃ v : Value, _ ∧ _ ∧ _) = K
        go_simp
        refine (calls_args (by rw [HE3.out]) (specBankCount_any G _)).mono ?_
        rintro e w2 ⟨rfl, B⟩
        rw [← hK]
        exact ⟨_, rfl, rfl, B⟩
      | 5, ho, _ =>
        simp only [List.getElem?_cons_succ, List.getElem?_cons_zero, Option.some.injEq] at ho
        subst ho
        refine ⟨wanted_none rfl, ?_⟩
        have x2 : vs 2 = .int .i64 p1 := hd 2 (by kernel_rfl)
        have x4 : vs 4 = .int .i64 (bankN G) := hd 4 (by kernel_rfl)
        have eb := HEB.out
        have eb' := HEB'.out
        have h1 := hbn.out
        have h2 := hbd.out
        have h3 := HP1.out
        generalize bankN G = nb at *
        have hne : ¬ nb = 0 := by omega
        generalize hK : (fun (a' : Act) (w'' : World) => ∃ v : Value, _ ∧ _ ∧ _) = K
        generalize hu2 : vs 2 = u2 at x2 ⊢
        subst x2
        generalize hu4 : vs 4 = u4 at x4 ⊢
        subst x4
        go_simp
        rw [← hK]
        exact ⟨_, by simp [upd, hu2, hu4], rfl, Below.refl _ _⟩
      | 6, ho, _ =>
        simp only [List.getElem?_cons_succ, List.getElem?_cons_zero, Option.some.injEq] at ho
        subst ho
        refine ⟨wanted_none rfl, ?_⟩
        generalize hK : (fun (a' : Act) (w'' : World) => ∃ v : Value, _ ∧ _ ∧ _) = K
        go_simp
        rw [← hK]
        exact ⟨_, rfl, rfl, Below.refl _ _⟩
      | n + 7, _, hin => exact absurd hin (by omega)
    case hend1 =>
      intro vs w5 hb hf
      have e5 : vs 5 = .int .i64 b2 := hf 5 (by decide)
      have e6 : vs 6 = .pointer (some ⟨p6, 1, none⟩) := hf 6 (by decide)
      generalize vs 5 = u5 at e5 ⊢
      subst e5
      generalize vs 6 = u6 at e6 ⊢
      subst e6
      have HX := hid (HX.out.old hb)
      have HG := hid (HG.out.old hb)
      have HA := hid (HA.out.old hb)
      have HB := hid (below_step HB.out hb (Nat.le_refl _))
      have x1 := HX.out.cell (j := 1) rfl
      have f1 := HX.out.frozen 1
      clear hf hb
      refine wpTail_plain rfl fun K hK => ?_
      go_simp
      refine hK _ _ (wpTail_nil ?_)
      clear hK K
      go_upto_region 8 with (fail)
      refine wp_world (fun w6 hw => ?_)
      have lx := HX.out.lt
      have KX := (HX.out.set 1 (.int .i64 b2)).2
      have HX := hid (show Blk w6 p6 32 [.int .i64 k2, .int .i64 b2, .int .i64 0, .int .i64 0] by rw [hw.out]; exact (HX.out.set 1 (.int .i64 b2)).1)
      rw [← hw.out] at KX
      have HG := hid (HG.out.keeps KX (by have h1 := hpa.out; omega))
      have HA := hid (HA.out.below (B := p6) (KX.below (Nat.le_of_lt lx) (fun k hk e => by omega)) hpa.out.2)
      have HB := hid (HB.out.trans (KX.below HB.out.size (fun k hk e => by have h1 := hgx.out; omega)))
      clear hw KX x1 f1
      have HGAP := hid (show gapAll G fastT A ⟨k2, b2, 0, 0⟩ = gapF G fastT A ⟨k2, b2, 0, 0⟩ by unfold gapAll; rw [if_pos (by rw [fast_ok, HCO.out, HBO.out]; rfl)])
      have HN1 := hid (gapF_bd fast_ok G A ⟨k2, b2, 0, 0⟩).1
      have HN2 := hid (gap_rank (G := G) (A := A) (B := ⟨k2, b2, 0, 0⟩) HK2.out)
      have HN3 := hid (fun (h1 : A.k ≤ 5) (h2 : k2 ≤ 5) (h3 : A.b = b2) => gap_bank (G := G) (A := A) (B := ⟨k2, b2, 0, 0⟩) (uses_of HAK.out.1 h1) (uses_of HK2.out.1 h2) h3)
      dsimp only at HN2 HN3
      obtain ⟨n, hn⟩ : ∃ n : Int, gapF G fastT A ⟨k2, b2, 0, 0⟩ = n := ⟨_, rfl⟩
      rw [hn] at HGAP HN1 HN2 HN3
      clear hn
      go_wp2_with fail
      refine (implFastTiming_any _).mono ?_
      rintro e w8 ⟨rfl, B⟩
      have HG := hid (HG.out.old B)
      have HA := hid (HA.out.old B)
      have HX := hid (HX.out.old B)
      have HB := hid (below_step HB.out B (Nat.le_refl _))
      clear B
      have HT := hid (Blk.zeroT w8 27)
      have HTT := hid HT.out.there
      go_upto_region 9 with (refine wpList_store_tim (T := fastT) HTT.out (by rfl) _ _ (by rfl) (by rfl) (by rfl) ?_)
      refine wp_world (fun w9 hw => ?_)
      have HY := hid (BoxT.of_blk (show Blk w9 w8.heap.size 27 (timV fastT) by rw [hw.out]; exact HT.out.tim fastT))
      have B : Below w8.heap.size w8 w9 := by rw [hw.out]; exact (below_alloc _ _).trans ((setCells_keeps w8.heap.size (timV fastT) 0 _).below (by simp) (fun k hk e => by omega))
      have HG := hid (HG.out.old B)
      have HA := hid (HA.out.old B)
      have HX := hid (HX.out.old B)
      have HB := hid (below_step HB.out B (Nat.le_refl _))
      clear hw B HT HTT
      generalize w8.heap.size = p7 at *
      obtain ⟨_, g0, g1, g2, g3⟩ := HG.out
      obtain ⟨_, a0, a1, a2, a3⟩ := HA.out
      have x0 := HX.out.cell (j := 0) rfl
      have x1 := HX.out.cell (j := 1) rfl
      have x2 := HX.out.cell (j := 2) rfl
      have x3 := HX.out.cell (j := 3) rfl
      go_wp2_with (refine wpList_load_tim HY.out (by rfl) _ (by rfl) (by rfl) ?_)
      clear g0 g1 g2 g3 a0 a1 a2 a3 x0 x1 x2 x3
      refine (calls_int HGAP.out (implGap_any G fastT A ⟨k2, b2, 0, 0⟩ _)).mono ?_
      rintro e w10 ⟨rfl, B⟩
      have HA := hid (HA.out.old B)
      have HX := hid (HX.out.old B)
      have HY := hid (HY.out.old B)
      have HB := hid (below_step HB.out B (Nat.le_refl _))
      clear B HG
      have a0 := HA.out.c0
      have a1 := HA.out.c1
      have x0 := HX.out.cell (j := 0) rfl
      have x1 := HX.out.cell (j := 1) rfl
      have end_ : ∀ w11, Below w10.heap.size w10 w11 → BoxC w11 (p3 + 1) A ∧ Blk w11 p6 32 [.int .i64 k2, .int .i64 b2, .int .i64 0, .int .i64 0] ∧ BoxT w11 p7 fastT ∧ Below w.heap.size w w11 := fun w11 B => ⟨HA.out.old B, HX.out.old B, HY.out.old B, below_step HB.out B (Nat.le_refl _)⟩
      have HE := hid end_
      clear end_
      obtain ⟨bg, hbg⟩ : ∃ bg : Int, bankGap fastT A.k k2 = bg := ⟨_, rfl⟩
      rw [hbg] at HN3
      have HBG := hid hbg
      obtain ⟨rg, hrg⟩ : ∃ rg : Int, rankGap fastT A.k k2 false = rg := ⟨_, rfl⟩
      rw [hrg] at HN2
      have HRG := hid hrg
      clear hbg hrg
      cases d1 : decide (A.k ≤ 5) with
      | false =>
        go_upto_region 12 with (fail)
        refine wp_world (fun w11 hw => ?_)
        obtain ⟨HA, HX, HY, HB⟩ : Hid (BoxC w11 (p3 + 1) A) ∧ Hid (Blk w11 p6 32 [.int .i64 k2, .int .i64 b2, .int .i64 0, .int .i64 0]) ∧ Hid (BoxT w11 p7 fastT) ∧ Hid (Below w.heap.size w w11) := by
          have h := HE.out w11 (by rw [hw.out]; exact Below.refl _ _)
          exact ⟨hid h.1, hid h.2.1, hid h.2.2.1, hid h.2.2.2⟩
        clear hw a0 a1 x0 x1
        have h1n := HN1.out
        have hrn := HN2.out
        have HR3 := hid (show rankGap fastT 3 2 true = fastT.t11 by decide)
        have a0 := HA.out.c0
        have x0 := HX.out.cell (j := 0) rfl
        have y11 := HY.out.cs 11 (.int .i64 fastT.t11) rfl
        have l1 := HA.out.lt
        have l2 := HX.out.lt
        have l3 := HY.out.lt
        have hov := over_cell w11
        have hq : (fastT.t11 == fastT.t11) = true := by decide
        have er1 := HRG.out
        have er2 := HR3.out
        refine wp_region_over (by kernel_rfl) (by kernel_rfl) ?_
        repeat (first | (refine wpQuiet_load_timW (by rintro _ ⟨t, rfl⟩; exact HY.out.old t.below) _ (by rfl) (by rfl) (by rfl) ?_; simp only [Act.put, List.setIfInBounds_toArray, List.set_cons_succ, List.set_cons_zero]) | go_big_quiet_step ((first | (go_at_call 67; exact calls_over (implRankGap_any fastT _ _ _ _)) | (go_at_call 68; exact calls_over (specFastTiming_any _)))))
        refine wpQuiet_nil ?_
        intro w12 B
        have HB := hid (below_step HB.out B (Nat.le_refl _))
        clear B hov a0 x0 y11 l1 l2 l3 er1 er2
        go_wp2_with fail
        go_ret
        exact ⟨rfl, HB.out⟩
      | true =>
        have ha5 : A.k ≤ 5 := by simpa using d1
        cases d3 : (A.b == b2) with
        | false =>
          go_upto_region 12 with (fail)
          refine wp_world (fun w11 hw => ?_)
          obtain ⟨HA, HX, HY, HB⟩ : Hid (BoxC w11 (p3 + 1) A) ∧ Hid (Blk w11 p6 32 [.int .i64 k2, .int .i64 b2, .int .i64 0, .int .i64 0]) ∧ Hid (BoxT w11 p7 fastT) ∧ Hid (Below w.heap.size w w11) := by
            have h := HE.out w11 (by rw [hw.out]; exact Below.refl _ _)
            exact ⟨hid h.1, hid h.2.1, hid h.2.2.1, hid h.2.2.2⟩
          clear hw a0 a1 x0 x1
          have h1n := HN1.out
          have hrn := HN2.out
          have HR3 := hid (show rankGap fastT 3 2 true = fastT.t11 by decide)
          have a0 := HA.out.c0
          have x0 := HX.out.cell (j := 0) rfl
          have y11 := HY.out.cs 11 (.int .i64 fastT.t11) rfl
          have l1 := HA.out.lt
          have l2 := HX.out.lt
          have l3 := HY.out.lt
          have hov := over_cell w11
          have hq : (fastT.t11 == fastT.t11) = true := by decide
          have er1 := HRG.out
          have er2 := HR3.out
          refine wp_region_over (by kernel_rfl) (by kernel_rfl) ?_
          repeat (first | (refine wpQuiet_load_timW (by rintro _ ⟨t, rfl⟩; exact HY.out.old t.below) _ (by rfl) (by rfl) (by rfl) ?_; simp only [Act.put, List.setIfInBounds_toArray, List.set_cons_succ, List.set_cons_zero]) | go_big_quiet_step ((first | (go_at_call 67; exact calls_over (implRankGap_any fastT _ _ _ _)) | (go_at_call 68; exact calls_over (specFastTiming_any _)))))
          refine wpQuiet_nil ?_
          intro w12 B
          have HB := hid (below_step HB.out B (Nat.le_refl _))
          clear B hov a0 x0 y11 l1 l2 l3 er1 er2
          go_wp2_with fail
          go_ret
          exact ⟨rfl, HB.out⟩
        | true =>
          have hlt := HN3.out ha5 h5 (by simpa using d3)
          go_wp2_with (refine wpList_load_timW HY.out _ (by rfl) (by rfl) (by rfl) ?_)
          refine (calls_int HBG.out (implBankGap_any fastT A.k k2 _)).mono ?_
          rintro e w10' ⟨rfl, BB⟩
          have HBB := hid BB
          clear BB
          go_upto_region 12 with (fail)
          refine wp_world (fun w11 hw => ?_)
          obtain ⟨HA, HX, HY, HB⟩ : Hid (BoxC w11 (p3 + 1) A) ∧ Hid (Blk w11 p6 32 [.int .i64 k2, .int .i64 b2, .int .i64 0, .int .i64 0]) ∧ Hid (BoxT w11 p7 fastT) ∧ Hid (Below w.heap.size w w11) := by
            have h := HE.out w11 (by rw [hw.out]; exact HBB.out)
            exact ⟨hid h.1, hid h.2.1, hid h.2.2.1, hid h.2.2.2⟩
          clear hw a0 a1 x0 x1
          have h1n := HN1.out
          have hrn := HN2.out
          have HR3 := hid (show rankGap fastT 3 2 true = fastT.t11 by decide)
          have a0 := HA.out.c0
          have x0 := HX.out.cell (j := 0) rfl
          have y11 := HY.out.cs 11 (.int .i64 fastT.t11) rfl
          have l1 := HA.out.lt
          have l2 := HX.out.lt
          have l3 := HY.out.lt
          have hov := over_cell w11
          have hq : (fastT.t11 == fastT.t11) = true := by decide
          have er1 := HRG.out
          have er2 := HR3.out
          refine wp_region_over (by kernel_rfl) (by kernel_rfl) ?_
          repeat (first | (refine wpQuiet_load_timW (by rintro _ ⟨t, rfl⟩; exact HY.out.old t.below) _ (by rfl) (by rfl) (by rfl) ?_; simp only [Act.put, List.setIfInBounds_toArray, List.set_cons_succ, List.set_cons_zero]) | go_big_quiet_step ((first | (go_at_call 67; exact calls_over (implRankGap_any fastT _ _ _ _)) | (go_at_call 68; exact calls_over (specFastTiming_any _)))))
          refine wpQuiet_nil ?_
          intro w12 B
          have HB := hid (below_step HB.out B (Nat.le_refl _))
          clear B hov a0 x0 y11 l1 l2 l3 er1 er2
          go_wp2_with fail
          go_ret
          exact ⟨rfl, HB.out⟩
  · have HBO := hid (cmdB_ok HGO.out HK2.out (b := 0) (fun h => absurd h h5) (fun _ => rfl))
    have HGAP := hid (show gapAll G fastT A ⟨k2, 0, 0, 0⟩ = gapF G fastT A ⟨k2, 0, 0, 0⟩ by unfold gapAll; rw [if_pos (by rw [fast_ok, HCO.out, HBO.out]; rfl)])
    have HN1 := hid (gapF_bd fast_ok G A ⟨k2, 0, 0, 0⟩).1
    have HN2 := hid (gap_rank (G := G) (A := A) (B := ⟨k2, 0, 0, 0⟩) HK2.out)
    have HN3 := hid (fun (h1 : A.k ≤ 5) (h2 : k2 ≤ 5) (h3 : A.b = 0) => gap_bank (G := G) (A := A) (B := ⟨k2, 0, 0, 0⟩) (uses_of HAK.out.1 h1) (uses_of HK2.out.1 h2) h3)
    dsimp only at HN2 HN3
    obtain ⟨n, hn⟩ : ∃ n : Int, gapF G fastT A ⟨k2, 0, 0, 0⟩ = n := ⟨_, rfl⟩
    rw [hn] at HGAP HN1 HN2 HN3
    clear hn
    go_wp2_with fail
    refine (implFastTiming_any _).mono ?_
    rintro e w8 ⟨rfl, B⟩
    have HG := hid (HG.out.old B)
    have HA := hid (HA.out.old B)
    have HX := hid (HX.out.old B)
    have HB := hid (below_step HB.out B (Nat.le_refl _))
    clear B
    have HT := hid (Blk.zeroT w8 27)
    have HTT := hid HT.out.there
    go_upto_region 9 with (refine wpList_store_tim (T := fastT) HTT.out (by rfl) _ _ (by rfl) (by rfl) (by rfl) ?_)
    refine wp_world (fun w9 hw => ?_)
    have HY := hid (BoxT.of_blk (show Blk w9 w8.heap.size 27 (timV fastT) by rw [hw.out]; exact HT.out.tim fastT))
    have B : Below w8.heap.size w8 w9 := by rw [hw.out]; exact (below_alloc _ _).trans ((setCells_keeps w8.heap.size (timV fastT) 0 _).below (by simp) (fun k hk e => by omega))
    have HG := hid (HG.out.old B)
    have HA := hid (HA.out.old B)
    have HX := hid (HX.out.old B)
    have HB := hid (below_step HB.out B (Nat.le_refl _))
    clear hw B HT HTT
    generalize w8.heap.size = p7 at *
    obtain ⟨_, g0, g1, g2, g3⟩ := HG.out
    obtain ⟨_, a0, a1, a2, a3⟩ := HA.out
    have x0 := HX.out.cell (j := 0) rfl
    have x1 := HX.out.cell (j := 1) rfl
    have x2 := HX.out.cell (j := 2) rfl
    have x3 := HX.out.cell (j := 3) rfl
    go_wp2_with (refine wpList_load_tim HY.out (by rfl) _ (by rfl) (by rfl) ?_)
    clear g0 g1 g2 g3 a0 a1 a2 a3 x0 x1 x2 x3
    refine (calls_int HGAP.out (implGap_any G fastT A ⟨k2, 0, 0, 0⟩ _)).mono ?_
    rintro e w10 ⟨rfl, B⟩
    have HA := hid (HA.out.old B)
    have HX := hid (HX.out.old B)
    have HY := hid (HY.out.old B)
    have HB := hid (below_step HB.out B (Nat.le_refl _))
    clear B HG
    have a0 := HA.out.c0
    have a1 := HA.out.c1
    have x0 := HX.out.cell (j := 0) rfl
    have x1 := HX.out.cell (j := 1) rfl
    have end_ : ∀ w11, Below w10.heap.size w10 w11 → BoxC w11 (p3 + 1) A ∧ Blk w11 p6 32 [.int .i64 k2, .int .i64 0, .int .i64 0, .int .i64 0] ∧ BoxT w11 p7 fastT ∧ Below w.heap.size w w11 := fun w11 B => ⟨HA.out.old B, HX.out.old B, HY.out.old B, below_step HB.out B (Nat.le_refl _)⟩
    have HE := hid end_
    clear end_
    obtain ⟨bg, hbg⟩ : ∃ bg : Int, bankGap fastT A.k k2 = bg := ⟨_, rfl⟩
    rw [hbg] at HN3
    have HBG := hid hbg
    obtain ⟨rg, hrg⟩ : ∃ rg : Int, rankGap fastT A.k k2 false = rg := ⟨_, rfl⟩
    rw [hrg] at HN2
    have HRG := hid hrg
    clear hbg hrg
    cases d1 : decide (A.k ≤ 5) with
    | false =>
      go_upto_region 12 with (fail)
      refine wp_world (fun w11 hw => ?_)
      obtain ⟨HA, HX, HY, HB⟩ : Hid (BoxC w11 (p3 + 1) A) ∧ Hid (Blk w11 p6 32 [.int .i64 k2, .int .i64 0, .int .i64 0, .int .i64 0]) ∧ Hid (BoxT w11 p7 fastT) ∧ Hid (Below w.heap.size w w11) := by
        have h := HE.out w11 (by rw [hw.out]; exact Below.refl _ _)
        exact ⟨hid h.1, hid h.2.1, hid h.2.2.1, hid h.2.2.2⟩
      clear hw a0 a1 x0 x1
      have h1n := HN1.out
      have hrn := HN2.out
      have HR3 := hid (show rankGap fastT 3 2 true = fastT.t11 by decide)
      have a0 := HA.out.c0
      have x0 := HX.out.cell (j := 0) rfl
      have y11 := HY.out.cs 11 (.int .i64 fastT.t11) rfl
      have l1 := HA.out.lt
      have l2 := HX.out.lt
      have l3 := HY.out.lt
      have hov := over_cell w11
      have hq : (fastT.t11 == fastT.t11) = true := by decide
      have er1 := HRG.out
      have er2 := HR3.out
      refine wp_region_over (by kernel_rfl) (by kernel_rfl) ?_
      repeat (first | (refine wpQuiet_load_timW (by rintro _ ⟨t, rfl⟩; exact HY.out.old t.below) _ (by rfl) (by rfl) (by rfl) ?_; simp only [Act.put, List.setIfInBounds_toArray, List.set_cons_succ, List.set_cons_zero]) | go_big_quiet_step ((first | (go_at_call 67; exact calls_over (implRankGap_any fastT _ _ _ _)) | (go_at_call 68; exact calls_over (specFastTiming_any _)))))
      refine wpQuiet_nil ?_
      intro w12 B
      have HB := hid (below_step HB.out B (Nat.le_refl _))
      clear B hov a0 x0 y11 l1 l2 l3 er1 er2
      go_wp2_with fail
      go_ret
      exact ⟨rfl, HB.out⟩
    | true =>
      have ha5 : A.k ≤ 5 := by simpa using d1
      go_upto_region 12 with (fail)
      refine wp_world (fun w11 hw => ?_)
      obtain ⟨HA, HX, HY, HB⟩ : Hid (BoxC w11 (p3 + 1) A) ∧ Hid (Blk w11 p6 32 [.int .i64 k2, .int .i64 0, .int .i64 0, .int .i64 0]) ∧ Hid (BoxT w11 p7 fastT) ∧ Hid (Below w.heap.size w w11) := by
        have h := HE.out w11 (by rw [hw.out]; exact Below.refl _ _)
        exact ⟨hid h.1, hid h.2.1, hid h.2.2.1, hid h.2.2.2⟩
      clear hw a0 a1 x0 x1
      have h1n := HN1.out
      have hrn := HN2.out
      have HR3 := hid (show rankGap fastT 3 2 true = fastT.t11 by decide)
      have a0 := HA.out.c0
      have x0 := HX.out.cell (j := 0) rfl
      have y11 := HY.out.cs 11 (.int .i64 fastT.t11) rfl
      have l1 := HA.out.lt
      have l2 := HX.out.lt
      have l3 := HY.out.lt
      have hov := over_cell w11
      have hq : (fastT.t11 == fastT.t11) = true := by decide
      have er1 := HRG.out
      have er2 := HR3.out
      refine wp_region_over (by kernel_rfl) (by kernel_rfl) ?_
      repeat (first | (refine wpQuiet_load_timW (by rintro _ ⟨t, rfl⟩; exact HY.out.old t.below) _ (by rfl) (by rfl) (by rfl) ?_; simp only [Act.put, List.setIfInBounds_toArray, List.set_cons_succ, List.set_cons_zero]) | go_big_quiet_step ((first | (go_at_call 67; exact calls_over (implRankGap_any fastT _ _ _ _)) | (go_at_call 68; exact calls_over (specFastTiming_any _)))))
      refine wpQuiet_nil ?_
      intro w12 B
      have HB := hid (below_step HB.out B (Nat.le_refl _))
      clear B hov a0 x0 y11 l1 l2 l3 er1 er2
      go_wp2_with fail
      go_ret
      exact ⟨rfl, HB.out⟩

set_option maxRecDepth 100000 in
theorem lifted (os : Os) (started : os.Started) (H : Type) (enc : TypeId × Value → H) :
    ReturnsInHanded {} Try.checked os 15 .any (Rows.fnGapsSpec.pre6 enc Try.prog Try.f15 Rows.fnGapsRow.domain false) (Rows.fnGapsSpec.post enc Try.prog Try.f15 false true false false) := by
  refine returnsInHanded_of_change (C := Try.checked) own started (by kernel_rfl) Try.func15
    (ChangeSpec.witness6 (enc := enc) (C := Try.checked) false ⟨#[], #[.slice none 0 0], []⟩ 8 (by kernel_rfl) (by kernel_rfl) (by kernel_rfl) (by kernel_rfl)) ?_
  intro W base args ds gs before hval0 hW hcnd _
  have hval : ∀ (j : Nat) t v, Try.f15.params[j]? = some t → args[j]? = some v → Value.okWide Try.prog W .any base t v := hval0
  have hW' := hW
  obtain ⟨p, q, hA0, hV, rfl, hfz, hnd⟩ := hW
  have hA : DataW.TrodAll enc Try.prog W 0 (fun _ => true) true Try.f15.params.toList args.toList ds p := hA0
  rw [Try.params15] at hA hval
  obtain ⟨v0, vs0, d0, ds0, p0, q0, hargs, rfl, rfl, h0, r0⟩ := trodAll_cons hA
  obtain ⟨rfl, rfl, rfl⟩ := trodAll_nil r0
  obtain rfl : args = #[v0] := by cases args; simp_all
  obtain ⟨rfl, rfl⟩ := trodVars_none hV
  obtain ⟨a0, len0, cap0, rfl⟩ := okWide_slice Try.underlying22 (hval 0 22 v0 rfl rfl)
  have k0 := h0
  have lt0 : ∀ x ∈ p0, x.block < W.heap.size := by obtain ⟨m, hm⟩ := k0; exact DataW.trod_lt m _ _ _ hm
  obtain ⟨w0, m0⟩ : BytesR W a0 len0 ∧ len0 ≤ maxLen := by
    obtain ⟨fuel, hf⟩ := h0
    rcases open_ints Try.underlying22 Try.underlying5 (by kernel_rfl) hf with ⟨hcs, _⟩ | ⟨x, l, c, zs, hcs, _, hl, hm, hz, _, hcell, hwz⟩
    · simp [Value.cells] at hcs
      obtain ⟨rfl, rfl, rfl⟩ := hcs
      exact ⟨fun i hi => absurd hi (Nat.not_lt_zero _), Nat.zero_le _⟩
    · simp [Value.cells] at hcs
      obtain ⟨rfl, rfl, rfl⟩ := hcs
      exact ⟨BytesR.of_cells hl (by simpa using hz) hcell hwz, Nat.le_trans hl hm⟩
  clear hA0 hval0
  refine (walk W a0 len0 cap0 w0 m0).mono fun e W' ⟨he, bel⟩ => ?_
  subst he
  exact ⟨_, rfl, _, _, _, [], _, [], hW', trodAll_mk1 (shut_bool Try.underlying4 _), (trodAll_cons_mk (Below.trod laidOut (by kernel_rfl) (of_decide_eq_true (by kernel_rfl)) k0 bel lt0) trodAll_mk0), rfl, bel.frame _, fun h => by cases h⟩

theorem own_facts : joinedFacts Try.prog 15 Try.f15 Rows.fnGapsSpec Rows.fnGapsRow = true :=
  facts_of 15 Try.f15 Rows.fnGapsSpec Rows.fnGapsRow (by as_aux_lemma => kernel_rfl) (by as_aux_lemma => kernel_rfl) (by as_aux_lemma => kernel_rfl) rfl rfl
    (by as_aux_lemma => kernel_rfl) (by as_aux_lemma => kernel_rfl) (by as_aux_lemma => kernel_rfl) (by as_aux_lemma => kernel_rfl)
    (by as_aux_lemma => kernel_rfl) (by as_aux_lemma => kernel_rfl) (by as_aux_lemma => kernel_rfl) (by as_aux_lemma => kernel_rfl) (by as_aux_lemma => kernel_rfl)
    (by as_aux_lemma => kernel_rfl) (by as_aux_lemma => kernel_rfl) (by as_aux_lemma => kernel_rfl) (by as_aux_lemma => kernel_rfl)
    rfl rfl rfl rfl (by as_aux_lemma => kernel_rfl) (by as_aux_lemma => kernel_rfl) (by as_aux_lemma => kernel_rfl) (by as_aux_lemma => kernel_rfl)
theorem over : Rows.fnGapsRow.holds Try.pinned (OpenSpec.ofChange Rows.fnGapsSpec) :=
  OpenClaim.holds_of_wide 15 Try.f15 rfl rfl rfl rfl rfl rfl rfl ⟨rfl, rfl, rfl, rfl, rfl⟩ rfl rfl rfl rfl rfl (by as_aux_lemma => kernel_rfl) Try.func15 own_facts
    (of_decide_eq_true (by as_aux_lemma => kernel_rfl)) (by unfold Func.isWrapper; first | (rw [if_pos (by decide +kernel)]; kernel_rfl) | (rw [if_neg (by decide +kernel)]; exact ⟨rfl, rfl⟩))
    (fun os started H enc _ => lifted os started H enc)

theorem proved : Rows.FnGapsSaid := over
#print axioms proved
end Go.Proofs.Ytggjheapjklhgaa.fnGaps
