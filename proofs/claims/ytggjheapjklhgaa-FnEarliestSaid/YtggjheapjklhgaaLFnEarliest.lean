/- The law 'FnEarliest': for every input the program's function and the reference's agree, so the call returns true and leaves its arguments as they were; no condition. -/
import Derived.Test.YtggjheapjklhgaaRows
import Derived.Test.YtggjheapjklhgaaHead
import Derived.Test.YtggjheapjklhgaaTrW
import Derived.Test.YtggjheapjklhgaaElI
import Derived.Test.YtggjheapjklhgaaTfI
import Derived.Test.YtggjheapjklhgaaTen
import Derived.Test.YtggjheapjklhgaaAlwW
import Derived.Test.YtggjheapjklhgaaAdrW
import Derived.Test.YtggjheapjklhgaaInQ
import Derived.WalkKit
import Derived.ProofKit
import Derived.OpenShut
import Derived.ShutString
import Derived.ChangeOld
import Derived.Below
namespace Go.Proofs.Ytggjheapjklhgaa.fnEarliest
open Go.ChangeShapes Go.WideShapes Go.ChangeAt Go.RowKit
set_option linter.unusedVariables false

theorem own : ownKnob Try.prog.godebug = none := by kernel_rfl
theorem laidOut : laidOutB Try.prog = true := by kernel_rfl

theorem calls_pair {P : Program} {f : FuncId} {args : Array Value} {w : World} {x : Int × Int} {a b : Int} (h : x = (a, b)) (k : Calls P f args w fun e w' => e = .returned (.tuple #[.int .i64 x.1, .int .i64 x.2]) ∧ Below w.heap.size w w') : Calls P f args w fun e w' => e = .returned (.tuple #[.int .i64 a, .int .i64 b]) ∧ Below w.heap.size w w' := by
  subst h; exact k

set_option maxHeartbeats 4000000 in
set_option maxRecDepth 100000 in
theorem walk (w : World) (a0 : Option Addr) (len0 cap0 : Nat) (w0 : BytesR w a0 len0) (m0 : len0 ≤ maxLen) :
    Calls Try.prog 13 #[.slice a0 len0 cap0] w fun e w' => e = .returned (.bool true) ∧ Below w.heap.size w w' := by
  by_cases hlen : 1048576 < len0
  · have hd : decide (1048576 < (len0 : Int)) = true := by simp; omega
    go_enter Try.func13, Try.ntmps13
    go_wp2_with fail
    refine (big_any _ _ _ _ m0).mono ?_
    rintro e w1 ⟨rfl, rfl⟩
    go_wp2_with fail
    go_ret
    exact ⟨rfl, Below.refl _ _⟩
  have hd : decide (1048576 < (len0 : Int)) = false := by simp; omega
  have HW := hid w0
  clear w0
  go_enter Try.func13, Try.ntmps13
  go_wp2_with fail
  refine (big_any _ _ _ _ m0).mono ?_
  rintro e w1 ⟨rfl, rfl⟩
  go_wp2_with fail
  refine (DrawTrace_any _ _ _ _ HW.out (by omega)).mono ?_
  rintro e w1 ⟨G, T, ⟨ea, en, ec, es⟩, rfl, hO, hl, ⟨D, hT⟩, B⟩
  have HTR := hid hT
  have HL := hid hl
  have HEN := hid (show en ≤ 1048576 ∧ en ≤ ec ∧ en = es.length from ⟨by have h1 : en = es.length := OwnF.length encE_len (by decide) hO; dsimp only at hl; omega, OwnF.le_cap hO, OwnF.length encE_len (by decide) hO⟩)
  have HE := hid (show EvsRd w1 ⟨ea, en, ec, es⟩ from hO.reads)
  have HB := hid B
  have HW := hid (HW.out.old B)
  dsimp only at HTR HL
  clear hd B hO hl hT
  have HT := hid (Blk.zeroT (w1.alloc (.cells #[.int .i64 G.a, .int .i64 G.b, .int .i64 G.r, .int .i64 G.c] 25)) 27)
  simp only [World.size_alloc] at HT
  have HTT := hid HT.out.there
  go_upto_region 4 with (refine wpList_store_tim2 (T := T) (by rfl) _ _ (by rfl) (by rfl) (by rfl) (by exact HTT.out) ?_)
  refine wp_world (fun w2 hw => ?_)
  have HG := hid (show BoxG w2 w1.heap.size G by rw [hw.out]; exact ((BoxG.new_ _ _ _ rfl).old (below_alloc _ _)).keeps (setCells_keeps (w1.heap.size + 1) (timV T) 0 _) (by omega))
  have HX := hid (BoxT.of_blk (show Blk w2 (w1.heap.size + 1) 27 (timV T) by rw [hw.out]; exact HT.out.tim T))
  have B : Below w1.heap.size w1 w2 := by rw [hw.out]; exact (below_alloc2 _ _ _).trans ((setCells_keeps (w1.heap.size + 1) (timV T) 0 _).below (by simp; omega) (fun k hk e => by omega))
  have HE := hid (EvsRd.old HE.out B)
  have HB := hid (below_step HB.out B (Nat.le_refl _))
  have HW := hid (HW.out.old B)
  clear hw B HT HTT
  generalize w1.heap.size = p3 at *
  go_wp2_with fail
  refine (DrawCommand_any _ _ _ _ HW.out (by omega)).mono ?_
  rintro e w3 ⟨G2, C, rfl, hco, B⟩
  have HG := hid (HG.out.old B)
  have HX := hid (HX.out.old B)
  have HE := hid (EvsRd.old HE.out B)
  have HB := hid (below_step HB.out B (Nat.le_refl _))
  have HW := hid (HW.out.old B)
  clear B HW
  go_upto_region 5 with (fail)
  refine wp_world (fun w4 hw => ?_)
  have HC := hid (show BoxC w4 (w3.heap.size + 1) C by rw [hw.out]; exact BoxC.new_ _ _ _ (by simp))
  have B : Below w3.heap.size w3 w4 := by rw [hw.out]; exact below_alloc2 _ _ _
  have HG := hid (HG.out.old B)
  have HX := hid (HX.out.old B)
  have HE := hid (EvsRd.old HE.out B)
  have HB := hid (below_step HB.out B (Nat.le_refl _))
  clear hw B
  generalize w3.heap.size = p6 at *
  have HL' := hid (show es.length ≤ 1000 by have h := HL.out; omega)
  have HLN := hid (show en = es.length from HEN.out.2.2)
  cases ha : allowed G D C with
  | false =>
    have HAL := hid ha
    have HNX := hid (show earliestNext G T es C = -1 by rw [HTR.out.next HL'.out C, if_neg (by rw [ha]; decide)])
    clear ha
    obtain ⟨_, g0, g1, g2, g3⟩ := HG.out
    obtain ⟨_, c0, c1, c2, c3⟩ := HC.out
    go_wp2_with (refine wpList_load_tim HX.out (by rfl) _ (by rfl) (by rfl) ?_)
    clear g0 g1 g2 g3 c0 c1 c2 c3
    refine (calls_int HNX.out (implEarliestNext_any G T ⟨ea, en, ec, es⟩ C _ HE.out HEN.out.1 HEN.out.2.1)).mono ?_
    rintro e w5 ⟨rfl, B⟩
    have HG := hid (HG.out.old B)
    have HX := hid (HX.out.old B)
    have HE := hid (EvsRd.old HE.out B)
    have HB := hid (below_step HB.out B (Nat.le_refl _))
    have HC := hid (HC.out.old B)
    clear B
    obtain ⟨_, g0, g1, g2, g3⟩ := HG.out
    go_wp2_with fail
    clear g0 g1 g2 g3
    refine (specTraceEnd_any G ⟨ea, en, ec, es⟩ _ HE.out HEN.out.1).mono ?_
    rintro e w7 ⟨⟨ra, rn, rc, rs, rp⟩, rfl, O, hd, B⟩
    have HRD := hid (show RankE.d ⟨ra, rn, rc, rs, rp⟩ = D by rw [hd]; exact congrArg Prod.fst HTR.out.end_)
    have HRR := hid (show RankR w7 ⟨ra, rn, rc, rs, rp⟩ from O.reads)
    have HRN := hid (show rn ≤ 1048576 by have h1 := traceEnd_len G es; have h2 : rs.length ≤ 8 := by { have h3 : (RankE.d ⟨ra, rn, rc, rs, rp⟩).banks.length ≤ 8 := by rw [hd]; exact h1
                                                                                                        exact h3 }
                                          have h4 : rn = rs.length := HRR.out.len
                                          omega)
    have HG := hid (HG.out.old B)
    have HX := hid (HX.out.old B)
    have HE := hid (EvsRd.old HE.out B)
    have HB := hid (below_step HB.out B (Nat.le_refl _))
    have HC := hid (HC.out.old B)
    clear O hd B
    go_upto_region 8 with (fail)
    refine wp_world (fun w8 hw => ?_)
    have HK := hid (show BoxK2 w8 w7.heap.size ⟨ra, rn, rc, rs, rp⟩ by rw [hw.out]; exact BoxK2.new_ _ _ ⟨ra, rn, rc, rs, rp⟩ rfl)
    have B : Below w7.heap.size w7 w8 := by rw [hw.out]; exact below_alloc _ _
    have HG := hid (HG.out.old B)
    have HX := hid (HX.out.old B)
    have HE := hid (EvsRd.old HE.out B)
    have HB := hid (below_step HB.out B (Nat.le_refl _))
    have HC := hid (HC.out.old B)
    have HRR := hid (HRR.out.old B)
    clear hw B
    generalize w7.heap.size = p9 at *
    have HFT := hid (HTR.out.fault1 HL'.out ⟨900000, C⟩)
    have HNZ := hid (HTR.out.chk_no HAL.out 900000)
    rw [if_neg HNZ.out] at HFT
    obtain ⟨q, hq⟩ : ∃ q, chk G T es D ⟨900000, C⟩ = q := ⟨_, rfl⟩
    rw [hq] at HFT HNZ
    clear hq
    refine mix3_of 8 (fun i => i == 0 || i == 1) (fun i => i == 9 || i == 10 || i == 11 || i == 12 || i == 13 || i == 14) (fun i => match i with | 0 => .agg #[.int .i64 G.a, .int .i64 G.b, .int .i64 G.r, .int .i64 G.c] | 1 => .agg #[.int .i64 T.t0, .int .i64 T.t1, .int .i64 T.t2, .int .i64 T.t3, .int .i64 T.t4, .int .i64 T.t5, .int .i64 T.t6, .int .i64 T.t7, .int .i64 T.t8, .int .i64 T.t9, .int .i64 T.t10, .int .i64 T.t11, .int .i64 T.t12, .int .i64 T.t13, .int .i64 T.t14, .int .i64 T.t15, .int .i64 T.t16] | 9 => .tuple #[.int .i64 q, .int .i64 (es.length : Int)] | 10 => .tuple #[.int .i64 q, .int .i64 (es.length : Int)] | 11 => .int .i64 q | 12 => .int .i64 (es.length : Int) | 13 => .int .i64 q | 14 => .int .i64 (es.length : Int) | _ => undef) (fr := ?fr1)
      (fun i v w' => match i with
          | 2 => ∃ h, v = .slice (some ⟨h, 0, none⟩) 0 0 ∧ OwnF encE 5 58 w' w8.heap.size w'.heap.size (some ⟨h, 0, none⟩) 0 0 []
          | 3 => v = .slice ea en ec
          | 4 => ∃ a' c', v = .slice a' en c' ∧ OwnF encE 5 58 w' w8.heap.size w'.heap.size a' en c' es
          | 5 => v = .agg #[.int .i64 C.k, .int .i64 C.b, .int .i64 C.r, .int .i64 C.c]
          | 6 => v = .agg #[.int .i64 900000, .int .i64 C.k, .int .i64 C.b, .int .i64 C.r, .int .i64 C.c]
          | 7 => ∃ h, v = .slice (some ⟨h, 0, none⟩) 1 1 ∧ Blk w' h 58 [.int .i64 900000, .int .i64 C.k, .int .i64 C.b, .int .i64 C.r, .int .i64 C.c]
          | _ => True
        ) (fun vs w' => ∃ a' c', vs 8 = .slice a' (en + 1) c' ∧ OwnF encE 5 58 w' w8.heap.size w'.heap.size a' (en + 1) c' (es ++ [(⟨900000, C⟩ : Ev)]) ∧ Below w8.heap.size w8 w') (by kernel_rfl) (by kernel_rfl) (by decide) (by decide) (by decide) (by kernel_rfl) (by kernel_rfl) ?hfr1 ⟨fun _ => undef, ?h01⟩ ?hF1 ?hG1 ?hstep1 ?hearly1 ?hlate1 ?hbig1 ?hz1 ?hend1
    case hfr1 => intro vs; simp only [frOf]; go_simp; exact rfl
    case h01 => rfl
    case hF1 =>
      intro i v w' w'' h hb
      match i, h with
      | 0, h => exact h
      | 1, h => exact h
      | 2, h => obtain ⟨h, e, o⟩ := h; exact ⟨h, e, (o.old hb).up hb.size (Nat.le_refl _)⟩
      | 3, h => exact h
      | 4, h => obtain ⟨a', c', e, o⟩ := h; exact ⟨a', c', e, (o.old hb).up hb.size (Nat.le_refl _)⟩
      | 5, h => exact h
      | 6, h => exact h
      | 7, h => obtain ⟨h, e, b⟩ := h; exact ⟨h, e, b.old hb⟩
      | 8, h => exact h
      | 9, h => exact h
      | 10, h => exact h
      | 11, h => exact h
      | 12, h => exact h
      | 13, h => exact h
      | 14, h => exact h
      | n + 15, h => exact h
    case hG1 =>
      intro vs w' i hx h
      match i, hx with
      | 0, hx => exact h
      | 1, hx => exact h
      | 2, hx => exact absurd hx (by decide)
      | 3, hx => exact absurd hx (by decide)
      | 4, hx => exact absurd hx (by decide)
      | 5, hx => exact absurd hx (by decide)
      | 6, hx => exact absurd hx (by decide)
      | 7, hx => exact absurd hx (by decide)
      | 8, hx => exact absurd hx (by decide)
      | 9, hx => exact absurd hx (by decide)
      | 10, hx => exact absurd hx (by decide)
      | 11, hx => exact absurd hx (by decide)
      | 12, hx => exact absurd hx (by decide)
      | 13, hx => exact absurd hx (by decide)
      | 14, hx => exact absurd hx (by decide)
      | n + 15, hx => exact absurd hx (by simp)
    case hstep1 =>
      intro vs w' i o hin his hx hzz ho hb hd hxd
      match i, ho, hin, his, hx, hzz with
      | 0, _, _, _, hx, _ => exact absurd hx (by decide)
      | 1, _, _, _, hx, _ => exact absurd hx (by decide)
      | 2, ho, _, _, _, _ =>
        simp only [List.getElem?_cons_succ, List.getElem?_cons_zero, Option.some.injEq] at ho
        subst ho
        refine ⟨wanted_none rfl, ?_⟩
        generalize hK : (fun (a' : Act) (w'' : World) => ∃ v : Value, _ ∧ _ ∧ _) = K
        go_simp
        rw [← hK]
        exact ⟨_, rfl, ⟨_, rfl, OwnF.mono (OwnF.of_lit w' rfl) hb.size⟩, below_alloc _ _⟩
      | 3, ho, _, _, _, _ =>
        simp only [List.getElem?_cons_succ, List.getElem?_cons_zero, Option.some.injEq] at ho
        subst ho
        refine ⟨wanted_none rfl, ?_⟩
        generalize hK : (fun (a' : Act) (w'' : World) => ∃ v : Value, _ ∧ _ ∧ _) = K
        go_simp
        rw [← hK]
        exact ⟨_, rfl, rfl, Below.refl _ _⟩
      | 4, ho, _, _, _, _ =>
        simp only [List.getElem?_cons_succ, List.getElem?_cons_zero, Option.some.injEq] at ho
        subst ho
        refine ⟨wanted_none rfl, ?_⟩
        obtain ⟨h, x2, O⟩ := hd 2 rfl rfl (by kernel_rfl) (by decide)
        have x3 : vs 3 = .slice ea en ec := hd 3 rfl rfl (by kernel_rfl) (by decide)
        generalize hK : (fun (a' : Act) (w'' : World) => ∃ v : Value, _ ∧ _ ∧ _) = K
        refine wp_append_newrow recE _ _ rfl w' w8.heap.size _ h O (by go_simp) ea en ec es (HE.out.recs.old hb) HLN.out (by go_simp) hb.size (by have h1 := HEN.out.1; omega) ?_
        intro a' c' w3 O2 B
        rw [← hK]
        exact ⟨_, rfl, ⟨a', c', rfl, O2⟩, B⟩
      | 5, ho, _, _, _, _ =>
        simp only [List.getElem?_cons_succ, List.getElem?_cons_zero, Option.some.injEq] at ho
        subst ho
        refine ⟨wanted_none rfl, ?_⟩
        obtain ⟨_, c0, c1, c2, c3⟩ := HC.out.old hb
        generalize hK : (fun (a' : Act) (w'' : World) => ∃ v : Value, _ ∧ _ ∧ _) = K
        go_simp
        rw [← hK]
        exact ⟨_, rfl, rfl, Below.refl _ _⟩
      | 6, ho, _, _, _, _ =>
        simp only [List.getElem?_cons_succ, List.getElem?_cons_zero, Option.some.injEq] at ho
        subst ho
        refine ⟨wanted_none rfl, ?_⟩
        have x5 : vs 5 = .agg #[.int .i64 C.k, .int .i64 C.b, .int .i64 C.r, .int .i64 C.c] := hd 5 rfl rfl (by kernel_rfl) (by decide)
        generalize hK : (fun (a' : Act) (w'' : World) => ∃ v : Value, _ ∧ _ ∧ _) = K
        generalize hu5 : vs 5 = u5 at x5 ⊢
        subst x5
        go_simp
        rw [← hK]
        exact ⟨_, by simp [upd, hu5], rfl, Below.refl _ _⟩
      | 7, ho, _, _, _, _ =>
        simp only [List.getElem?_cons_succ, List.getElem?_cons_zero, Option.some.injEq] at ho
        subst ho
        refine ⟨wanted_none rfl, ?_⟩
        have x6 : vs 6 = .agg #[.int .i64 900000, .int .i64 C.k, .int .i64 C.b, .int .i64 C.r, .int .i64 C.c] := hd 6 rfl rfl (by kernel_rfl) (by decide)
        generalize hK : (fun (a' : Act) (w'' : World) => ∃ v : Value, _ ∧ _ ∧ _) = K
        generalize hu6 : vs 6 = u6 at x6 ⊢
        subst x6
        go_simp
        rw [← hK]
        exact ⟨_, by simp [upd, hu6], ⟨_, rfl, Blk.new _ _ _⟩, below_alloc _ _⟩
      | 8, _, _, his, _, _ => exact absurd rfl his
      | 9, _, _, _, _, hzz => exact absurd hzz (by decide)
      | 10, _, _, _, _, hzz => exact absurd hzz (by decide)
      | 11, _, _, _, _, hzz => exact absurd hzz (by decide)
      | 12, _, _, _, _, hzz => exact absurd hzz (by decide)
      | 13, _, _, _, _, hzz => exact absurd hzz (by decide)
      | 14, _, _, _, _, hzz => exact absurd hzz (by decide)
      | n + 15, _, hin, _, _, _ => exact absurd hin (by simp)
    case hearly1 =>
      intro vs w' i o hin hx ho hb hxd
      match i, ho, hin, hx with
      | 0, ho, _, _ =>
        simp only [List.getElem?_cons_zero, Option.some.injEq] at ho
        subst ho
        refine ⟨wanted_none rfl, ?_⟩
        obtain ⟨_, g0, g1, g2, g3⟩ := HG.out.old hb
        generalize hK : (fun (a' : Act) (w'' : World) => _ ∧ _) = K
        go_simp
        rw [← hK]
        exact ⟨rfl, rfl⟩
      | 1, ho, _, _ =>
        simp only [List.getElem?_cons_succ, List.getElem?_cons_zero, Option.some.injEq] at ho
        subst ho
        refine ⟨wanted_none rfl, ?_⟩
        have hxt := HX.out.old hb
        generalize hK : (fun (a' : Act) (w'' : World) => _ ∧ _) = K
        refine wp_load_tim hxt _ rfl (by go_simp) ?_
        rw [← hK]
        exact ⟨rfl, rfl⟩
      | 2, _, _, hx => exact absurd hx (by decide)
      | 3, _, _, hx => exact absurd hx (by decide)
      | 4, _, _, hx => exact absurd hx (by decide)
      | 5, _, _, hx => exact absurd hx (by decide)
      | 6, _, _, hx => exact absurd hx (by decide)
      | 7, _, _, hx => exact absurd hx (by decide)
      | 8, _, _, hx => exact absurd hx (by decide)
      | 9, _, _, hx => exact absurd hx (by decide)
      | 10, _, _, hx => exact absurd hx (by decide)
      | 11, _, _, hx => exact absurd hx (by decide)
      | 12, _, _, hx => exact absurd hx (by decide)
      | 13, _, _, hx => exact absurd hx (by decide)
      | 14, _, _, hx => exact absurd hx (by decide)
      | n + 15, _, hin, _ => exact absurd hin (by simp)
    case hlate1 =>
      intro vs w' i o hin hx ho hg hxd
      match i, ho, hin, hx with
      | 0, ho, _, _ =>
        simp only [List.getElem?_cons_zero, Option.some.injEq] at ho
        subst ho
        refine ⟨wanted_none rfl, ?_⟩
        have hb : Below w8.heap.size w8 w' := by obtain ⟨_, _, _, _, hb⟩ := hg; exact hb
        clear hg
        obtain ⟨_, g0, g1, g2, g3⟩ := HG.out.old hb
        generalize hK : (fun (a' : Act) (w'' : World) => _ ∧ _) = K
        go_simp
        rw [← hK]
        exact ⟨rfl, rfl⟩
      | 1, ho, _, _ =>
        simp only [List.getElem?_cons_succ, List.getElem?_cons_zero, Option.some.injEq] at ho
        subst ho
        refine ⟨wanted_none rfl, ?_⟩
        have hb : Below w8.heap.size w8 w' := by obtain ⟨_, _, _, _, hb⟩ := hg; exact hb
        clear hg
        have hxt := HX.out.old hb
        generalize hK : (fun (a' : Act) (w'' : World) => _ ∧ _) = K
        refine wp_load_tim hxt _ rfl (by go_simp) ?_
        rw [← hK]
        exact ⟨rfl, rfl⟩
      | 2, _, _, hx => exact absurd hx (by decide)
      | 3, _, _, hx => exact absurd hx (by decide)
      | 4, _, _, hx => exact absurd hx (by decide)
      | 5, _, _, hx => exact absurd hx (by decide)
      | 6, _, _, hx => exact absurd hx (by decide)
      | 7, _, _, hx => exact absurd hx (by decide)
      | 8, _, _, hx => exact absurd hx (by decide)
      | 9, _, _, hx => exact absurd hx (by decide)
      | 10, _, _, hx => exact absurd hx (by decide)
      | 11, _, _, hx => exact absurd hx (by decide)
      | 12, _, _, hx => exact absurd hx (by decide)
      | 13, _, _, hx => exact absurd hx (by decide)
      | 14, _, _, hx => exact absurd hx (by decide)
      | n + 15, _, hin, _ => exact absurd hin (by simp)
    case hbig1 =>
      intro vs w' o ho hb hf
      simp only [List.getElem?_cons_succ, List.getElem?_cons_zero, Option.some.injEq] at ho
      subst ho
      refine ⟨wanted_none rfl, ?_⟩
      obtain ⟨a', c', x4, O⟩ := hf 4 (by decide) rfl rfl (by decide)
      obtain ⟨h, x7, hbk⟩ := hf 7 (by decide) rfl rfl (by decide)
      have HB0 := hid hb
      have HOO := hid O
      have HCL := hid (fun (j : Nat) (u : Value) (hu : (encE (⟨900000, C⟩ : Ev))[j]? = some u) => (hbk.cell (j := j) (v := u) hu))
      clear hb hf hbk
      refine wp_append_rec_at recE _ _ rfl w' w8.heap.size w'.heap.size h a' en c' es O (by go_simp) (⟨900000, C⟩ : Ev) (fun j u hu => by rw [addr_add0]; exact HCL.out j u hu) (by go_simp) HB0.out.size (by have h1 := HEN.out.1; omega) ?_
      intro a2 c2 w3 O2 K2
      exact ⟨_, rfl, a2, c2, by simp [upd], O2, HB0.out.trans (K2.below HB0.out.size (fun q hq hS => by have h9 := (HOO.out.row.lt q hS).1; omega))⟩
    case hz1 =>
      intro vs w' i o hin hzz ho hg hd
      match i, ho, hin, hzz with
      | 0, _, _, hzz => exact absurd hzz (by decide)
      | 1, _, _, hzz => exact absurd hzz (by decide)
      | 2, _, _, hzz => exact absurd hzz (by decide)
      | 3, _, _, hzz => exact absurd hzz (by decide)
      | 4, _, _, hzz => exact absurd hzz (by decide)
      | 5, _, _, hzz => exact absurd hzz (by decide)
      | 6, _, _, hzz => exact absurd hzz (by decide)
      | 7, _, _, hzz => exact absurd hzz (by decide)
      | 8, _, _, hzz => exact absurd hzz (by decide)
      | 9, ho, _, _ =>
        simp only [List.getElem?_cons_succ, List.getElem?_cons_zero, Option.some.injEq] at ho
        subst ho
        refine ⟨wanted_none rfl, ?_⟩
        obtain ⟨a', c', xb, O, BB⟩ := hg
        have HXB := hid xb
        have HO := hid O
        have HBB := hid BB
        clear xb O BB
        have HE0 : Hid (vs 0 = .agg #[.int .i64 G.a, .int .i64 G.b, .int .i64 G.r, .int .i64 G.c]) := hd 0 (by decide) (by kernel_rfl)
        have HE1 : Hid (vs 1 = .agg #[.int .i64 T.t0, .int .i64 T.t1, .int .i64 T.t2, .int .i64 T.t3, .int .i64 T.t4, .int .i64 T.t5, .int .i64 T.t6, .int .i64 T.t7, .int .i64 T.t8, .int .i64 T.t9, .int .i64 T.t10, .int .i64 T.t11, .int .i64 T.t12, .int .i64 T.t13, .int .i64 T.t14, .int .i64 T.t15, .int .i64 T.t16]) := hd 1 (by decide) (by kernel_rfl)
        generalize hK : (fun (a' : Act) (w'' : World) => _ ∧ _) = K
        go_simp
        refine (calls_args (by rw [HE0.out, HE1.out, HXB.out]) (calls_pair (a := q) (b := (es.length : Int)) HFT.out (implTraceFault_any G T ⟨a', en + 1, c', es ++ [(⟨900000, C⟩ : Ev)]⟩ _ (OwnEv.reads (E := ⟨a', en + 1, c', es ++ [(⟨900000, C⟩ : Ev)]⟩) HO.out) (by have h1 := HEN.out; have h2 := HL.out; dsimp only; omega) HO.out.le_cap))).mono ?_
        rintro e w2 ⟨rfl, B⟩
        rw [← hK]
        exact ⟨rfl, ⟨a', c', by simpa [upd] using HXB.out, OwnF.up (OwnF.old HO.out B) B.size (Nat.le_refl _), below_step HBB.out B (Nat.le_refl _)⟩⟩
      | 10, ho, _, _ =>
        simp only [List.getElem?_cons_succ, List.getElem?_cons_zero, Option.some.injEq] at ho
        subst ho
        refine ⟨wanted_none rfl, ?_⟩
        have HGG := hid hg
        clear hg
        have x9 : vs 9 = .tuple #[.int .i64 q, .int .i64 (es.length : Int)] := hd 9 (by decide) (by kernel_rfl)
        generalize hK : (fun (a' : Act) (w'' : World) => _ ∧ _) = K
        generalize hu9 : vs 9 = u9 at x9 ⊢
        subst x9
        go_simp
        rw [← hK]
        exact ⟨by simp [upd, hu9], by obtain ⟨a', c', xb, O, BB⟩ := HGG.out; exact ⟨a', c', by simpa [upd] using xb, O, BB⟩⟩
      | 11, ho, _, _ =>
        simp only [List.getElem?_cons_succ, List.getElem?_cons_zero, Option.some.injEq] at ho
        subst ho
        refine ⟨wanted_none rfl, ?_⟩
        have HGG := hid hg
        clear hg
        have x10 : vs 10 = .tuple #[.int .i64 q, .int .i64 (es.length : Int)] := hd 10 (by decide) (by kernel_rfl)
        generalize hK : (fun (a' : Act) (w'' : World) => _ ∧ _) = K
        generalize hu10 : vs 10 = u10 at x10 ⊢
        subst x10
        go_simp
        rw [← hK]
        exact ⟨by simp [upd, hu10], by obtain ⟨a', c', xb, O, BB⟩ := HGG.out; exact ⟨a', c', by simpa [upd] using xb, O, BB⟩⟩
      | 12, ho, _, _ =>
        simp only [List.getElem?_cons_succ, List.getElem?_cons_zero, Option.some.injEq] at ho
        subst ho
        refine ⟨wanted_none rfl, ?_⟩
        have HGG := hid hg
        clear hg
        have x10 : vs 10 = .tuple #[.int .i64 q, .int .i64 (es.length : Int)] := hd 10 (by decide) (by kernel_rfl)
        generalize hK : (fun (a' : Act) (w'' : World) => _ ∧ _) = K
        generalize hu10 : vs 10 = u10 at x10 ⊢
        subst x10
        go_simp
        rw [← hK]
        exact ⟨by simp [upd, hu10], by obtain ⟨a', c', xb, O, BB⟩ := HGG.out; exact ⟨a', c', by simpa [upd] using xb, O, BB⟩⟩
      | 13, ho, _, _ =>
        simp only [List.getElem?_cons_succ, List.getElem?_cons_zero, Option.some.injEq] at ho
        subst ho
        refine ⟨wanted_none rfl, ?_⟩
        have HGG := hid hg
        clear hg
        have x11 : vs 11 = .int .i64 q := hd 11 (by decide) (by kernel_rfl)
        generalize hK : (fun (a' : Act) (w'' : World) => _ ∧ _) = K
        generalize hu11 : vs 11 = u11 at x11 ⊢
        subst x11
        go_simp
        rw [← hK]
        exact ⟨by simp [upd, hu11], by obtain ⟨a', c', xb, O, BB⟩ := HGG.out; exact ⟨a', c', by simpa [upd] using xb, O, BB⟩⟩
      | 14, ho, _, _ =>
        simp only [List.getElem?_cons_succ, List.getElem?_cons_zero, Option.some.injEq] at ho
        subst ho
        refine ⟨wanted_none rfl, ?_⟩
        have HGG := hid hg
        clear hg
        have x12 : vs 12 = .int .i64 (es.length : Int) := hd 12 (by decide) (by kernel_rfl)
        generalize hK : (fun (a' : Act) (w'' : World) => _ ∧ _) = K
        generalize hu12 : vs 12 = u12 at x12 ⊢
        subst x12
        go_simp
        rw [← hK]
        exact ⟨by simp [upd, hu12], by obtain ⟨a', c', xb, O, BB⟩ := HGG.out; exact ⟨a', c', by simpa [upd] using xb, O, BB⟩⟩
      | n + 15, _, hin, _ => exact absurd hin (by simp)
    case hend1 =>
      intro vs w9 hg hv
      have BT : Below w8.heap.size w8 w9 := by obtain ⟨_, _, _, _, hb⟩ := hg; exact hb
      have e4 : vs 13 = .int .i64 q := hv 13 (by decide) (by decide)
      have e5 : vs 14 = .int .i64 (es.length : Int) := hv 14 (by decide) (by decide)
      generalize vs 13 = u4 at e4 ⊢
      subst e4
      generalize vs 14 = u5 at e5 ⊢
      subst e5
      clear hg hv
      have HG := hid (HG.out.old BT)
      have HX := hid (HX.out.old BT)
      have HE := hid (EvsRd.old HE.out BT)
      have HB := hid (below_step HB.out BT (Nat.le_refl _))
      have HC := hid (HC.out.old BT)
      have HRR := hid (HRR.out.old BT)
      have HK := hid (HK.out.old BT)
      clear BT
      have hqz : (q != 0) = true := by have h := HNZ.out; simpa using h
      obtain ⟨_, g0, g1, g2, g3⟩ := HG.out
      obtain ⟨_, c0, c1, c2, c3⟩ := HC.out
      obtain ⟨_, k0, k1⟩ := HK.out
      go_wp2_with fail
      clear g0 g1 g2 g3 c0 c1 c2 c3 k0 k1
      refine (calls_boo2 (show allowed G (RankE.d ⟨ra, rn, rc, rs, rp⟩) C = false by rw [HRD.out]; exact HAL.out) (specAllowed_any G ⟨ra, rn, rc, rs, rp⟩ C _ HRR.out HRN.out)).mono ?_
      rintro e w10 ⟨rfl, B⟩
      have HG := hid (HG.out.old B)
      have HX := hid (HX.out.old B)
      have HE := hid (EvsRd.old HE.out B)
      have HB := hid (below_step HB.out B (Nat.le_refl _))
      have HC := hid (HC.out.old B)
      have HRR := hid (HRR.out.old B)
      have HK := hid (HK.out.old B)
      clear B
      go_wp2_with fail
      go_ret
      exact ⟨rfl, HB.out⟩
  | true =>
    obtain ⟨t, ht⟩ : ∃ t, earlAll G T es C = t := ⟨_, rfl⟩
    have HNX := hid (show earliestNext G T es C = t by rw [HTR.out.next HL'.out C, if_pos ha, ht])
    have hbt := HTR.out.all_bd C
    rw [ht] at hbt
    have ht0 : ¬ t < 0 := by omega
    have HBT := hid (show 0 ≤ t ∧ t ≤ 1000000 by have h := HL.out; omega)
    have HF0 := hid (show traceFault G T (es ++ [⟨t, C⟩]) = (0, -1) by rw [HTR.out.fault1 HL'.out, if_pos (HTR.out.chk_at (allowed_parts ha).2.1 (allowed_parts ha).2.2 (by rw [ht]; exact Int.le_refl _) HBT.out.2)])
    have HFT := hid (HTR.out.fault1 HL'.out ⟨t - 1, C⟩)
    have HNZ := hid (HTR.out.chk_before (C := C) (t := t - 1) (by rw [ht]; omega))
    rw [if_neg HNZ.out] at HFT
    obtain ⟨q, hq⟩ : ∃ q, chk G T es D ⟨t - 1, C⟩ = q := ⟨_, rfl⟩
    rw [hq] at HFT HNZ
    clear hq ha ht hbt
    obtain ⟨_, g0, g1, g2, g3⟩ := HG.out
    obtain ⟨_, c0, c1, c2, c3⟩ := HC.out
    go_wp2_with (refine wpList_load_tim HX.out (by rfl) _ (by rfl) (by rfl) ?_)
    clear g0 g1 g2 g3 c0 c1 c2 c3
    refine (calls_int HNX.out (implEarliestNext_any G T ⟨ea, en, ec, es⟩ C _ HE.out HEN.out.1 HEN.out.2.1)).mono ?_
    rintro e w5 ⟨rfl, B⟩
    have HG := hid (HG.out.old B)
    have HX := hid (HX.out.old B)
    have HE := hid (EvsRd.old HE.out B)
    have HB := hid (below_step HB.out B (Nat.le_refl _))
    have HC := hid (HC.out.old B)
    clear B
    go_upto_region 10 with (fail)
    refine mix3_of 9 (fun i => i == 0 || i == 1) (fun i => i == 10 || i == 11 || i == 12 || i == 13 || i == 14 || i == 15) (fun i => match i with | 0 => .agg #[.int .i64 G.a, .int .i64 G.b, .int .i64 G.r, .int .i64 G.c] | 1 => .agg #[.int .i64 T.t0, .int .i64 T.t1, .int .i64 T.t2, .int .i64 T.t3, .int .i64 T.t4, .int .i64 T.t5, .int .i64 T.t6, .int .i64 T.t7, .int .i64 T.t8, .int .i64 T.t9, .int .i64 T.t10, .int .i64 T.t11, .int .i64 T.t12, .int .i64 T.t13, .int .i64 T.t14, .int .i64 T.t15, .int .i64 T.t16] | 10 => .tuple #[.int .i64 0, .int .i64 (-1)] | 11 => .tuple #[.int .i64 0, .int .i64 (-1)] | 12 => .int .i64 0 | 13 => .int .i64 (-1) | 14 => .int .i64 0 | 15 => .int .i64 (-1) | _ => undef) (fr := ?fr2)
      (fun i v w' => match i with
          | 2 => ∃ h, v = .slice (some ⟨h, 0, none⟩) 0 0 ∧ OwnF encE 5 58 w' w5.heap.size w'.heap.size (some ⟨h, 0, none⟩) 0 0 []
          | 3 => v = .slice ea en ec
          | 4 => ∃ a' c', v = .slice a' en c' ∧ OwnF encE 5 58 w' w5.heap.size w'.heap.size a' en c' es
          | 5 => v = .int .i64 t
          | 6 => v = .agg #[.int .i64 C.k, .int .i64 C.b, .int .i64 C.r, .int .i64 C.c]
          | 7 => v = .agg #[.int .i64 t, .int .i64 C.k, .int .i64 C.b, .int .i64 C.r, .int .i64 C.c]
          | 8 => ∃ h, v = .slice (some ⟨h, 0, none⟩) 1 1 ∧ Blk w' h 58 [.int .i64 t, .int .i64 C.k, .int .i64 C.b, .int .i64 C.r, .int .i64 C.c]
          | _ => True
        ) (fun vs w' => ∃ a' c', vs 9 = .slice a' (en + 1) c' ∧ OwnF encE 5 58 w' w5.heap.size w'.heap.size a' (en + 1) c' (es ++ [(⟨t, C⟩ : Ev)]) ∧ Below w5.heap.size w5 w') (by kernel_rfl) (by kernel_rfl) (by decide) (by decide) (by decide) (by kernel_rfl) (by kernel_rfl) ?hfr2 ⟨fun _ => undef, ?h02⟩ ?hF2 ?hG2 ?hstep2 ?hearly2 ?hlate2 ?hbig2 ?hz2 ?hend2
    case hfr2 => intro vs; simp only [frOf]; go_simp; exact rfl
    case h02 => rfl
    case hF2 =>
      intro i v w' w'' h hb
      match i, h with
      | 0, h => exact h
      | 1, h => exact h
      | 2, h => obtain ⟨h, e, o⟩ := h; exact ⟨h, e, (o.old hb).up hb.size (Nat.le_refl _)⟩
      | 3, h => exact h
      | 4, h => obtain ⟨a', c', e, o⟩ := h; exact ⟨a', c', e, (o.old hb).up hb.size (Nat.le_refl _)⟩
      | 5, h => exact h
      | 6, h => exact h
      | 7, h => exact h
      | 8, h => obtain ⟨h, e, b⟩ := h; exact ⟨h, e, b.old hb⟩
      | 9, h => exact h
      | 10, h => exact h
      | 11, h => exact h
      | 12, h => exact h
      | 13, h => exact h
      | 14, h => exact h
      | 15, h => exact h
      | n + 16, h => exact h
    case hG2 =>
      intro vs w' i hx h
      match i, hx with
      | 0, hx => exact h
      | 1, hx => exact h
      | 2, hx => exact absurd hx (by decide)
      | 3, hx => exact absurd hx (by decide)
      | 4, hx => exact absurd hx (by decide)
      | 5, hx => exact absurd hx (by decide)
      | 6, hx => exact absurd hx (by decide)
      | 7, hx => exact absurd hx (by decide)
      | 8, hx => exact absurd hx (by decide)
      | 9, hx => exact absurd hx (by decide)
      | 10, hx => exact absurd hx (by decide)
      | 11, hx => exact absurd hx (by decide)
      | 12, hx => exact absurd hx (by decide)
      | 13, hx => exact absurd hx (by decide)
      | 14, hx => exact absurd hx (by decide)
      | 15, hx => exact absurd hx (by decide)
      | n + 16, hx => exact absurd hx (by simp)
    case hstep2 =>
      intro vs w' i o hin his hx hzz ho hb hd hxd
      match i, ho, hin, his, hx, hzz with
      | 0, _, _, _, hx, _ => exact absurd hx (by decide)
      | 1, _, _, _, hx, _ => exact absurd hx (by decide)
      | 2, ho, _, _, _, _ =>
        simp only [List.getElem?_cons_succ, List.getElem?_cons_zero, Option.some.injEq] at ho
        subst ho
        refine ⟨wanted_none rfl, ?_⟩
        generalize hK : (fun (a' : Act) (w'' : World) => ∃ v : Value, _ ∧ _ ∧ _) = K
        go_simp
        rw [← hK]
        exact ⟨_, rfl, ⟨_, rfl, OwnF.mono (OwnF.of_lit w' rfl) hb.size⟩, below_alloc _ _⟩
      | 3, ho, _, _, _, _ =>
        simp only [List.getElem?_cons_succ, List.getElem?_cons_zero, Option.some.injEq] at ho
        subst ho
        refine ⟨wanted_none rfl, ?_⟩
        generalize hK : (fun (a' : Act) (w'' : World) => ∃ v : Value, _ ∧ _ ∧ _) = K
        go_simp
        rw [← hK]
        exact ⟨_, rfl, rfl, Below.refl _ _⟩
      | 4, ho, _, _, _, _ =>
        simp only [List.getElem?_cons_succ, List.getElem?_cons_zero, Option.some.injEq] at ho
        subst ho
        refine ⟨wanted_none rfl, ?_⟩
        obtain ⟨h, x2, O⟩ := hd 2 rfl rfl (by kernel_rfl) (by decide)
        have x3 : vs 3 = .slice ea en ec := hd 3 rfl rfl (by kernel_rfl) (by decide)
        generalize hK : (fun (a' : Act) (w'' : World) => ∃ v : Value, _ ∧ _ ∧ _) = K
        refine wp_append_newrow recE _ _ rfl w' w5.heap.size _ h O (by go_simp) ea en ec es (HE.out.recs.old hb) HLN.out (by go_simp) hb.size (by have h1 := HEN.out.1; omega) ?_
        intro a' c' w3 O2 B
        rw [← hK]
        exact ⟨_, rfl, ⟨a', c', rfl, O2⟩, B⟩
      | 5, ho, _, _, _, _ =>
        simp only [List.getElem?_cons_succ, List.getElem?_cons_zero, Option.some.injEq] at ho
        subst ho
        refine ⟨wanted_none rfl, ?_⟩
        generalize hK : (fun (a' : Act) (w'' : World) => ∃ v : Value, _ ∧ _ ∧ _) = K
        go_simp
        rw [← hK]
        exact ⟨_, rfl, rfl, Below.refl _ _⟩
      | 6, ho, _, _, _, _ =>
        simp only [List.getElem?_cons_succ, List.getElem?_cons_zero, Option.some.injEq] at ho
        subst ho
        refine ⟨wanted_none rfl, ?_⟩
        obtain ⟨_, c0, c1, c2, c3⟩ := HC.out.old hb
        generalize hK : (fun (a' : Act) (w'' : World) => ∃ v : Value, _ ∧ _ ∧ _) = K
        go_simp
        rw [← hK]
        exact ⟨_, rfl, rfl, Below.refl _ _⟩
      | 7, ho, _, _, _, _ =>
        simp only [List.getElem?_cons_succ, List.getElem?_cons_zero, Option.some.injEq] at ho
        subst ho
        refine ⟨wanted_none rfl, ?_⟩
        have x5 : vs 5 = .int .i64 t := hd 5 rfl rfl (by kernel_rfl) (by decide)
        have x6 : vs 6 = .agg #[.int .i64 C.k, .int .i64 C.b, .int .i64 C.r, .int .i64 C.c] := hd 6 rfl rfl (by kernel_rfl) (by decide)
        generalize hK : (fun (a' : Act) (w'' : World) => ∃ v : Value, _ ∧ _ ∧ _) = K
        generalize hu5 : vs 5 = u5 at x5 ⊢
        subst x5
        generalize hu6 : vs 6 = u6 at x6 ⊢
        subst x6
        go_simp
        rw [← hK]
        exact ⟨_, by simp [upd, hu5, hu6], rfl, Below.refl _ _⟩
      | 8, ho, _, _, _, _ =>
        simp only [List.getElem?_cons_succ, List.getElem?_cons_zero, Option.some.injEq] at ho
        subst ho
        refine ⟨wanted_none rfl, ?_⟩
        have x7 : vs 7 = .agg #[.int .i64 t, .int .i64 C.k, .int .i64 C.b, .int .i64 C.r, .int .i64 C.c] := hd 7 rfl rfl (by kernel_rfl) (by decide)
        generalize hK : (fun (a' : Act) (w'' : World) => ∃ v : Value, _ ∧ _ ∧ _) = K
        generalize hu7 : vs 7 = u7 at x7 ⊢
        subst x7
        go_simp
        rw [← hK]
        exact ⟨_, by simp [upd, hu7], ⟨_, rfl, Blk.new _ _ _⟩, below_alloc _ _⟩
      | 9, _, _, his, _, _ => exact absurd rfl his
      | 10, _, _, _, _, hzz => exact absurd hzz (by decide)
      | 11, _, _, _, _, hzz => exact absurd hzz (by decide)
      | 12, _, _, _, _, hzz => exact absurd hzz (by decide)
      | 13, _, _, _, _, hzz => exact absurd hzz (by decide)
      | 14, _, _, _, _, hzz => exact absurd hzz (by decide)
      | 15, _, _, _, _, hzz => exact absurd hzz (by decide)
      | n + 16, _, hin, _, _, _ => exact absurd hin (by simp)
    case hearly2 =>
      intro vs w' i o hin hx ho hb hxd
      match i, ho, hin, hx with
      | 0, ho, _, _ =>
        simp only [List.getElem?_cons_zero, Option.some.injEq] at ho
        subst ho
        refine ⟨wanted_none rfl, ?_⟩
        obtain ⟨_, g0, g1, g2, g3⟩ := HG.out.old hb
        generalize hK : (fun (a' : Act) (w'' : World) => _ ∧ _) = K
        go_simp
        rw [← hK]
        exact ⟨rfl, rfl⟩
      | 1, ho, _, _ =>
        simp only [List.getElem?_cons_succ, List.getElem?_cons_zero, Option.some.injEq] at ho
        subst ho
        refine ⟨wanted_none rfl, ?_⟩
        have hxt := HX.out.old hb
        generalize hK : (fun (a' : Act) (w'' : World) => _ ∧ _) = K
        refine wp_load_tim hxt _ rfl (by go_simp) ?_
        rw [← hK]
        exact ⟨rfl, rfl⟩
      | 2, _, _, hx => exact absurd hx (by decide)
      | 3, _, _, hx => exact absurd hx (by decide)
      | 4, _, _, hx => exact absurd hx (by decide)
      | 5, _, _, hx => exact absurd hx (by decide)
      | 6, _, _, hx => exact absurd hx (by decide)
      | 7, _, _, hx => exact absurd hx (by decide)
      | 8, _, _, hx => exact absurd hx (by decide)
      | 9, _, _, hx => exact absurd hx (by decide)
      | 10, _, _, hx => exact absurd hx (by decide)
      | 11, _, _, hx => exact absurd hx (by decide)
      | 12, _, _, hx => exact absurd hx (by decide)
      | 13, _, _, hx => exact absurd hx (by decide)
      | 14, _, _, hx => exact absurd hx (by decide)
      | 15, _, _, hx => exact absurd hx (by decide)
      | n + 16, _, hin, _ => exact absurd hin (by simp)
    case hlate2 =>
      intro vs w' i o hin hx ho hg hxd
      match i, ho, hin, hx with
      | 0, ho, _, _ =>
        simp only [List.getElem?_cons_zero, Option.some.injEq] at ho
        subst ho
        refine ⟨wanted_none rfl, ?_⟩
        have hb : Below w5.heap.size w5 w' := by obtain ⟨_, _, _, _, hb⟩ := hg; exact hb
        clear hg
        obtain ⟨_, g0, g1, g2, g3⟩ := HG.out.old hb
        generalize hK : (fun (a' : Act) (w'' : World) => _ ∧ _) = K
        go_simp
        rw [← hK]
        exact ⟨rfl, rfl⟩
      | 1, ho, _, _ =>
        simp only [List.getElem?_cons_succ, List.getElem?_cons_zero, Option.some.injEq] at ho
        subst ho
        refine ⟨wanted_none rfl, ?_⟩
        have hb : Below w5.heap.size w5 w' := by obtain ⟨_, _, _, _, hb⟩ := hg; exact hb
        clear hg
        have hxt := HX.out.old hb
        generalize hK : (fun (a' : Act) (w'' : World) => _ ∧ _) = K
        refine wp_load_tim hxt _ rfl (by go_simp) ?_
        rw [← hK]
        exact ⟨rfl, rfl⟩
      | 2, _, _, hx => exact absurd hx (by decide)
      | 3, _, _, hx => exact absurd hx (by decide)
      | 4, _, _, hx => exact absurd hx (by decide)
      | 5, _, _, hx => exact absurd hx (by decide)
      | 6, _, _, hx => exact absurd hx (by decide)
      | 7, _, _, hx => exact absurd hx (by decide)
      | 8, _, _, hx => exact absurd hx (by decide)
      | 9, _, _, hx => exact absurd hx (by decide)
      | 10, _, _, hx => exact absurd hx (by decide)
      | 11, _, _, hx => exact absurd hx (by decide)
      | 12, _, _, hx => exact absurd hx (by decide)
      | 13, _, _, hx => exact absurd hx (by decide)
      | 14, _, _, hx => exact absurd hx (by decide)
      | 15, _, _, hx => exact absurd hx (by decide)
      | n + 16, _, hin, _ => exact absurd hin (by simp)
    case hbig2 =>
      intro vs w' o ho hb hf
      simp only [List.getElem?_cons_succ, List.getElem?_cons_zero, Option.some.injEq] at ho
      subst ho
      refine ⟨wanted_none rfl, ?_⟩
      obtain ⟨a', c', x4, O⟩ := hf 4 (by decide) rfl rfl (by decide)
      obtain ⟨h, x8, hbk⟩ := hf 8 (by decide) rfl rfl (by decide)
      have HB0 := hid hb
      have HOO := hid O
      have HCL := hid (fun (j : Nat) (u : Value) (hu : (encE (⟨t, C⟩ : Ev))[j]? = some u) => (hbk.cell (j := j) (v := u) hu))
      clear hb hf hbk
      refine wp_append_rec_at recE _ _ rfl w' w5.heap.size w'.heap.size h a' en c' es O (by go_simp) (⟨t, C⟩ : Ev) (fun j u hu => by rw [addr_add0]; exact HCL.out j u hu) (by go_simp) HB0.out.size (by have h1 := HEN.out.1; omega) ?_
      intro a2 c2 w3 O2 K2
      exact ⟨_, rfl, a2, c2, by simp [upd], O2, HB0.out.trans (K2.below HB0.out.size (fun q hq hS => by have h9 := (HOO.out.row.lt q hS).1; omega))⟩
    case hz2 =>
      intro vs w' i o hin hzz ho hg hd
      match i, ho, hin, hzz with
      | 0, _, _, hzz => exact absurd hzz (by decide)
      | 1, _, _, hzz => exact absurd hzz (by decide)
      | 2, _, _, hzz => exact absurd hzz (by decide)
      | 3, _, _, hzz => exact absurd hzz (by decide)
      | 4, _, _, hzz => exact absurd hzz (by decide)
      | 5, _, _, hzz => exact absurd hzz (by decide)
      | 6, _, _, hzz => exact absurd hzz (by decide)
      | 7, _, _, hzz => exact absurd hzz (by decide)
      | 8, _, _, hzz => exact absurd hzz (by decide)
      | 9, _, _, hzz => exact absurd hzz (by decide)
      | 10, ho, _, _ =>
        simp only [List.getElem?_cons_succ, List.getElem?_cons_zero, Option.some.injEq] at ho
        subst ho
        refine ⟨wanted_none rfl, ?_⟩
        obtain ⟨a', c', xb, O, BB⟩ := hg
        have HXB := hid xb
        have HO := hid O
        have HBB := hid BB
        clear xb O BB
        have HE0 : Hid (vs 0 = .agg #[.int .i64 G.a, .int .i64 G.b, .int .i64 G.r, .int .i64 G.c]) := hd 0 (by decide) (by kernel_rfl)
        have HE1 : Hid (vs 1 = .agg #[.int .i64 T.t0, .int .i64 T.t1, .int .i64 T.t2, .int .i64 T.t3, .int .i64 T.t4, .int .i64 T.t5, .int .i64 T.t6, .int .i64 T.t7, .int .i64 T.t8, .int .i64 T.t9, .int .i64 T.t10, .int .i64 T.t11, .int .i64 T.t12, .int .i64 T.t13, .int .i64 T.t14, .int .i64 T.t15, .int .i64 T.t16]) := hd 1 (by decide) (by kernel_rfl)
        generalize hK : (fun (a' : Act) (w'' : World) => _ ∧ _) = K
        go_simp
        refine (calls_args (by rw [HE0.out, HE1.out, HXB.out]) (calls_pair (a := 0) (b := (-1)) HF0.out (implTraceFault_any G T ⟨a', en + 1, c', es ++ [(⟨t, C⟩ : Ev)]⟩ _ (OwnEv.reads (E := ⟨a', en + 1, c', es ++ [(⟨t, C⟩ : Ev)]⟩) HO.out) (by have h1 := HEN.out; have h2 := HL.out; dsimp only; omega) HO.out.le_cap))).mono ?_
        rintro e w2 ⟨rfl, B⟩
        rw [← hK]
        exact ⟨rfl, ⟨a', c', by simpa [upd] using HXB.out, OwnF.up (OwnF.old HO.out B) B.size (Nat.le_refl _), below_step HBB.out B (Nat.le_refl _)⟩⟩
      | 11, ho, _, _ =>
        simp only [List.getElem?_cons_succ, List.getElem?_cons_zero, Option.some.injEq] at ho
        subst ho
        refine ⟨wanted_none rfl, ?_⟩
        have HGG := hid hg
        clear hg
        have x10 : vs 10 = .tuple #[.int .i64 0, .int .i64 (-1)] := hd 10 (by decide) (by kernel_rfl)
        generalize hK : (fun (a' : Act) (w'' : World) => _ ∧ _) = K
        generalize hu10 : vs 10 = u10 at x10 ⊢
        subst x10
        go_simp
        rw [← hK]
        exact ⟨by simp [upd, hu10], by obtain ⟨a', c', xb, O, BB⟩ := HGG.out; exact ⟨a', c', by simpa [upd] using xb, O, BB⟩⟩
      | 12, ho, _, _ =>
        simp only [List.getElem?_cons_succ, List.getElem?_cons_zero, Option.some.injEq] at ho
        subst ho
        refine ⟨wanted_none rfl, ?_⟩
        have HGG := hid hg
        clear hg
        have x11 : vs 11 = .tuple #[.int .i64 0, .int .i64 (-1)] := hd 11 (by decide) (by kernel_rfl)
        generalize hK : (fun (a' : Act) (w'' : World) => _ ∧ _) = K
        generalize hu11 : vs 11 = u11 at x11 ⊢
        subst x11
        go_simp
        rw [← hK]
        exact ⟨by simp [upd, hu11], by obtain ⟨a', c', xb, O, BB⟩ := HGG.out; exact ⟨a', c', by simpa [upd] using xb, O, BB⟩⟩
      | 13, ho, _, _ =>
        simp only [List.getElem?_cons_succ, List.getElem?_cons_zero, Option.some.injEq] at ho
        subst ho
        refine ⟨wanted_none rfl, ?_⟩
        have HGG := hid hg
        clear hg
        have x11 : vs 11 = .tuple #[.int .i64 0, .int .i64 (-1)] := hd 11 (by decide) (by kernel_rfl)
        generalize hK : (fun (a' : Act) (w'' : World) => _ ∧ _) = K
        generalize hu11 : vs 11 = u11 at x11 ⊢
        subst x11
        go_simp
        rw [← hK]
        exact ⟨by simp [upd, hu11], by obtain ⟨a', c', xb, O, BB⟩ := HGG.out; exact ⟨a', c', by simpa [upd] using xb, O, BB⟩⟩
      | 14, ho, _, _ =>
        simp only [List.getElem?_cons_succ, List.getElem?_cons_zero, Option.some.injEq] at ho
        subst ho
        refine ⟨wanted_none rfl, ?_⟩
        have HGG := hid hg
        clear hg
        have x12 : vs 12 = .int .i64 0 := hd 12 (by decide) (by kernel_rfl)
        generalize hK : (fun (a' : Act) (w'' : World) => _ ∧ _) = K
        generalize hu12 : vs 12 = u12 at x12 ⊢
        subst x12
        go_simp
        rw [← hK]
        exact ⟨by simp [upd, hu12], by obtain ⟨a', c', xb, O, BB⟩ := HGG.out; exact ⟨a', c', by simpa [upd] using xb, O, BB⟩⟩
      | 15, ho, _, _ =>
        simp only [List.getElem?_cons_succ, List.getElem?_cons_zero, Option.some.injEq] at ho
        subst ho
        refine ⟨wanted_none rfl, ?_⟩
        have HGG := hid hg
        clear hg
        have x13 : vs 13 = .int .i64 (-1) := hd 13 (by decide) (by kernel_rfl)
        generalize hK : (fun (a' : Act) (w'' : World) => _ ∧ _) = K
        generalize hu13 : vs 13 = u13 at x13 ⊢
        subst x13
        go_simp
        rw [← hK]
        exact ⟨by simp [upd, hu13], by obtain ⟨a', c', xb, O, BB⟩ := HGG.out; exact ⟨a', c', by simpa [upd] using xb, O, BB⟩⟩
      | n + 16, _, hin, _ => exact absurd hin (by simp)
    case hend2 =>
      intro vs w6 hg hv
      have BT : Below w5.heap.size w5 w6 := by obtain ⟨_, _, _, _, hb⟩ := hg; exact hb
      have e4 : vs 14 = .int .i64 0 := hv 14 (by decide) (by decide)
      have e5 : vs 15 = .int .i64 (-1) := hv 15 (by decide) (by decide)
      generalize vs 14 = u4 at e4 ⊢
      subst e4
      generalize vs 15 = u5 at e5 ⊢
      subst e5
      clear hg hv
      have HG := hid (HG.out.old BT)
      have HX := hid (HX.out.old BT)
      have HE := hid (EvsRd.old HE.out BT)
      have HB := hid (below_step HB.out BT (Nat.le_refl _))
      have HC := hid (HC.out.old BT)
      clear BT
      go_upto_region 11 with (fail)
      refine mix3_of 10 (fun i => i == 0 || i == 1) (fun i => i == 11 || i == 12 || i == 13 || i == 14 || i == 15 || i == 16) (fun i => match i with | 0 => .agg #[.int .i64 G.a, .int .i64 G.b, .int .i64 G.r, .int .i64 G.c] | 1 => .agg #[.int .i64 T.t0, .int .i64 T.t1, .int .i64 T.t2, .int .i64 T.t3, .int .i64 T.t4, .int .i64 T.t5, .int .i64 T.t6, .int .i64 T.t7, .int .i64 T.t8, .int .i64 T.t9, .int .i64 T.t10, .int .i64 T.t11, .int .i64 T.t12, .int .i64 T.t13, .int .i64 T.t14, .int .i64 T.t15, .int .i64 T.t16] | 11 => .tuple #[.int .i64 q, .int .i64 (es.length : Int)] | 12 => .tuple #[.int .i64 q, .int .i64 (es.length : Int)] | 13 => .int .i64 q | 14 => .int .i64 (es.length : Int) | 15 => .int .i64 q | 16 => .int .i64 (es.length : Int) | _ => undef) (fr := ?fr3)
        (fun i v w' => match i with
            | 2 => ∃ h, v = .slice (some ⟨h, 0, none⟩) 0 0 ∧ OwnF encE 5 58 w' w6.heap.size w'.heap.size (some ⟨h, 0, none⟩) 0 0 []
            | 3 => v = .slice ea en ec
            | 4 => ∃ a' c', v = .slice a' en c' ∧ OwnF encE 5 58 w' w6.heap.size w'.heap.size a' en c' es
            | 5 => v = .int .i64 t
            | 6 => v = .int .i64 (t - 1)
            | 7 => v = .agg #[.int .i64 C.k, .int .i64 C.b, .int .i64 C.r, .int .i64 C.c]
            | 8 => v = .agg #[.int .i64 (t - 1), .int .i64 C.k, .int .i64 C.b, .int .i64 C.r, .int .i64 C.c]
            | 9 => ∃ h, v = .slice (some ⟨h, 0, none⟩) 1 1 ∧ Blk w' h 58 [.int .i64 (t - 1), .int .i64 C.k, .int .i64 C.b, .int .i64 C.r, .int .i64 C.c]
            | _ => True
          ) (fun vs w' => ∃ a' c', vs 10 = .slice a' (en + 1) c' ∧ OwnF encE 5 58 w' w6.heap.size w'.heap.size a' (en + 1) c' (es ++ [(⟨t - 1, C⟩ : Ev)]) ∧ Below w6.heap.size w6 w') (by kernel_rfl) (by kernel_rfl) (by decide) (by decide) (by decide) (by kernel_rfl) (by kernel_rfl) ?hfr3 ⟨fun _ => undef, ?h03⟩ ?hF3 ?hG3 ?hstep3 ?hearly3 ?hlate3 ?hbig3 ?hz3 ?hend3
      case hfr3 => intro vs; simp only [frOf]; go_simp; exact rfl
      case h03 => rfl
      case hF3 =>
        intro i v w' w'' h hb
        match i, h with
        | 0, h => exact h
        | 1, h => exact h
        | 2, h => obtain ⟨h, e, o⟩ := h; exact ⟨h, e, (o.old hb).up hb.size (Nat.le_refl _)⟩
        | 3, h => exact h
        | 4, h => obtain ⟨a', c', e, o⟩ := h; exact ⟨a', c', e, (o.old hb).up hb.size (Nat.le_refl _)⟩
        | 5, h => exact h
        | 6, h => exact h
        | 7, h => exact h
        | 8, h => exact h
        | 9, h => obtain ⟨h, e, b⟩ := h; exact ⟨h, e, b.old hb⟩
        | 10, h => exact h
        | 11, h => exact h
        | 12, h => exact h
        | 13, h => exact h
        | 14, h => exact h
        | 15, h => exact h
        | 16, h => exact h
        | n + 17, h => exact h
      case hG3 =>
        intro vs w' i hx h
        match i, hx with
        | 0, hx => exact h
        | 1, hx => exact h
        | 2, hx => exact absurd hx (by decide)
        | 3, hx => exact absurd hx (by decide)
        | 4, hx => exact absurd hx (by decide)
        | 5, hx => exact absurd hx (by decide)
        | 6, hx => exact absurd hx (by decide)
        | 7, hx => exact absurd hx (by decide)
        | 8, hx => exact absurd hx (by decide)
        | 9, hx => exact absurd hx (by decide)
        | 10, hx => exact absurd hx (by decide)
        | 11, hx => exact absurd hx (by decide)
        | 12, hx => exact absurd hx (by decide)
        | 13, hx => exact absurd hx (by decide)
        | 14, hx => exact absurd hx (by decide)
        | 15, hx => exact absurd hx (by decide)
        | 16, hx => exact absurd hx (by decide)
        | n + 17, hx => exact absurd hx (by simp)
      case hstep3 =>
        intro vs w' i o hin his hx hzz ho hb hd hxd
        match i, ho, hin, his, hx, hzz with
        | 0, _, _, _, hx, _ => exact absurd hx (by decide)
        | 1, _, _, _, hx, _ => exact absurd hx (by decide)
        | 2, ho, _, _, _, _ =>
          simp only [List.getElem?_cons_succ, List.getElem?_cons_zero, Option.some.injEq] at ho
          subst ho
          refine ⟨wanted_none rfl, ?_⟩
          generalize hK : (fun (a' : Act) (w'' : World) => ∃ v : Value, _ ∧ _ ∧ _) = K
          go_simp
          rw [← hK]
          exact ⟨_, rfl, ⟨_, rfl, OwnF.mono (OwnF.of_lit w' rfl) hb.size⟩, below_alloc _ _⟩
        | 3, ho, _, _, _, _ =>
          simp only [List.getElem?_cons_succ, List.getElem?_cons_zero, Option.some.injEq] at ho
          subst ho
          refine ⟨wanted_none rfl, ?_⟩
          generalize hK : (fun (a' : Act) (w'' : World) => ∃ v : Value, _ ∧ _ ∧ _) = K
          go_simp
          rw [← hK]
          exact ⟨_, rfl, rfl, Below.refl _ _⟩
        | 4, ho, _, _, _, _ =>
          simp only [List.getElem?_cons_succ, List.getElem?_cons_zero, Option.some.injEq] at ho
          subst ho
          refine ⟨wanted_none rfl, ?_⟩
          obtain ⟨h, x2, O⟩ := hd 2 rfl rfl (by kernel_rfl) (by decide)
          have x3 : vs 3 = .slice ea en ec := hd 3 rfl rfl (by kernel_rfl) (by decide)
          generalize hK : (fun (a' : Act) (w'' : World) => ∃ v : Value, _ ∧ _ ∧ _) = K
          refine wp_append_newrow recE _ _ rfl w' w6.heap.size _ h O (by go_simp) ea en ec es (HE.out.recs.old hb) HLN.out (by go_simp) hb.size (by have h1 := HEN.out.1; omega) ?_
          intro a' c' w3 O2 B
          rw [← hK]
          exact ⟨_, rfl, ⟨a', c', rfl, O2⟩, B⟩
        | 5, ho, _, _, _, _ =>
          simp only [List.getElem?_cons_succ, List.getElem?_cons_zero, Option.some.injEq] at ho
          subst ho
          refine ⟨wanted_none rfl, ?_⟩
          generalize hK : (fun (a' : Act) (w'' : World) => ∃ v : Value, _ ∧ _ ∧ _) = K
          go_simp
          rw [← hK]
          exact ⟨_, rfl, rfl, Below.refl _ _⟩
        | 6, ho, _, _, _, _ =>
          simp only [List.getElem?_cons_succ, List.getElem?_cons_zero, Option.some.injEq] at ho
          subst ho
          refine ⟨wanted_none rfl, ?_⟩
          have x5 : vs 5 = .int .i64 t := hd 5 rfl rfl (by kernel_rfl) (by decide)
          have st1 : IntKind.i64.wrap (t - 1) = t - 1 := IntWalk.i64_in _ (by have h1 := HBT.out; omega)
          generalize hK : (fun (a' : Act) (w'' : World) => ∃ v : Value, _ ∧ _ ∧ _) = K
          generalize hu5 : vs 5 = u5 at x5 ⊢
          subst x5
          go_simp
          rw [← hK]
          exact ⟨_, by simp [upd, hu5], rfl, Below.refl _ _⟩
        | 7, ho, _, _, _, _ =>
          simp only [List.getElem?_cons_succ, List.getElem?_cons_zero, Option.some.injEq] at ho
          subst ho
          refine ⟨wanted_none rfl, ?_⟩
          obtain ⟨_, c0, c1, c2, c3⟩ := HC.out.old hb
          generalize hK : (fun (a' : Act) (w'' : World) => ∃ v : Value, _ ∧ _ ∧ _) = K
          go_simp
          rw [← hK]
          exact ⟨_, rfl, rfl, Below.refl _ _⟩
        | 8, ho, _, _, _, _ =>
          simp only [List.getElem?_cons_succ, List.getElem?_cons_zero, Option.some.injEq] at ho
          subst ho
          refine ⟨wanted_none rfl, ?_⟩
          have x6 : vs 6 = .int .i64 (t - 1) := hd 6 rfl rfl (by kernel_rfl) (by decide)
          have x7 : vs 7 = .agg #[.int .i64 C.k, .int .i64 C.b, .int .i64 C.r, .int .i64 C.c] := hd 7 rfl rfl (by kernel_rfl) (by decide)
          generalize hK : (fun (a' : Act) (w'' : World) => ∃ v : Value, _ ∧ _ ∧ _) = K
          generalize hu6 : vs 6 = u6 at x6 ⊢
          subst x6
          generalize hu7 : vs 7 = u7 at x7 ⊢
          subst x7
          go_simp
          rw [← hK]
          exact ⟨_, by simp [upd, hu6, hu7], rfl, Below.refl _ _⟩
        | 9, ho, _, _, _, _ =>
          simp only [List.getElem?_cons_succ, List.getElem?_cons_zero, Option.some.injEq] at ho
          subst ho
          refine ⟨wanted_none rfl, ?_⟩
          have x8 : vs 8 = .agg #[.int .i64 (t - 1), .int .i64 C.k, .int .i64 C.b, .int .i64 C.r, .int .i64 C.c] := hd 8 rfl rfl (by kernel_rfl) (by decide)
          generalize hK : (fun (a' : Act) (w'' : World) => ∃ v : Value, _ ∧ _ ∧ _) = K
          generalize hu8 : vs 8 = u8 at x8 ⊢
          subst x8
          go_simp
          rw [← hK]
          exact ⟨_, by simp [upd, hu8], ⟨_, rfl, Blk.new _ _ _⟩, below_alloc _ _⟩
        | 10, _, _, his, _, _ => exact absurd rfl his
        | 11, _, _, _, _, hzz => exact absurd hzz (by decide)
        | 12, _, _, _, _, hzz => exact absurd hzz (by decide)
        | 13, _, _, _, _, hzz => exact absurd hzz (by decide)
        | 14, _, _, _, _, hzz => exact absurd hzz (by decide)
        | 15, _, _, _, _, hzz => exact absurd hzz (by decide)
        | 16, _, _, _, _, hzz => exact absurd hzz (by decide)
        | n + 17, _, hin, _, _, _ => exact absurd hin (by simp)
      case hearly3 =>
        intro vs w' i o hin hx ho hb hxd
        match i, ho, hin, hx with
        | 0, ho, _, _ =>
          simp only [List.getElem?_cons_zero, Option.some.injEq] at ho
          subst ho
          refine ⟨wanted_none rfl, ?_⟩
          obtain ⟨_, g0, g1, g2, g3⟩ := HG.out.old hb
          generalize hK : (fun (a' : Act) (w'' : World) => _ ∧ _) = K
          go_simp
          rw [← hK]
          exact ⟨rfl, rfl⟩
        | 1, ho, _, _ =>
          simp only [List.getElem?_cons_succ, List.getElem?_cons_zero, Option.some.injEq] at ho
          subst ho
          refine ⟨wanted_none rfl, ?_⟩
          have hxt := HX.out.old hb
          generalize hK : (fun (a' : Act) (w'' : World) => _ ∧ _) = K
          refine wp_load_tim hxt _ rfl (by go_simp) ?_
          rw [← hK]
          exact ⟨rfl, rfl⟩
        | 2, _, _, hx => exact absurd hx (by decide)
        | 3, _, _, hx => exact absurd hx (by decide)
        | 4, _, _, hx => exact absurd hx (by decide)
        | 5, _, _, hx => exact absurd hx (by decide)
        | 6, _, _, hx => exact absurd hx (by decide)
        | 7, _, _, hx => exact absurd hx (by decide)
        | 8, _, _, hx => exact absurd hx (by decide)
        | 9, _, _, hx => exact absurd hx (by decide)
        | 10, _, _, hx => exact absurd hx (by decide)
        | 11, _, _, hx => exact absurd hx (by decide)
        | 12, _, _, hx => exact absurd hx (by decide)
        | 13, _, _, hx => exact absurd hx (by decide)
        | 14, _, _, hx => exact absurd hx (by decide)
        | 15, _, _, hx => exact absurd hx (by decide)
        | 16, _, _, hx => exact absurd hx (by decide)
        | n + 17, _, hin, _ => exact absurd hin (by simp)
      case hlate3 =>
        intro vs w' i o hin hx ho hg hxd
        match i, ho, hin, hx with
        | 0, ho, _, _ =>
          simp only [List.getElem?_cons_zero, Option.some.injEq] at ho
          subst ho
          refine ⟨wanted_none rfl, ?_⟩
          have hb : Below w6.heap.size w6 w' := by obtain ⟨_, _, _, _, hb⟩ := hg; exact hb
          clear hg
          obtain ⟨_, g0, g1, g2, g3⟩ := HG.out.old hb
          generalize hK : (fun (a' : Act) (w'' : World) => _ ∧ _) = K
          go_simp
          rw [← hK]
          exact ⟨rfl, rfl⟩
        | 1, ho, _, _ =>
          simp only [List.getElem?_cons_succ, List.getElem?_cons_zero, Option.some.injEq] at ho
          subst ho
          refine ⟨wanted_none rfl, ?_⟩
          have hb : Below w6.heap.size w6 w' := by obtain ⟨_, _, _, _, hb⟩ := hg; exact hb
          clear hg
          have hxt := HX.out.old hb
          generalize hK : (fun (a' : Act) (w'' : World) => _ ∧ _) = K
          refine wp_load_tim hxt _ rfl (by go_simp) ?_
          rw [← hK]
          exact ⟨rfl, rfl⟩
        | 2, _, _, hx => exact absurd hx (by decide)
        | 3, _, _, hx => exact absurd hx (by decide)
        | 4, _, _, hx => exact absurd hx (by decide)
        | 5, _, _, hx => exact absurd hx (by decide)
        | 6, _, _, hx => exact absurd hx (by decide)
        | 7, _, _, hx => exact absurd hx (by decide)
        | 8, _, _, hx => exact absurd hx (by decide)
        | 9, _, _, hx => exact absurd hx (by decide)
        | 10, _, _, hx => exact absurd hx (by decide)
        | 11, _, _, hx => exact absurd hx (by decide)
        | 12, _, _, hx => exact absurd hx (by decide)
        | 13, _, _, hx => exact absurd hx (by decide)
        | 14, _, _, hx => exact absurd hx (by decide)
        | 15, _, _, hx => exact absurd hx (by decide)
        | 16, _, _, hx => exact absurd hx (by decide)
        | n + 17, _, hin, _ => exact absurd hin (by simp)
      case hbig3 =>
        intro vs w' o ho hb hf
        simp only [List.getElem?_cons_succ, List.getElem?_cons_zero, Option.some.injEq] at ho
        subst ho
        refine ⟨wanted_none rfl, ?_⟩
        obtain ⟨a', c', x4, O⟩ := hf 4 (by decide) rfl rfl (by decide)
        obtain ⟨h, x9, hbk⟩ := hf 9 (by decide) rfl rfl (by decide)
        have HB0 := hid hb
        have HOO := hid O
        have HCL := hid (fun (j : Nat) (u : Value) (hu : (encE (⟨t - 1, C⟩ : Ev))[j]? = some u) => (hbk.cell (j := j) (v := u) hu))
        clear hb hf hbk
        refine wp_append_rec_at recE _ _ rfl w' w6.heap.size w'.heap.size h a' en c' es O (by go_simp) (⟨t - 1, C⟩ : Ev) (fun j u hu => by rw [addr_add0]; exact HCL.out j u hu) (by go_simp) HB0.out.size (by have h1 := HEN.out.1; omega) ?_
        intro a2 c2 w3 O2 K2
        exact ⟨_, rfl, a2, c2, by simp [upd], O2, HB0.out.trans (K2.below HB0.out.size (fun q hq hS => by have h9 := (HOO.out.row.lt q hS).1; omega))⟩
      case hz3 =>
        intro vs w' i o hin hzz ho hg hd
        match i, ho, hin, hzz with
        | 0, _, _, hzz => exact absurd hzz (by decide)
        | 1, _, _, hzz => exact absurd hzz (by decide)
        | 2, _, _, hzz => exact absurd hzz (by decide)
        | 3, _, _, hzz => exact absurd hzz (by decide)
        | 4, _, _, hzz => exact absurd hzz (by decide)
        | 5, _, _, hzz => exact absurd hzz (by decide)
        | 6, _, _, hzz => exact absurd hzz (by decide)
        | 7, _, _, hzz => exact absurd hzz (by decide)
        | 8, _, _, hzz => exact absurd hzz (by decide)
        | 9, _, _, hzz => exact absurd hzz (by decide)
        | 10, _, _, hzz => exact absurd hzz (by decide)
        | 11, ho, _, _ =>
          simp only [List.getElem?_cons_succ, List.getElem?_cons_zero, Option.some.injEq] at ho
          subst ho
          refine ⟨wanted_none rfl, ?_⟩
          obtain ⟨a', c', xb, O, BB⟩ := hg
          have HXB := hid xb
          have HO := hid O
          have HBB := hid BB
          clear xb O BB
          have HE0 : Hid (vs 0 = .agg #[.int .i64 G.a, .int .i64 G.b, .int .i64 G.r, .int .i64 G.c]) := hd 0 (by decide) (by kernel_rfl)
          have HE1 : Hid (vs 1 = .agg #[.int .i64 T.t0, .int .i64 T.t1, .int .i64 T.t2, .int .i64 T.t3, .int .i64 T.t4, .int .i64 T.t5, .int .i64 T.t6, .int .i64 T.t7, .int .i64 T.t8, .int .i64 T.t9, .int .i64 T.t10, .int .i64 T.t11, .int .i64 T.t12, .int .i64 T.t13, .int .i64 T.t14, .int .i64 T.t15, .int .i64 T.t16]) := hd 1 (by decide) (by kernel_rfl)
          generalize hK : (fun (a' : Act) (w'' : World) => _ ∧ _) = K
          go_simp
          refine (calls_args (by rw [HE0.out, HE1.out, HXB.out]) (calls_pair (a := q) (b := (es.length : Int)) HFT.out (implTraceFault_any G T ⟨a', en + 1, c', es ++ [(⟨t - 1, C⟩ : Ev)]⟩ _ (OwnEv.reads (E := ⟨a', en + 1, c', es ++ [(⟨t - 1, C⟩ : Ev)]⟩) HO.out) (by have h1 := HEN.out; have h2 := HL.out; dsimp only; omega) HO.out.le_cap))).mono ?_
          rintro e w2 ⟨rfl, B⟩
          rw [← hK]
          exact ⟨rfl, ⟨a', c', by simpa [upd] using HXB.out, OwnF.up (OwnF.old HO.out B) B.size (Nat.le_refl _), below_step HBB.out B (Nat.le_refl _)⟩⟩
        | 12, ho, _, _ =>
          simp only [List.getElem?_cons_succ, List.getElem?_cons_zero, Option.some.injEq] at ho
          subst ho
          refine ⟨wanted_none rfl, ?_⟩
          have HGG := hid hg
          clear hg
          have x11 : vs 11 = .tuple #[.int .i64 q, .int .i64 (es.length : Int)] := hd 11 (by decide) (by kernel_rfl)
          generalize hK : (fun (a' : Act) (w'' : World) => _ ∧ _) = K
          generalize hu11 : vs 11 = u11 at x11 ⊢
          subst x11
          go_simp
          rw [← hK]
          exact ⟨by simp [upd, hu11], by obtain ⟨a', c', xb, O, BB⟩ := HGG.out; exact ⟨a', c', by simpa [upd] using xb, O, BB⟩⟩
        | 13, ho, _, _ =>
          simp only [List.getElem?_cons_succ, List.getElem?_cons_zero, Option.some.injEq] at ho
          subst ho
          refine ⟨wanted_none rfl, ?_⟩
          have HGG := hid hg
          clear hg
          have x12 : vs 12 = .tuple #[.int .i64 q, .int .i64 (es.length : Int)] := hd 12 (by decide) (by kernel_rfl)
          generalize hK : (fun (a' : Act) (w'' : World) => _ ∧ _) = K
          generalize hu12 : vs 12 = u12 at x12 ⊢
          subst x12
          go_simp
          rw [← hK]
          exact ⟨by simp [upd, hu12], by obtain ⟨a', c', xb, O, BB⟩ := HGG.out; exact ⟨a', c', by simpa [upd] using xb, O, BB⟩⟩
        | 14, ho, _, _ =>
          simp only [List.getElem?_cons_succ, List.getElem?_cons_zero, Option.some.injEq] at ho
          subst ho
          refine ⟨wanted_none rfl, ?_⟩
          have HGG := hid hg
          clear hg
          have x12 : vs 12 = .tuple #[.int .i64 q, .int .i64 (es.length : Int)] := hd 12 (by decide) (by kernel_rfl)
          generalize hK : (fun (a' : Act) (w'' : World) => _ ∧ _) = K
          generalize hu12 : vs 12 = u12 at x12 ⊢
          subst x12
          go_simp
          rw [← hK]
          exact ⟨by simp [upd, hu12], by obtain ⟨a', c', xb, O, BB⟩ := HGG.out; exact ⟨a', c', by simpa [upd] using xb, O, BB⟩⟩
        | 15, ho, _, _ =>
          simp only [List.getElem?_cons_succ, List.getElem?_cons_zero, Option.some.injEq] at ho
          subst ho
          refine ⟨wanted_none rfl, ?_⟩
          have HGG := hid hg
          clear hg
          have x13 : vs 13 = .int .i64 q := hd 13 (by decide) (by kernel_rfl)
          generalize hK : (fun (a' : Act) (w'' : World) => _ ∧ _) = K
          generalize hu13 : vs 13 = u13 at x13 ⊢
          subst x13
          go_simp
          rw [← hK]
          exact ⟨by simp [upd, hu13], by obtain ⟨a', c', xb, O, BB⟩ := HGG.out; exact ⟨a', c', by simpa [upd] using xb, O, BB⟩⟩
        | 16, ho, _, _ =>
          simp only [List.getElem?_cons_succ, List.getElem?_cons_zero, Option.some.injEq] at ho
          subst ho
          refine ⟨wanted_none rfl, ?_⟩
          have HGG := hid hg
          clear hg
          have x14 : vs 14 = .int .i64 (es.length : Int) := hd 14 (by decide) (by kernel_rfl)
          generalize hK : (fun (a' : Act) (w'' : World) => _ ∧ _) = K
          generalize hu14 : vs 14 = u14 at x14 ⊢
          subst x14
          go_simp
          rw [← hK]
          exact ⟨by simp [upd, hu14], by obtain ⟨a', c', xb, O, BB⟩ := HGG.out; exact ⟨a', c', by simpa [upd] using xb, O, BB⟩⟩
        | n + 17, _, hin, _ => exact absurd hin (by simp)
      case hend3 =>
        intro vs w7 hg hv
        have BT : Below w6.heap.size w6 w7 := by obtain ⟨_, _, _, _, hb⟩ := hg; exact hb
        have e4 : vs 15 = .int .i64 q := hv 15 (by decide) (by decide)
        have e5 : vs 16 = .int .i64 (es.length : Int) := hv 16 (by decide) (by decide)
        generalize vs 15 = u4 at e4 ⊢
        subst e4
        generalize vs 16 = u5 at e5 ⊢
        subst e5
        clear hg hv
        have HG := hid (HG.out.old BT)
        have HX := hid (HX.out.old BT)
        have HE := hid (EvsRd.old HE.out BT)
        have HB := hid (below_step HB.out BT (Nat.le_refl _))
        have HC := hid (HC.out.old BT)
        clear BT
        have hqz : (q != 0) = true := by have h := HNZ.out; simpa using h
        go_wp2_with fail
        go_ret
        exact ⟨rfl, HB.out⟩

set_option maxRecDepth 100000 in
theorem lifted (os : Os) (started : os.Started) (H : Type) (enc : TypeId × Value → H) :
    ReturnsInHanded {} Try.checked os 13 .any (Rows.fnEarliestSpec.pre6 enc Try.prog Try.f13 Rows.fnEarliestRow.domain false) (Rows.fnEarliestSpec.post enc Try.prog Try.f13 false true false false) := by
  refine returnsInHanded_of_change (C := Try.checked) own started (by kernel_rfl) Try.func13
    (ChangeSpec.witness6 (enc := enc) (C := Try.checked) false ⟨#[], #[.slice none 0 0], []⟩ 8 (by kernel_rfl) (by kernel_rfl) (by kernel_rfl) (by kernel_rfl)) ?_
  intro W base args ds gs before hval0 hW hcnd _
  have hval : ∀ (j : Nat) t v, Try.f13.params[j]? = some t → args[j]? = some v → Value.okWide Try.prog W .any base t v := hval0
  have hW' := hW
  obtain ⟨p, q, hA0, hV, rfl, hfz, hnd⟩ := hW
  have hA : DataW.TrodAll enc Try.prog W 0 (fun _ => true) true Try.f13.params.toList args.toList ds p := hA0
  rw [Try.params13] at hA hval
  obtain ⟨v0, vs0, d0, ds0, p0, q0, hargs, rfl, rfl, h0, r0⟩ := trodAll_cons hA
  obtain ⟨rfl, rfl, rfl⟩ := trodAll_nil r0
  obtain rfl : args = #[v0] := by cases args; simp_all
  obtain ⟨rfl, rfl⟩ := trodVars_none hV
  obtain ⟨a0, len0, cap0, rfl⟩ := okWide_slice Try.underlying22 (hval 0 22 v0 rfl rfl)
  have k0 := h0
  have lt0 : ∀ x ∈ p0, x.block < W.heap.size := by obtain ⟨m, hm⟩ := k0; exact DataW.trod_lt m _ _ _ hm
  obtain ⟨w0, m0⟩ : BytesR W a0 len0 ∧ len0 ≤ maxLen := by
    obtain ⟨fuel, hf⟩ := h0
    rcases open_ints Try.underlying22 Try.underlying5 (by kernel_rfl) hf with ⟨hcs, _⟩ | ⟨x, l, c, zs, hcs, _, hl, hm, hz, _, hcell, hwz⟩
    · simp [Value.cells] at hcs
      obtain ⟨rfl, rfl, rfl⟩ := hcs
      exact ⟨fun i hi => absurd hi (Nat.not_lt_zero _), Nat.zero_le _⟩
    · simp [Value.cells] at hcs
      obtain ⟨rfl, rfl, rfl⟩ := hcs
      exact ⟨BytesR.of_cells hl (by simpa using hz) hcell hwz, Nat.le_trans hl hm⟩
  clear hA0 hval0
  refine (walk W a0 len0 cap0 w0 m0).mono fun e W' ⟨he, bel⟩ => ?_
  subst he
  exact ⟨_, rfl, _, _, _, [], _, [], hW', trodAll_mk1 (shut_bool Try.underlying4 _), (trodAll_cons_mk (Below.trod laidOut (by kernel_rfl) (of_decide_eq_true (by kernel_rfl)) k0 bel lt0) trodAll_mk0), rfl, bel.frame _, fun h => by cases h⟩

theorem own_facts : joinedFacts Try.prog 13 Try.f13 Rows.fnEarliestSpec Rows.fnEarliestRow = true :=
  facts_of 13 Try.f13 Rows.fnEarliestSpec Rows.fnEarliestRow (by as_aux_lemma => kernel_rfl) (by as_aux_lemma => kernel_rfl) (by as_aux_lemma => kernel_rfl) rfl rfl
    (by as_aux_lemma => kernel_rfl) (by as_aux_lemma => kernel_rfl) (by as_aux_lemma => kernel_rfl) (by as_aux_lemma => kernel_rfl)
    (by as_aux_lemma => kernel_rfl) (by as_aux_lemma => kernel_rfl) (by as_aux_lemma => kernel_rfl) (by as_aux_lemma => kernel_rfl) (by as_aux_lemma => kernel_rfl)
    (by as_aux_lemma => kernel_rfl) (by as_aux_lemma => kernel_rfl) (by as_aux_lemma => kernel_rfl) (by as_aux_lemma => kernel_rfl)
    rfl rfl rfl rfl (by as_aux_lemma => kernel_rfl) (by as_aux_lemma => kernel_rfl) (by as_aux_lemma => kernel_rfl) (by as_aux_lemma => kernel_rfl)
theorem over : Rows.fnEarliestRow.holds Try.pinned (OpenSpec.ofChange Rows.fnEarliestSpec) :=
  OpenClaim.holds_of_wide 13 Try.f13 rfl rfl rfl rfl rfl rfl rfl ⟨rfl, rfl, rfl, rfl, rfl⟩ rfl rfl rfl rfl rfl (by as_aux_lemma => kernel_rfl) Try.func13 own_facts
    (of_decide_eq_true (by as_aux_lemma => kernel_rfl)) (by unfold Func.isWrapper; first | (rw [if_pos (by decide +kernel)]; kernel_rfl) | (rw [if_neg (by decide +kernel)]; exact ⟨rfl, rfl⟩))
    (fun os started H enc _ => lifted os started H enc)

theorem proved : Rows.FnEarliestSaid := over
#print axioms proved
end Go.Proofs.Ytggjheapjklhgaa.fnEarliest
