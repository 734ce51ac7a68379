/- The law 'FnTraces': for every input the program's function and the reference's agree, so the call returns true and leaves its arguments as they were; no condition. -/
import Derived.Test.YtggjheapjklhgaaRows
import Derived.Test.YtggjheapjklhgaaHead
import Derived.Test.YtggjheapjklhgaaTrW
import Derived.Test.YtggjheapjklhgaaTfI
import Derived.Test.YtggjheapjklhgaaTen
import Derived.Test.YtggjheapjklhgaaRnkF
import Derived.Test.YtggjheapjklhgaaLwR
import Derived.Test.YtggjheapjklhgaaAdrW
import Derived.Test.YtggjheapjklhgaaInQ
import Derived.WalkKit
import Derived.ProofKit
import Derived.OpenShut
import Derived.ShutString
import Derived.ChangeOld
import Derived.Below
namespace Go.Proofs.Ytggjheapjklhgaa.fnTraces
open Go.ChangeShapes Go.WideShapes Go.ChangeAt Go.RowKit
set_option linter.unusedVariables false

theorem own : ownKnob Try.prog.godebug = none := by kernel_rfl
theorem laidOut : laidOutB Try.prog = true := by kernel_rfl

theorem calls_pair {P : Program} {f : FuncId} {args : Array Value} {w : World} {x : Int × Int} {a b : Int} (h : x = (a, b)) (k : Calls P f args w fun e w' => e = .returned (.tuple #[.int .i64 x.1, .int .i64 x.2]) ∧ Below w.heap.size w w') : Calls P f args w fun e w' => e = .returned (.tuple #[.int .i64 a, .int .i64 b]) ∧ Below w.heap.size w w' := by
  subst h; exact k
theorem tmod_of {x m : Int} (h0 : 0 ≤ x) (hm : 0 < m) : ∃ k : Nat, x.tmod m = (k : Int) ∧ x % m = (k : Int) ∧ (k : Int) < m := by
  have h1 := Int.emod_nonneg x (show m ≠ 0 by omega)
  have h2 := Int.emod_lt_of_pos x hm
  refine ⟨(x % m).toNat, ?_, ?_, ?_⟩
  · rw [Int.tmod_eq_emod_of_nonneg h0]; omega
  · omega
  · omega
theorem formed {G : Geo} {T : Tim} {es : List Ev} {D : RkD} (h : TrOk G T es D) (n : Nat) (hn : n ≤ es.length) (hl : es.length ≤ 1000) : traceFault G T (es.take n ++ [⟨-1, ⟨0, 0, 0, 0⟩⟩]) = (1, (n : Int)) := by
  obtain ⟨D', h1, h2, h3⟩ := h.take n
  rw [traceFault_yes h.geo h.tim (by simp; omega), h3]
  have hc : chk G T (es.take n) D' ⟨-1, ⟨0, 0, 0, 0⟩⟩ = 1 := chk_form (by
    have : cmdOk G ⟨0, 0, 0, 0⟩ = false := by
      cases hh : cmdOk G ⟨0, 0, 0, 0⟩ with
      | false => rfl
      | true => have := (cmdOk_parts hh).2.1; have h5 : (1 : Int) ≤ 0 := this.1; omega
    unfold formB
    rw [this]; rfl)
  unfold faultFrom
  rw [hc, if_neg (by decide), List.length_take, Nat.min_eq_left hn]
theorem traceEnd_at {P : Program} {f : FuncId} {args : Array Value} {w : World} {x : RkD × Bool} {D : RkD} (h : x = (D, true)) (k : Calls P f args w fun e w' => ∃ R' : RankE, e = .returned (.tuple #[.agg #[.slice R'.a R'.n R'.c, .int .i64 R'.p], .bool x.2]) ∧ OwnR w' w.heap.size w'.heap.size R' ∧ R'.d = x.1 ∧ Below w.heap.size w w') :
    Calls P f args w fun e w' => ∃ R' : RankE, e = .returned (.tuple #[.agg #[.slice R'.a R'.n R'.c, .int .i64 R'.p], .bool true]) ∧ OwnR w' w.heap.size w'.heap.size R' ∧ R'.d = D ∧ Below w.heap.size w w' := by
  subst h; exact k

set_option maxHeartbeats 4000000 in
set_option maxRecDepth 100000 in
theorem walk (w : World) (a0 : Option Addr) (len0 cap0 : Nat) (w0 : BytesR w a0 len0) (m0 : len0 ≤ maxLen) :
    Calls Try.prog 11 #[.slice a0 len0 cap0] w fun e w' => e = .returned (.bool true) ∧ Below w.heap.size w w' := by
  by_cases hlen : 1048576 < len0
  · have hd : decide (1048576 < (len0 : Int)) = true := by simp; omega
    go_enter Try.func11, Try.ntmps11
    go_wp2_with fail
    refine (big_any _ _ _ _ m0).mono ?_
    rintro e w1 ⟨rfl, rfl⟩
    go_wp2_with fail
    go_ret
    exact ⟨rfl, Below.refl _ _⟩
  have hd : decide (1048576 < (len0 : Int)) = false := by simp; omega
  have HW := hid w0
  clear w0
  go_enter Try.func11, Try.ntmps11
  go_wp2_with fail
  refine (big_any _ _ _ _ m0).mono ?_
  rintro e w1 ⟨rfl, rfl⟩
  go_wp2_with fail
  refine (DrawTrace_any _ _ _ _ HW.out (by omega)).mono ?_
  rintro e w1 ⟨G, T, ⟨ea, en, ec, es⟩, rfl, hO, hl, ⟨b0, hb0⟩, ⟨D, hT⟩, B⟩
  dsimp only at hb0
  subst hb0
  have HTR := hid hT
  have HL := hid hl
  have HEN := hid (show en ≤ 1048576 ∧ en ≤ ec ∧ en = es.length from ⟨by have h1 : en = es.length := OwnF.length encE_len (by decide) hO; dsimp only at hl; omega, OwnF.le_cap hO, OwnF.length encE_len (by decide) hO⟩)
  have HE := hid (show EvsRd w1 ⟨some ⟨b0, 0, none⟩, en, ec, es⟩ from hO.reads)
  have HB := hid B
  have HW := hid (HW.out.old B)
  dsimp only at HTR HL
  clear hd B hO hl hT
  have HT := hid (Blk.zeroT (w1.alloc (.cells #[.int .i64 G.a, .int .i64 G.b, .int .i64 G.r, .int .i64 G.c] 25)) 27)
  simp only [World.size_alloc] at HT
  have HTT := hid HT.out.there
  go_upto_region 4 with (refine wpList_store_tim2 (T := T) (by rfl) _ _ (by rfl) (by rfl) (by rfl) (by exact HTT.out) ?_)
  refine wp_world (fun w2 hw => ?_)
  have HG := hid (show BoxG w2 w1.heap.size G by rw [hw.out]; exact ((BoxG.new_ _ _ _ rfl).old (below_alloc _ _)).keeps (setCells_keeps (w1.heap.size + 1) (timV T) 0 _) (by omega))
  have HX := hid (BoxT.of_blk (show Blk w2 (w1.heap.size + 1) 27 (timV T) by rw [hw.out]; exact HT.out.tim T))
  have B : Below w1.heap.size w1 w2 := by rw [hw.out]; exact (below_alloc2 _ _ _).trans ((setCells_keeps (w1.heap.size + 1) (timV T) 0 _).below (by simp; omega) (fun k hk e => by omega))
  have HE := hid (EvsRd.old HE.out B)
  have HB := hid (below_step HB.out B (Nat.le_refl _))
  have HW := hid (HW.out.old B)
  clear hw B HT HTT
  generalize w1.heap.size = p3 at *
  go_wp2_with fail
  refine (DrawPlaces_any _ _ _ _ HW.out (by omega)).mono ?_
  rintro e w3 ⟨g5, c5, ps, rfl, hg5, RR, hps, B⟩
  have HG := hid (HG.out.old B)
  have HX := hid (HX.out.old B)
  have HE := hid (EvsRd.old HE.out B)
  have HB := hid (below_step HB.out B (Nat.le_refl _))
  have HW := hid (HW.out.old B)
  have HPL := hid RR.length
  obtain ⟨p0, hp0⟩ : ∃ x, ps[0]? = some x := ⟨ps[0]'(by rw [HPL.out]; omega), List.getElem?_eq_getElem _⟩
  obtain ⟨a0', a1'⟩ := hps p0 (List.mem_of_getElem? hp0)
  have k0 := RR.cell hp0
  obtain ⟨kn, ek, ek', hk9⟩ := tmod_of (x := p0) (m := (en : Int) + 1) a0' (by omega)
  have sk : IntKind.i64.wrap ((en : Int) + 1) = (en : Int) + 1 := IntWalk.i64_in _ (by have h1 := HEN.out.1; omega)
  have hne : ¬ ((en : Int) + 1 = 0) := by omega
  have HKE := hid (show kn ≤ en by omega)
  clear B hps RR hp0 HPL HW hg5
  go_upto_region 6 with (fail)
  clear k0 ek ek' sk hne hk9 a0' a1'
  have HL' := hid (show es.length ≤ 1000 by have h := HL.out; omega)
  have HLN := hid (show en = es.length from HEN.out.2.2)
  have HKL := hid (show kn = (es.take kn).length by have h1 := HLN.out; have h2 := HKE.out; rw [List.length_take]; omega)
  have HF6 := hid (show traceFault G T (es.take kn) = (0, -1) by rw [traceFault_yes HTR.out.geo HTR.out.tim (by rw [List.length_take]; have h1 := HL'.out; omega)]; exact HTR.out.pre kn)
  have hki0 : (0 : Int) ≤ (kn : Int) := by omega
  have hki1 : (kn : Int) ≤ (ec : Int) := by have h1 := HEN.out.2.1; have h2 := HKE.out; omega
  have hki2 : kn ≤ ec := by omega
  obtain ⟨D', hok, hend, _⟩ := HTR.out.take kn
  have HRO := hid hok
  have HTE := hid (show traceEnd G (es.take kn) = (D', true) from traceEnd_some hend HTR.out.geo)
  clear hok hend
  obtain ⟨_, g0, g1, g2, g3⟩ := HG.out
  have l1 := HG.out.lt
  have hov := over_cell w3
  refine wp_region_over (by kernel_rfl) (by kernel_rfl) ?_
  repeat (first | (refine wpQuiet_load_timW (by rintro _ ⟨t, rfl⟩; exact HX.out.old t.below) _ (by rfl) (by rfl) (by rfl) ?_; simp only [Act.put, List.setIfInBounds_toArray, List.set_cons_succ, List.set_cons_zero]) | go_big_quiet_step ((go_at_call 56; exact calls_over (calls_pair HF6.out (implTraceFault_any G T ⟨(some ⟨b0, 0, none⟩), kn, ec, es.take kn⟩ _ ((EvsRd.take HE.out HKE.out).old (Over.below _)) (by have h1 := HEN.out.1; have h2 := HKE.out; dsimp only; omega) (by have h1 := HEN.out.2.1; have h2 := HKE.out; dsimp only; omega))))))
  refine wpQuiet_nil ?_
  intro w6 B
  have HG := hid (HG.out.old B)
  have HX := hid (HX.out.old B)
  have HE := hid (EvsRd.old HE.out B)
  have HB := hid (below_step HB.out B (Nat.le_refl _))
  clear B hov l1
  clear g0 g1 g2 g3
  go_upto_region 7 with (fail)
  refine grow3_of 9 7 (.bool true) (fr := ?fr4)
    (fun i v w' => match i with
        | 0 => v = .agg #[.int .i64 G.a, .int .i64 G.b, .int .i64 G.r, .int .i64 G.c]
        | 1 => v = .slice (some ⟨b0, 0, none⟩) en ec
        | 2 => v = .int .i64 kn
        | 3 => v = .slice (some ⟨b0, 0, none⟩) kn ec
        | 4 => ∃ Lx : RankE, v = .tuple #[.agg #[.slice Lx.a Lx.n Lx.c, .int .i64 Lx.p], .bool true] ∧ OwnR w' w6.heap.size w'.heap.size Lx ∧ Lx.d = D'
        | 5 => ∃ Lx : RankE, v = .tuple #[.agg #[.slice Lx.a Lx.n Lx.c, .int .i64 Lx.p], .bool true] ∧ OwnR w' w6.heap.size w'.heap.size Lx ∧ Lx.d = D'
        | 6 => ∃ Lx : RankE, v = .agg #[.slice Lx.a Lx.n Lx.c, .int .i64 Lx.p] ∧ OwnR w' w6.heap.size w'.heap.size Lx ∧ Lx.d = D'
        | 7 => v = .bool true
        | _ => ∃ g : Nat, v = .pointer (some ⟨g, 0, none⟩) ∧ w6.heap.size ≤ g ∧ Blk w' g 41 [.slice none 0 0, .int .i64 0])
    (fun vs w' => (∃ Tx : RankE, vs 5 = .tuple #[.agg #[.slice Tx.a Tx.n Tx.c, .int .i64 Tx.p], .bool true]) ∧ ∃ (Lx : RankE) (g : Nat), vs 8 = .pointer (some ⟨g, 0, none⟩) ∧ w6.heap.size ≤ g ∧ Blk w' g 41 [.slice Lx.a Lx.n Lx.c, .int .i64 Lx.p] ∧ OwnR w' w6.heap.size w'.heap.size Lx ∧ Lx.d = D' ∧ Below w6.heap.size w6 w') (by kernel_rfl) (by kernel_rfl) rfl (by decide) ?hlast4 ?hlbst4 ?hfr4 ⟨fun _ => undef, ?h04⟩ ?hF4 ?hX4 ?hstep4 ?hstore4 ?hlate4 ?hend4
  case hfr4 => intro vs; simp only [frOf, List.take_succ_cons, List.take_zero]; go_simp; exact rfl
  case h04 => rfl
  case hX4 => exact fun v w h => h
  case hlast4 =>
    intro o ho i hi hne
    simp only [List.getElem?_cons_succ, List.getElem?_cons_zero, Option.some.injEq] at ho
    subst ho
    match i, hi, hne with
    | 0, _, _ => show (_ : Bool) = true; kernel_rfl
    | 1, _, _ => show (_ : Bool) = true; kernel_rfl
    | 2, _, _ => show (_ : Bool) = true; kernel_rfl
    | 3, _, _ => show (_ : Bool) = true; kernel_rfl
    | 4, _, _ => show (_ : Bool) = true; kernel_rfl
    | 5, _, _ => show (_ : Bool) = true; kernel_rfl
    | 6, _, _ => show (_ : Bool) = true; kernel_rfl
    | 7, _, hne => exact absurd rfl hne
    | 8, _, _ => show (_ : Bool) = true; kernel_rfl
  case hlbst4 =>
    intro o ho i hi
    simp only [List.getElem?_cons_succ, List.getElem?_cons_zero, Option.some.injEq] at ho
    subst ho
    match i, hi with
    | 0, _ => show (_ : Bool) = true; kernel_rfl
    | 1, _ => show (_ : Bool) = true; kernel_rfl
    | 2, _ => show (_ : Bool) = true; kernel_rfl
    | 3, _ => show (_ : Bool) = true; kernel_rfl
    | 4, _ => show (_ : Bool) = true; kernel_rfl
    | 5, _ => show (_ : Bool) = true; kernel_rfl
    | 6, _ => show (_ : Bool) = true; kernel_rfl
    | 7, _ => show (_ : Bool) = true; kernel_rfl
    | 8, _ => show (_ : Bool) = true; kernel_rfl
    | 9, _ => show (_ : Bool) = true; kernel_rfl
  case hF4 =>
    intro i v w' w'' h hb
    match i, h with
    | 0, h => exact h
    | 1, h => exact h
    | 2, h => exact h
    | 3, h => exact h
    | 4, h => obtain ⟨Lx, e, o, d⟩ := h; exact ⟨Lx, e, OwnR.up (o.old hb) hb.size (Nat.le_refl _), d⟩
    | 5, h => obtain ⟨Lx, e, o, d⟩ := h; exact ⟨Lx, e, OwnR.up (o.old hb) hb.size (Nat.le_refl _), d⟩
    | 6, h => obtain ⟨Lx, e, o, d⟩ := h; exact ⟨Lx, e, OwnR.up (o.old hb) hb.size (Nat.le_refl _), d⟩
    | 7, h => exact h
    | n + 8, h => obtain ⟨g, e, l, o⟩ := h; exact ⟨g, e, l, o.old hb⟩
  case hstep4 =>
    intro vs w' i o hin ho hb hd
    match i, ho, hin with
    | 0, ho, _ =>
      simp only [List.getElem?_cons_zero, Option.some.injEq] at ho
      subst ho
      refine ⟨wanted_none rfl, ?_⟩
      obtain ⟨_, g0, g1, g2, g3⟩ := HG.out.old hb
      generalize hK : (fun (a' : Act) (w'' : World) => ∃ v : Value, _ ∧ _ ∧ _) = K
      go_simp
      rw [← hK]
      exact ⟨_, rfl, rfl, Below.refl _ _⟩
    | 1, ho, _ =>
      simp only [List.getElem?_cons_succ, List.getElem?_cons_zero, Option.some.injEq] at ho
      subst ho
      refine ⟨wanted_none rfl, ?_⟩
      generalize hK : (fun (a' : Act) (w'' : World) => ∃ v : Value, _ ∧ _ ∧ _) = K
      go_simp
      rw [← hK]
      exact ⟨_, rfl, rfl, Below.refl _ _⟩
    | 2, ho, _ =>
      simp only [List.getElem?_cons_succ, List.getElem?_cons_zero, Option.some.injEq] at ho
      subst ho
      refine ⟨wanted_none rfl, ?_⟩
      generalize hK : (fun (a' : Act) (w'' : World) => ∃ v : Value, _ ∧ _ ∧ _) = K
      go_simp
      rw [← hK]
      exact ⟨_, rfl, rfl, Below.refl _ _⟩
    | 3, ho, _ =>
      simp only [List.getElem?_cons_succ, List.getElem?_cons_zero, Option.some.injEq] at ho
      subst ho
      refine ⟨wanted_none rfl, ?_⟩
      have x1 : vs 1 = .slice (some ⟨b0, 0, none⟩) en ec := hd 1 (by kernel_rfl)
      have x2 : vs 2 = .int .i64 kn := hd 2 (by kernel_rfl)
      generalize hK : (fun (a' : Act) (w'' : World) => ∃ v : Value, _ ∧ _ ∧ _) = K
      generalize hu1 : vs 1 = u1 at x1 ⊢
      subst x1
      generalize hu2 : vs 2 = u2 at x2 ⊢
      subst x2
      go_simp
      rw [← hK]
      exact ⟨_, by simp [upd, hu1, hu2], rfl, Below.refl _ _⟩
    | 4, ho, _ =>
      simp only [List.getElem?_cons_succ, List.getElem?_cons_zero, Option.some.injEq] at ho
      subst ho
      refine ⟨wanted_none rfl, ?_⟩
      have x0 : Hid (vs 0 = .agg #[.int .i64 G.a, .int .i64 G.b, .int .i64 G.r, .int .i64 G.c]) := hd 0 (by kernel_rfl)
      have x3 : Hid (vs 3 = .slice (some ⟨b0, 0, none⟩) kn ec) := hd 3 (by kernel_rfl)
      generalize hK : (fun (a' : Act) (w'' : World) => ∃ v : Value, _ ∧ _ ∧ _) = K
      go_simp
      refine (calls_args (by rw [x0.out, x3.out]) (traceEnd_at HTE.out (implTraceEnd_any G ⟨(some ⟨b0, 0, none⟩), kn, ec, es.take kn⟩ _ ((EvsRd.take HE.out HKE.out).old hb) (by have h1 := HEN.out.1; have h2 := HKE.out; dsimp only; omega)))).mono ?_
      rintro e w2 ⟨Lx, rfl, O, D1, B⟩
      rw [← hK]
      exact ⟨_, rfl, ⟨Lx, rfl, OwnR.mono O hb.size, D1⟩, B⟩
    | 5, ho, _ =>
      simp only [List.getElem?_cons_succ, List.getElem?_cons_zero, Option.some.injEq] at ho
      subst ho
      refine ⟨wanted_none rfl, ?_⟩
      obtain ⟨Lx, ev, OO, dd⟩ := hd 4 (by kernel_rfl)
      generalize hK : (fun (a' : Act) (w'' : World) => ∃ v : Value, _ ∧ _ ∧ _) = K
      go_simp
      rw [← hK]
      exact ⟨_, by simp [upd, ev], ⟨Lx, rfl, OO, dd⟩, Below.refl _ _⟩
    | 6, ho, _ =>
      simp only [List.getElem?_cons_succ, List.getElem?_cons_zero, Option.some.injEq] at ho
      subst ho
      refine ⟨wanted_none rfl, ?_⟩
      obtain ⟨Lx, ev, OO, dd⟩ := hd 5 (by kernel_rfl)
      generalize hK : (fun (a' : Act) (w'' : World) => ∃ v : Value, _ ∧ _ ∧ _) = K
      go_simp
      rw [← hK]
      exact ⟨_, by simp [upd, ev], ⟨Lx, rfl, OO, dd⟩, Below.refl _ _⟩
    | 7, ho, _ =>
      simp only [List.getElem?_cons_succ, List.getElem?_cons_zero, Option.some.injEq] at ho
      subst ho
      refine ⟨wanted_none rfl, ?_⟩
      obtain ⟨Lx, ev, OO, dd⟩ := hd 5 (by kernel_rfl)
      generalize hK : (fun (a' : Act) (w'' : World) => ∃ v : Value, _ ∧ _ ∧ _) = K
      go_simp
      rw [← hK]
      exact ⟨_, by simp [upd, ev], rfl, Below.refl _ _⟩
    | 8, ho, _ =>
      simp only [List.getElem?_cons_succ, List.getElem?_cons_zero, Option.some.injEq] at ho
      subst ho
      refine ⟨wanted_none rfl, ?_⟩
      generalize hK : (fun (a' : Act) (w'' : World) => ∃ v : Value, _ ∧ _ ∧ _) = K
      go_simp
      rw [← hK]
      exact ⟨_, rfl, ⟨_, rfl, hb.size, Blk.new _ _ _⟩, below_alloc _ _⟩
    | n + 9, _, hin => exact absurd hin (by omega)
  case hstore4 =>
    intro vs w' o ho hb hf
    simp only [List.getElem?_cons_succ, List.getElem?_cons_zero, Option.some.injEq] at ho
    subst ho
    refine ⟨wanted_none rfl, ?_⟩
    obtain ⟨Tx, et, _, _⟩ := hf 5 (by decide) (by decide)
    obtain ⟨Lx, er, O, D0⟩ := hf 6 (by decide) (by decide)
    obtain ⟨g, ep, hg, N⟩ := hf 8 (by decide) (by decide)
    have HSS := hid (rank_stored N O hg)
    have HET := hid et
    have HHB := hid hb
    have HHG := hid hg
    have HDD := hid D0
    have c0 := N.cell (j := 0) rfl
    have c1 := N.cell (j := 1) rfl
    have f0 := N.frozen 0
    have f1 := N.frozen 1
    clear et O N hb hg hf D0
    generalize hK : (fun (a' : Act) (w'' : World) => _ ∧ _ ∧ _) = K
    go_simp
    clear c0 c1 f0 f1
    rw [← hK]
    obtain ⟨s1, s2, s3, s4⟩ := HSS.out
    exact ⟨by simp [er, ep], ⟨Tx, HET.out⟩, Lx, g, ep, HHG.out, s1, s2, HDD.out, HHB.out.trans s3⟩
  case hlate4 =>
    intro vs w' o ho hg
    simp only [List.getElem?_cons_succ, List.getElem?_cons_zero, Option.some.injEq] at ho
    subst ho
    refine ⟨wanted_none rfl, ?_⟩
    obtain ⟨⟨Tx, et⟩, hg2⟩ := hg
    have HG2 := hid hg2
    clear hg2
    generalize hK : (fun (a' : Act) (w'' : World) => _ ∧ _ ∧ _) = K
    go_simp
    rw [← hK]
    exact ⟨by simp [upd, et], ⟨Tx, by simpa [upd] using et⟩, by simpa [upd] using HG2.out⟩
  case hend4 =>
    intro vs w7 o ho hg hx
    simp only [List.getElem?_cons_succ, List.getElem?_cons_zero, Option.some.injEq] at ho
    subst ho
    refine ⟨wanted_none rfl, ?_⟩
    obtain ⟨_, ⟨ra, rn, rc, rs, rp⟩, g9, ep, hg1, N, O, D0, hbb⟩ := hg
    generalize vs 7 = ub at hx ⊢
    subst hx
    generalize vs 8 = up at ep ⊢
    subst ep
    have HX9 := hid N
    have HO2 := hid O
    have HD2 := hid D0
    have HHB := hid hbb
    clear N O D0 hbb hg1
    go_simp
    have HG := hid (HG.out.old HHB.out)
    have HX := hid (HX.out.old HHB.out)
    have HE := hid (EvsRd.old HE.out HHB.out)
    have HB := hid (below_step HB.out HHB.out (Nat.le_refl _))
    clear HHB
    have HK := hid (show BoxK2 w7 g9 ⟨ra, rn, rc, rs, rp⟩ from ⟨HX9.out.lt, HX9.out.cell (j := 0) rfl, HX9.out.cell (j := 1) rfl⟩)
    have HRR := hid (show RankR w7 ⟨ra, rn, rc, rs, rp⟩ from HO2.out.reads)
    have HRD := hid (show RankE.d ⟨ra, rn, rc, rs, rp⟩ = D' from HD2.out)
    have HRN := hid (show rn ≤ 1048576 by have h1 := (rankOk_iff.1 HRO.out).2.1; have h2 := bankN_bd G; have h3 : rn = rs.length := HRR.out.len; have h4 : rs.length = D'.banks.length := by { rw [← HRD.out]; rfl }
                                          omega)
    clear HX9 HO2 HD2
    go_upto_region 8 with (fail)
    have HF8 := hid (formed HTR.out kn (by have h1 := HLN.out; have h2 := HKE.out; omega) HL'.out)
    refine mix3_of 9 (fun i => i == 0 || i == 1) (fun i => i == 10 || i == 11 || i == 12 || i == 13 || i == 14 || i == 15) (fun i => match i with | 0 => .agg #[.int .i64 G.a, .int .i64 G.b, .int .i64 G.r, .int .i64 G.c] | 1 => .agg #[.int .i64 T.t0, .int .i64 T.t1, .int .i64 T.t2, .int .i64 T.t3, .int .i64 T.t4, .int .i64 T.t5, .int .i64 T.t6, .int .i64 T.t7, .int .i64 T.t8, .int .i64 T.t9, .int .i64 T.t10, .int .i64 T.t11, .int .i64 T.t12, .int .i64 T.t13, .int .i64 T.t14, .int .i64 T.t15, .int .i64 T.t16] | 10 => .tuple #[.int .i64 1, .int .i64 kn] | 11 => .tuple #[.int .i64 1, .int .i64 kn] | 12 => .int .i64 1 | 13 => .int .i64 kn | 14 => .int .i64 1 | 15 => .int .i64 kn | _ => undef) (fr := ?fr5)
      (fun i v w' => match i with
          | 2 => ∃ h, v = .slice (some ⟨h, 0, none⟩) 0 0 ∧ OwnF encE 5 58 w' w7.heap.size w'.heap.size (some ⟨h, 0, none⟩) 0 0 []
          | 3 => v = .slice (some ⟨b0, 0, none⟩) en ec
          | 4 => v = .int .i64 (kn : Nat)
          | 5 => v = .slice (some ⟨b0, 0, none⟩) kn ec
          | 6 => ∃ a' c', v = .slice a' kn c' ∧ OwnF encE 5 58 w' w7.heap.size w'.heap.size a' kn c' (es.take kn)
          | 7 => v = .agg #[.int .i64 (-1), .int .i64 0, .int .i64 0, .int .i64 0, .int .i64 0]
          | 8 => ∃ h, v = .slice (some ⟨h, 0, none⟩) 1 1 ∧ Blk w' h 58 [.int .i64 (-1), .int .i64 0, .int .i64 0, .int .i64 0, .int .i64 0]
          | _ => True
        ) (fun vs w' => ∃ a' c', vs 9 = .slice a' (kn + 1) c' ∧ OwnF encE 5 58 w' w7.heap.size w'.heap.size a' (kn + 1) c' ((es.take kn) ++ [(⟨-1, ⟨0, 0, 0, 0⟩⟩ : Ev)]) ∧ Below w7.heap.size w7 w') (by kernel_rfl) (by kernel_rfl) (by decide) (by decide) (by decide) (by kernel_rfl) (by kernel_rfl) ?hfr5 ⟨fun _ => undef, ?h05⟩ ?hF5 ?hG5 ?hstep5 ?hearly5 ?hlate5 ?hbig5 ?hz5 ?hend5
    case hfr5 => intro vs; simp only [frOf]; go_simp; exact rfl
    case h05 => rfl
    case hF5 =>
      intro i v w' w'' h hb
      match i, h with
      | 0, h => exact h
      | 1, h => exact h
      | 2, h => obtain ⟨h, e, o⟩ := h; exact ⟨h, e, (o.old hb).up hb.size (Nat.le_refl _)⟩
      | 3, h => exact h
      | 4, h => exact h
      | 5, h => exact h
      | 6, h => obtain ⟨a', c', e, o⟩ := h; exact ⟨a', c', e, (o.old hb).up hb.size (Nat.le_refl _)⟩
      | 7, h => exact h
      | 8, h => obtain ⟨h, e, b⟩ := h; exact ⟨h, e, b.old hb⟩
      | 9, h => exact h
      | 10, h => exact h
      | 11, h => exact h
      | 12, h => exact h
      | 13, h => exact h
      | 14, h => exact h
      | 15, h => exact h
      | n + 16, h => exact h
    case hG5 =>
      intro vs w' i hx h
      match i, hx with
      | 0, hx => exact h
      | 1, hx => exact h
      | 2, hx => exact absurd hx (by decide)
      | 3, hx => exact absurd hx (by decide)
      | 4, hx => exact absurd hx (by decide)
      | 5, hx => exact absurd hx (by decide)
      | 6, hx => exact absurd hx (by decide)
      | 7, hx => exact absurd hx (by decide)
      | 8, hx => exact absurd hx (by decide)
      | 9, hx => exact absurd hx (by decide)
      | 10, hx => exact absurd hx (by decide)
      | 11, hx => exact absurd hx (by decide)
      | 12, hx => exact absurd hx (by decide)
      | 13, hx => exact absurd hx (by decide)
      | 14, hx => exact absurd hx (by decide)
      | 15, hx => exact absurd hx (by decide)
      | n + 16, hx => exact absurd hx (by simp)
    case hstep5 =>
      intro vs w' i o hin his hx hzz ho hb hd hxd
      match i, ho, hin, his, hx, hzz with
      | 0, _, _, _, hx, _ => exact absurd hx (by decide)
      | 1, _, _, _, hx, _ => exact absurd hx (by decide)
      | 2, ho, _, _, _, _ =>
        simp only [List.getElem?_cons_succ, List.getElem?_cons_zero, Option.some.injEq] at ho
        subst ho
        refine ⟨wanted_none rfl, ?_⟩
        generalize hK : (fun (a' : Act) (w'' : World) => ∃ v : Value, _ ∧ _ ∧ _) = K
        go_simp
        rw [← hK]
        exact ⟨_, rfl, ⟨_, rfl, OwnF.mono (OwnF.of_lit w' rfl) hb.size⟩, below_alloc _ _⟩
      | 3, ho, _, _, _, _ =>
        simp only [List.getElem?_cons_succ, List.getElem?_cons_zero, Option.some.injEq] at ho
        subst ho
        refine ⟨wanted_none rfl, ?_⟩
        generalize hK : (fun (a' : Act) (w'' : World) => ∃ v : Value, _ ∧ _ ∧ _) = K
        go_simp
        rw [← hK]
        exact ⟨_, rfl, rfl, Below.refl _ _⟩
      | 4, ho, _, _, _, _ =>
        simp only [List.getElem?_cons_succ, List.getElem?_cons_zero, Option.some.injEq] at ho
        subst ho
        refine ⟨wanted_none rfl, ?_⟩
        generalize hK : (fun (a' : Act) (w'' : World) => ∃ v : Value, _ ∧ _ ∧ _) = K
        go_simp
        rw [← hK]
        exact ⟨_, rfl, rfl, Below.refl _ _⟩
      | 5, ho, _, _, _, _ =>
        simp only [List.getElem?_cons_succ, List.getElem?_cons_zero, Option.some.injEq] at ho
        subst ho
        refine ⟨wanted_none rfl, ?_⟩
        have x3 : vs 3 = .slice (some ⟨b0, 0, none⟩) en ec := hd 3 rfl rfl (by kernel_rfl) (by decide)
        have x4 : vs 4 = .int .i64 (kn : Nat) := hd 4 rfl rfl (by kernel_rfl) (by decide)
        generalize hK : (fun (a' : Act) (w'' : World) => ∃ v : Value, _ ∧ _ ∧ _) = K
        generalize hu3 : vs 3 = u3 at x3 ⊢
        subst x3
        generalize hu4 : vs 4 = u4 at x4 ⊢
        subst x4
        go_simp
        rw [← hK]
        exact ⟨_, by simp [upd, hu3, hu4], rfl, Below.refl _ _⟩
      | 6, ho, _, _, _, _ =>
        simp only [List.getElem?_cons_succ, List.getElem?_cons_zero, Option.some.injEq] at ho
        subst ho
        refine ⟨wanted_none rfl, ?_⟩
        obtain ⟨h, x2, O⟩ := hd 2 rfl rfl (by kernel_rfl) (by decide)
        have x5 : vs 5 = .slice (some ⟨b0, 0, none⟩) kn ec := hd 5 rfl rfl (by kernel_rfl) (by decide)
        generalize hK : (fun (a' : Act) (w'' : World) => ∃ v : Value, _ ∧ _ ∧ _) = K
        refine wp_append_newrow recE _ _ rfl w' w7.heap.size _ h O (by go_simp) (some ⟨b0, 0, none⟩) kn ec (es.take kn) ((EvsRd.take HE.out HKE.out).recs.old hb) HKL.out (by go_simp) hb.size (by have h1 := HEN.out.1; have h2 := HKE.out; omega) ?_
        intro a' c' w3 O2 B
        rw [← hK]
        exact ⟨_, rfl, ⟨a', c', rfl, O2⟩, B⟩
      | 7, ho, _, _, _, _ =>
        simp only [List.getElem?_cons_succ, List.getElem?_cons_zero, Option.some.injEq] at ho
        subst ho
        refine ⟨wanted_none rfl, ?_⟩
        generalize hK : (fun (a' : Act) (w'' : World) => ∃ v : Value, _ ∧ _ ∧ _) = K
        go_simp
        rw [← hK]
        exact ⟨_, rfl, rfl, Below.refl _ _⟩
      | 8, ho, _, _, _, _ =>
        simp only [List.getElem?_cons_succ, List.getElem?_cons_zero, Option.some.injEq] at ho
        subst ho
        refine ⟨wanted_none rfl, ?_⟩
        have x7 : vs 7 = .agg #[.int .i64 (-1), .int .i64 0, .int .i64 0, .int .i64 0, .int .i64 0] := hd 7 rfl rfl (by kernel_rfl) (by decide)
        generalize hK : (fun (a' : Act) (w'' : World) => ∃ v : Value, _ ∧ _ ∧ _) = K
        generalize hu7 : vs 7 = u7 at x7 ⊢
        subst x7
        go_simp
        rw [← hK]
        exact ⟨_, by simp [upd, hu7], ⟨_, rfl, Blk.new _ _ _⟩, below_alloc _ _⟩
      | 9, _, _, his, _, _ => exact absurd rfl his
      | 10, _, _, _, _, hzz => exact absurd hzz (by decide)
      | 11, _, _, _, _, hzz => exact absurd hzz (by decide)
      | 12, _, _, _, _, hzz => exact absurd hzz (by decide)
      | 13, _, _, _, _, hzz => exact absurd hzz (by decide)
      | 14, _, _, _, _, hzz => exact absurd hzz (by decide)
      | 15, _, _, _, _, hzz => exact absurd hzz (by decide)
      | n + 16, _, hin, _, _, _ => exact absurd hin (by simp)
    case hearly5 =>
      intro vs w' i o hin hx ho hb hxd
      match i, ho, hin, hx with
      | 0, ho, _, _ =>
        simp only [List.getElem?_cons_zero, Option.some.injEq] at ho
        subst ho
        refine ⟨wanted_none rfl, ?_⟩
        obtain ⟨_, g0, g1, g2, g3⟩ := HG.out.old hb
        generalize hK : (fun (a' : Act) (w'' : World) => _ ∧ _) = K
        go_simp
        rw [← hK]
        exact ⟨rfl, rfl⟩
      | 1, ho, _, _ =>
        simp only [List.getElem?_cons_succ, List.getElem?_cons_zero, Option.some.injEq] at ho
        subst ho
        refine ⟨wanted_none rfl, ?_⟩
        have hxt := HX.out.old hb
        generalize hK : (fun (a' : Act) (w'' : World) => _ ∧ _) = K
        refine wp_load_tim hxt _ rfl (by go_simp) ?_
        rw [← hK]
        exact ⟨rfl, rfl⟩
      | 2, _, _, hx => exact absurd hx (by decide)
      | 3, _, _, hx => exact absurd hx (by decide)
      | 4, _, _, hx => exact absurd hx (by decide)
      | 5, _, _, hx => exact absurd hx (by decide)
      | 6, _, _, hx => exact absurd hx (by decide)
      | 7, _, _, hx => exact absurd hx (by decide)
      | 8, _, _, hx => exact absurd hx (by decide)
      | 9, _, _, hx => exact absurd hx (by decide)
      | 10, _, _, hx => exact absurd hx (by decide)
      | 11, _, _, hx => exact absurd hx (by decide)
      | 12, _, _, hx => exact absurd hx (by decide)
      | 13, _, _, hx => exact absurd hx (by decide)
      | 14, _, _, hx => exact absurd hx (by decide)
      | 15, _, _, hx => exact absurd hx (by decide)
      | n + 16, _, hin, _ => exact absurd hin (by simp)
    case hlate5 =>
      intro vs w' i o hin hx ho hg hxd
      match i, ho, hin, hx with
      | 0, ho, _, _ =>
        simp only [List.getElem?_cons_zero, Option.some.injEq] at ho
        subst ho
        refine ⟨wanted_none rfl, ?_⟩
        have hb : Below w7.heap.size w7 w' := by obtain ⟨_, _, _, _, hb⟩ := hg; exact hb
        clear hg
        obtain ⟨_, g0, g1, g2, g3⟩ := HG.out.old hb
        generalize hK : (fun (a' : Act) (w'' : World) => _ ∧ _) = K
        go_simp
        rw [← hK]
        exact ⟨rfl, rfl⟩
      | 1, ho, _, _ =>
        simp only [List.getElem?_cons_succ, List.getElem?_cons_zero, Option.some.injEq] at ho
        subst ho
        refine ⟨wanted_none rfl, ?_⟩
        have hb : Below w7.heap.size w7 w' := by obtain ⟨_, _, _, _, hb⟩ := hg; exact hb
        clear hg
        have hxt := HX.out.old hb
        generalize hK : (fun (a' : Act) (w'' : World) => _ ∧ _) = K
        refine wp_load_tim hxt _ rfl (by go_simp) ?_
        rw [← hK]
        exact ⟨rfl, rfl⟩
      | 2, _, _, hx => exact absurd hx (by decide)
      | 3, _, _, hx => exact absurd hx (by decide)
      | 4, _, _, hx => exact absurd hx (by decide)
      | 5, _, _, hx => exact absurd hx (by decide)
      | 6, _, _, hx => exact absurd hx (by decide)
      | 7, _, _, hx => exact absurd hx (by decide)
      | 8, _, _, hx => exact absurd hx (by decide)
      | 9, _, _, hx => exact absurd hx (by decide)
      | 10, _, _, hx => exact absurd hx (by decide)
      | 11, _, _, hx => exact absurd hx (by decide)
      | 12, _, _, hx => exact absurd hx (by decide)
      | 13, _, _, hx => exact absurd hx (by decide)
      | 14, _, _, hx => exact absurd hx (by decide)
      | 15, _, _, hx => exact absurd hx (by decide)
      | n + 16, _, hin, _ => exact absurd hin (by simp)
    case hbig5 =>
      intro vs w' o ho hb hf
      simp only [List.getElem?_cons_succ, List.getElem?_cons_zero, Option.some.injEq] at ho
      subst ho
      refine ⟨wanted_none rfl, ?_⟩
      obtain ⟨a', c', x6, O⟩ := hf 6 (by decide) rfl rfl (by decide)
      obtain ⟨h, x8, hbk⟩ := hf 8 (by decide) rfl rfl (by decide)
      have HB0 := hid hb
      have HOO := hid O
      have HCL := hid (fun (j : Nat) (u : Value) (hu : (encE (⟨-1, ⟨0, 0, 0, 0⟩⟩ : Ev))[j]? = some u) => (hbk.cell (j := j) (v := u) hu))
      clear hb hf hbk
      refine wp_append_rec_at recE _ _ rfl w' w7.heap.size w'.heap.size h a' kn c' (es.take kn) O (by go_simp) (⟨-1, ⟨0, 0, 0, 0⟩⟩ : Ev) (fun j u hu => by rw [addr_add0]; exact HCL.out j u hu) (by go_simp) HB0.out.size (by have h1 := HEN.out.1; have h2 := HKE.out; omega) ?_
      intro a2 c2 w3 O2 K2
      exact ⟨_, rfl, a2, c2, by simp [upd], O2, HB0.out.trans (K2.below HB0.out.size (fun q hq hS => by have h9 := (HOO.out.row.lt q hS).1; omega))⟩
    case hz5 =>
      intro vs w' i o hin hzz ho hg hd
      match i, ho, hin, hzz with
      | 0, _, _, hzz => exact absurd hzz (by decide)
      | 1, _, _, hzz => exact absurd hzz (by decide)
      | 2, _, _, hzz => exact absurd hzz (by decide)
      | 3, _, _, hzz => exact absurd hzz (by decide)
      | 4, _, _, hzz => exact absurd hzz (by decide)
      | 5, _, _, hzz => exact absurd hzz (by decide)
      | 6, _, _, hzz => exact absurd hzz (by decide)
      | 7, _, _, hzz => exact absurd hzz (by decide)
      | 8, _, _, hzz => exact absurd hzz (by decide)
      | 9, _, _, hzz => exact absurd hzz (by decide)
      | 10, ho, _, _ =>
        simp only [List.getElem?_cons_succ, List.getElem?_cons_zero, Option.some.injEq] at ho
        subst ho
        refine ⟨wanted_none rfl, ?_⟩
        obtain ⟨a', c', xb, O, BB⟩ := hg
        have HXB := hid xb
        have HO := hid O
        have HBB := hid BB
        clear xb O BB
        have HE0 : Hid (vs 0 = .agg #[.int .i64 G.a, .int .i64 G.b, .int .i64 G.r, .int .i64 G.c]) := hd 0 (by decide) (by kernel_rfl)
        have HE1 : Hid (vs 1 = .agg #[.int .i64 T.t0, .int .i64 T.t1, .int .i64 T.t2, .int .i64 T.t3, .int .i64 T.t4, .int .i64 T.t5, .int .i64 T.t6, .int .i64 T.t7, .int .i64 T.t8, .int .i64 T.t9, .int .i64 T.t10, .int .i64 T.t11, .int .i64 T.t12, .int .i64 T.t13, .int .i64 T.t14, .int .i64 T.t15, .int .i64 T.t16]) := hd 1 (by decide) (by kernel_rfl)
        generalize hK : (fun (a' : Act) (w'' : World) => _ ∧ _) = K
        go_simp
        refine (calls_args (by rw [HE0.out, HE1.out, HXB.out]) (calls_pair (a := 1) (b := kn) HF8.out (implTraceFault_any G T ⟨a', kn + 1, c', (es.take kn) ++ [(⟨-1, ⟨0, 0, 0, 0⟩⟩ : Ev)]⟩ _ (OwnEv.reads (E := ⟨a', kn + 1, c', (es.take kn) ++ [(⟨-1, ⟨0, 0, 0, 0⟩⟩ : Ev)]⟩) HO.out) (by have h1 := HEN.out; have h2 := HL.out; have h3 := HKE.out; dsimp only; omega) HO.out.le_cap))).mono ?_
        rintro e w2 ⟨rfl, B⟩
        rw [← hK]
        exact ⟨rfl, ⟨a', c', by simpa [upd] using HXB.out, OwnF.up (OwnF.old HO.out B) B.size (Nat.le_refl _), below_step HBB.out B (Nat.le_refl _)⟩⟩
      | 11, ho, _, _ =>
        simp only [List.getElem?_cons_succ, List.getElem?_cons_zero, Option.some.injEq] at ho
        subst ho
        refine ⟨wanted_none rfl, ?_⟩
        have HGG := hid hg
        clear hg
        have x10 : vs 10 = .tuple #[.int .i64 1, .int .i64 kn] := hd 10 (by decide) (by kernel_rfl)
        generalize hK : (fun (a' : Act) (w'' : World) => _ ∧ _) = K
        generalize hu10 : vs 10 = u10 at x10 ⊢
        subst x10
        go_simp
        rw [← hK]
        exact ⟨by simp [upd, hu10], by obtain ⟨a', c', xb, O, BB⟩ := HGG.out; exact ⟨a', c', by simpa [upd] using xb, O, BB⟩⟩
      | 12, ho, _, _ =>
        simp only [List.getElem?_cons_succ, List.getElem?_cons_zero, Option.some.injEq] at ho
        subst ho
        refine ⟨wanted_none rfl, ?_⟩
        have HGG := hid hg
        clear hg
        have x11 : vs 11 = .tuple #[.int .i64 1, .int .i64 kn] := hd 11 (by decide) (by kernel_rfl)
        generalize hK : (fun (a' : Act) (w'' : World) => _ ∧ _) = K
        generalize hu11 : vs 11 = u11 at x11 ⊢
        subst x11
        go_simp
        rw [← hK]
        exact ⟨by simp [upd, hu11], by obtain ⟨a', c', xb, O, BB⟩ := HGG.out; exact ⟨a', c', by simpa [upd] using xb, O, BB⟩⟩
      | 13, ho, _, _ =>
        simp only [List.getElem?_cons_succ, List.getElem?_cons_zero, Option.some.injEq] at ho
        subst ho
        refine ⟨wanted_none rfl, ?_⟩
        have HGG := hid hg
        clear hg
        have x11 : vs 11 = .tuple #[.int .i64 1, .int .i64 kn] := hd 11 (by decide) (by kernel_rfl)
        generalize hK : (fun (a' : Act) (w'' : World) => _ ∧ _) = K
        generalize hu11 : vs 11 = u11 at x11 ⊢
        subst x11
        go_simp
        rw [← hK]
        exact ⟨by simp [upd, hu11], by obtain ⟨a', c', xb, O, BB⟩ := HGG.out; exact ⟨a', c', by simpa [upd] using xb, O, BB⟩⟩
      | 14, ho, _, _ =>
        simp only [List.getElem?_cons_succ, List.getElem?_cons_zero, Option.some.injEq] at ho
        subst ho
        refine ⟨wanted_none rfl, ?_⟩
        have HGG := hid hg
        clear hg
        have x12 : vs 12 = .int .i64 1 := hd 12 (by decide) (by kernel_rfl)
        generalize hK : (fun (a' : Act) (w'' : World) => _ ∧ _) = K
        generalize hu12 : vs 12 = u12 at x12 ⊢
        subst x12
        go_simp
        rw [← hK]
        exact ⟨by simp [upd, hu12], by obtain ⟨a', c', xb, O, BB⟩ := HGG.out; exact ⟨a', c', by simpa [upd] using xb, O, BB⟩⟩
      | 15, ho, _, _ =>
        simp only [List.getElem?_cons_succ, List.getElem?_cons_zero, Option.some.injEq] at ho
        subst ho
        refine ⟨wanted_none rfl, ?_⟩
        have HGG := hid hg
        clear hg
        have x13 : vs 13 = .int .i64 kn := hd 13 (by decide) (by kernel_rfl)
        generalize hK : (fun (a' : Act) (w'' : World) => _ ∧ _) = K
        generalize hu13 : vs 13 = u13 at x13 ⊢
        subst x13
        go_simp
        rw [← hK]
        exact ⟨by simp [upd, hu13], by obtain ⟨a', c', xb, O, BB⟩ := HGG.out; exact ⟨a', c', by simpa [upd] using xb, O, BB⟩⟩
      | n + 16, _, hin, _ => exact absurd hin (by simp)
    case hend5 =>
      intro vs w8 hg hv
      have BT : Below w7.heap.size w7 w8 := by obtain ⟨_, _, _, _, hb⟩ := hg; exact hb
      have e4 : vs 14 = .int .i64 1 := hv 14 (by decide) (by decide)
      have e5 : vs 15 = .int .i64 kn := hv 15 (by decide) (by decide)
      generalize vs 14 = u4 at e4 ⊢
      subst e4
      generalize vs 15 = u5 at e5 ⊢
      subst e5
      clear hg hv
      have HG := hid (HG.out.old BT)
      have HX := hid (HX.out.old BT)
      have HE := hid (EvsRd.old HE.out BT)
      have HB := hid (below_step HB.out BT (Nat.le_refl _))
      have HK := hid (HK.out.old BT)
      have HRR := hid (HRR.out.old BT)
      clear BT
      obtain ⟨_, g0, g1, g2, g3⟩ := HG.out
      obtain ⟨_, k0, k1⟩ := HK.out
      go_wp2_with fail
      clear g0 g1 g2 g3 k0 k1
      refine (calls_boo2 (show rankOk G (RankE.d ⟨ra, rn, rc, rs, rp⟩) = true by rw [HRD.out]; exact HRO.out) (specRankOk_any G ⟨ra, rn, rc, rs, rp⟩ _ HRR.out HRN.out)).mono ?_
      rintro e w9 ⟨rfl, B⟩
      have HG := hid (HG.out.old B)
      have HX := hid (HX.out.old B)
      have HE := hid (EvsRd.old HE.out B)
      have HB := hid (below_step HB.out B (Nat.le_refl _))
      have HK := hid (HK.out.old B)
      have HRR := hid (HRR.out.old B)
      clear B
      go_wp2_with fail
      go_ret
      exact ⟨rfl, HB.out⟩

set_option maxRecDepth 100000 in
theorem lifted (os : Os) (started : os.Started) (H : Type) (enc : TypeId × Value → H) :
    ReturnsInHanded {} Try.checked os 11 .any (Rows.fnTracesSpec.pre6 enc Try.prog Try.f11 Rows.fnTracesRow.domain false) (Rows.fnTracesSpec.post enc Try.prog Try.f11 false true false false) := by
  refine returnsInHanded_of_change (C := Try.checked) own started (by kernel_rfl) Try.func11
    (ChangeSpec.witness6 (enc := enc) (C := Try.checked) false ⟨#[], #[.slice none 0 0], []⟩ 8 (by kernel_rfl) (by kernel_rfl) (by kernel_rfl) (by kernel_rfl)) ?_
  intro W base args ds gs before hval0 hW hcnd _
  have hval : ∀ (j : Nat) t v, Try.f11.params[j]? = some t → args[j]? = some v → Value.okWide Try.prog W .any base t v := hval0
  have hW' := hW
  obtain ⟨p, q, hA0, hV, rfl, hfz, hnd⟩ := hW
  have hA : DataW.TrodAll enc Try.prog W 0 (fun _ => true) true Try.f11.params.toList args.toList ds p := hA0
  rw [Try.params11] at hA hval
  obtain ⟨v0, vs0, d0, ds0, p0, q0, hargs, rfl, rfl, h0, r0⟩ := trodAll_cons hA
  obtain ⟨rfl, rfl, rfl⟩ := trodAll_nil r0
  obtain rfl : args = #[v0] := by cases args; simp_all
  obtain ⟨rfl, rfl⟩ := trodVars_none hV
  obtain ⟨a0, len0, cap0, rfl⟩ := okWide_slice Try.underlying22 (hval 0 22 v0 rfl rfl)
  have k0 := h0
  have lt0 : ∀ x ∈ p0, x.block < W.heap.size := by obtain ⟨m, hm⟩ := k0; exact DataW.trod_lt m _ _ _ hm
  obtain ⟨w0, m0⟩ : BytesR W a0 len0 ∧ len0 ≤ maxLen := by
    obtain ⟨fuel, hf⟩ := h0
    rcases open_ints Try.underlying22 Try.underlying5 (by kernel_rfl) hf with ⟨hcs, _⟩ | ⟨x, l, c, zs, hcs, _, hl, hm, hz, _, hcell, hwz⟩
    · simp [Value.cells] at hcs
      obtain ⟨rfl, rfl, rfl⟩ := hcs
      exact ⟨fun i hi => absurd hi (Nat.not_lt_zero _), Nat.zero_le _⟩
    · simp [Value.cells] at hcs
      obtain ⟨rfl, rfl, rfl⟩ := hcs
      exact ⟨BytesR.of_cells hl (by simpa using hz) hcell hwz, Nat.le_trans hl hm⟩
  clear hA0 hval0
  refine (walk W a0 len0 cap0 w0 m0).mono fun e W' ⟨he, bel⟩ => ?_
  subst he
  exact ⟨_, rfl, _, _, _, [], _, [], hW', trodAll_mk1 (shut_bool Try.underlying4 _), (trodAll_cons_mk (Below.trod laidOut (by kernel_rfl) (of_decide_eq_true (by kernel_rfl)) k0 bel lt0) trodAll_mk0), rfl, bel.frame _, fun h => by cases h⟩

theorem own_facts : joinedFacts Try.prog 11 Try.f11 Rows.fnTracesSpec Rows.fnTracesRow = true :=
  facts_of 11 Try.f11 Rows.fnTracesSpec Rows.fnTracesRow (by as_aux_lemma => kernel_rfl) (by as_aux_lemma => kernel_rfl) (by as_aux_lemma => kernel_rfl) rfl rfl
    (by as_aux_lemma => kernel_rfl) (by as_aux_lemma => kernel_rfl) (by as_aux_lemma => kernel_rfl) (by as_aux_lemma => kernel_rfl)
    (by as_aux_lemma => kernel_rfl) (by as_aux_lemma => kernel_rfl) (by as_aux_lemma => kernel_rfl) (by as_aux_lemma => kernel_rfl) (by as_aux_lemma => kernel_rfl)
    (by as_aux_lemma => kernel_rfl) (by as_aux_lemma => kernel_rfl) (by as_aux_lemma => kernel_rfl) (by as_aux_lemma => kernel_rfl)
    rfl rfl rfl rfl (by as_aux_lemma => kernel_rfl) (by as_aux_lemma => kernel_rfl) (by as_aux_lemma => kernel_rfl) (by as_aux_lemma => kernel_rfl)
theorem over : Rows.fnTracesRow.holds Try.pinned (OpenSpec.ofChange Rows.fnTracesSpec) :=
  OpenClaim.holds_of_wide 11 Try.f11 rfl rfl rfl rfl rfl rfl rfl ⟨rfl, rfl, rfl, rfl, rfl⟩ rfl rfl rfl rfl rfl (by as_aux_lemma => kernel_rfl) Try.func11 own_facts
    (of_decide_eq_true (by as_aux_lemma => kernel_rfl)) (by unfold Func.isWrapper; first | (rw [if_pos (by decide +kernel)]; kernel_rfl) | (rw [if_neg (by decide +kernel)]; exact ⟨rfl, rfl⟩))
    (fun os started H enc _ => lifted os started H enc)

theorem proved : Rows.FnTracesSaid := over
#print axioms proved
end Go.Proofs.Ytggjheapjklhgaa.fnTraces
