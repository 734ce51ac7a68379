/- A summary changed by an event: the place of a command, the reference's change. -/
import Derived.Test.YtggjheapjklhgaaRyC
import Derived.Test.YtggjheapjklhgaaApp
import Derived.Test.YtggjheapjklhgaaInv
import Derived.Test.YtggjheapjklhgaaRdyP
import Derived.Test.YtggjheapjklhgaaGapG
import Derived.StillTail
namespace Go.Proofs.Ytggjheapjklhgaa
open Go.RowKit
theorem wp_append_rec_at {α : Type} {f : α → List Value} {k : Nat} {t T : TypeId} {z : Value} {bytes : Nat} (R : RecT f k t T z bytes) {o : Oper} {ac : Act} {K : Act → World → Prop} {Q : Exit → Act → World → Prop} (s x : Operand)
    (ho : o.op = .call { callee := .builtin .append, args := #[s, x], argTypes := #[t, t] })
    (W : World) (B U h : Nat) (a : Option Addr) (n c : Nat) (xs : List α) (hown : OwnF f k T W B U a n c xs) (hs : ac.eval s = .slice a n c) (y : α) (hy : ∀ j u, (f y)[j]? = some u → W.cell? ((⟨h, 0, none⟩ : Addr).add j) = some u) (hx : ac.eval x = .slice (some ⟨h, 0, none⟩) 1 1) (hB : B ≤ W.heap.size) (hn : n ≤ 1099511627776)
    (hk : ∀ a' c' w', OwnF f k T w' B w'.heap.size a' (n + 1) c' (xs ++ [y]) → Keeps (fun b => (Value.slice a n c).ownBlock = some b) W w' → K (ac.put o.dst (.slice a' (n + 1) c')) w') : o.wp Try.prog ac W K Q := by
  obtain ⟨a', c', w', hr, h2, h3⟩ := run_append_rec_at R o.type W B U h a n c xs hown y hy hB hn
  unfold Oper.wp execOp
  simp only [ho, resolve, invoke, builtin, Sem.run_bind, Sem.run_pure, Result.andThen_ok, List.map_toArray, List.map_cons, List.map_nil, hs, hx, hr]
  exact hk _ _ _ h2 h3
theorem one_cell {w : World} {h : Nat} {y : Int} (hc : w.cell? ⟨h, 0, none⟩ = some (.int .i64 y)) : ∀ j u, (encN y)[j]? = some u → w.cell? ((⟨h, 0, none⟩ : Addr).add j) = some u := by
  intro j u hu
  match j, hu with
  | 0, hu =>
    simp only [encN, List.getElem?_cons_zero, Option.some.injEq] at hu
    subst hu
    exact hc
  | j + 1, hu => simp [encN] at hu
/-- The place of a command's last time. -/
def plB (G : Geo) (C : Cmd) : Int := if usesB C.k = true then C.b else bankN G
def lastPl (G : Geo) (C : Cmd) : Int := 9 * plB G C + C.k - 1
theorem plB_bd {G : Geo} {C : Cmd} (h : bkOk G C) : 0 ≤ plB G C ∧ plB G C ≤ bankN G := by
  have hb := bankN_bd G
  unfold plB
  split
  · rename_i hu
    have := h.2 hu
    omega
  · omega
theorem lastPl_bd {G : Geo} {C : Cmd} (h : bkOk G C) : 0 ≤ lastPl G C ∧ lastPl G C < readyLen G := by
  have := plB_bd h
  have := (readyLen_bd G).2
  have := h.1
  unfold lastPl
  omega
def last4 (xs : List Int) : List Int := xs.drop (xs.length - 4)
def doY (G : Geo) (D : RdyD) (V : Ev) : RdyD := ⟨D.last.set (lastPl G V.c).toNat V.t, if (V.c.k == 1) = true then last4 (D.acts ++ [V.t]) else D.acts⟩
theorem lastPlace_any (G : Geo) (C : Cmd) (w : World) (h : bkOk G C) :
    Calls Try.prog 93 #[.agg #[.int .i64 G.a, .int .i64 G.b, .int .i64 G.r, .int .i64 G.c], .agg #[.int .i64 C.k, .int .i64 C.b, .int .i64 C.r, .int .i64 C.c]] w fun e w' => e = .returned (.int .i64 (lastPl G C)) ∧ Below w.heap.size w w' := by
  have hp := plB_bd h
  have hk := h.1
  have hbd := bankN_bd G
  have HG0 := hid ((BoxG.new_ w 25 G rfl).old (below_alloc _ (.cells #[.int .i64 C.k, .int .i64 C.b, .int .i64 C.r, .int .i64 C.c] 32)))
  have HC0 := hid (BoxC.new_ (w.alloc (.cells #[.int .i64 G.a, .int .i64 G.b, .int .i64 G.r, .int .i64 G.c] 25)) 32 C (show _ = w.heap.size + 1 by simp))
  have HBB := hid (below_alloc2 w (.cells #[.int .i64 G.a, .int .i64 G.b, .int .i64 G.r, .int .i64 G.c] 25) (.cells #[.int .i64 C.k, .int .i64 C.b, .int .i64 C.r, .int .i64 C.c] 32))
  go_enter Try.func93, Try.ntmps93
  go_wp2_with fail
  refine (implBankCount_any G _).mono ?_
  rintro e w1 ⟨rfl, B⟩
  have HB := hid (below_step HBB.out B (Nat.le_refl _))
  have HC := hid (HC0.out.old B)
  clear B HBB HG0 HC0
  obtain ⟨_, k0, k1, k2, k3⟩ := HC.out
  cases hu : usesB C.k with
  | true =>
    have hv : plB G C = C.b := by unfold plB; rw [if_pos hu]
    have HV := hid (show lastPl G C = 9 * C.b + C.k - 1 by unfold lastPl; rw [hv])
    rw [hv] at hp
    have s1 : IntKind.i64.wrap (9 * C.b) = 9 * C.b := IntWalk.i64_in _ (by omega)
    have s0 : wrap64 (9 * C.b) = 9 * C.b := IntWalk.wrap64_in _ (by omega)
    have s2 : IntKind.i64.wrap (9 * C.b + C.k) = 9 * C.b + C.k := IntWalk.i64_in _ (by omega)
    have s3 : IntKind.i64.wrap (9 * C.b + C.k - 1) = 9 * C.b + C.k - 1 := IntWalk.i64_in _ (by omega)
    go_wp2_with (go_at_call 127; with_reducible refine (usesBank_of hu).mono ?_; rintro e w' ⟨rfl, rfl⟩)
    go_ret
    exact ⟨by rw [HV.out]; rfl, HB.out⟩
  | false =>
    have hv : plB G C = bankN G := by unfold plB; rw [if_neg (by simp [hu])]
    have HV := hid (show lastPl G C = 9 * bankN G + C.k - 1 by unfold lastPl; rw [hv])
    have s1 : IntKind.i64.wrap (9 * bankN G) = 9 * bankN G := IntWalk.i64_in _ (by omega)
    have s0 : wrap64 (9 * bankN G) = 9 * bankN G := IntWalk.wrap64_in _ (by omega)
    have s2 : IntKind.i64.wrap (9 * bankN G + C.k) = 9 * bankN G + C.k := IntWalk.i64_in _ (by omega)
    have s3 : IntKind.i64.wrap (9 * bankN G + C.k - 1) = 9 * bankN G + C.k - 1 := IntWalk.i64_in _ (by omega)
    go_wp2_with (go_at_call 127; with_reducible refine (usesBank_of hu).mono ?_; rintro e w' ⟨rfl, rfl⟩)
    go_ret
    exact ⟨by rw [HV.out]; rfl, HB.out⟩
def RyB (Y : RdyE) : List Value := [.slice Y.s0.a Y.s0.n Y.s0.c, .slice Y.s1.a Y.s1.n Y.s1.c]
set_option maxHeartbeats 4000000 in
set_option maxRecDepth 100000 in
theorem l10Do_any (g B U : Nat) (G : Geo) (Y : RdyE) (V : Ev) (w : World) (hv : Blk w g 37 (RyB Y)) (hO : OwnY w B U Y) (hg : g < B ∨ U ≤ g) (hk : bkOk G V.c) (hl : Y.s0.n = readyLen G) (ha : Y.s1.n ≤ 4) :
    Calls Try.prog 90 #[.agg #[.int .i64 G.a, .int .i64 G.b, .int .i64 G.r, .int .i64 G.c], .pointer (some ⟨g, 0, none⟩), .agg #[.int .i64 V.t, .int .i64 V.c.k, .int .i64 V.c.b, .int .i64 V.c.r, .int .i64 V.c.c]] w fun e w' => e = .returned (.tuple #[]) ∧ ∃ Y' : RdyE, Y'.d = doY G Y.d V ∧ Blk w' g 37 (RyB Y') ∧ RdyR w' Y' ∧ Keeps (fun b => b = g ∨ blkY Y b) w w' := by
  have hp := plB_bd hk
  have hpl := lastPl_bd hk
  have hk9 := hk.1
  have hbd := bankN_bd G
  have hrl := (readyLen_bd G).1
  have HL0 : Hid (Y.s0.n = Y.last.length) := hid hO.last.length
  have HL1 : Hid (Y.s1.n = Y.acts.length) := hid hO.acts.length
  have HV0 := hid hv
  have HO0 := hid hO
  have HGB := hid hg
  obtain ⟨gl, hgl, hglB, HR⟩ := hO.last.row (by rw [hl]; omega)
  have HR0 := hid HR
  have hgU := hO.t0 gl ⟨by rw [hl]; omega, hgl⟩
  obtain ⟨⟨a0, n0, c0⟩, ⟨a1, n1, c1⟩, last, acts⟩ := Y
  obtain ⟨vt, kk, kb, kr, kc⟩ := V
  dsimp only at hgl hl ha HR hk9 hp hpl
  subst hgl
  have HGE0 := hid ((BoxG.new_ w 25 G rfl).old (below_alloc _ (.cells #[.int .i64 vt, .int .i64 kk, .int .i64 kb, .int .i64 kr, .int .i64 kc] 58)))
  have HEV0 := hid (show Blk ((w.alloc (.cells #[.int .i64 G.a, .int .i64 G.b, .int .i64 G.r, .int .i64 G.c] 25)).alloc (.cells #[.int .i64 vt, .int .i64 kk, .int .i64 kb, .int .i64 kr, .int .i64 kc] 58)) (w.heap.size + 1) 58 [.int .i64 vt, .int .i64 kk, .int .i64 kb, .int .i64 kr, .int .i64 kc] by simpa using Blk.new (w.alloc (.cells #[.int .i64 G.a, .int .i64 G.b, .int .i64 G.r, .int .i64 G.c] 25)) 58 [.int .i64 vt, .int .i64 kk, .int .i64 kb, .int .i64 kr, .int .i64 kc])
  have HKU : Hid (usesB kk = decide (kk ≤ 5)) := hid (usesB_le hk9.1)
  have hgls := hO.le
  have hgw := HV0.out.lt
  clear hv hO hg hk HR
  go_enter Try.func90, Try.ntmps90
  go_upto_region 1 with (fail)
  refine wp_world (fun W hw => ?_)
  have HGE : Hid (BoxG W w.heap.size G) := by rw [hw.out]; exact HGE0
  have HEV : Hid (Blk W (w.heap.size + 1) 58 [.int .i64 vt, .int .i64 kk, .int .i64 kb, .int .i64 kr, .int .i64 kc]) := by rw [hw.out]; exact HEV0
  have HB : Hid (Below w.heap.size w W) := by rw [hw.out]; exact hid (below_alloc2 _ _ _)
  clear hw HGE0 HEV0
  obtain ⟨_, g0, g1, g2, g3⟩ := HGE.out
  go_wp2_with fail
  clear g0 g1 g2 g3
  refine (specBankCount_any G _).mono ?_
  rintro e w1 ⟨rfl, BB⟩
  have HEV := hid (HEV.out.old BB)
  have HB := hid (below_step HB.out BB (Nat.le_refl _))
  clear BB HGE
  have HV := hid (HV0.out.old HB.out)
  have HR := hid (HR0.out.old HB.out)
  have HA1 := hid (HO0.out.acts.reads.old HB.out)
  have hne : ¬ g = gl := by have := HGB.out; omega
  have hne2 : ¬ gl = g := fun h => hne h.symm
  have hw1 := HB.out.size
  have hnE : ¬ gl = w.heap.size + 1 := by omega
  have hnE2 : ¬ g = w.heap.size + 1 := by omega
  clear HV0 HR0
  dsimp only at HV HR HA1 HL0 HL1
  have e1 := HEV.out.cell (j := 1) rfl
  have e2 := HEV.out.cell (j := 2) rfl
  cases hu : decide (kk ≤ 5)
  · have HPL : Hid (lastPl G ⟨kk, kb, kr, kc⟩ = 9 * bankN G + kk - 1) := hid (by
      have hu2 : usesB kk = false := HKU.out.trans hu
      unfold lastPl plB
      dsimp only
      rw [hu2]; rfl)
    have hpb : 0 ≤ bankN G ∧ bankN G ≤ bankN G := by
      have hu2 : usesB kk = false := HKU.out.trans hu
      have h := hp
      unfold plB at h
      dsimp only at h
      rw [hu2] at h
      exact h
    rw [HPL.out] at hpl
    obtain ⟨bb, hbb⟩ : ∃ bb, bankN G = bb := ⟨_, rfl⟩
    rw [hbb] at hpb hpl HPL
    rw [hbb]
    obtain ⟨ix, hix⟩ : ∃ ix : Nat, 9 * bb + kk - 1 = (ix : Int) := ⟨(9 * bb + kk - 1).toNat, by omega⟩
    have hix2 : ix < n0 := by omega
    have s0 : wrap64 (9 * bb) = 9 * bb := IntWalk.wrap64_in _ (by omega)
    have s1 : IntKind.i64.wrap (9 * bb) = 9 * bb := IntWalk.i64_in _ (by omega)
    have s2 : IntKind.i64.wrap (9 * bb + kk) = 9 * bb + kk := IntWalk.i64_in _ (by omega)
    have s3 : IntKind.i64.wrap (9 * bb + kk - 1) = (ix : Int) := by rw [IntWalk.i64_in _ (by omega)]; exact hix
    have HIX := hid hix
    have hi0 : (0 : Int) ≤ (ix : Int) := by omega
    have hi1 : (ix : Int) < (n0 : Int) := by omega
    obtain ⟨x, hx⟩ := some_at HL0.out hix2
    have c3 := HR.out.cell hx
    have f3 := HR.out.frozen ix
    have v0 : w1.cell? ⟨g, 0, none⟩ = some (.slice (some ⟨gl, 0, none⟩) n0 c0) := HV.out.cell (j := 0) rfl
    have e0 := HEV.out.cell (j := 0) rfl
    have HS := hid (HR.out.set ix vt)
    have hgl1 := HR.out.lt
    have hgl2 := HV.out.lt
    have hgl3 := HEV.out.lt
    
    have hn0 : 0 < n0 := by omega
    clear hx hpb hpl hp hix hl hrl
    go_upto_region 4 with (fail)
    refine wp_region_still_tail 14 (by kernel_rfl) (by kernel_rfl) ?_
    simp only [List.take_succ_cons, List.take_zero, List.drop_succ_cons, List.drop_zero]
    repeat still_step
    refine wpStill_nil ?_
    go_upto_region 5 with (fail)
    refine wp_world (fun w2 hw => ?_)
    have KS : Keeps (· = gl) w1 w2 := by rw [hw.out]; exact HS.out.2.drewN 1
    have HR2 : Hid (IRow w2 gl n0 c0 (last.set ix vt)) := by rw [hw.out]; exact hid (HS.out.1.drewN 1)
    clear hw HS HR c3 f3 v0 e0 e1 e2
    have HV2 := hid (HV.out.keeps (S := fun b => b = gl) KS hne)
    have HEV2 := hid (HEV.out.keeps (S := fun b => b = gl) KS (fun e => hnE e.symm))
    have HA2 := hid ((HO0.out.acts.old HB.out).keeps KS (fun b hb e => HO0.out.apart gl ⟨Nat.ne_of_gt hn0, rfl⟩ (by rw [show b = gl from e] at hb; exact hb)))
    have HK2 := hid ((Keeps.of_below (S := fun b => b = g ∨ blkY ⟨⟨some ⟨gl, 0, none⟩, n0, c0⟩, ⟨a1, n1, c1⟩, last, acts⟩ b) HB.out).trans (KS.mono (fun b _ e => .inr (.inl ⟨Nat.ne_of_gt hn0, by rw [show b = gl from e]⟩))))
    have HD0 : Hid (∀ (ac : List Int), (⟨last.set ix vt, ac⟩ : RdyD) = ⟨last.set (lastPl G ⟨kk, kb, kr, kc⟩).toNat vt, ac⟩) := hid (fun ac => by rw [HPL.out, HIX.out]; rfl)
    have hs12 := KS.size
    clear KS HV HEV HA1
    have HA2 := hid HA2.out.reads
    cases hk1 : (kk == 1) with
    | false =>
      have e1 := HEV2.out.cell (j := 1) rfl
      go_wp2_with fail
      refine bodyPost_end (results_none rfl _ _ _) rfl ⟨rfl, ⟨⟨some ⟨gl, 0, none⟩, n0, c0⟩, ⟨a1, n1, c1⟩, last.set ix vt, acts⟩, ?_, HV2.out, ⟨HR2.out.reads, HA2.out, by show n0 = (last.set ix vt).length; rw [List.length_set]; exact HL0.out, HL1.out⟩, HK2.out⟩
      show (⟨last.set ix vt, acts⟩ : RdyD) = ⟨last.set (lastPl G ⟨kk, kb, kr, kc⟩).toNat vt, if (kk == 1) = true then _ else acts⟩
      rw [hk1, HD0.out]; rfl
    | true =>
      have e1 := HEV2.out.cell (j := 1) rfl
      go_upto_region 6 with (fail)
      refine mix_of 13 10 (fun i => i == 0 || i == 11 || i == 12) (fun i => match i with | 0 => .pointer (some ⟨g, 0, none⟩) | 11 => .pointer (some ⟨g, 0, none⟩) | 12 => .pointer (some ⟨g, 1, none⟩) | _ => undef) (fr := ?fr1)
        (fun i v w' => match i with
            | 1 => ∃ h, v = .slice (some ⟨h, 0, none⟩) 0 0 ∧ OwnF encN 1 3 w' w2.heap.size w'.heap.size (some ⟨h, 0, none⟩) 0 0 []
            | 2 => v = .pointer (some ⟨g, 0, none⟩)
            | 3 => v = .pointer (some ⟨g, 0, none⟩)
            | 4 => v = .pointer (some ⟨g, 1, none⟩)
            | 5 => v = .slice a1 n1 c1
            | 6 => ∃ a' c', v = .slice a' n1 c' ∧ OwnF encN 1 3 w' w2.heap.size w'.heap.size a' n1 c' acts
            | 7 => v = .pointer (some ⟨w.heap.size + 1, 0, none⟩)
            | 8 => v = .int .i64 vt
            | 9 => ∃ h, v = .slice (some ⟨h, 0, none⟩) 1 1 ∧ w2.heap.size ≤ h ∧ h < w'.heap.size ∧ w'.cell? ⟨h, 0, none⟩ = some (.int .i64 vt)
            | _ => True
          ) (fun vs w' => ∃ a' c', vs 10 = .slice a' (n1 + 1) c' ∧ OwnF encN 1 3 w' w2.heap.size w'.heap.size a' (n1 + 1) c' (acts ++ [vt]) ∧ Below w2.heap.size w2 w') (by kernel_rfl) (by kernel_rfl) (by decide) (by decide) (by decide) (by kernel_rfl) (by kernel_rfl) ?hfr1 ⟨fun _ => undef, ?h01⟩ ?hF1 ?hG1 ?hstep1 ?hearly1 ?hlate1 ?hbig1 ?hend1
      case hfr1 => intro vs; simp only [frOf, List.take_succ_cons, List.take_zero]; go_simp; exact rfl
      case h01 => rfl
      case hF1 =>
        intro i v w' w'' h hb
        match i, h with
        | 0, h => exact h
        | 1, h => obtain ⟨h, e, o⟩ := h; exact ⟨h, e, (o.old hb).up hb.size (Nat.le_refl _)⟩
        | 2, h => exact h
        | 3, h => exact h
        | 4, h => exact h
        | 5, h => exact h
        | 6, h => obtain ⟨a', c', e, o⟩ := h; exact ⟨a', c', e, (o.old hb).up hb.size (Nat.le_refl _)⟩
        | 7, h => exact h
        | 8, h => exact h
        | 9, h => obtain ⟨h, e, l, q, c⟩ := h; exact ⟨h, e, l, Nat.lt_of_lt_of_le q hb.size, (hb.cell (p := ⟨h, 0, none⟩) q).trans c⟩
        | 10, h => exact h
        | 11, h => exact h
        | 12, h => exact h
        | n + 13, h => exact h
      case hG1 =>
        intro vs w' i hx h
        match i, hx with
        | 0, hx => exact h
        | 1, hx => exact absurd hx (by decide)
        | 2, hx => exact absurd hx (by decide)
        | 3, hx => exact absurd hx (by decide)
        | 4, hx => exact absurd hx (by decide)
        | 5, hx => exact absurd hx (by decide)
        | 6, hx => exact absurd hx (by decide)
        | 7, hx => exact absurd hx (by decide)
        | 8, hx => exact absurd hx (by decide)
        | 9, hx => exact absurd hx (by decide)
        | 10, hx => exact absurd hx (by decide)
        | 11, hx => exact h
        | 12, hx => exact h
        | n + 13, hx => exact absurd hx (by simp)
      case hstep1 =>
        intro vs w' i o hin his hx ho hb hd hxd
        match i, ho, hin, his, hx with
        | 0, _, _, his, hx => exact absurd hx (by decide)
        | 1, ho, _, _, _ =>
          simp only [List.getElem?_cons_succ, List.getElem?_cons_zero, Option.some.injEq] at ho
          subst ho
          refine ⟨wanted_none rfl, ?_⟩
          generalize hK : (fun (a' : Act) (w'' : World) => ∃ v : Value, _ ∧ _ ∧ _) = K
          go_simp
          rw [← hK]
          exact ⟨_, rfl, ⟨_, rfl, OwnF.mono (OwnF.of_lit w' rfl) hb.size⟩, below_alloc _ _⟩
        | 2, ho, _, _, _ =>
          simp only [List.getElem?_cons_succ, List.getElem?_cons_zero, Option.some.injEq] at ho
          subst ho
          refine ⟨wanted_none rfl, ?_⟩
          generalize hK : (fun (a' : Act) (w'' : World) => ∃ v : Value, _ ∧ _ ∧ _) = K
          go_simp
          rw [← hK]
          exact ⟨_, rfl, rfl, Below.refl _ _⟩
        | 3, ho, _, _, _ =>
          simp only [List.getElem?_cons_succ, List.getElem?_cons_zero, Option.some.injEq] at ho
          subst ho
          refine ⟨wanted_none rfl, ?_⟩
          have x2 : vs 2 = .pointer (some ⟨g, 0, none⟩) := hd 2 rfl (by kernel_rfl)
          generalize hK : (fun (a' : Act) (w'' : World) => ∃ v : Value, _ ∧ _ ∧ _) = K
          generalize hu2 : vs 2 = u2 at x2 ⊢
          subst x2
          go_simp
          rw [← hK]
          exact ⟨_, by simp [upd, hu2], rfl, Below.refl _ _⟩
        | 4, ho, _, _, _ =>
          simp only [List.getElem?_cons_succ, List.getElem?_cons_zero, Option.some.injEq] at ho
          subst ho
          refine ⟨wanted_none rfl, ?_⟩
          have x3 : vs 3 = .pointer (some ⟨g, 0, none⟩) := hd 3 rfl (by kernel_rfl)
          generalize hK : (fun (a' : Act) (w'' : World) => ∃ v : Value, _ ∧ _ ∧ _) = K
          generalize hu3 : vs 3 = u3 at x3 ⊢
          subst x3
          go_simp
          rw [← hK]
          exact ⟨_, by simp [upd, hu3], rfl, Below.refl _ _⟩
        | 5, ho, _, _, _ =>
          simp only [List.getElem?_cons_succ, List.getElem?_cons_zero, Option.some.injEq] at ho
          subst ho
          refine ⟨wanted_none rfl, ?_⟩
          have x4 : vs 4 = .pointer (some ⟨g, 1, none⟩) := hd 4 rfl (by kernel_rfl)
          have q1 : w'.cell? ⟨g, 1, none⟩ = some (.slice a1 n1 c1) := (HV2.out.old hb).cell (j := 1) rfl
          generalize hK : (fun (a' : Act) (w'' : World) => ∃ v : Value, _ ∧ _ ∧ _) = K
          generalize hu4 : vs 4 = u4 at x4 ⊢
          subst x4
          go_simp
          rw [← hK]
          exact ⟨_, by simp [upd, hu4], rfl, Below.refl _ _⟩
        | 6, ho, _, _, _ =>
          simp only [List.getElem?_cons_succ, List.getElem?_cons_zero, Option.some.injEq] at ho
          subst ho
          refine ⟨wanted_none rfl, ?_⟩
          obtain ⟨h, x1, O⟩ := hd 1 rfl (by kernel_rfl)
          have x5 : vs 5 = .slice a1 n1 c1 := hd 5 rfl (by kernel_rfl)
          generalize hK : (fun (a' : Act) (w'' : World) => ∃ v : Value, _ ∧ _ ∧ _) = K
          refine wp_append_newrow recN _ _ rfl w' w2.heap.size _ h O (by go_simp) a1 n1 c1 acts (IntsR.recs (HA2.out.old hb)) HL1.out (by go_simp) hb.size (by omega) ?_
          intro a' c' w3 O2 B
          rw [← hK]
          exact ⟨_, rfl, ⟨a', c', rfl, O2⟩, B⟩
        | 7, ho, _, _, _ =>
          simp only [List.getElem?_cons_succ, List.getElem?_cons_zero, Option.some.injEq] at ho
          subst ho
          refine ⟨wanted_none rfl, ?_⟩
          generalize hK : (fun (a' : Act) (w'' : World) => ∃ v : Value, _ ∧ _ ∧ _) = K
          go_simp
          rw [← hK]
          exact ⟨_, rfl, rfl, Below.refl _ _⟩
        | 8, ho, _, _, _ =>
          simp only [List.getElem?_cons_succ, List.getElem?_cons_zero, Option.some.injEq] at ho
          subst ho
          refine ⟨wanted_none rfl, ?_⟩
          have x7 : vs 7 = .pointer (some ⟨w.heap.size + 1, 0, none⟩) := hd 7 rfl (by kernel_rfl)
          have q0 := (HEV2.out.old hb).cell (j := 0) rfl
          generalize hK : (fun (a' : Act) (w'' : World) => ∃ v : Value, _ ∧ _ ∧ _) = K
          generalize hu7 : vs 7 = u7 at x7 ⊢
          subst x7
          go_simp
          rw [← hK]
          exact ⟨_, by simp [upd, hu7], rfl, Below.refl _ _⟩
        | 9, ho, _, _, _ =>
          simp only [List.getElem?_cons_succ, List.getElem?_cons_zero, Option.some.injEq] at ho
          subst ho
          refine ⟨wanted_none rfl, ?_⟩
          have x8 : vs 8 = .int .i64 vt := hd 8 rfl (by kernel_rfl)
          generalize hK : (fun (a' : Act) (w'' : World) => ∃ v : Value, _ ∧ _ ∧ _) = K
          generalize hu8 : vs 8 = u8 at x8 ⊢
          subst x8
          go_simp
          rw [← hK]
          exact ⟨_, by simp [upd, hu8], ⟨_, rfl, hb.size, by simp, box_at w' [.int .i64 vt] 3 0⟩, below_alloc _ _⟩
        | 10, _, _, his, hx => exact absurd rfl his
        | 11, _, _, his, hx => exact absurd hx (by decide)
        | 12, _, _, his, hx => exact absurd hx (by decide)
        | n + 13, _, hin, _, _ => exact absurd hin (by omega)
      case hearly1 =>
        intro vs w' i o hin hx ho hd hxd
        match i, ho, hin, hx with
        | 0, ho, _, _ =>
          simp only [List.getElem?_cons_zero, Option.some.injEq] at ho
          subst ho
          refine ⟨wanted_none rfl, ?_⟩
          generalize hK : (fun (a' : Act) (w'' : World) => _ ∧ _) = K
          go_simp
          rw [← hK]
          exact ⟨rfl, rfl⟩
        | 1, _, _, hx => exact absurd hx (by decide)
        | 2, _, _, hx => exact absurd hx (by decide)
        | 3, _, _, hx => exact absurd hx (by decide)
        | 4, _, _, hx => exact absurd hx (by decide)
        | 5, _, _, hx => exact absurd hx (by decide)
        | 6, _, _, hx => exact absurd hx (by decide)
        | 7, _, _, hx => exact absurd hx (by decide)
        | 8, _, _, hx => exact absurd hx (by decide)
        | 9, _, _, hx => exact absurd hx (by decide)
        | 10, _, _, hx => exact absurd hx (by decide)
        | 11, ho, _, _ =>
          simp only [List.getElem?_cons_succ, List.getElem?_cons_zero, Option.some.injEq] at ho
          subst ho
          refine ⟨wanted_none rfl, ?_⟩
          have x0 : vs 0 = .pointer (some ⟨g, 0, none⟩) := hxd 0 rfl (by kernel_rfl)
          generalize hK : (fun (a' : Act) (w'' : World) => _ ∧ _) = K
          generalize hu0 : vs 0 = u0 at x0 ⊢
          subst x0
          go_simp
          rw [← hK]
          exact ⟨by simp [upd, hu0], rfl⟩
        | 12, ho, _, _ =>
          simp only [List.getElem?_cons_succ, List.getElem?_cons_zero, Option.some.injEq] at ho
          subst ho
          refine ⟨wanted_none rfl, ?_⟩
          have x11 : vs 11 = .pointer (some ⟨g, 0, none⟩) := hxd 11 rfl (by kernel_rfl)
          generalize hK : (fun (a' : Act) (w'' : World) => _ ∧ _) = K
          generalize hu11 : vs 11 = u11 at x11 ⊢
          subst x11
          go_simp
          rw [← hK]
          exact ⟨by simp [upd, hu11], rfl⟩
        | n + 13, _, hin, _ => exact absurd hin (by omega)
      case hlate1 =>
        intro vs w' i o hin hx ho hg hxd
        match i, ho, hin, hx with
        | 0, ho, _, _ =>
          simp only [List.getElem?_cons_zero, Option.some.injEq] at ho
          subst ho
          refine ⟨wanted_none rfl, ?_⟩
          generalize hK : (fun (a' : Act) (w'' : World) => _ ∧ _) = K
          go_simp
          rw [← hK]
          exact ⟨rfl, rfl⟩
        | 1, _, _, hx => exact absurd hx (by decide)
        | 2, _, _, hx => exact absurd hx (by decide)
        | 3, _, _, hx => exact absurd hx (by decide)
        | 4, _, _, hx => exact absurd hx (by decide)
        | 5, _, _, hx => exact absurd hx (by decide)
        | 6, _, _, hx => exact absurd hx (by decide)
        | 7, _, _, hx => exact absurd hx (by decide)
        | 8, _, _, hx => exact absurd hx (by decide)
        | 9, _, _, hx => exact absurd hx (by decide)
        | 10, _, _, hx => exact absurd hx (by decide)
        | 11, ho, _, _ =>
          simp only [List.getElem?_cons_succ, List.getElem?_cons_zero, Option.some.injEq] at ho
          subst ho
          refine ⟨wanted_none rfl, ?_⟩
          have x0 : vs 0 = .pointer (some ⟨g, 0, none⟩) := hxd 0 rfl (by kernel_rfl)
          generalize hK : (fun (a' : Act) (w'' : World) => _ ∧ _) = K
          generalize hu0 : vs 0 = u0 at x0 ⊢
          subst x0
          go_simp
          rw [← hK]
          exact ⟨by simp [upd, hu0], rfl⟩
        | 12, ho, _, _ =>
          simp only [List.getElem?_cons_succ, List.getElem?_cons_zero, Option.some.injEq] at ho
          subst ho
          refine ⟨wanted_none rfl, ?_⟩
          have x11 : vs 11 = .pointer (some ⟨g, 0, none⟩) := hxd 11 rfl (by kernel_rfl)
          generalize hK : (fun (a' : Act) (w'' : World) => _ ∧ _) = K
          generalize hu11 : vs 11 = u11 at x11 ⊢
          subst x11
          go_simp
          rw [← hK]
          exact ⟨by simp [upd, hu11], rfl⟩
        | n + 13, _, hin, _ => exact absurd hin (by omega)
      case hbig1 =>
        intro vs w' o ho hb hf hxd
        simp only [List.getElem?_cons_succ, List.getElem?_cons_zero, Option.some.injEq] at ho
        subst ho
        refine ⟨wanted_none rfl, ?_⟩
        obtain ⟨a', c', x6, O⟩ := hf 6 (by decide) rfl (by decide)
        obtain ⟨h, x9, hl9, hq9, hc9⟩ := hf 9 (by decide) rfl (by decide)
        have HB0 := hid hb
        have HOO := hid O
        clear hb hf
        refine wp_append_rec_at recN _ _ rfl w' w2.heap.size w'.heap.size h a' n1 c' acts O (by go_simp) vt (one_cell hc9) (by go_simp) HB0.out.size (by omega) ?_
        intro a2 c2 w3 O2 K2
        exact ⟨_, rfl, a2, c2, by simp [upd], O2, HB0.out.trans (K2.below HB0.out.size (fun q hq hS => by have h9 := (HOO.out.row.lt q hS).1; omega))⟩
      case hend1 =>
        intro vs w3 hg hxv
        obtain ⟨a', c', x10, O, BB⟩ := hg
        have x12 : vs 12 = .pointer (some ⟨g, 1, none⟩) := hxv 12 (by decide) rfl
        have HO3 := hid O
        have HB3 := hid BB
        have hcap := O.le_cap
        clear O BB hxv
        generalize vs 10 = u10 at x10 ⊢
        subst x10
        generalize vs 12 = u12 at x12 ⊢
        subst x12
        have HV3 := hid (HV2.out.old HB3.out)
        have HR3 := hid (HR2.out.old HB3.out)
        have HK3 := hid (HK2.out.trans (Keeps.of_below HB3.out))
        have v1 : w3.cell? ⟨g, 1, none⟩ = some (.slice a1 n1 c1) := HV3.out.cell (j := 1) rfl
        have f1 := HV3.out.frozen 1
        have HS4 := hid (HV3.out.set 1 (.slice a' (n1 + 1) c'))
        have hgs : g < w2.heap.size := HV2.out.lt
        obtain ⟨ga, hga, hga1, hga2⟩ := OwnF.form HO3.out (Nat.succ_pos _)
        subst hga
        simp only [List.drop_succ_cons, List.drop_zero]
        refine wpTail_plain rfl fun K hK => ?_
        go_simp
        refine hK _ _ (wpTail_nil ?_)
        clear v1 f1
        go_upto_region 7 with (fail)
        refine wp_world (fun w4 hw => ?_)
        have K4 : Keeps (· = g) w3 w4 := by rw [hw.out]; exact HS4.out.2
        have HV4 : Hid (Blk w4 g 37 [.slice (some ⟨gl, 0, none⟩) n0 c0, .slice (some ⟨ga, 0, none⟩) (n1 + 1) c']) := by rw [hw.out]; exact hid HS4.out.1
        have HR4 := hid (HR3.out.keeps K4 hne2)
        have HO4 := hid (RecR.ints (OwnF.reads encN_len (by decide) (OwnF.keeps HO3.out K4 (fun b h1 h2 h3 => by omega))))
        have HK4 := hid (HK3.out.trans (K4.mono (fun b _ e => .inl e)))
        clear hw HS4 K4 HV3 HR3 HO3 HK3
        have v1 : w4.cell? ⟨g, 1, none⟩ = some (.slice (some ⟨ga, 0, none⟩) (n1 + 1) c') := HV4.out.cell (j := 1) rfl
        by_cases h4 : n1 + 1 > 4
        · have HCP := hid h4
          have f1 := HV4.out.frozen 1
          have hc1 : ¬ c' = 1 := by omega
          have hc2 : 1 < c' := by omega
          have hc3 : ¬ c' ≤ 1 := by omega
          have h4i : (4 : Int) < ((n1 + 1 : Nat) : Int) := by omega
          have h4d : decide ((4 : Int) < ((n1 + 1 : Nat) : Int)) = true := by simpa using h4i
          have HS5 := hid (HV4.out.set 1 (.slice (some ⟨ga, 1, none⟩) n1 (c' - 1)))
          go_wp2_with fail
          refine bodyPost_end (results_none rfl _ _ _) rfl ⟨rfl, ⟨⟨some ⟨gl, 0, none⟩, n0, c0⟩, ⟨some ⟨ga, 1, none⟩, n1, c' - 1⟩, last.set ix vt, (acts ++ [vt]).drop 1⟩, ?_, HS5.out.1, ⟨(HR4.out.keeps HS5.out.2 hne2).reads, ?_, by show n0 = (last.set ix vt).length; rw [List.length_set]; exact HL0.out, ?_⟩, HK4.out.trans (HS5.out.2.mono (fun b _ e => .inl e))⟩
          · show (⟨last.set ix vt, (acts ++ [vt]).drop 1⟩ : RdyD) = ⟨last.set (lastPl G ⟨kk, kb, kr, kc⟩).toNat vt, if (kk == 1) = true then last4 (acts ++ [vt]) else acts⟩
            rw [hk1, HD0.out]
            unfold last4
            have : (acts ++ [vt]).length - 4 = 1 := by have := HL1.out; simp; omega
            rw [this]; rfl
          · have h := (HO4.out.drop 1)
            intro i x hx
            obtain ⟨b, o, e, hb, hc⟩ := h i x hx
            have e2 : b = ga := by simp only [Option.some.injEq, Addr.mk.injEq, and_true] at e; exact e.1.symm
            subst e2
            exact ⟨b, o, e, by simpa using hb, (HS5.out.2.cell hb (fun e3 : b = g => by omega) _).trans hc⟩
          · show n1 = ((acts ++ [vt]).drop 1).length
            have := HL1.out; simp; omega
        · have h4i : ¬ (4 : Int) < ((n1 + 1 : Nat) : Int) := by omega
          have h4d : decide ((4 : Int) < ((n1 + 1 : Nat) : Int)) = false := by simpa using h4i
          have HCP := hid h4
          go_wp2_with fail
          refine bodyPost_end (results_none rfl _ _ _) rfl ⟨rfl, ⟨⟨some ⟨gl, 0, none⟩, n0, c0⟩, ⟨some ⟨ga, 0, none⟩, n1 + 1, c'⟩, last.set ix vt, acts ++ [vt]⟩, ?_, HV4.out, ⟨HR4.out.reads, HO4.out, by show n0 = (last.set ix vt).length; rw [List.length_set]; exact HL0.out, ?_⟩, HK4.out⟩
          · show (⟨last.set ix vt, acts ++ [vt]⟩ : RdyD) = ⟨last.set (lastPl G ⟨kk, kb, kr, kc⟩).toNat vt, if (kk == 1) = true then last4 (acts ++ [vt]) else acts⟩
            rw [hk1, HD0.out]
            unfold last4
            have : (acts ++ [vt]).length - 4 = 0 := by have := HL1.out; simp; omega
            rw [this]; rfl
          · show n1 + 1 = (acts ++ [vt]).length
            have := HL1.out; simp; omega
  · have HPL : Hid (lastPl G ⟨kk, kb, kr, kc⟩ = 9 * kb + kk - 1) := hid (by
      have hu2 : usesB kk = true := HKU.out.trans hu
      unfold lastPl plB
      dsimp only
      rw [hu2]; rfl)
    have hpb : 0 ≤ kb ∧ kb ≤ bankN G := by
      have hu2 : usesB kk = true := HKU.out.trans hu
      have h := hp
      unfold plB at h
      dsimp only at h
      rw [hu2] at h
      exact h
    rw [HPL.out] at hpl
    obtain ⟨bb, hbb⟩ : ∃ bb, kb = bb := ⟨_, rfl⟩
    rw [hbb] at hpb hpl HPL
    try rw [hbb]
    obtain ⟨ix, hix⟩ : ∃ ix : Nat, 9 * bb + kk - 1 = (ix : Int) := ⟨(9 * bb + kk - 1).toNat, by omega⟩
    have hix2 : ix < n0 := by omega
    have s0 : wrap64 (9 * bb) = 9 * bb := IntWalk.wrap64_in _ (by omega)
    have s1 : IntKind.i64.wrap (9 * bb) = 9 * bb := IntWalk.i64_in _ (by omega)
    have s2 : IntKind.i64.wrap (9 * bb + kk) = 9 * bb + kk := IntWalk.i64_in _ (by omega)
    have s3 : IntKind.i64.wrap (9 * bb + kk - 1) = (ix : Int) := by rw [IntWalk.i64_in _ (by omega)]; exact hix
    have HIX := hid hix
    have hi0 : (0 : Int) ≤ (ix : Int) := by omega
    have hi1 : (ix : Int) < (n0 : Int) := by omega
    obtain ⟨x, hx⟩ := some_at HL0.out hix2
    have c3 := HR.out.cell hx
    have f3 := HR.out.frozen ix
    have v0 : w1.cell? ⟨g, 0, none⟩ = some (.slice (some ⟨gl, 0, none⟩) n0 c0) := HV.out.cell (j := 0) rfl
    have e0 := HEV.out.cell (j := 0) rfl
    have HS := hid (HR.out.set ix vt)
    have hgl1 := HR.out.lt
    have hgl2 := HV.out.lt
    have hgl3 := HEV.out.lt
    
    have hn0 : 0 < n0 := by omega
    clear hx hpb hpl hp hix hl hrl
    subst hbb
    go_upto_region 4 with (fail)
    refine wp_region_still_tail 14 (by kernel_rfl) (by kernel_rfl) ?_
    simp only [List.take_succ_cons, List.take_zero, List.drop_succ_cons, List.drop_zero]
    repeat still_step
    refine wpStill_nil ?_
    go_upto_region 5 with (fail)
    refine wp_world (fun w2 hw => ?_)
    have KS : Keeps (· = gl) w1 w2 := by rw [hw.out]; exact HS.out.2.drewN 1
    have HR2 : Hid (IRow w2 gl n0 c0 (last.set ix vt)) := by rw [hw.out]; exact hid (HS.out.1.drewN 1)
    clear hw HS HR c3 f3 v0 e0 e1 e2
    have HV2 := hid (HV.out.keeps (S := fun b => b = gl) KS hne)
    have HEV2 := hid (HEV.out.keeps (S := fun b => b = gl) KS (fun e => hnE e.symm))
    have HA2 := hid ((HO0.out.acts.old HB.out).keeps KS (fun b hb e => HO0.out.apart gl ⟨Nat.ne_of_gt hn0, rfl⟩ (by rw [show b = gl from e] at hb; exact hb)))
    have HK2 := hid ((Keeps.of_below (S := fun b => b = g ∨ blkY ⟨⟨some ⟨gl, 0, none⟩, n0, c0⟩, ⟨a1, n1, c1⟩, last, acts⟩ b) HB.out).trans (KS.mono (fun b _ e => .inr (.inl ⟨Nat.ne_of_gt hn0, by rw [show b = gl from e]⟩))))
    have HD0 : Hid (∀ (ac : List Int), (⟨last.set ix vt, ac⟩ : RdyD) = ⟨last.set (lastPl G ⟨kk, kb, kr, kc⟩).toNat vt, ac⟩) := hid (fun ac => by rw [HPL.out, HIX.out]; rfl)
    have hs12 := KS.size
    clear KS HV HEV HA1
    have HA2 := hid HA2.out.reads
    cases hk1 : (kk == 1) with
    | false =>
      have e1 := HEV2.out.cell (j := 1) rfl
      go_wp2_with fail
      refine bodyPost_end (results_none rfl _ _ _) rfl ⟨rfl, ⟨⟨some ⟨gl, 0, none⟩, n0, c0⟩, ⟨a1, n1, c1⟩, last.set ix vt, acts⟩, ?_, HV2.out, ⟨HR2.out.reads, HA2.out, by show n0 = (last.set ix vt).length; rw [List.length_set]; exact HL0.out, HL1.out⟩, HK2.out⟩
      show (⟨last.set ix vt, acts⟩ : RdyD) = ⟨last.set (lastPl G ⟨kk, kb, kr, kc⟩).toNat vt, if (kk == 1) = true then _ else acts⟩
      rw [hk1, HD0.out]; rfl
    | true =>
      have e1 := HEV2.out.cell (j := 1) rfl
      go_upto_region 6 with (fail)
      refine mix_of 13 10 (fun i => i == 0 || i == 11 || i == 12) (fun i => match i with | 0 => .pointer (some ⟨g, 0, none⟩) | 11 => .pointer (some ⟨g, 0, none⟩) | 12 => .pointer (some ⟨g, 1, none⟩) | _ => undef) (fr := ?fr2)
        (fun i v w' => match i with
            | 1 => ∃ h, v = .slice (some ⟨h, 0, none⟩) 0 0 ∧ OwnF encN 1 3 w' w2.heap.size w'.heap.size (some ⟨h, 0, none⟩) 0 0 []
            | 2 => v = .pointer (some ⟨g, 0, none⟩)
            | 3 => v = .pointer (some ⟨g, 0, none⟩)
            | 4 => v = .pointer (some ⟨g, 1, none⟩)
            | 5 => v = .slice a1 n1 c1
            | 6 => ∃ a' c', v = .slice a' n1 c' ∧ OwnF encN 1 3 w' w2.heap.size w'.heap.size a' n1 c' acts
            | 7 => v = .pointer (some ⟨w.heap.size + 1, 0, none⟩)
            | 8 => v = .int .i64 vt
            | 9 => ∃ h, v = .slice (some ⟨h, 0, none⟩) 1 1 ∧ w2.heap.size ≤ h ∧ h < w'.heap.size ∧ w'.cell? ⟨h, 0, none⟩ = some (.int .i64 vt)
            | _ => True
          ) (fun vs w' => ∃ a' c', vs 10 = .slice a' (n1 + 1) c' ∧ OwnF encN 1 3 w' w2.heap.size w'.heap.size a' (n1 + 1) c' (acts ++ [vt]) ∧ Below w2.heap.size w2 w') (by kernel_rfl) (by kernel_rfl) (by decide) (by decide) (by decide) (by kernel_rfl) (by kernel_rfl) ?hfr2 ⟨fun _ => undef, ?h02⟩ ?hF2 ?hG2 ?hstep2 ?hearly2 ?hlate2 ?hbig2 ?hend2
      case hfr2 => intro vs; simp only [frOf, List.take_succ_cons, List.take_zero]; go_simp; exact rfl
      case h02 => rfl
      case hF2 =>
        intro i v w' w'' h hb
        match i, h with
        | 0, h => exact h
        | 1, h => obtain ⟨h, e, o⟩ := h; exact ⟨h, e, (o.old hb).up hb.size (Nat.le_refl _)⟩
        | 2, h => exact h
        | 3, h => exact h
        | 4, h => exact h
        | 5, h => exact h
        | 6, h => obtain ⟨a', c', e, o⟩ := h; exact ⟨a', c', e, (o.old hb).up hb.size (Nat.le_refl _)⟩
        | 7, h => exact h
        | 8, h => exact h
        | 9, h => obtain ⟨h, e, l, q, c⟩ := h; exact ⟨h, e, l, Nat.lt_of_lt_of_le q hb.size, (hb.cell (p := ⟨h, 0, none⟩) q).trans c⟩
        | 10, h => exact h
        | 11, h => exact h
        | 12, h => exact h
        | n + 13, h => exact h
      case hG2 =>
        intro vs w' i hx h
        match i, hx with
        | 0, hx => exact h
        | 1, hx => exact absurd hx (by decide)
        | 2, hx => exact absurd hx (by decide)
        | 3, hx => exact absurd hx (by decide)
        | 4, hx => exact absurd hx (by decide)
        | 5, hx => exact absurd hx (by decide)
        | 6, hx => exact absurd hx (by decide)
        | 7, hx => exact absurd hx (by decide)
        | 8, hx => exact absurd hx (by decide)
        | 9, hx => exact absurd hx (by decide)
        | 10, hx => exact absurd hx (by decide)
        | 11, hx => exact h
        | 12, hx => exact h
        | n + 13, hx => exact absurd hx (by simp)
      case hstep2 =>
        intro vs w' i o hin his hx ho hb hd hxd
        match i, ho, hin, his, hx with
        | 0, _, _, his, hx => exact absurd hx (by decide)
        | 1, ho, _, _, _ =>
          simp only [List.getElem?_cons_succ, List.getElem?_cons_zero, Option.some.injEq] at ho
          subst ho
          refine ⟨wanted_none rfl, ?_⟩
          generalize hK : (fun (a' : Act) (w'' : World) => ∃ v : Value, _ ∧ _ ∧ _) = K
          go_simp
          rw [← hK]
          exact ⟨_, rfl, ⟨_, rfl, OwnF.mono (OwnF.of_lit w' rfl) hb.size⟩, below_alloc _ _⟩
        | 2, ho, _, _, _ =>
          simp only [List.getElem?_cons_succ, List.getElem?_cons_zero, Option.some.injEq] at ho
          subst ho
          refine ⟨wanted_none rfl, ?_⟩
          generalize hK : (fun (a' : Act) (w'' : World) => ∃ v : Value, _ ∧ _ ∧ _) = K
          go_simp
          rw [← hK]
          exact ⟨_, rfl, rfl, Below.refl _ _⟩
        | 3, ho, _, _, _ =>
          simp only [List.getElem?_cons_succ, List.getElem?_cons_zero, Option.some.injEq] at ho
          subst ho
          refine ⟨wanted_none rfl, ?_⟩
          have x2 : vs 2 = .pointer (some ⟨g, 0, none⟩) := hd 2 rfl (by kernel_rfl)
          generalize hK : (fun (a' : Act) (w'' : World) => ∃ v : Value, _ ∧ _ ∧ _) = K
          generalize hu2 : vs 2 = u2 at x2 ⊢
          subst x2
          go_simp
          rw [← hK]
          exact ⟨_, by simp [upd, hu2], rfl, Below.refl _ _⟩
        | 4, ho, _, _, _ =>
          simp only [List.getElem?_cons_succ, List.getElem?_cons_zero, Option.some.injEq] at ho
          subst ho
          refine ⟨wanted_none rfl, ?_⟩
          have x3 : vs 3 = .pointer (some ⟨g, 0, none⟩) := hd 3 rfl (by kernel_rfl)
          generalize hK : (fun (a' : Act) (w'' : World) => ∃ v : Value, _ ∧ _ ∧ _) = K
          generalize hu3 : vs 3 = u3 at x3 ⊢
          subst x3
          go_simp
          rw [← hK]
          exact ⟨_, by simp [upd, hu3], rfl, Below.refl _ _⟩
        | 5, ho, _, _, _ =>
          simp only [List.getElem?_cons_succ, List.getElem?_cons_zero, Option.some.injEq] at ho
          subst ho
          refine ⟨wanted_none rfl, ?_⟩
          have x4 : vs 4 = .pointer (some ⟨g, 1, none⟩) := hd 4 rfl (by kernel_rfl)
          have q1 : w'.cell? ⟨g, 1, none⟩ = some (.slice a1 n1 c1) := (HV2.out.old hb).cell (j := 1) rfl
          generalize hK : (fun (a' : Act) (w'' : World) => ∃ v : Value, _ ∧ _ ∧ _) = K
          generalize hu4 : vs 4 = u4 at x4 ⊢
          subst x4
          go_simp
          rw [← hK]
          exact ⟨_, by simp [upd, hu4], rfl, Below.refl _ _⟩
        | 6, ho, _, _, _ =>
          simp only [List.getElem?_cons_succ, List.getElem?_cons_zero, Option.some.injEq] at ho
          subst ho
          refine ⟨wanted_none rfl, ?_⟩
          obtain ⟨h, x1, O⟩ := hd 1 rfl (by kernel_rfl)
          have x5 : vs 5 = .slice a1 n1 c1 := hd 5 rfl (by kernel_rfl)
          generalize hK : (fun (a' : Act) (w'' : World) => ∃ v : Value, _ ∧ _ ∧ _) = K
          refine wp_append_newrow recN _ _ rfl w' w2.heap.size _ h O (by go_simp) a1 n1 c1 acts (IntsR.recs (HA2.out.old hb)) HL1.out (by go_simp) hb.size (by omega) ?_
          intro a' c' w3 O2 B
          rw [← hK]
          exact ⟨_, rfl, ⟨a', c', rfl, O2⟩, B⟩
        | 7, ho, _, _, _ =>
          simp only [List.getElem?_cons_succ, List.getElem?_cons_zero, Option.some.injEq] at ho
          subst ho
          refine ⟨wanted_none rfl, ?_⟩
          generalize hK : (fun (a' : Act) (w'' : World) => ∃ v : Value, _ ∧ _ ∧ _) = K
          go_simp
          rw [← hK]
          exact ⟨_, rfl, rfl, Below.refl _ _⟩
        | 8, ho, _, _, _ =>
          simp only [List.getElem?_cons_succ, List.getElem?_cons_zero, Option.some.injEq] at ho
          subst ho
          refine ⟨wanted_none rfl, ?_⟩
          have x7 : vs 7 = .pointer (some ⟨w.heap.size + 1, 0, none⟩) := hd 7 rfl (by kernel_rfl)
          have q0 := (HEV2.out.old hb).cell (j := 0) rfl
          generalize hK : (fun (a' : Act) (w'' : World) => ∃ v : Value, _ ∧ _ ∧ _) = K
          generalize hu7 : vs 7 = u7 at x7 ⊢
          subst x7
          go_simp
          rw [← hK]
          exact ⟨_, by simp [upd, hu7], rfl, Below.refl _ _⟩
        | 9, ho, _, _, _ =>
          simp only [List.getElem?_cons_succ, List.getElem?_cons_zero, Option.some.injEq] at ho
          subst ho
          refine ⟨wanted_none rfl, ?_⟩
          have x8 : vs 8 = .int .i64 vt := hd 8 rfl (by kernel_rfl)
          generalize hK : (fun (a' : Act) (w'' : World) => ∃ v : Value, _ ∧ _ ∧ _) = K
          generalize hu8 : vs 8 = u8 at x8 ⊢
          subst x8
          go_simp
          rw [← hK]
          exact ⟨_, by simp [upd, hu8], ⟨_, rfl, hb.size, by simp, box_at w' [.int .i64 vt] 3 0⟩, below_alloc _ _⟩
        | 10, _, _, his, hx => exact absurd rfl his
        | 11, _, _, his, hx => exact absurd hx (by decide)
        | 12, _, _, his, hx => exact absurd hx (by decide)
        | n + 13, _, hin, _, _ => exact absurd hin (by omega)
      case hearly2 =>
        intro vs w' i o hin hx ho hd hxd
        match i, ho, hin, hx with
        | 0, ho, _, _ =>
          simp only [List.getElem?_cons_zero, Option.some.injEq] at ho
          subst ho
          refine ⟨wanted_none rfl, ?_⟩
          generalize hK : (fun (a' : Act) (w'' : World) => _ ∧ _) = K
          go_simp
          rw [← hK]
          exact ⟨rfl, rfl⟩
        | 1, _, _, hx => exact absurd hx (by decide)
        | 2, _, _, hx => exact absurd hx (by decide)
        | 3, _, _, hx => exact absurd hx (by decide)
        | 4, _, _, hx => exact absurd hx (by decide)
        | 5, _, _, hx => exact absurd hx (by decide)
        | 6, _, _, hx => exact absurd hx (by decide)
        | 7, _, _, hx => exact absurd hx (by decide)
        | 8, _, _, hx => exact absurd hx (by decide)
        | 9, _, _, hx => exact absurd hx (by decide)
        | 10, _, _, hx => exact absurd hx (by decide)
        | 11, ho, _, _ =>
          simp only [List.getElem?_cons_succ, List.getElem?_cons_zero, Option.some.injEq] at ho
          subst ho
          refine ⟨wanted_none rfl, ?_⟩
          have x0 : vs 0 = .pointer (some ⟨g, 0, none⟩) := hxd 0 rfl (by kernel_rfl)
          generalize hK : (fun (a' : Act) (w'' : World) => _ ∧ _) = K
          generalize hu0 : vs 0 = u0 at x0 ⊢
          subst x0
          go_simp
          rw [← hK]
          exact ⟨by simp [upd, hu0], rfl⟩
        | 12, ho, _, _ =>
          simp only [List.getElem?_cons_succ, List.getElem?_cons_zero, Option.some.injEq] at ho
          subst ho
          refine ⟨wanted_none rfl, ?_⟩
          have x11 : vs 11 = .pointer (some ⟨g, 0, none⟩) := hxd 11 rfl (by kernel_rfl)
          generalize hK : (fun (a' : Act) (w'' : World) => _ ∧ _) = K
          generalize hu11 : vs 11 = u11 at x11 ⊢
          subst x11
          go_simp
          rw [← hK]
          exact ⟨by simp [upd, hu11], rfl⟩
        | n + 13, _, hin, _ => exact absurd hin (by omega)
      case hlate2 =>
        intro vs w' i o hin hx ho hg hxd
        match i, ho, hin, hx with
        | 0, ho, _, _ =>
          simp only [List.getElem?_cons_zero, Option.some.injEq] at ho
          subst ho
          refine ⟨wanted_none rfl, ?_⟩
          generalize hK : (fun (a' : Act) (w'' : World) => _ ∧ _) = K
          go_simp
          rw [← hK]
          exact ⟨rfl, rfl⟩
        | 1, _, _, hx => exact absurd hx (by decide)
        | 2, _, _, hx => exact absurd hx (by decide)
        | 3, _, _, hx => exact absurd hx (by decide)
        | 4, _, _, hx => exact absurd hx (by decide)
        | 5, _, _, hx => exact absurd hx (by decide)
        | 6, _, _, hx => exact absurd hx (by decide)
        | 7, _, _, hx => exact absurd hx (by decide)
        | 8, _, _, hx => exact absurd hx (by decide)
        | 9, _, _, hx => exact absurd hx (by decide)
        | 10, _, _, hx => exact absurd hx (by decide)
        | 11, ho, _, _ =>
          simp only [List.getElem?_cons_succ, List.getElem?_cons_zero, Option.some.injEq] at ho
          subst ho
          refine ⟨wanted_none rfl, ?_⟩
          have x0 : vs 0 = .pointer (some ⟨g, 0, none⟩) := hxd 0 rfl (by kernel_rfl)
          generalize hK : (fun (a' : Act) (w'' : World) => _ ∧ _) = K
          generalize hu0 : vs 0 = u0 at x0 ⊢
          subst x0
          go_simp
          rw [← hK]
          exact ⟨by simp [upd, hu0], rfl⟩
        | 12, ho, _, _ =>
          simp only [List.getElem?_cons_succ, List.getElem?_cons_zero, Option.some.injEq] at ho
          subst ho
          refine ⟨wanted_none rfl, ?_⟩
          have x11 : vs 11 = .pointer (some ⟨g, 0, none⟩) := hxd 11 rfl (by kernel_rfl)
          generalize hK : (fun (a' : Act) (w'' : World) => _ ∧ _) = K
          generalize hu11 : vs 11 = u11 at x11 ⊢
          subst x11
          go_simp
          rw [← hK]
          exact ⟨by simp [upd, hu11], rfl⟩
        | n + 13, _, hin, _ => exact absurd hin (by omega)
      case hbig2 =>
        intro vs w' o ho hb hf hxd
        simp only [List.getElem?_cons_succ, List.getElem?_cons_zero, Option.some.injEq] at ho
        subst ho
        refine ⟨wanted_none rfl, ?_⟩
        obtain ⟨a', c', x6, O⟩ := hf 6 (by decide) rfl (by decide)
        obtain ⟨h, x9, hl9, hq9, hc9⟩ := hf 9 (by decide) rfl (by decide)
        have HB0 := hid hb
        have HOO := hid O
        clear hb hf
        refine wp_append_rec_at recN _ _ rfl w' w2.heap.size w'.heap.size h a' n1 c' acts O (by go_simp) vt (one_cell hc9) (by go_simp) HB0.out.size (by omega) ?_
        intro a2 c2 w3 O2 K2
        exact ⟨_, rfl, a2, c2, by simp [upd], O2, HB0.out.trans (K2.below HB0.out.size (fun q hq hS => by have h9 := (HOO.out.row.lt q hS).1; omega))⟩
      case hend2 =>
        intro vs w3 hg hxv
        obtain ⟨a', c', x10, O, BB⟩ := hg
        have x12 : vs 12 = .pointer (some ⟨g, 1, none⟩) := hxv 12 (by decide) rfl
        have HO3 := hid O
        have HB3 := hid BB
        have hcap := O.le_cap
        clear O BB hxv
        generalize vs 10 = u10 at x10 ⊢
        subst x10
        generalize vs 12 = u12 at x12 ⊢
        subst x12
        have HV3 := hid (HV2.out.old HB3.out)
        have HR3 := hid (HR2.out.old HB3.out)
        have HK3 := hid (HK2.out.trans (Keeps.of_below HB3.out))
        have v1 : w3.cell? ⟨g, 1, none⟩ = some (.slice a1 n1 c1) := HV3.out.cell (j := 1) rfl
        have f1 := HV3.out.frozen 1
        have HS4 := hid (HV3.out.set 1 (.slice a' (n1 + 1) c'))
        have hgs : g < w2.heap.size := HV2.out.lt
        obtain ⟨ga, hga, hga1, hga2⟩ := OwnF.form HO3.out (Nat.succ_pos _)
        subst hga
        simp only [List.drop_succ_cons, List.drop_zero]
        refine wpTail_plain rfl fun K hK => ?_
        go_simp
        refine hK _ _ (wpTail_nil ?_)
        clear v1 f1
        go_upto_region 7 with (fail)
        refine wp_world (fun w4 hw => ?_)
        have K4 : Keeps (· = g) w3 w4 := by rw [hw.out]; exact HS4.out.2
        have HV4 : Hid (Blk w4 g 37 [.slice (some ⟨gl, 0, none⟩) n0 c0, .slice (some ⟨ga, 0, none⟩) (n1 + 1) c']) := by rw [hw.out]; exact hid HS4.out.1
        have HR4 := hid (HR3.out.keeps K4 hne2)
        have HO4 := hid (RecR.ints (OwnF.reads encN_len (by decide) (OwnF.keeps HO3.out K4 (fun b h1 h2 h3 => by omega))))
        have HK4 := hid (HK3.out.trans (K4.mono (fun b _ e => .inl e)))
        clear hw HS4 K4 HV3 HR3 HO3 HK3
        have v1 : w4.cell? ⟨g, 1, none⟩ = some (.slice (some ⟨ga, 0, none⟩) (n1 + 1) c') := HV4.out.cell (j := 1) rfl
        by_cases h4 : n1 + 1 > 4
        · have HCP := hid h4
          have f1 := HV4.out.frozen 1
          have hc1 : ¬ c' = 1 := by omega
          have hc2 : 1 < c' := by omega
          have hc3 : ¬ c' ≤ 1 := by omega
          have h4i : (4 : Int) < ((n1 + 1 : Nat) : Int) := by omega
          have h4d : decide ((4 : Int) < ((n1 + 1 : Nat) : Int)) = true := by simpa using h4i
          have HS5 := hid (HV4.out.set 1 (.slice (some ⟨ga, 1, none⟩) n1 (c' - 1)))
          go_wp2_with fail
          refine bodyPost_end (results_none rfl _ _ _) rfl ⟨rfl, ⟨⟨some ⟨gl, 0, none⟩, n0, c0⟩, ⟨some ⟨ga, 1, none⟩, n1, c' - 1⟩, last.set ix vt, (acts ++ [vt]).drop 1⟩, ?_, HS5.out.1, ⟨(HR4.out.keeps HS5.out.2 hne2).reads, ?_, by show n0 = (last.set ix vt).length; rw [List.length_set]; exact HL0.out, ?_⟩, HK4.out.trans (HS5.out.2.mono (fun b _ e => .inl e))⟩
          · show (⟨last.set ix vt, (acts ++ [vt]).drop 1⟩ : RdyD) = ⟨last.set (lastPl G ⟨kk, kb, kr, kc⟩).toNat vt, if (kk == 1) = true then last4 (acts ++ [vt]) else acts⟩
            rw [hk1, HD0.out]
            unfold last4
            have : (acts ++ [vt]).length - 4 = 1 := by have := HL1.out; simp; omega
            rw [this]; rfl
          · have h := (HO4.out.drop 1)
            intro i x hx
            obtain ⟨b, o, e, hb, hc⟩ := h i x hx
            have e2 : b = ga := by simp only [Option.some.injEq, Addr.mk.injEq, and_true] at e; exact e.1.symm
            subst e2
            exact ⟨b, o, e, by simpa using hb, (HS5.out.2.cell hb (fun e3 : b = g => by omega) _).trans hc⟩
          · show n1 = ((acts ++ [vt]).drop 1).length
            have := HL1.out; simp; omega
        · have h4i : ¬ (4 : Int) < ((n1 + 1 : Nat) : Int) := by omega
          have h4d : decide ((4 : Int) < ((n1 + 1 : Nat) : Int)) = false := by simpa using h4i
          have HCP := hid h4
          go_wp2_with fail
          refine bodyPost_end (results_none rfl _ _ _) rfl ⟨rfl, ⟨⟨some ⟨gl, 0, none⟩, n0, c0⟩, ⟨some ⟨ga, 0, none⟩, n1 + 1, c'⟩, last.set ix vt, acts ++ [vt]⟩, ?_, HV4.out, ⟨HR4.out.reads, HO4.out, by show n0 = (last.set ix vt).length; rw [List.length_set]; exact HL0.out, ?_⟩, HK4.out⟩
          · show (⟨last.set ix vt, acts ++ [vt]⟩ : RdyD) = ⟨last.set (lastPl G ⟨kk, kb, kr, kc⟩).toNat vt, if (kk == 1) = true then last4 (acts ++ [vt]) else acts⟩
            rw [hk1, HD0.out]
            unfold last4
            have : (acts ++ [vt]).length - 4 = 0 := by have := HL1.out; simp; omega
            rw [this]; rfl
          · show n1 + 1 = (acts ++ [vt]).length
            have := HL1.out; simp; omega
end Go.Proofs.Ytggjheapjklhgaa
