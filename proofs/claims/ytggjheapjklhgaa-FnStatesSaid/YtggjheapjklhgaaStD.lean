/- The reference's draw of a geometry, a state and a command. -/
import Derived.Test.YtggjheapjklhgaaStC
namespace Go.Proofs.Ytggjheapjklhgaa
open Go.RowKit
theorem results_3c {P : Program} {fn : Func} {tmps : Array Value} {w : World} {a b c : Nat} {t u s : TypeId} {p q r : Addr} {x y z : Value} (hr : fn.results = #[.cell a t, .cell b u, .cell c s]) (ha : tmps.getD a undef = .pointer (some p)) (hb : tmps.getD b undef = .pointer (some q)) (hc : tmps.getD c undef = .pointer (some r))
    (h1 : (loadVar t p).run P w = .ok x w) (h2 : (loadVar u q).run P w = .ok y w) (h3 : (loadVar s r).run P w = .ok z w) : (results fn tmps).run P w = .ok (.tuple #[x, y, z]) w := by
  unfold results
  rw [hr]
  have ha' : tmps[a]?.getD undef = .pointer (some p) := by simpa using ha
  have hb' : tmps[b]?.getD undef = .pointer (some q) := by simpa using hb
  have hc' : tmps[c]?.getD undef = .pointer (some r) := by simpa using hc
  simp [ha', hb', hc', asAddr, h1, h2, h3]
theorem load_cmd {w : World} {g : Nat} {C : Cmd} (h : Blk w g 32 [.int .i64 C.k, .int .i64 C.b, .int .i64 C.r, .int .i64 C.c]) : (loadVar 32 ⟨g, 0, none⟩).run Try.prog w = .ok (.agg #[.int .i64 C.k, .int .i64 C.b, .int .i64 C.r, .int .i64 C.c]) w := by
  have v0 := h.cell (j := 0) rfl
  have v1 := h.cell (j := 1) rfl
  have v2 := h.cell (j := 2) rfl
  have v3 := h.cell (j := 3) rfl
  simp [go_sem, v0, v1, v2, v3]
theorem Blk.four {w : World} {g : Nat} {e : TypeId} {a b c d : Value} (h : Blk w g e [a, b, c, d]) (x y z q : Value) : Blk ((((w.setCell ⟨g, 0, none⟩ x).setCell ⟨g, 1, none⟩ y).setCell ⟨g, 2, none⟩ z).setCell ⟨g, 3, none⟩ q) g e [x, y, z, q] := ((((h.set 0 x).1.set 1 y).1.set 2 z).1.set 3 q).1
theorem stored4 (w : World) (g : Nat) (x y z q : Value) : Keeps (fun b => b = g) w ((((w.setCell ⟨g, 0, none⟩ x).setCell ⟨g, 1, none⟩ y).setCell ⟨g, 2, none⟩ z).setCell ⟨g, 3, none⟩ q) :=
  ((((Keeps.refl (fun b => b = g) w).set ⟨g, 0, none⟩ _ rfl).set ⟨g, 1, none⟩ _ rfl).set ⟨g, 2, none⟩ _ rfl).set ⟨g, 3, none⟩ _ rfl
theorem below_alloc3' (w : World) (o1 o2 o3 : Obj) : Below w.heap.size w (((w.alloc o1).alloc o2).alloc o3) := below_alloc3 w o1 o2 o3
set_option maxHeartbeats 8000000 in
set_option maxRecDepth 100000 in
theorem DrawAllowed_any (a : Option Addr) (n c : Nat) (w : World) (hr : BytesR w a n) (hn : n ≤ 2097152) :
    Calls Try.prog 97 #[.slice a n c] w fun e w' => ∃ (G : Geo) (R : RankE) (C : Cmd), e = .returned (.tuple #[.agg #[.int .i64 G.a, .int .i64 G.b, .int .i64 G.r, .int .i64 G.c], .agg #[.slice R.a R.n R.c, .int .i64 R.p], .agg #[.int .i64 C.k, .int .i64 C.b, .int .i64 C.r, .int .i64 C.c]]) ∧ RankR w' R ∧ R.n ≤ 8 ∧ (∀ b o, R.a = some ⟨b, o, none⟩ → w.heap.size ≤ b) ∧ Below w.heap.size w w' := by
  have HR := hid hr
  have HNB := hid (show ∀ b o, a = some ⟨b, o, none⟩ → 0 < n → ¬ b = w.heap.size from fun b o ha h0 => by have := hr.where_ b o ha h0; omega)
  clear hr
  go_enter Try.func97, Try.ntmps97
  go_upto_region 1 with (fail)
  refine wp_world (fun w1 hw => ?_)
  have HV := hid (show Blk w1 w.heap.size 25 [.int .i64 0, .int .i64 0, .int .i64 0, .int .i64 0] by rw [hw.out]; exact ((Blk.new _ _ _).old (below_alloc _ _)).old (below_alloc _ _))
  have HU := hid (show Blk w1 (w.heap.size + 1) 41 [.slice none 0 0, .int .i64 0] by rw [hw.out]; simpa using (Blk.new (w.alloc (.cells #[.int .i64 0, .int .i64 0, .int .i64 0, .int .i64 0] 25)) 41 [.slice none 0 0, .int .i64 0]).old (below_alloc _ (.cells #[.int .i64 0, .int .i64 0, .int .i64 0, .int .i64 0] 32)))
  have HT := hid (show Blk w1 (w.heap.size + 1 + 1) 32 [.int .i64 0, .int .i64 0, .int .i64 0, .int .i64 0] by rw [hw.out]; simpa using Blk.new ((w.alloc (.cells #[.int .i64 0, .int .i64 0, .int .i64 0, .int .i64 0] 25)).alloc (.cells #[.slice none 0 0, .int .i64 0] 41)) 32 [.int .i64 0, .int .i64 0, .int .i64 0, .int .i64 0])
  have HB := hid (show Below w.heap.size w w1 by rw [hw.out]; exact below_alloc3 _ _ _ _)
  have HR := hid (HR.out.old HB.out)
  clear hw
  have l1 := HT.out.lt
  go_wp2_with fail
  refine (l01New_any _ _ _ _ HR.out hn).mono ?_
  rintro e w2 ⟨g, rfl, hg, Cu, B⟩
  have HC := hid Cu
  have HV := hid (HV.out.old B)
  have HU := hid (HU.out.old B)
  have HT := hid (HT.out.old B)
  have HB := hid (below_step HB.out B (Nat.le_refl _))
  have HN1 := hid (show w.heap.size + 1 + 1 < g ∧ g < w2.heap.size from ⟨by omega, Cu.lt⟩)
  have HWH := hid Cu.reads.where_
  clear Cu B HR hg
  go_wp2_with fail
  refine (l08Any_any _ _ _ _ _ HC.out).mono ?_
  rintro e w3 ⟨G, ⟨ra, rn, rc, rs, rp⟩, rfl, hR, hr8, hra, Cu, K⟩
  have HC := hid Cu
  have HV := hid (HV.out.keeps K (by have h := HN1.out; omega))
  have HU := hid (HU.out.keeps K (by have h := HN1.out; omega))
  have HT := hid (HT.out.keeps K (by have h := HN1.out; omega))
  have HRR := hid hR
  have HR8 := hid hr8
  have HRA := hid hra
  have HB := hid (HB.out.trans (K.below (B := w.heap.size) (by have h := HN1.out; omega) (fun k hk e => by have h := HN1.out; omega)))
  have hs3 := K.size
  have HN2 := hid (show w2.heap.size ≤ w3.heap.size from hs3)
  clear Cu K hR hr8 hra hs3
  dsimp only at HRA
  go_upto_region 3 with (fail)
  refine wp_world (fun w4 hw => ?_)
  have HX := hid (show Blk w4 w3.heap.size 25 [.int .i64 G.a, .int .i64 G.b, .int .i64 G.r, .int .i64 G.c] by rw [hw.out]; exact (Blk.new _ _ _).old (below_alloc _ _))
  have HY := hid (show Blk w4 (w3.heap.size + 1) 41 [.slice ra rn rc, .int .i64 rp] by rw [hw.out]; simpa using Blk.new (w3.alloc (.cells #[.int .i64 G.a, .int .i64 G.b, .int .i64 G.r, .int .i64 G.c] 25)) 41 [.slice ra rn rc, .int .i64 rp])
  have B : Below w3.heap.size w3 w4 := by rw [hw.out]; exact below_alloc2 _ _ _
  have HC := hid (HC.out.old B)
  have HV := hid (HV.out.old B)
  have HU := hid (HU.out.old B)
  have HT := hid (HT.out.old B)
  have HRR := hid (HRR.out.old B)
  have HB := hid (below_step HB.out B (Nat.le_refl _))
  clear hw B
  have HN3 := hid (show g < w3.heap.size by have h := HN1.out; have h2 := HN2.out; omega)
  generalize w3.heap.size = p6 at *
  refine invS_of 7 (fr := ?fr1)
    (fun i v w' => match i with
        | 0 => v = .agg #[.int .i64 G.a, .int .i64 G.b, .int .i64 G.r, .int .i64 G.c]
        | 1 => v = .agg #[.slice ra rn rc, .int .i64 rp]
        | 2 => v = .pointer (some ⟨g, 0, none⟩)
        | 3 => v = .agg #[.int .i64 G.a, .int .i64 G.b, .int .i64 G.r, .int .i64 G.c]
        | 4 => ∃ H : Geo, v = .agg #[.int .i64 H.a, .int .i64 H.b, .int .i64 H.r, .int .i64 H.c] ∧ gOk H = true
        | 5 => ∃ C : Cmd, v = .agg #[.int .i64 C.k, .int .i64 C.b, .int .i64 C.r, .int .i64 C.c]
        | _ => Blk w' w.heap.size 25 [.int .i64 G.a, .int .i64 G.b, .int .i64 G.r, .int .i64 G.c]
      ) (fun w' => Cur w' g a n c ∧ Keeps (fun b => b = g ∨ b = w.heap.size) w4 w' ∧ ∃ y0 y1 y2 y3 : Value, Blk w' w.heap.size 25 [y0, y1, y2, y3]) (fun w' w'' => Keeps (fun b => b = g ∨ b = w.heap.size) w' w'' ∧ (Blk w' w.heap.size 25 [.int .i64 G.a, .int .i64 G.b, .int .i64 G.r, .int .i64 G.c] → Blk w'' w.heap.size 25 [.int .i64 G.a, .int .i64 G.b, .int .i64 G.r, .int .i64 G.c])) (by kernel_rfl) (by kernel_rfl) (by decide) (by kernel_rfl) ?hfr1 ⟨fun _ => undef, ?h01⟩ ?hI1 ?hF1 ?hstep1 ?hend1
  case hfr1 => intro vs; simp only [frOf, List.take_succ_cons, List.take_zero]; go_simp; exact rfl
  case h01 => rfl
  case hI1 => exact ⟨HC.out.drewN 1, Keeps.ofDrewN _ _ _, ⟨_, _, _, _, HV.out⟩⟩
  case hF1 =>
    intro i v w' w'' h hI hR
    match i, h with
    | 0, h => exact h
    | 1, h => exact h
    | 2, h => exact h
    | 3, h => exact h
    | 4, h => exact h
    | 5, h => exact h
    | n + 6, h => exact hR.2 h
  case hstep1 =>
    intro vs w' i o hin ho hI hd
    match i, ho, hin with
    | 0, ho, _ =>
      simp only [List.getElem?_cons_zero, Option.some.injEq] at ho
      subst ho
      refine ⟨wanted_none rfl, ?_⟩
      have q := HX.out.keeps hI.2.1 (by have h := HN1.out; have h3 := HN3.out; omega)
      have c0 := q.cell (j := 0) rfl
      have c1 := q.cell (j := 1) rfl
      have c2 := q.cell (j := 2) rfl
      have c3 := q.cell (j := 3) rfl
      generalize hK : (fun (a' : Act) (w'' : World) => ∃ v : Value, _ ∧ _ ∧ _ ∧ _) = K
      go_simp
      rw [← hK]
      exact ⟨_, rfl, rfl, hI, ⟨Keeps.refl _ _, fun h => h⟩⟩
    | 1, ho, _ =>
      simp only [List.getElem?_cons_succ, List.getElem?_cons_zero, Option.some.injEq] at ho
      subst ho
      refine ⟨wanted_none rfl, ?_⟩
      have q := HY.out.keeps hI.2.1 (by have h := HN1.out; have h3 := HN3.out; omega)
      have c0 := q.cell (j := 0) rfl
      have c1 := q.cell (j := 1) rfl
      generalize hK : (fun (a' : Act) (w'' : World) => ∃ v : Value, _ ∧ _ ∧ _ ∧ _) = K
      go_simp
      rw [← hK]
      exact ⟨_, rfl, rfl, hI, ⟨Keeps.refl _ _, fun h => h⟩⟩
    | 2, ho, _ =>
      simp only [List.getElem?_cons_succ, List.getElem?_cons_zero, Option.some.injEq] at ho
      subst ho
      refine ⟨wanted_none rfl, ?_⟩
      generalize hK : (fun (a' : Act) (w'' : World) => ∃ v : Value, _ ∧ _ ∧ _ ∧ _) = K
      go_simp
      rw [← hK]
      exact ⟨_, rfl, rfl, hI, ⟨Keeps.refl _ _, fun h => h⟩⟩
    | 3, ho, _ =>
      simp only [List.getElem?_cons_succ, List.getElem?_cons_zero, Option.some.injEq] at ho
      subst ho
      refine ⟨wanted_none rfl, ?_⟩
      have q := HX.out.keeps hI.2.1 (by have h := HN1.out; have h3 := HN3.out; omega)
      have c0 := q.cell (j := 0) rfl
      have c1 := q.cell (j := 1) rfl
      have c2 := q.cell (j := 2) rfl
      have c3 := q.cell (j := 3) rfl
      generalize hK : (fun (a' : Act) (w'' : World) => ∃ v : Value, _ ∧ _ ∧ _ ∧ _) = K
      go_simp
      rw [← hK]
      exact ⟨_, rfl, rfl, hI, ⟨Keeps.refl _ _, fun h => h⟩⟩
    | 4, ho, _ =>
      simp only [List.getElem?_cons_succ, List.getElem?_cons_zero, Option.some.injEq] at ho
      subst ho
      refine ⟨wanted_none rfl, ?_⟩
      have HE : Hid (vs 3 = .agg #[.int .i64 G.a, .int .i64 G.b, .int .i64 G.r, .int .i64 G.c]) := hd 3 (by kernel_rfl)
      generalize hK : (fun (a' : Act) (w'' : World) => ∃ v : Value, _ ∧ _ ∧ _ ∧ _) = K
      go_simp
      refine (calls_args (by rw [HE.out]) (l03Fit_any G _)).mono ?_
      rintro e w3 ⟨H, rfl, hok, B⟩
      rw [← hK]
      exact ⟨_, rfl, ⟨H, rfl, hok⟩, ⟨hI.1.old B, hI.2.1.trans (Keeps.of_below B), by obtain ⟨y0, y1, y2, y3, hy⟩ := hI.2.2; exact ⟨y0, y1, y2, y3, hy.old B⟩⟩, ⟨Keeps.of_below B, fun h => h.old B⟩⟩
    | 5, ho, _ =>
      simp only [List.getElem?_cons_succ, List.getElem?_cons_zero, Option.some.injEq] at ho
      subst ho
      refine ⟨wanted_none rfl, ?_⟩
      have HP : Hid (vs 2 = .pointer (some ⟨g, 0, none⟩)) := hd 2 (by kernel_rfl)
      obtain ⟨H, e4, hok⟩ := hd 4 (by kernel_rfl)
      have HQ := hid e4
      clear e4
      generalize hK : (fun (a' : Act) (w'' : World) => ∃ v : Value, _ ∧ _ ∧ _ ∧ _) = K
      go_simp
      refine (calls_args (by rw [HP.out, HQ.out]) (l06Any_any _ _ _ _ H _ hI.1 hok)).mono ?_
      rintro e w3 ⟨C, rfl, C3, KK⟩
      rw [← hK]
      exact ⟨_, rfl, ⟨C, rfl⟩, ⟨C3, hI.2.1.trans (KK.mono fun _ _ h => .inl h), by obtain ⟨y0, y1, y2, y3, hy⟩ := hI.2.2; exact ⟨y0, y1, y2, y3, hy.keeps KK (by have h := HN1.out; omega)⟩⟩, ⟨KK.mono fun _ _ h => .inl h, fun h => h.keeps KK (by have h := HN1.out; omega)⟩⟩
    | 6, ho, _ =>
      simp only [List.getElem?_cons_succ, List.getElem?_cons_zero, Option.some.injEq] at ho
      subst ho
      refine ⟨wanted_none rfl, ?_⟩
      have x0 : vs 0 = .agg #[.int .i64 G.a, .int .i64 G.b, .int .i64 G.r, .int .i64 G.c] := hd 0 (by kernel_rfl)
      obtain ⟨y0, y1, y2, y3, hy⟩ := hI.2.2
      have v0 := hy.cell (j := 0) rfl
      have f0 := hy.frozen 0
      have v1 := hy.cell (j := 1) rfl
      have f1 := hy.frozen 1
      have v2 := hy.cell (j := 2) rfl
      have f2 := hy.frozen 2
      have v3 := hy.cell (j := 3) rfl
      have f3 := hy.frozen 3
      have XV : Blk ((((w'.setCell ⟨w.heap.size, 0, none⟩ (.int .i64 G.a)).setCell ⟨w.heap.size, 1, none⟩ (.int .i64 G.b)).setCell ⟨w.heap.size, 2, none⟩ (.int .i64 G.r)).setCell ⟨w.heap.size, 3, none⟩ (.int .i64 G.c)) w.heap.size 25 [.int .i64 G.a, .int .i64 G.b, .int .i64 G.r, .int .i64 G.c] := ((((hy.set 0 _).1.set 1 _).1.set 2 _).1.set 3 _).1
      have KV : Keeps (fun q => q = w.heap.size) w' ((((w'.setCell ⟨w.heap.size, 0, none⟩ (.int .i64 G.a)).setCell ⟨w.heap.size, 1, none⟩ (.int .i64 G.b)).setCell ⟨w.heap.size, 2, none⟩ (.int .i64 G.r)).setCell ⟨w.heap.size, 3, none⟩ (.int .i64 G.c)) := ((((Keeps.refl (fun q => q = w.heap.size) w').set ⟨w.heap.size, 0, none⟩ _ rfl).set ⟨w.heap.size, 1, none⟩ _ rfl).set ⟨w.heap.size, 2, none⟩ _ rfl).set ⟨w.heap.size, 3, none⟩ _ rfl
      have HKV := hid KV
      have HXV := hid XV
      clear KV XV hy
      generalize hK : (fun (a' : Act) (w'' : World) => ∃ v : Value, _ ∧ _ ∧ _ ∧ _) = K
      generalize hu0 : vs 0 = u0 at x0 ⊢
      subst x0
      go_simp
      rw [← hK]
      exact ⟨undef, by simp [upd, hu0], HXV.out, ⟨hI.1.keeps HKV.out (by have h := HN1.out; omega) (fun b o ha h0 => by have h1 := HWH.out b o ha h0; have h2 := HB.out.size; exact fun e => HNB.out b o ha h0 e), hI.2.1.trans (HKV.out.mono fun _ _ h => .inr h), ⟨_, _, _, _, HXV.out⟩⟩, ⟨HKV.out.mono fun _ _ h => .inr h, fun _ => HXV.out⟩⟩
    | n + 7, _, hin => exact absurd hin (by omega)
  case hend1 =>
    intro vs wA hI hf
    have e1 : vs 1 = .agg #[.slice ra rn rc, .int .i64 rp] := hf 1 (by decide)
    obtain ⟨C, e5⟩ := hf 5 (by decide)
    have e6 : Blk wA w.heap.size 25 [.int .i64 G.a, .int .i64 G.b, .int .i64 G.r, .int .i64 G.c] := hf 6 (by decide)
    generalize vs 1 = u1 at e1 ⊢
    subst e1
    generalize vs 5 = u5 at e5 ⊢
    subst e5
    have HV := hid e6
    have HU := hid (HU.out.keeps hI.2.1 (by have h := HN1.out; omega))
    have HT := hid (HT.out.keeps hI.2.1 (by have h := HN1.out; omega))
    have HRR := hid (HRR.out.keeps hI.2.1 (fun b o ha => by have h1 := HRA.out b o ha; have h := HN1.out; omega))
    have HB := hid (HB.out.trans (hI.2.1.below (B := w.heap.size) HB.out.size (fun k hk e => by have h := HN1.out; omega)))
    clear hI hf e6 HX HY HC
    have d0 := HU.out.cell (j := 0) rfl
    have d1 := HU.out.cell (j := 1) rfl
    have f0 := HU.out.frozen 0
    have f1 := HU.out.frozen 1
    have HKK := hid (stored2 wA (w.heap.size + 1) (.slice ra rn rc) (.int .i64 rp))
    have HUU := hid (HU.out.two (.slice ra rn rc) (.int .i64 rp))
    refine wpTail_plain rfl fun K hK => ?_
    go_simp
    refine hK _ _ ?_
    clear hK K d0 d1 f0 f1
    have HV := hid (HV.out.keeps HKK.out (by omega))
    have HT := hid (HT.out.keeps HKK.out (by omega))
    have HRR := hid (HRR.out.keeps HKK.out (fun b o ha => by have h1 := HRA.out b o ha; have h := HN1.out; omega))
    have HB := hid (HB.out.trans (HKK.out.below (B := w.heap.size) HB.out.size (fun k hk e => by omega)))
    clear HU HKK
    generalize (wA.setCell ⟨w.heap.size + 1, 0, none⟩ (.slice ra rn rc)).setCell ⟨w.heap.size + 1, 1, none⟩ (.int .i64 rp) = wB at *
    have d0 := HT.out.cell (j := 0) rfl
    have d1 := HT.out.cell (j := 1) rfl
    have d2 := HT.out.cell (j := 2) rfl
    have d3 := HT.out.cell (j := 3) rfl
    have f0 := HT.out.frozen 0
    have f1 := HT.out.frozen 1
    have f2 := HT.out.frozen 2
    have f3 := HT.out.frozen 3
    have HKK := hid (stored4 wB (w.heap.size + 1 + 1) (.int .i64 C.k) (.int .i64 C.b) (.int .i64 C.r) (.int .i64 C.c))
    have HTT := hid (HT.out.four (.int .i64 C.k) (.int .i64 C.b) (.int .i64 C.r) (.int .i64 C.c))
    refine wpTail_plain rfl fun K hK => ?_
    go_simp
    refine hK _ _ (wpTail_nil ?_)
    clear hK K d0 d1 d2 d3 f0 f1 f2 f3
    have HV := hid (HV.out.keeps HKK.out (by omega))
    have HUU := hid (HUU.out.keeps HKK.out (by omega))
    have HRR := hid (HRR.out.keeps HKK.out (fun b o ha => by have h1 := HRA.out b o ha; have h := HN1.out; omega))
    have HB := hid (HB.out.trans (HKK.out.below (B := w.heap.size) HB.out.size (fun k hk e => by omega)))
    clear HT HKK
    generalize (((wB.setCell ⟨w.heap.size + 1 + 1, 0, none⟩ (.int .i64 C.k)).setCell ⟨w.heap.size + 1 + 1, 1, none⟩ (.int .i64 C.b)).setCell ⟨w.heap.size + 1 + 1, 2, none⟩ (.int .i64 C.r)).setCell ⟨w.heap.size + 1 + 1, 3, none⟩ (.int .i64 C.c) = wC at *
    have hl1 := load_geo HV.out
    have hl2 := load_rank HUU.out
    have hl3 := load_cmd HTT.out
    go_wp2_with fail
    exact bodyPost_ret (v := .tuple #[.agg #[.int .i64 G.a, .int .i64 G.b, .int .i64 G.r, .int .i64 G.c], .agg #[.slice ra rn rc, .int .i64 rp], .agg #[.int .i64 C.k, .int .i64 C.b, .int .i64 C.r, .int .i64 C.c]]) (results_3c (p := ⟨w.heap.size, 0, none⟩) (q := ⟨w.heap.size + 1, 0, none⟩) (r := ⟨w.heap.size + 1 + 1, 0, none⟩) (by exact Try.results97) (by rfl) (by rfl) (by rfl) hl1 hl2 hl3) rfl ⟨G, ⟨ra, rn, rc, rs, rp⟩, C, rfl, HRR.out, HR8.out, fun b o ha => by have h1 := HRA.out b o ha; have h := HN1.out; omega, HB.out⟩
set_option maxHeartbeats 8000000 in
set_option maxRecDepth 100000 in
theorem DrawRankAfter_any (a : Option Addr) (n c : Nat) (w : World) (hr : BytesR w a n) (hn : n ≤ 2097152) :
    Calls Try.prog 34 #[.slice a n c] w fun e w' => ∃ (G : Geo) (R : RankE) (C : Cmd), e = .returned (.tuple #[.agg #[.int .i64 G.a, .int .i64 G.b, .int .i64 G.r, .int .i64 G.c], .agg #[.slice R.a R.n R.c, .int .i64 R.p], .agg #[.int .i64 C.k, .int .i64 C.b, .int .i64 C.r, .int .i64 C.c]]) ∧ RankR w' R ∧ R.n ≤ 8 ∧ (∀ b o, R.a = some ⟨b, o, none⟩ → w.heap.size ≤ b) ∧ Below w.heap.size w w' := by
  have HR := hid hr
  clear hr
  go_enter Try.func34, Try.ntmps34
  go_upto_region 1 with (fail)
  refine wp_world (fun w1 hw => ?_)
  have HV := hid (show Blk w1 w.heap.size 25 [.int .i64 0, .int .i64 0, .int .i64 0, .int .i64 0] by rw [hw.out]; exact ((Blk.new _ _ _).old (below_alloc _ _)).old (below_alloc _ _))
  have HU := hid (show Blk w1 (w.heap.size + 1) 41 [.slice none 0 0, .int .i64 0] by rw [hw.out]; simpa using (Blk.new (w.alloc (.cells #[.int .i64 0, .int .i64 0, .int .i64 0, .int .i64 0] 25)) 41 [.slice none 0 0, .int .i64 0]).old (below_alloc _ (.cells #[.int .i64 0, .int .i64 0, .int .i64 0, .int .i64 0] 32)))
  have HT := hid (show Blk w1 (w.heap.size + 1 + 1) 32 [.int .i64 0, .int .i64 0, .int .i64 0, .int .i64 0] by rw [hw.out]; simpa using Blk.new ((w.alloc (.cells #[.int .i64 0, .int .i64 0, .int .i64 0, .int .i64 0] 25)).alloc (.cells #[.slice none 0 0, .int .i64 0] 41)) 32 [.int .i64 0, .int .i64 0, .int .i64 0, .int .i64 0])
  have HB := hid (show Below w.heap.size w w1 by rw [hw.out]; exact below_alloc3 _ _ _ _)
  have HR := hid (HR.out.old HB.out)
  clear hw
  have l1 := HT.out.lt
  go_wp2_with fail
  refine (DrawAllowed_any _ _ _ _ HR.out hn).mono ?_
  rintro e w3 ⟨G, ⟨ra, rn, rc, rs, rp⟩, C, rfl, hR, hr8, hra, B⟩
  have HV := hid (HV.out.old B)
  have HU := hid (HU.out.old B)
  have HT := hid (HT.out.old B)
  have HRR := hid hR
  have HR8 := hid hr8
  have HRA := hid hra
  have HB := hid (below_step HB.out B (Nat.le_refl _))
  clear B hR hr8 hra HR
  dsimp only at HRA
  have v0 := HV.out.cell (j := 0) rfl
  have v1 := HV.out.cell (j := 1) rfl
  have v2 := HV.out.cell (j := 2) rfl
  have v3 := HV.out.cell (j := 3) rfl
  have f0 := HV.out.frozen 0
  have f1 := HV.out.frozen 1
  have f2 := HV.out.frozen 2
  have f3 := HV.out.frozen 3
  have d0 := HU.out.cell (j := 0) rfl
  have d1 := HU.out.cell (j := 1) rfl
  have q0 := HU.out.frozen 0
  have q1 := HU.out.frozen 1
  have x0 := HT.out.cell (j := 0) rfl
  have x1 := HT.out.cell (j := 1) rfl
  have x2 := HT.out.cell (j := 2) rfl
  have x3 := HT.out.cell (j := 3) rfl
  have y0 := HT.out.frozen 0
  have y1 := HT.out.frozen 1
  have y2 := HT.out.frozen 2
  have y3 := HT.out.frozen 3
  have l1' : w.heap.size + 1 + 1 < w1.heap.size := l1
  go_wp2_with fail
  clear v0 v1 v2 v3 f0 f1 f2 f3 d0 d1 q0 q1 x0 x1 x2 x3 y0 y1 y2 y3
  have KA := stored4 w3 w.heap.size (.int .i64 G.a) (.int .i64 G.b) (.int .i64 G.r) (.int .i64 G.c)
  have HV := hid (HV.out.four (.int .i64 G.a) (.int .i64 G.b) (.int .i64 G.r) (.int .i64 G.c))
  have HU := hid (HU.out.keeps KA (by omega))
  have HT := hid (HT.out.keeps KA (by omega))
  have HRR := hid (HRR.out.keeps KA (fun b o ha => by have h1 := HRA.out b o ha; omega))
  have HB := hid (HB.out.trans (KA.below (B := w.heap.size) HB.out.size (fun k hk e => by omega)))
  clear KA
  generalize ((((w3.setCell ⟨w.heap.size, 0, none⟩ (.int .i64 G.a)).setCell ⟨w.heap.size, 1, none⟩ (.int .i64 G.b)).setCell ⟨w.heap.size, 2, none⟩ (.int .i64 G.r)).setCell ⟨w.heap.size, 3, none⟩ (.int .i64 G.c)) = wA at *
  have KA := stored2 wA (w.heap.size + 1) (.slice ra rn rc) (.int .i64 rp)
  have HU := hid (HU.out.two (.slice ra rn rc) (.int .i64 rp))
  have HV := hid (HV.out.keeps KA (by omega))
  have HT := hid (HT.out.keeps KA (by omega))
  have HRR := hid (HRR.out.keeps KA (fun b o ha => by have h1 := HRA.out b o ha; omega))
  have HB := hid (HB.out.trans (KA.below (B := w.heap.size) HB.out.size (fun k hk e => by omega)))
  clear KA
  generalize (wA.setCell ⟨w.heap.size + 1, 0, none⟩ (.slice ra rn rc)).setCell ⟨w.heap.size + 1, 1, none⟩ (.int .i64 rp) = wB at *
  have KA := stored4 wB (w.heap.size + 1 + 1) (.int .i64 C.k) (.int .i64 C.b) (.int .i64 C.r) (.int .i64 C.c)
  have HT := hid (HT.out.four (.int .i64 C.k) (.int .i64 C.b) (.int .i64 C.r) (.int .i64 C.c))
  have HV := hid (HV.out.keeps KA (by omega))
  have HU := hid (HU.out.keeps KA (by omega))
  have HRR := hid (HRR.out.keeps KA (fun b o ha => by have h1 := HRA.out b o ha; omega))
  have HB := hid (HB.out.trans (KA.below (B := w.heap.size) HB.out.size (fun k hk e => by omega)))
  clear KA
  generalize (((wB.setCell ⟨w.heap.size + 1 + 1, 0, none⟩ (.int .i64 C.k)).setCell ⟨w.heap.size + 1 + 1, 1, none⟩ (.int .i64 C.b)).setCell ⟨w.heap.size + 1 + 1, 2, none⟩ (.int .i64 C.r)).setCell ⟨w.heap.size + 1 + 1, 3, none⟩ (.int .i64 C.c) = wC at *
  have hl1 := load_geo HV.out
  have hl2 := load_rank HU.out
  have hl3 := load_cmd HT.out
  exact bodyPost_ret (v := .tuple #[.agg #[.int .i64 G.a, .int .i64 G.b, .int .i64 G.r, .int .i64 G.c], .agg #[.slice ra rn rc, .int .i64 rp], .agg #[.int .i64 C.k, .int .i64 C.b, .int .i64 C.r, .int .i64 C.c]]) (results_3c (p := ⟨w.heap.size, 0, none⟩) (q := ⟨w.heap.size + 1, 0, none⟩) (r := ⟨w.heap.size + 1 + 1, 0, none⟩) (by exact Try.results34) (by rfl) (by rfl) (by rfl) hl1 hl2 hl3) rfl ⟨G, ⟨ra, rn, rc, rs, rp⟩, C, rfl, HRR.out, HR8.out, fun b o ha => by have h1 := HRA.out b o ha; omega, HB.out⟩
end Go.Proofs.Ytggjheapjklhgaa
