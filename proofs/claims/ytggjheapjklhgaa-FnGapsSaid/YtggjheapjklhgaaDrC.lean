/- The reference's draw of a geometry and a command. -/
import Derived.Test.YtggjheapjklhgaaDrwC
import Derived.Test.YtggjheapjklhgaaInS
namespace Go.Proofs.Ytggjheapjklhgaa
open Go.RowKit
set_option maxRecDepth 100000 in
theorem DrawCommand_any (a : Option Addr) (n c : Nat) (w : World) (hr : BytesR w a n) (hn : n ≤ 2097152) :
    Calls Try.prog 18 #[.slice a n c] w fun e w' => ∃ (G : Geo) (C : Cmd), e = .returned (.tuple #[.agg #[.int .i64 G.a, .int .i64 G.b, .int .i64 G.r, .int .i64 G.c], .agg #[.int .i64 C.k, .int .i64 C.b, .int .i64 C.r, .int .i64 C.c]]) ∧ cmdOk G C = true ∧ Below w.heap.size w w' := by
  have HR := hid hr
  clear hr
  go_enter Try.func18, Try.ntmps18
  go_upto_region 1 with (fail)
  refine wp_world (fun w1 hw => ?_)
  have B1 := hid (show Below w.heap.size w w1 by rw [hw.out]; exact below_alloc2 _ _ _)
  have HV := hid (show Blk w1 w.heap.size 25 [.int .i64 0, .int .i64 0, .int .i64 0, .int .i64 0] by rw [hw.out]; exact (Blk.new _ _ _).old (below_alloc _ _))
  have HU := hid (show Blk w1 (w.heap.size + 1) 32 [.int .i64 0, .int .i64 0, .int .i64 0, .int .i64 0] by rw [hw.out]; simpa using Blk.new (w.alloc (.cells #[.int .i64 0, .int .i64 0, .int .i64 0, .int .i64 0] 25)) 32 [.int .i64 0, .int .i64 0, .int .i64 0, .int .i64 0])
  have HR := hid (HR.out.old B1.out)
  clear hw
  have l1 := HU.out.lt
  go_wp2_with fail
  refine (l01New_any _ _ _ _ HR.out hn).mono ?_
  rintro e w2 ⟨g, rfl, hg, C, B⟩
  have HC := hid C
  have HV := hid (HV.out.old B)
  have HU := hid (HU.out.old B)
  have B2 := hid (below_step B1.out B (Nat.le_refl _))
  clear C B HR
  go_wp2_with fail
  refine (l03Geo_any _ _ _ _ _ HC.out).mono ?_
  rintro e w3 ⟨G, rfl, hgo, C, K⟩
  have HGO := hid hgo
  have HC := hid C
  have HV := hid (HV.out.keeps K (by omega))
  have HU := hid (HU.out.keeps K (by omega))
  have B3 := hid (B2.out.trans (K.below (by have := B2.out.size; omega) (fun k hk e => by omega)))
  have l3 : g < w3.heap.size := C.lt
  clear C K hgo
  go_upto_region 3 with (fail)
  refine wp_world (fun w4 hw => ?_)
  have B := hid (show Below w3.heap.size w3 w4 by rw [hw.out]; exact below_alloc _ _)
  have HX := hid (show BoxG w4 w3.heap.size G by rw [hw.out]; exact BoxG.new_ _ _ _ rfl)
  have I0 : Hid (Cur w4 g a n c ∧ BoxG w4 w3.heap.size G ∧ Blk w4 w.heap.size 25 [.int .i64 0, .int .i64 0, .int .i64 0, .int .i64 0] ∧ Blk w4 (w.heap.size + 1) 32 [.int .i64 0, .int .i64 0, .int .i64 0, .int .i64 0] ∧ Below w.heap.size w w4) :=
    hid ⟨HC.out.old B.out, HX.out, HV.out.old B.out, HU.out.old B.out, below_step B3.out B.out (Nat.le_refl _)⟩
  have HA := hid HC.out.reads.where_
  clear hw HC HV HU B1 B2 B3 B HX
  generalize w3.heap.size = p5 at *
  refine invS_of 4 (fr := ?fr1)
    (fun i v w' => match i with
        | 0 => v = .agg #[.int .i64 G.a, .int .i64 G.b, .int .i64 G.r, .int .i64 G.c]
        | 1 => v = .pointer (some ⟨g, 0, none⟩)
        | 2 => v = .agg #[.int .i64 G.a, .int .i64 G.b, .int .i64 G.r, .int .i64 G.c]
        | _ => ∃ C : Cmd, v = .agg #[.int .i64 C.k, .int .i64 C.b, .int .i64 C.r, .int .i64 C.c] ∧ cmdOk G C = true
      ) (fun w' => Cur w' g a n c ∧ BoxG w' p5 G ∧ Blk w' w.heap.size 25 [.int .i64 0, .int .i64 0, .int .i64 0, .int .i64 0] ∧ Blk w' (w.heap.size + 1) 32 [.int .i64 0, .int .i64 0, .int .i64 0, .int .i64 0] ∧ Below w.heap.size w w') (Keeps (fun b => b = g)) (by kernel_rfl) (by kernel_rfl) (by decide) (by kernel_rfl) ?hfr1 ⟨fun _ => undef, ?h01⟩ ?hI1 ?hF1 ?hstep1 ?hend1
  case hfr1 => intro vs; simp only [frOf, List.take_succ_cons, List.take_zero]; go_simp; exact rfl
  case h01 => rfl
  case hI1 => exact ⟨I0.out.1.drewN 1, I0.out.2.1.old (below_ofDrewN _ _ 1), I0.out.2.2.1, I0.out.2.2.2.1, below_drewN I0.out.2.2.2.2 1⟩
  case hF1 =>
    intro i v w' w'' h hI hR
    match i, h with
    | 0, h => exact h
    | 1, h => exact h
    | 2, h => exact h
    | n + 3, h => exact h
  case hstep1 =>
    intro vs w' i o hin ho hI hd
    match i, ho, hin with
    | 0, ho, _ =>
      simp only [List.getElem?_cons_zero, Option.some.injEq] at ho
      subst ho
      refine ⟨wanted_none rfl, ?_⟩
      obtain ⟨_, c0, c1, c2, c3⟩ := hI.2.1
      generalize hK : (fun (a' : Act) (w'' : World) => ∃ v : Value, _ ∧ _ ∧ _ ∧ _) = K
      go_simp
      rw [← hK]
      exact ⟨_, rfl, rfl, hI, Keeps.refl _ _⟩
    | 1, ho, _ =>
      simp only [List.getElem?_cons_succ, List.getElem?_cons_zero, Option.some.injEq] at ho
      subst ho
      refine ⟨wanted_none rfl, ?_⟩
      generalize hK : (fun (a' : Act) (w'' : World) => ∃ v : Value, _ ∧ _ ∧ _ ∧ _) = K
      go_simp
      rw [← hK]
      exact ⟨_, rfl, rfl, hI, Keeps.refl _ _⟩
    | 2, ho, _ =>
      simp only [List.getElem?_cons_succ, List.getElem?_cons_zero, Option.some.injEq] at ho
      subst ho
      refine ⟨wanted_none rfl, ?_⟩
      obtain ⟨_, c0, c1, c2, c3⟩ := hI.2.1
      generalize hK : (fun (a' : Act) (w'' : World) => ∃ v : Value, _ ∧ _ ∧ _ ∧ _) = K
      go_simp
      rw [← hK]
      exact ⟨_, rfl, rfl, hI, Keeps.refl _ _⟩
    | 3, ho, _ =>
      simp only [List.getElem?_cons_succ, List.getElem?_cons_zero, Option.some.injEq] at ho
      subst ho
      refine ⟨wanted_none rfl, ?_⟩
      have HP : Hid (vs 1 = .pointer (some ⟨g, 0, none⟩)) := hd 1 (by kernel_rfl)
      have HE : Hid (vs 2 = .agg #[.int .i64 G.a, .int .i64 G.b, .int .i64 G.r, .int .i64 G.c]) := hd 2 (by kernel_rfl)
      generalize hK : (fun (a' : Act) (w'' : World) => ∃ v : Value, _ ∧ _ ∧ _ ∧ _) = K
      go_simp
      refine (calls_args (by rw [HP.out, HE.out]) (l06Cmd_any _ _ _ _ G _ hI.1 HGO.out)).mono ?_
      rintro e w3 ⟨D, rfl, hco, C, KK⟩
      rw [← hK]
      exact ⟨_, rfl, ⟨D, rfl, hco⟩, ⟨C, hI.2.1.keeps KK (by omega), hI.2.2.1.keeps KK (by omega), hI.2.2.2.1.keeps KK (by omega), hI.2.2.2.2.trans (KK.below (by have := hI.2.2.2.2.size; omega) (fun k hk e => by omega))⟩, KK⟩
    | n + 4, _, hin => exact absurd hin (by omega)
  case hend1 =>
    intro vs w5 hI hf
    have e0 : vs 0 = .agg #[.int .i64 G.a, .int .i64 G.b, .int .i64 G.r, .int .i64 G.c] := hf 0 (by decide)
    obtain ⟨C, e3, hco⟩ := hf 3 (by decide)
    generalize vs 0 = u0 at e0 ⊢
    subst e0
    generalize vs 3 = u3 at e3 ⊢
    subst e3
    obtain ⟨_, _, HV, HU, HB⟩ := hI
    have v0 := HV.cell (j := 0) rfl
    have v1 := HV.cell (j := 1) rfl
    have v2 := HV.cell (j := 2) rfl
    have v3 := HV.cell (j := 3) rfl
    have f0 := HV.frozen 0
    have f1 := HV.frozen 1
    have f2 := HV.frozen 2
    have f3 := HV.frozen 3
    have hlt := HU.lt
    have KV := hid (show Keeps (· = w.heap.size) w5 ((((w5.setCell ⟨w.heap.size, 0, none⟩ (.int .i64 G.a)).setCell ⟨w.heap.size, 1, none⟩ (.int .i64 G.b)).setCell ⟨w.heap.size, 2, none⟩ (.int .i64 G.r)).setCell ⟨w.heap.size, 3, none⟩ (.int .i64 G.c)) from
      ((((Keeps.refl (fun b => b = w.heap.size) w5).set ⟨w.heap.size, 0, none⟩ _ rfl).set ⟨w.heap.size, 1, none⟩ _ rfl).set ⟨w.heap.size, 2, none⟩ _ rfl).set ⟨w.heap.size, 3, none⟩ _ rfl)
    have XV := hid (show Blk ((((w5.setCell ⟨w.heap.size, 0, none⟩ (.int .i64 G.a)).setCell ⟨w.heap.size, 1, none⟩ (.int .i64 G.b)).setCell ⟨w.heap.size, 2, none⟩ (.int .i64 G.r)).setCell ⟨w.heap.size, 3, none⟩ (.int .i64 G.c)) w.heap.size 25 [.int .i64 G.a, .int .i64 G.b, .int .i64 G.r, .int .i64 G.c] from ((((HV.set 0 _).1.set 1 _).1.set 2 _).1.set 3 _).1)
    have XU := hid (HU.keeps KV.out (by omega))
    have HB := hid (HB.trans (KV.out.below (B := w.heap.size) (by omega) (fun k hk e => by omega)))
    have HCO := hid hco
    clear hf HV HU hco
    refine wpTail_plain rfl fun K hK => ?_
    go_simp
    refine hK _ _ ?_
    clear hK K v0 v1 v2 v3 f0 f1 f2 f3 KV
    generalize ((((w5.setCell ⟨w.heap.size, 0, none⟩ (.int .i64 G.a)).setCell ⟨w.heap.size, 1, none⟩ (.int .i64 G.b)).setCell ⟨w.heap.size, 2, none⟩ (.int .i64 G.r)).setCell ⟨w.heap.size, 3, none⟩ (.int .i64 G.c)) = w6 at *
    have v0 := XU.out.cell (j := 0) rfl
    have v1 := XU.out.cell (j := 1) rfl
    have v2 := XU.out.cell (j := 2) rfl
    have v3 := XU.out.cell (j := 3) rfl
    have f0 := XU.out.frozen 0
    have f1 := XU.out.frozen 1
    have f2 := XU.out.frozen 2
    have f3 := XU.out.frozen 3
    have KU := hid (show Keeps (· = w.heap.size + 1) w6 ((((w6.setCell ⟨w.heap.size + 1, 0, none⟩ (.int .i64 C.k)).setCell ⟨w.heap.size + 1, 1, none⟩ (.int .i64 C.b)).setCell ⟨w.heap.size + 1, 2, none⟩ (.int .i64 C.r)).setCell ⟨w.heap.size + 1, 3, none⟩ (.int .i64 C.c)) from
      ((((Keeps.refl (fun b => b = w.heap.size + 1) w6).set ⟨w.heap.size + 1, 0, none⟩ _ rfl).set ⟨w.heap.size + 1, 1, none⟩ _ rfl).set ⟨w.heap.size + 1, 2, none⟩ _ rfl).set ⟨w.heap.size + 1, 3, none⟩ _ rfl)
    have YV := hid (XV.out.keeps KU.out (by omega))
    have YU := hid (show Blk ((((w6.setCell ⟨w.heap.size + 1, 0, none⟩ (.int .i64 C.k)).setCell ⟨w.heap.size + 1, 1, none⟩ (.int .i64 C.b)).setCell ⟨w.heap.size + 1, 2, none⟩ (.int .i64 C.r)).setCell ⟨w.heap.size + 1, 3, none⟩ (.int .i64 C.c)) (w.heap.size + 1) 32 [.int .i64 C.k, .int .i64 C.b, .int .i64 C.r, .int .i64 C.c] from ((((XU.out.set 0 _).1.set 1 _).1.set 2 _).1.set 3 _).1)
    have HB := hid (HB.out.trans (KU.out.below (B := w.heap.size) (by have := HB.out.size; omega) (fun k hk e => by omega)))
    refine wpTail_plain rfl fun K hK => ?_
    go_simp
    refine hK _ _ (wpTail_nil ?_)
    clear hK K v0 v1 v2 v3 f0 f1 f2 f3 KU XV XU
    generalize ((((w6.setCell ⟨w.heap.size + 1, 0, none⟩ (.int .i64 C.k)).setCell ⟨w.heap.size + 1, 1, none⟩ (.int .i64 C.b)).setCell ⟨w.heap.size + 1, 2, none⟩ (.int .i64 C.r)).setCell ⟨w.heap.size + 1, 3, none⟩ (.int .i64 C.c)) = w7 at *
    have v0 := YV.out.cell (j := 0) rfl
    have v1 := YV.out.cell (j := 1) rfl
    have v2 := YV.out.cell (j := 2) rfl
    have v3 := YV.out.cell (j := 3) rfl
    have q0 := YU.out.cell (j := 0) rfl
    have q1 := YU.out.cell (j := 1) rfl
    have q2 := YU.out.cell (j := 2) rfl
    have q3 := YU.out.cell (j := 3) rfl
    go_wp2_with fail
    exact bodyPost_ret (v := .tuple #[.agg #[.int .i64 G.a, .int .i64 G.b, .int .i64 G.r, .int .i64 G.c], .agg #[.int .i64 C.k, .int .i64 C.b, .int .i64 C.r, .int .i64 C.c]]) (by simp [results, Try.results18, go_sem, v0, v1, v2, v3, q0, q1, q2, q3]) rfl ⟨G, C, rfl, HCO.out, HB.out⟩
end Go.Proofs.Ytggjheapjklhgaa
