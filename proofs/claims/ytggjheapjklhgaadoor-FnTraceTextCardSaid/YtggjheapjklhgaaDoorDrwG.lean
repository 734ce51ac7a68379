/- The reference's draws of a geometry and of an address. -/
import Derived.Test.YtggjheapjklhgaaDoorDraw
import Derived.Test.YtggjheapjklhgaaDoorGeoW
import Derived.Test.YtggjheapjklhgaaDoorInv
import Derived.Deep.Cut
import Derived.Test.YtggjheapjklhgaaDoorCmdW
namespace Go.Proofs.YtggjheapjklhgaaDoor
open Go.RowKit
theorem Keeps.hide {S : Nat → Prop} {w w1 w2 : World} {r : Nat} (h : Keeps S w w1) (h2 : Keeps (· = r) w1 w2) (hr : w.heap.size ≤ r) : Keeps S w w2 :=
  ⟨h2.os.trans h.os, h2.tape.trans h.tape, h2.output.trans h.output, Nat.le_trans h.size h2.size, fun b hb hs => (h2.block b (Nat.lt_of_lt_of_le hb h.size) (fun e => by have : b = r := e; omega)).trans (h.block b hb hs)⟩
set_option maxRecDepth 100000 in
theorem l03Geo_any (g n c : Nat) (a : Option Addr) (w : World) (hc : Cur w g a n c) :
    Calls Tryd.prog 33 #[.pointer (some ⟨g, 0, none⟩)] w fun e w' => ∃ G : Geo, e = .returned (.agg #[.int .i64 G.a, .int .i64 G.b, .int .i64 G.r, .int .i64 G.c]) ∧ gOk G = true ∧ Cur w' g a n c ∧ Keeps (· = g) w w' := by
  have HA := hid hc.reads.where_
  have HG := hid hc.lt
  have HC := hid hc
  clear hc
  go_enter Tryd.func33, Tryd.ntmps33
  go_upto_region 1 with (fail)
  refine wp_world (fun w1 hw => ?_)
  have HC := hid (show Cur w1 g a n c by rw [hw.out]; exact HC.out.old (below_alloc _ _))
  have HV := hid (show Blk w1 w.heap.size 32 [.int .i64 0, .int .i64 0, .int .i64 0, .int .i64 0] by rw [hw.out]; exact Blk.new _ _ _)
  have HK := hid (show Keeps (· = g) w w1 by rw [hw.out]; exact Keeps.of_below (below_alloc _ _))
  have HS := hid (show w.heap.size < w1.heap.size from HV.out.lt)
  clear hw
  go_wp2_with fail
  refine (l01Below_any _ _ _ _ _ _ HC.out (by omega)).mono ?_
  rintro e w2 ⟨r1, rfl, p1, q1, C, K⟩
  have q1 := q1 (by omega)
  have s1 : IntKind.i64.wrap (1 + r1) = 1 + r1 := IntWalk.i64_in _ (by omega)
  have HC := hid C
  have HV := hid (HV.out.keeps K (by have := HG.out; omega))
  have HK := hid (HK.out.trans K)
  clear C K
  go_wp2_with fail
  refine (l01Below_any _ _ _ _ _ _ HC.out (by omega)).mono ?_
  rintro e w3 ⟨r2, rfl, p2, q2, C, K⟩
  have q2 := q2 (by omega)
  have s2 : IntKind.i64.wrap (1 + r2) = 1 + r2 := IntWalk.i64_in _ (by omega)
  have HC := hid C
  have HV := hid (HV.out.keeps K (by have := HG.out; omega))
  have HK := hid (HK.out.trans K)
  clear C K
  go_wp2_with fail
  refine (l01Below_any _ _ _ _ _ _ HC.out (by omega)).mono ?_
  rintro e w4 ⟨r3, rfl, p3, q3, C, K⟩
  have q3 := q3 (by omega)
  have s3 : IntKind.i64.wrap (2 + r3) = 2 + r3 := IntWalk.i64_in _ (by omega)
  have HC := hid C
  have HV := hid (HV.out.keeps K (by have := HG.out; omega))
  have HK := hid (HK.out.trans K)
  clear C K
  go_wp2_with fail
  refine (l01Below_any _ _ _ _ _ _ HC.out (by omega)).mono ?_
  rintro e w5 ⟨r4, rfl, p4, q4, C, K⟩
  have q4 := q4 (by omega)
  have s4 : IntKind.i64.wrap (1 + r4) = 1 + r4 := IntWalk.i64_in _ (by omega)
  have HC := hid C
  have HV := hid (HV.out.keeps K (by have := HG.out; omega))
  have HK := hid (HK.out.trans K)
  clear C K
  have v0 := HV.out.cell (j := 0) rfl
  have v1 := HV.out.cell (j := 1) rfl
  have v2 := HV.out.cell (j := 2) rfl
  have v3 := HV.out.cell (j := 3) rfl
  have f0 := HV.out.frozen 0
  have f1 := HV.out.frozen 1
  have f2 := HV.out.frozen 2
  have f3 := HV.out.frozen 3
  have HL := hid HV.out.lt
  have KS : Keeps (· = w.heap.size) w5 ((((w5.setCell ⟨w.heap.size, 0, none⟩ (.int .i64 (1 + r1))).setCell ⟨w.heap.size, 1, none⟩ (.int .i64 (1 + r2))).setCell ⟨w.heap.size, 2, none⟩ (.int .i64 (2 + r3))).setCell ⟨w.heap.size, 3, none⟩ (.int .i64 (1 + r4))) :=
    ((((Keeps.refl (fun b => b = w.heap.size) w5).set ⟨w.heap.size, 0, none⟩ _ rfl).set ⟨w.heap.size, 1, none⟩ _ rfl).set ⟨w.heap.size, 2, none⟩ _ rfl).set ⟨w.heap.size, 3, none⟩ _ rfl
  have HKS := hid KS
  clear KS
  go_wp2_with fail
  refine bodyPost_ret (v := .agg #[.int .i64 (1 + r1), .int .i64 (1 + r2), .int .i64 (2 + r3), .int .i64 (1 + r4)]) (by simp [results, Tryd.results33, go_sem, v0, v1, v2, v3]) rfl ⟨⟨1 + r1, 1 + r2, 2 + r3, 1 + r4⟩, rfl, ?_, ?_, ?_⟩
  · rw [gOk_iff]; exact ⟨by show 1 ≤ 1 + r1 ∧ 1 + r1 ≤ 2; omega, by show 1 ≤ 1 + r2 ∧ 1 + r2 ≤ 4; omega, by show 2 ≤ 2 + r3 ∧ 2 + r3 ≤ 16; omega, by show 1 ≤ 1 + r4 ∧ 1 + r4 ≤ 8; omega⟩
  · exact HC.out.keeps HKS.out (by have := HG.out; omega) (fun b o ha h0 => by have := HA.out b o ha h0; omega)
  · exact HK.out.hide HKS.out (Nat.le_refl _)
end Go.Proofs.YtggjheapjklhgaaDoor

/- The reference's draw of an address. -/
namespace Go.Proofs.YtggjheapjklhgaaDoor
open Go.RowKit
theorem BoxG.keeps {S : Nat → Prop} {w w' : World} {g : Nat} {G : Geo} (h : BoxG w g G) (hk : Keeps S w w') (hs : ¬ S g) : BoxG w' g G := by
  obtain ⟨l, c0, c1, c2, c3⟩ := h
  have e := hk.block g l hs
  exact ⟨Nat.lt_of_lt_of_le l hk.size, (World.cell?_of_block (w := w) (a := ⟨g, 0, none⟩) e).trans c0, (World.cell?_of_block (w := w) (a := ⟨g, 1, none⟩) e).trans c1, (World.cell?_of_block (w := w) (a := ⟨g, 2, none⟩) e).trans c2, (World.cell?_of_block (w := w) (a := ⟨g, 3, none⟩) e).trans c3⟩
set_option maxRecDepth 100000 in
theorem l03Addr_any (g n c : Nat) (a : Option Addr) (G : Geo) (w : World) (hc : Cur w g a n c) (hgo : gOk G = true) :
    Calls Tryd.prog 51 #[.pointer (some ⟨g, 0, none⟩), .agg #[.int .i64 G.a, .int .i64 G.b, .int .i64 G.r, .int .i64 G.c]] w fun e w' => ∃ D : Adr, e = .returned (.agg #[.int .i64 D.b, .int .i64 D.r, .int .i64 D.c]) ∧ (0 ≤ D.b ∧ D.b < bankN G) ∧ (0 ≤ D.r ∧ D.r < G.r) ∧ (0 ≤ D.c ∧ D.c < G.c) ∧ Cur w' g a n c ∧ Keeps (· = g) w w' := by
  have HA := hid hc.reads.where_
  have HG := hid hc.lt
  have HC := hid hc
  have HBN := hid (bankN_pos hgo)
  have HBD := hid (bankN_bd G)
  have HGO := hid (gOk_iff.1 hgo)
  have HXG := hid (BoxG.new_ w 32 G rfl)
  clear hc hgo
  go_enter Tryd.func51, Tryd.ntmps51
  go_upto_region 1 with (fail)
  refine wp_world (fun w1 hw => ?_)
  have I1 : Hid (Cur w1 g a n c ∧ BoxG w1 w.heap.size G ∧ Blk w1 (w.heap.size + 1) 86 [.int .i64 0, .int .i64 0, .int .i64 0] ∧ Keeps (fun b => b = g) w w1) := hid (by
    rw [hw.out]
    exact ⟨HC.out.old (below_alloc2 _ _ _), HXG.out.old (below_alloc _ _), by simpa using Blk.new (w.alloc (.cells #[.int .i64 G.a, .int .i64 G.b, .int .i64 G.r, .int .i64 G.c] 32)) 86 [.int .i64 0, .int .i64 0, .int .i64 0], Keeps.of_below (below_alloc2 _ _ _)⟩)
  clear hw HXG HC
  refine invR_of 13 (fr := ?fr1)
    (fun i v => match i with
      | 0 => v = .pointer (some ⟨g, 0, none⟩)
      | 1 => v = .agg #[.int .i64 G.a, .int .i64 G.b, .int .i64 G.r, .int .i64 G.c]
      | 2 => v = .int .i64 (bankN G)
      | 3 => ∃ r : Int, v = .int .i64 r ∧ 0 ≤ r ∧ r < bankN G
      | 4 => v = .pointer (some ⟨g, 0, none⟩)
      | 5 => v = .pointer (some ⟨w.heap.size, 2, none⟩)
      | 6 => v = .int .i64 G.r
      | 7 => ∃ r : Int, v = .int .i64 r ∧ 0 ≤ r ∧ r < G.r
      | 8 => v = .pointer (some ⟨g, 0, none⟩)
      | 9 => v = .pointer (some ⟨w.heap.size, 3, none⟩)
      | 10 => v = .int .i64 G.c
      | 11 => ∃ r : Int, v = .int .i64 r ∧ 0 ≤ r ∧ r < G.c
      | _ => ∃ x y z : Int, v = .agg #[.int .i64 x, .int .i64 y, .int .i64 z] ∧ (0 ≤ x ∧ x < bankN G) ∧ (0 ≤ y ∧ y < G.r) ∧ (0 ≤ z ∧ z < G.c)
    ) (fun w' => Cur w' g a n c ∧ BoxG w' w.heap.size G ∧ Blk w' (w.heap.size + 1) 86 [.int .i64 0, .int .i64 0, .int .i64 0] ∧ Keeps (fun b => b = g) w w')
    (by kernel_rfl) (by kernel_rfl) (by decide) (by kernel_rfl) ?hfr1 ⟨fun _ => undef, ?h01⟩ ?hI1 ?hstep1 ?hend1
  case hfr1 => intro vs; simp only [frOf, List.take_succ_cons, List.take_zero]; go_simp; exact rfl
  case h01 => rfl
  case hI1 => exact ⟨I1.out.1.drewN 1, I1.out.2.1.old (below_ofDrewN _ _ 1), I1.out.2.2.1, I1.out.2.2.2.drewN 1⟩
  case hstep1 =>
    intro vs w2 i o hin ho hI hd
    match i, ho, hin with
    | 0, ho, _ =>
      simp only [List.getElem?_cons_zero, Option.some.injEq] at ho
      subst ho
      refine ⟨wanted_none rfl, ?_⟩
      generalize hK : (fun (a' : Act) (w'' : World) => ∃ v : Value, _ ∧ _ ∧ _) = K
      go_simp
      rw [← hK]
      exact ⟨_, rfl, rfl, hI⟩
    | 1, ho, _ =>
      simp only [List.getElem?_cons_succ, List.getElem?_cons_zero, Option.some.injEq] at ho
      subst ho
      refine ⟨wanted_none rfl, ?_⟩
      obtain ⟨_, c0, c1, c2, c3⟩ := hI.2.1
      generalize hK : (fun (a' : Act) (w'' : World) => ∃ v : Value, _ ∧ _ ∧ _) = K
      go_simp
      rw [← hK]
      exact ⟨_, rfl, rfl, hI⟩
    | 2, ho, _ =>
      simp only [List.getElem?_cons_succ, List.getElem?_cons_zero, Option.some.injEq] at ho
      subst ho
      refine ⟨wanted_none rfl, ?_⟩
      have e1 : Hid (vs 1 = .agg #[.int .i64 G.a, .int .i64 G.b, .int .i64 G.r, .int .i64 G.c]) := hd 1 (by kernel_rfl)
      generalize hK : (fun (a' : Act) (w'' : World) => ∃ v : Value, _ ∧ _ ∧ _) = K
      go_simp
      refine (calls_args (by rw [e1.out]) (specBankCount_any G _)).mono ?_
      rintro e w3 ⟨rfl, B⟩
      rw [← hK]
      exact ⟨_, rfl, rfl, hI.1.old B, hI.2.1.old B, hI.2.2.1.old B, hI.2.2.2.trans (Keeps.of_below B)⟩
    | 3, ho, _ =>
      simp only [List.getElem?_cons_succ, List.getElem?_cons_zero, Option.some.injEq] at ho
      subst ho
      refine ⟨wanted_none rfl, ?_⟩
      have ep : vs 0 = .pointer (some ⟨g, 0, none⟩) := hd 0 (by kernel_rfl)
      have ea : vs 2 = .int .i64 (bankN G) := hd 2 (by kernel_rfl)
      have HP := hid ep
      have HE := hid ea
      clear ep ea
      generalize hK : (fun (a' : Act) (w'' : World) => ∃ v : Value, _ ∧ _ ∧ _) = K
      go_simp
      refine (calls_args (by rw [HP.out, HE.out]) (l01Below_any _ _ _ _ (bankN G) _ hI.1 (by have h1 := HBN.out; have h2 := HBD.out; omega))).mono ?_
      rintro e w3 ⟨r, rfl, p, q, C, KK⟩
      rw [← hK]
      exact ⟨_, rfl, ⟨r, rfl, p, q (by have h1 := HBN.out; have h2 := HBD.out; omega)⟩, C, hI.2.1.keeps KK (by have := HG.out; omega), hI.2.2.1.keeps KK (by have := HG.out; omega), hI.2.2.2.trans KK⟩
    | 4, ho, _ =>
      simp only [List.getElem?_cons_succ, List.getElem?_cons_zero, Option.some.injEq] at ho
      subst ho
      refine ⟨wanted_none rfl, ?_⟩
      generalize hK : (fun (a' : Act) (w'' : World) => ∃ v : Value, _ ∧ _ ∧ _) = K
      go_simp
      rw [← hK]
      exact ⟨_, rfl, rfl, hI⟩
    | 5, ho, _ =>
      simp only [List.getElem?_cons_succ, List.getElem?_cons_zero, Option.some.injEq] at ho
      subst ho
      refine ⟨wanted_none rfl, ?_⟩
      generalize hK : (fun (a' : Act) (w'' : World) => ∃ v : Value, _ ∧ _ ∧ _) = K
      go_simp
      rw [← hK]
      exact ⟨_, rfl, rfl, hI⟩
    | 6, ho, _ =>
      simp only [List.getElem?_cons_succ, List.getElem?_cons_zero, Option.some.injEq] at ho
      subst ho
      refine ⟨wanted_none rfl, ?_⟩
      have es := hd 5 (by kernel_rfl)
      obtain ⟨_, c0, c1, c2, c3⟩ := hI.2.1
      generalize hK : (fun (a' : Act) (w'' : World) => ∃ v : Value, _ ∧ _ ∧ _) = K
      generalize hup : vs 5 = up at es ⊢
      subst es
      go_simp
      rw [← hK]
      exact ⟨_, by simp [upd, hup], rfl, hI⟩
    | 7, ho, _ =>
      simp only [List.getElem?_cons_succ, List.getElem?_cons_zero, Option.some.injEq] at ho
      subst ho
      refine ⟨wanted_none rfl, ?_⟩
      have ep : vs 4 = .pointer (some ⟨g, 0, none⟩) := hd 4 (by kernel_rfl)
      have ea : vs 6 = .int .i64 G.r := hd 6 (by kernel_rfl)
      have HP := hid ep
      have HE := hid ea
      clear ep ea
      generalize hK : (fun (a' : Act) (w'' : World) => ∃ v : Value, _ ∧ _ ∧ _) = K
      go_simp
      refine (calls_args (by rw [HP.out, HE.out]) (l01Below_any _ _ _ _ G.r _ hI.1 (by have h1 := HGO.out; omega))).mono ?_
      rintro e w3 ⟨r, rfl, p, q, C, KK⟩
      rw [← hK]
      exact ⟨_, rfl, ⟨r, rfl, p, q (by have h1 := HGO.out; omega)⟩, C, hI.2.1.keeps KK (by have := HG.out; omega), hI.2.2.1.keeps KK (by have := HG.out; omega), hI.2.2.2.trans KK⟩
    | 8, ho, _ =>
      simp only [List.getElem?_cons_succ, List.getElem?_cons_zero, Option.some.injEq] at ho
      subst ho
      refine ⟨wanted_none rfl, ?_⟩
      generalize hK : (fun (a' : Act) (w'' : World) => ∃ v : Value, _ ∧ _ ∧ _) = K
      go_simp
      rw [← hK]
      exact ⟨_, rfl, rfl, hI⟩
    | 9, ho, _ =>
      simp only [List.getElem?_cons_succ, List.getElem?_cons_zero, Option.some.injEq] at ho
      subst ho
      refine ⟨wanted_none rfl, ?_⟩
      generalize hK : (fun (a' : Act) (w'' : World) => ∃ v : Value, _ ∧ _ ∧ _) = K
      go_simp
      rw [← hK]
      exact ⟨_, rfl, rfl, hI⟩
    | 10, ho, _ =>
      simp only [List.getElem?_cons_succ, List.getElem?_cons_zero, Option.some.injEq] at ho
      subst ho
      refine ⟨wanted_none rfl, ?_⟩
      have es := hd 9 (by kernel_rfl)
      obtain ⟨_, c0, c1, c2, c3⟩ := hI.2.1
      generalize hK : (fun (a' : Act) (w'' : World) => ∃ v : Value, _ ∧ _ ∧ _) = K
      generalize hup : vs 9 = up at es ⊢
      subst es
      go_simp
      rw [← hK]
      exact ⟨_, by simp [upd, hup], rfl, hI⟩
    | 11, ho, _ =>
      simp only [List.getElem?_cons_succ, List.getElem?_cons_zero, Option.some.injEq] at ho
      subst ho
      refine ⟨wanted_none rfl, ?_⟩
      have ep : vs 8 = .pointer (some ⟨g, 0, none⟩) := hd 8 (by kernel_rfl)
      have ea : vs 10 = .int .i64 G.c := hd 10 (by kernel_rfl)
      have HP := hid ep
      have HE := hid ea
      clear ep ea
      generalize hK : (fun (a' : Act) (w'' : World) => ∃ v : Value, _ ∧ _ ∧ _) = K
      go_simp
      refine (calls_args (by rw [HP.out, HE.out]) (l01Below_any _ _ _ _ G.c _ hI.1 (by have h1 := HGO.out; omega))).mono ?_
      rintro e w3 ⟨r, rfl, p, q, C, KK⟩
      rw [← hK]
      exact ⟨_, rfl, ⟨r, rfl, p, q (by have h1 := HGO.out; omega)⟩, C, hI.2.1.keeps KK (by have := HG.out; omega), hI.2.2.1.keeps KK (by have := HG.out; omega), hI.2.2.2.trans KK⟩
    | 12, ho, _ =>
      simp only [List.getElem?_cons_succ, List.getElem?_cons_zero, Option.some.injEq] at ho
      subst ho
      refine ⟨wanted_none rfl, ?_⟩
      obtain ⟨x, e3, b3⟩ := hd 3 (by kernel_rfl)
      obtain ⟨y, e7, b7⟩ := hd 7 (by kernel_rfl)
      obtain ⟨z, e11, b11⟩ := hd 11 (by kernel_rfl)
      generalize hK : (fun (a' : Act) (w'' : World) => ∃ v : Value, _ ∧ _ ∧ _) = K
      go_simp
      rw [← hK]
      exact ⟨_, by simp [upd, e3, e7, e11], ⟨x, y, z, rfl, b3, b7, b11⟩, hI⟩
    | n + 13, _, hin => exact absurd hin (by omega)
  case hend1 =>
    intro vs w2 hI hf
    obtain ⟨x, y, z, e12, bx, by_, bz⟩ := hf 12 (by decide)
    generalize vs 12 = u12 at e12 ⊢
    subst e12
    obtain ⟨C, _, HV, KW⟩ := hI
    have v0 := HV.cell (j := 0) rfl
    have v1 := HV.cell (j := 1) rfl
    have v2 := HV.cell (j := 2) rfl
    have f0 := HV.frozen 0
    have f1 := HV.frozen 1
    have f2 := HV.frozen 2
    have HB := hid bx
    have HY := hid by_
    have HZ := hid bz
    have HKW := hid KW
    have HC := hid C
    have KS : Keeps (· = w.heap.size + 1) w2 (((w2.setCell ⟨w.heap.size + 1, 0, none⟩ (.int .i64 x)).setCell ⟨w.heap.size + 1, 1, none⟩ (.int .i64 y)).setCell ⟨w.heap.size + 1, 2, none⟩ (.int .i64 z)) :=
      (((Keeps.refl (fun b => b = w.heap.size + 1) w2).set ⟨w.heap.size + 1, 0, none⟩ _ rfl).set ⟨w.heap.size + 1, 1, none⟩ _ rfl).set ⟨w.heap.size + 1, 2, none⟩ _ rfl
    have HKS := hid KS
    clear KS bx by_ bz KW C HV hf
    refine wpTail_plain rfl fun K hK => ?_
    go_simp
    refine hK _ _ (wpTail_nil ?_)
    clear hK K
    go_wp2_with fail
    refine bodyPost_ret (v := .agg #[.int .i64 x, .int .i64 y, .int .i64 z]) (by simp [results, Tryd.results51, go_sem, v0, v1, v2]) rfl ⟨⟨x, y, z⟩, rfl, HB.out, HY.out, HZ.out, ?_, ?_⟩
    · exact HC.out.keeps HKS.out (by have := HG.out; omega) (fun b o ha h0 => by have := HA.out b o ha h0; omega)
    · exact HKW.out.hide HKS.out (by omega)
end Go.Proofs.YtggjheapjklhgaaDoor

/- The reference's draw of a command. -/
namespace Go.Proofs.YtggjheapjklhgaaDoor
open Go.RowKit
theorem cmdOk_drawn {G : Geo} (hgo : gOk G = true) {k : Int} (hk : 1 ≤ k ∧ k ≤ 9) {D : Adr} (hb : 0 ≤ D.b ∧ D.b < bankN G) (hr : 0 ≤ D.r ∧ D.r < G.r) (hc : 0 ≤ D.c ∧ D.c < G.c) {ub ur uc : Bool} (h1 : usesB k = ub) (h2 : usesR k = ur) (h3 : usesC k = uc) :
    cmdOk G ⟨k, if ub = true then D.b else 0, if ur = true then D.r else 0, if uc = true then D.c else 0⟩ = true := by
  unfold cmdOk
  rw [hgo, Bool.true_and, wellF_iff]
  subst h1 h2 h3
  refine ⟨hk, ⟨fun h => ?_, fun h => ?_⟩, ⟨fun h => ?_, fun h => ?_⟩, ⟨fun h => ?_, fun h => ?_⟩⟩ <;> (try replace h : _ = _ := h) <;> simp [h] <;> omega
theorem Keeps.hideGE {S : Nat → Prop} {w w1 w2 : World} (h : Keeps S w w1) (h2 : Keeps (fun b => w.heap.size ≤ b) w1 w2) : Keeps S w w2 :=
  ⟨h2.os.trans h.os, h2.tape.trans h.tape, h2.output.trans h.output, Nat.le_trans h.size h2.size, fun b hb hs => (h2.block b (Nat.lt_of_lt_of_le hb h.size) (fun e => by have : w.heap.size ≤ b := e; omega)).trans (h.block b hb hs)⟩
set_option maxHeartbeats 8000000 in
set_option maxRecDepth 100000 in
theorem l06Cmd_any (g n c : Nat) (a : Option Addr) (G : Geo) (w : World) (hc : Cur w g a n c) (hgo : gOk G = true) :
    Calls Tryd.prog 44 #[.pointer (some ⟨g, 0, none⟩), .agg #[.int .i64 G.a, .int .i64 G.b, .int .i64 G.r, .int .i64 G.c]] w fun e w' => ∃ C : Cmd, e = .returned (.agg #[.int .i64 C.k, .int .i64 C.b, .int .i64 C.r, .int .i64 C.c]) ∧ cmdOk G C = true ∧ Cur w' g a n c ∧ Keeps (· = g) w w' := by
  have HA := hid hc.reads.where_
  have HG := hid hc.lt
  have HC := hid hc
  have HGO := hid hgo
  have HXG := hid (BoxG.new_ w 32 G rfl)
  clear hc hgo
  go_enter Tryd.func44, Tryd.ntmps44
  go_upto_region 1 with (fail)
  refine wp_world (fun w1 hw => ?_)
  have HC := hid (show Cur w1 g a n c by rw [hw.out]; exact HC.out.old (below_alloc2 _ _ _))
  have HR := hid (show Blk w1 (w.heap.size + 1) 40 [.int .i64 0, .int .i64 0, .int .i64 0, .int .i64 0] by rw [hw.out]; simpa using Blk.new (w.alloc (.cells #[.int .i64 G.a, .int .i64 G.b, .int .i64 G.r, .int .i64 G.c] 32)) 40 [.int .i64 0, .int .i64 0, .int .i64 0, .int .i64 0])
  have HK := hid (show Keeps (· = g) w w1 by rw [hw.out]; exact Keeps.of_below (below_alloc2 _ _ _))
  have HXG := hid (show BoxG w1 w.heap.size G by rw [hw.out]; exact HXG.out.old (below_alloc _ _))
  have S1 := hid HR.out.lt
  clear hw
  go_wp2_with fail
  refine (l01Below_any _ _ _ _ _ _ HC.out (by omega)).mono ?_
  rintro e w2 ⟨r1, rfl, p1, q1, C, K⟩
  have q1 := q1 (by omega)
  have s1 : IntKind.i64.wrap (1 + r1) = 1 + r1 := IntWalk.i64_in _ (by omega)
  have HC := hid C
  have HR := hid (HR.out.keeps K (by have := HG.out; omega))
  have HXG := hid (HXG.out.keeps K (by have := HG.out; omega))
  have S2 := hid K.size
  have HK := hid (HK.out.trans K)
  clear C K
  go_upto_region 2 with (fail)
  refine wp_world (fun w3 hw => ?_)
  obtain ⟨k1, hk1⟩ : ∃ k1 : Int, 1 + r1 = k1 := ⟨_, rfl⟩
  rw [hk1] at hw
  have hk9 : 1 ≤ k1 ∧ k1 ≤ 9 := by omega
  have HX := hid (show Blk w3 w2.heap.size 40 [.int .i64 k1, .int .i64 0, .int .i64 0, .int .i64 0] by rw [hw.out]; exact Blk.new _ _ _)
  have B : Below w2.heap.size w2 w3 := by rw [hw.out]; exact below_alloc _ _
  have HC := hid (HC.out.old B)
  have HR := hid (HR.out.old B)
  have HXG := hid (HXG.out.old B)
  have HK := hid (HK.out.trans (Keeps.of_below B))
  have S3 := hid HX.out.lt
  clear hw B s1 hk1 p1 q1
  obtain ⟨_, g0, g1, g2, g3⟩ := HXG.out
  go_wp2_with fail
  clear g0 g1 g2 g3
  refine (l03Addr_any _ _ _ _ G _ HC.out HGO.out).mono ?_
  rintro e w4 ⟨D, rfl, b1, b2, b3, C, K⟩
  have HB1 := hid b1
  have HB2 := hid b2
  have HB3 := hid b3
  have HC := hid C
  have HR := hid (HR.out.keeps K (by have := HG.out; omega))
  have HX := hid (HX.out.keeps K (by have := HG.out; have := S1.out; have := S2.out; omega))
  have S4 := hid K.size
  have HK := hid (HK.out.trans K)
  clear C K b1 b2 b3
  go_upto_region 3 with (fail)
  refine wp_world (fun w5 hw => ?_)
  have HD := hid (show Blk w5 w4.heap.size 86 [.int .i64 D.b, .int .i64 D.r, .int .i64 D.c] by rw [hw.out]; exact Blk.new _ _ _)
  have B : Below w4.heap.size w4 w5 := by rw [hw.out]; exact below_alloc _ _
  have HC := hid (HC.out.old B)
  have HR := hid (HR.out.old B)
  have HX := hid (HX.out.old B)
  have HK := hid (HK.out.trans (Keeps.of_below B))
  clear hw B
  have n1 : ¬ w2.heap.size = w4.heap.size := by have := S3.out; have := S4.out; omega
  have n2 : ¬ w2.heap.size = w.heap.size + 1 := by have := S1.out; have := S2.out; omega
  have n3 : ¬ w4.heap.size = w.heap.size + 1 := by have := S1.out; have := S2.out; have := S3.out; have := S4.out; omega
  have n4 : w.heap.size ≤ w2.heap.size := by have := S1.out; have := S2.out; omega
  generalize w2.heap.size = p5 at *
  generalize w4.heap.size = p6 at *
  have n5 : w.heap.size ≤ w.heap.size + 1 := by omega
  have m1 := Ne.symm n1
  have m2 := Ne.symm n2
  have m3 := Ne.symm n3
  have x0 := HX.out.cell (j := 0) rfl
  go_wp2_with fail
  refine (l06Uses_any _ _).mono ?_
  rintro e w6 ⟨rfl, rfl⟩
  obtain ⟨ub, hub⟩ : ∃ ub, usesB k1 = ub := ⟨_, rfl⟩
  obtain ⟨ur, hur⟩ : ∃ ur, usesR k1 = ur := ⟨_, rfl⟩
  obtain ⟨uc, huc⟩ : ∃ uc, usesC k1 = uc := ⟨_, rfl⟩
  rw [hub, hur, huc]
  have HU := hid (cmdOk_drawn HGO.out hk9 HB1.out HB2.out HB3.out hub hur huc)
  clear hub hur huc
  have x1 := HX.out.cell (j := 1) rfl
  have x2 := HX.out.cell (j := 2) rfl
  have x3 := HX.out.cell (j := 3) rfl
  have y0 := HX.out.frozen 0
  have y1 := HX.out.frozen 1
  have y2 := HX.out.frozen 2
  have y3 := HX.out.frozen 3
  have d0 := HD.out.cell (j := 0) rfl
  have d1 := HD.out.cell (j := 1) rfl
  have d2 := HD.out.cell (j := 2) rfl
  have r0 := HR.out.cell (j := 0) rfl
  have r1 := HR.out.cell (j := 1) rfl
  have r2 := HR.out.cell (j := 2) rfl
  have r3 := HR.out.cell (j := 3) rfl
  have z0 := HR.out.frozen 0
  have z1 := HR.out.frozen 1
  have z2 := HR.out.frozen 2
  have z3 := HR.out.frozen 3
  cases ub <;> cases ur <;> cases uc
  · have HU2 : Hid (cmdOk G ⟨k1, 0, 0, 0⟩ = true) := hid (by have h := HU.out; simp only [if_false, Bool.false_eq_true] at h; exact h)
    clear HU
    go_upto_region 10 with (fail)
    refine wp_world (fun w7 hw => ?_)
    have HX7 := hid (show Blk w7 p5 40 [.int .i64 k1, .int .i64 0, .int .i64 0, .int .i64 0] by rw [hw.out]; exact HX.out)
    have HK7 := hid (show Keeps (fun q => q = p5) _ w7 by rw [hw.out]; exact Keeps.refl (fun q => q = p5) _)
    clear x0 x1 x2 x3 y0 y1 y2 y3 d0 d1 d2 r0 r1 r2 r3 z0 z1 z2 z3 hw
    have HR7 := hid (HR.out.keeps HK7.out (by omega))
    have HC7 := hid (HC.out.keeps HK7.out (by have := HG.out; omega) (fun b o ha h0 => by have := HA.out b o ha h0; omega))
    have HK8 := hid (HK.out.hide HK7.out n4)
    clear HR HC HK HK7 HX HD
    have x0 := HX7.out.cell (j := 0) rfl
    have x1 := HX7.out.cell (j := 1) rfl
    have x2 := HX7.out.cell (j := 2) rfl
    have x3 := HX7.out.cell (j := 3) rfl
    have r0 := HR7.out.cell (j := 0) rfl
    have r1 := HR7.out.cell (j := 1) rfl
    have r2 := HR7.out.cell (j := 2) rfl
    have r3 := HR7.out.cell (j := 3) rfl
    have z0 := HR7.out.frozen 0
    have z1 := HR7.out.frozen 1
    have z2 := HR7.out.frozen 2
    have z3 := HR7.out.frozen 3
    have HKS := hid (show Keeps (· = w.heap.size + 1) w7 ((((w7.setCell ⟨w.heap.size + 1, 0, none⟩ (.int .i64 k1)).setCell ⟨w.heap.size + 1, 1, none⟩ (.int .i64 0)).setCell ⟨w.heap.size + 1, 2, none⟩ (.int .i64 0)).setCell ⟨w.heap.size + 1, 3, none⟩ (.int .i64 0)) from ((((Keeps.refl (fun q => q = w.heap.size + 1) w7).set ⟨w.heap.size + 1, 0, none⟩ _ rfl).set ⟨w.heap.size + 1, 1, none⟩ _ rfl).set ⟨w.heap.size + 1, 2, none⟩ _ rfl).set ⟨w.heap.size + 1, 3, none⟩ _ rfl)
    go_wp2_with fail
    refine bodyPost_ret (v := .agg #[.int .i64 k1, .int .i64 0, .int .i64 0, .int .i64 0]) (by simp [results, Tryd.results44, go_sem, r0, r1, r2, r3]) rfl ⟨⟨k1, 0, 0, 0⟩, rfl, HU2.out, ?_, ?_⟩
    · exact HC7.out.keeps HKS.out (by have := HG.out; omega) (fun b o ha h0 => by have := HA.out b o ha h0; omega)
    · exact HK8.out.hide HKS.out n5
  · have HU2 : Hid (cmdOk G ⟨k1, 0, 0, D.c⟩ = true) := hid (by have h := HU.out; simp only [if_true, if_false, Bool.false_eq_true] at h; exact h)
    clear HU
    go_upto_region 10 with (fail)
    refine wp_world (fun w7 hw => ?_)
    have HX7 := hid (show Blk w7 p5 40 [.int .i64 k1, .int .i64 0, .int .i64 0, .int .i64 D.c] by rw [hw.out]; exact (HX.out.set 3 (.int .i64 D.c)).1)
    have HK7 := hid (show Keeps (fun q => q = p5) _ w7 by rw [hw.out]; exact (Keeps.refl (fun q => q = p5) _).set ⟨p5, 3, none⟩ _ rfl)
    clear x0 x1 x2 x3 y0 y1 y2 y3 d0 d1 d2 r0 r1 r2 r3 z0 z1 z2 z3 hw
    have HR7 := hid (HR.out.keeps HK7.out (by omega))
    have HC7 := hid (HC.out.keeps HK7.out (by have := HG.out; omega) (fun b o ha h0 => by have := HA.out b o ha h0; omega))
    have HK8 := hid (HK.out.hide HK7.out n4)
    clear HR HC HK HK7 HX HD
    have x0 := HX7.out.cell (j := 0) rfl
    have x1 := HX7.out.cell (j := 1) rfl
    have x2 := HX7.out.cell (j := 2) rfl
    have x3 := HX7.out.cell (j := 3) rfl
    have r0 := HR7.out.cell (j := 0) rfl
    have r1 := HR7.out.cell (j := 1) rfl
    have r2 := HR7.out.cell (j := 2) rfl
    have r3 := HR7.out.cell (j := 3) rfl
    have z0 := HR7.out.frozen 0
    have z1 := HR7.out.frozen 1
    have z2 := HR7.out.frozen 2
    have z3 := HR7.out.frozen 3
    have HKS := hid (show Keeps (· = w.heap.size + 1) w7 ((((w7.setCell ⟨w.heap.size + 1, 0, none⟩ (.int .i64 k1)).setCell ⟨w.heap.size + 1, 1, none⟩ (.int .i64 0)).setCell ⟨w.heap.size + 1, 2, none⟩ (.int .i64 0)).setCell ⟨w.heap.size + 1, 3, none⟩ (.int .i64 D.c)) from ((((Keeps.refl (fun q => q = w.heap.size + 1) w7).set ⟨w.heap.size + 1, 0, none⟩ _ rfl).set ⟨w.heap.size + 1, 1, none⟩ _ rfl).set ⟨w.heap.size + 1, 2, none⟩ _ rfl).set ⟨w.heap.size + 1, 3, none⟩ _ rfl)
    go_wp2_with fail
    refine bodyPost_ret (v := .agg #[.int .i64 k1, .int .i64 0, .int .i64 0, .int .i64 D.c]) (by simp [results, Tryd.results44, go_sem, r0, r1, r2, r3]) rfl ⟨⟨k1, 0, 0, D.c⟩, rfl, HU2.out, ?_, ?_⟩
    · exact HC7.out.keeps HKS.out (by have := HG.out; omega) (fun b o ha h0 => by have := HA.out b o ha h0; omega)
    · exact HK8.out.hide HKS.out n5
  · have HU2 : Hid (cmdOk G ⟨k1, 0, D.r, 0⟩ = true) := hid (by have h := HU.out; simp only [if_true, if_false, Bool.false_eq_true] at h; exact h)
    clear HU
    go_upto_region 10 with (fail)
    refine wp_world (fun w7 hw => ?_)
    have HX7 := hid (show Blk w7 p5 40 [.int .i64 k1, .int .i64 0, .int .i64 D.r, .int .i64 0] by rw [hw.out]; exact (HX.out.set 2 (.int .i64 D.r)).1)
    have HK7 := hid (show Keeps (fun q => q = p5) _ w7 by rw [hw.out]; exact (Keeps.refl (fun q => q = p5) _).set ⟨p5, 2, none⟩ _ rfl)
    clear x0 x1 x2 x3 y0 y1 y2 y3 d0 d1 d2 r0 r1 r2 r3 z0 z1 z2 z3 hw
    have HR7 := hid (HR.out.keeps HK7.out (by omega))
    have HC7 := hid (HC.out.keeps HK7.out (by have := HG.out; omega) (fun b o ha h0 => by have := HA.out b o ha h0; omega))
    have HK8 := hid (HK.out.hide HK7.out n4)
    clear HR HC HK HK7 HX HD
    have x0 := HX7.out.cell (j := 0) rfl
    have x1 := HX7.out.cell (j := 1) rfl
    have x2 := HX7.out.cell (j := 2) rfl
    have x3 := HX7.out.cell (j := 3) rfl
    have r0 := HR7.out.cell (j := 0) rfl
    have r1 := HR7.out.cell (j := 1) rfl
    have r2 := HR7.out.cell (j := 2) rfl
    have r3 := HR7.out.cell (j := 3) rfl
    have z0 := HR7.out.frozen 0
    have z1 := HR7.out.frozen 1
    have z2 := HR7.out.frozen 2
    have z3 := HR7.out.frozen 3
    have HKS := hid (show Keeps (· = w.heap.size + 1) w7 ((((w7.setCell ⟨w.heap.size + 1, 0, none⟩ (.int .i64 k1)).setCell ⟨w.heap.size + 1, 1, none⟩ (.int .i64 0)).setCell ⟨w.heap.size + 1, 2, none⟩ (.int .i64 D.r)).setCell ⟨w.heap.size + 1, 3, none⟩ (.int .i64 0)) from ((((Keeps.refl (fun q => q = w.heap.size + 1) w7).set ⟨w.heap.size + 1, 0, none⟩ _ rfl).set ⟨w.heap.size + 1, 1, none⟩ _ rfl).set ⟨w.heap.size + 1, 2, none⟩ _ rfl).set ⟨w.heap.size + 1, 3, none⟩ _ rfl)
    go_wp2_with fail
    refine bodyPost_ret (v := .agg #[.int .i64 k1, .int .i64 0, .int .i64 D.r, .int .i64 0]) (by simp [results, Tryd.results44, go_sem, r0, r1, r2, r3]) rfl ⟨⟨k1, 0, D.r, 0⟩, rfl, HU2.out, ?_, ?_⟩
    · exact HC7.out.keeps HKS.out (by have := HG.out; omega) (fun b o ha h0 => by have := HA.out b o ha h0; omega)
    · exact HK8.out.hide HKS.out n5
  · have HU2 : Hid (cmdOk G ⟨k1, 0, D.r, D.c⟩ = true) := hid (by have h := HU.out; simp only [if_true, if_false, Bool.false_eq_true] at h; exact h)
    clear HU
    go_upto_region 10 with (fail)
    refine wp_world (fun w7 hw => ?_)
    have HX7 := hid (show Blk w7 p5 40 [.int .i64 k1, .int .i64 0, .int .i64 D.r, .int .i64 D.c] by rw [hw.out]; exact ((HX.out.set 2 (.int .i64 D.r)).1.set 3 (.int .i64 D.c)).1)
    have HK7 := hid (show Keeps (fun q => q = p5) _ w7 by rw [hw.out]; exact ((Keeps.refl (fun q => q = p5) _).set ⟨p5, 2, none⟩ _ rfl).set ⟨p5, 3, none⟩ _ rfl)
    clear x0 x1 x2 x3 y0 y1 y2 y3 d0 d1 d2 r0 r1 r2 r3 z0 z1 z2 z3 hw
    have HR7 := hid (HR.out.keeps HK7.out (by omega))
    have HC7 := hid (HC.out.keeps HK7.out (by have := HG.out; omega) (fun b o ha h0 => by have := HA.out b o ha h0; omega))
    have HK8 := hid (HK.out.hide HK7.out n4)
    clear HR HC HK HK7 HX HD
    have x0 := HX7.out.cell (j := 0) rfl
    have x1 := HX7.out.cell (j := 1) rfl
    have x2 := HX7.out.cell (j := 2) rfl
    have x3 := HX7.out.cell (j := 3) rfl
    have r0 := HR7.out.cell (j := 0) rfl
    have r1 := HR7.out.cell (j := 1) rfl
    have r2 := HR7.out.cell (j := 2) rfl
    have r3 := HR7.out.cell (j := 3) rfl
    have z0 := HR7.out.frozen 0
    have z1 := HR7.out.frozen 1
    have z2 := HR7.out.frozen 2
    have z3 := HR7.out.frozen 3
    have HKS := hid (show Keeps (· = w.heap.size + 1) w7 ((((w7.setCell ⟨w.heap.size + 1, 0, none⟩ (.int .i64 k1)).setCell ⟨w.heap.size + 1, 1, none⟩ (.int .i64 0)).setCell ⟨w.heap.size + 1, 2, none⟩ (.int .i64 D.r)).setCell ⟨w.heap.size + 1, 3, none⟩ (.int .i64 D.c)) from ((((Keeps.refl (fun q => q = w.heap.size + 1) w7).set ⟨w.heap.size + 1, 0, none⟩ _ rfl).set ⟨w.heap.size + 1, 1, none⟩ _ rfl).set ⟨w.heap.size + 1, 2, none⟩ _ rfl).set ⟨w.heap.size + 1, 3, none⟩ _ rfl)
    go_wp2_with fail
    refine bodyPost_ret (v := .agg #[.int .i64 k1, .int .i64 0, .int .i64 D.r, .int .i64 D.c]) (by simp [results, Tryd.results44, go_sem, r0, r1, r2, r3]) rfl ⟨⟨k1, 0, D.r, D.c⟩, rfl, HU2.out, ?_, ?_⟩
    · exact HC7.out.keeps HKS.out (by have := HG.out; omega) (fun b o ha h0 => by have := HA.out b o ha h0; omega)
    · exact HK8.out.hide HKS.out n5
  · have HU2 : Hid (cmdOk G ⟨k1, D.b, 0, 0⟩ = true) := hid (by have h := HU.out; simp only [if_true, if_false, Bool.false_eq_true] at h; exact h)
    clear HU
    go_upto_region 10 with (fail)
    refine wp_world (fun w7 hw => ?_)
    have HX7 := hid (show Blk w7 p5 40 [.int .i64 k1, .int .i64 D.b, .int .i64 0, .int .i64 0] by rw [hw.out]; exact (HX.out.set 1 (.int .i64 D.b)).1)
    have HK7 := hid (show Keeps (fun q => q = p5) _ w7 by rw [hw.out]; exact (Keeps.refl (fun q => q = p5) _).set ⟨p5, 1, none⟩ _ rfl)
    clear x0 x1 x2 x3 y0 y1 y2 y3 d0 d1 d2 r0 r1 r2 r3 z0 z1 z2 z3 hw
    have HR7 := hid (HR.out.keeps HK7.out (by omega))
    have HC7 := hid (HC.out.keeps HK7.out (by have := HG.out; omega) (fun b o ha h0 => by have := HA.out b o ha h0; omega))
    have HK8 := hid (HK.out.hide HK7.out n4)
    clear HR HC HK HK7 HX HD
    have x0 := HX7.out.cell (j := 0) rfl
    have x1 := HX7.out.cell (j := 1) rfl
    have x2 := HX7.out.cell (j := 2) rfl
    have x3 := HX7.out.cell (j := 3) rfl
    have r0 := HR7.out.cell (j := 0) rfl
    have r1 := HR7.out.cell (j := 1) rfl
    have r2 := HR7.out.cell (j := 2) rfl
    have r3 := HR7.out.cell (j := 3) rfl
    have z0 := HR7.out.frozen 0
    have z1 := HR7.out.frozen 1
    have z2 := HR7.out.frozen 2
    have z3 := HR7.out.frozen 3
    have HKS := hid (show Keeps (· = w.heap.size + 1) w7 ((((w7.setCell ⟨w.heap.size + 1, 0, none⟩ (.int .i64 k1)).setCell ⟨w.heap.size + 1, 1, none⟩ (.int .i64 D.b)).setCell ⟨w.heap.size + 1, 2, none⟩ (.int .i64 0)).setCell ⟨w.heap.size + 1, 3, none⟩ (.int .i64 0)) from ((((Keeps.refl (fun q => q = w.heap.size + 1) w7).set ⟨w.heap.size + 1, 0, none⟩ _ rfl).set ⟨w.heap.size + 1, 1, none⟩ _ rfl).set ⟨w.heap.size + 1, 2, none⟩ _ rfl).set ⟨w.heap.size + 1, 3, none⟩ _ rfl)
    go_wp2_with fail
    refine bodyPost_ret (v := .agg #[.int .i64 k1, .int .i64 D.b, .int .i64 0, .int .i64 0]) (by simp [results, Tryd.results44, go_sem, r0, r1, r2, r3]) rfl ⟨⟨k1, D.b, 0, 0⟩, rfl, HU2.out, ?_, ?_⟩
    · exact HC7.out.keeps HKS.out (by have := HG.out; omega) (fun b o ha h0 => by have := HA.out b o ha h0; omega)
    · exact HK8.out.hide HKS.out n5
  · have HU2 : Hid (cmdOk G ⟨k1, D.b, 0, D.c⟩ = true) := hid (by have h := HU.out; simp only [if_true, if_false, Bool.false_eq_true] at h; exact h)
    clear HU
    go_upto_region 10 with (fail)
    refine wp_world (fun w7 hw => ?_)
    have HX7 := hid (show Blk w7 p5 40 [.int .i64 k1, .int .i64 D.b, .int .i64 0, .int .i64 D.c] by rw [hw.out]; exact ((HX.out.set 1 (.int .i64 D.b)).1.set 3 (.int .i64 D.c)).1)
    have HK7 := hid (show Keeps (fun q => q = p5) _ w7 by rw [hw.out]; exact ((Keeps.refl (fun q => q = p5) _).set ⟨p5, 1, none⟩ _ rfl).set ⟨p5, 3, none⟩ _ rfl)
    clear x0 x1 x2 x3 y0 y1 y2 y3 d0 d1 d2 r0 r1 r2 r3 z0 z1 z2 z3 hw
    have HR7 := hid (HR.out.keeps HK7.out (by omega))
    have HC7 := hid (HC.out.keeps HK7.out (by have := HG.out; omega) (fun b o ha h0 => by have := HA.out b o ha h0; omega))
    have HK8 := hid (HK.out.hide HK7.out n4)
    clear HR HC HK HK7 HX HD
    have x0 := HX7.out.cell (j := 0) rfl
    have x1 := HX7.out.cell (j := 1) rfl
    have x2 := HX7.out.cell (j := 2) rfl
    have x3 := HX7.out.cell (j := 3) rfl
    have r0 := HR7.out.cell (j := 0) rfl
    have r1 := HR7.out.cell (j := 1) rfl
    have r2 := HR7.out.cell (j := 2) rfl
    have r3 := HR7.out.cell (j := 3) rfl
    have z0 := HR7.out.frozen 0
    have z1 := HR7.out.frozen 1
    have z2 := HR7.out.frozen 2
    have z3 := HR7.out.frozen 3
    have HKS := hid (show Keeps (· = w.heap.size + 1) w7 ((((w7.setCell ⟨w.heap.size + 1, 0, none⟩ (.int .i64 k1)).setCell ⟨w.heap.size + 1, 1, none⟩ (.int .i64 D.b)).setCell ⟨w.heap.size + 1, 2, none⟩ (.int .i64 0)).setCell ⟨w.heap.size + 1, 3, none⟩ (.int .i64 D.c)) from ((((Keeps.refl (fun q => q = w.heap.size + 1) w7).set ⟨w.heap.size + 1, 0, none⟩ _ rfl).set ⟨w.heap.size + 1, 1, none⟩ _ rfl).set ⟨w.heap.size + 1, 2, none⟩ _ rfl).set ⟨w.heap.size + 1, 3, none⟩ _ rfl)
    go_wp2_with fail
    refine bodyPost_ret (v := .agg #[.int .i64 k1, .int .i64 D.b, .int .i64 0, .int .i64 D.c]) (by simp [results, Tryd.results44, go_sem, r0, r1, r2, r3]) rfl ⟨⟨k1, D.b, 0, D.c⟩, rfl, HU2.out, ?_, ?_⟩
    · exact HC7.out.keeps HKS.out (by have := HG.out; omega) (fun b o ha h0 => by have := HA.out b o ha h0; omega)
    · exact HK8.out.hide HKS.out n5
  · have HU2 : Hid (cmdOk G ⟨k1, D.b, D.r, 0⟩ = true) := hid (by have h := HU.out; simp only [if_true, if_false, Bool.false_eq_true] at h; exact h)
    clear HU
    go_upto_region 10 with (fail)
    refine wp_world (fun w7 hw => ?_)
    have HX7 := hid (show Blk w7 p5 40 [.int .i64 k1, .int .i64 D.b, .int .i64 D.r, .int .i64 0] by rw [hw.out]; exact ((HX.out.set 1 (.int .i64 D.b)).1.set 2 (.int .i64 D.r)).1)
    have HK7 := hid (show Keeps (fun q => q = p5) _ w7 by rw [hw.out]; exact ((Keeps.refl (fun q => q = p5) _).set ⟨p5, 1, none⟩ _ rfl).set ⟨p5, 2, none⟩ _ rfl)
    clear x0 x1 x2 x3 y0 y1 y2 y3 d0 d1 d2 r0 r1 r2 r3 z0 z1 z2 z3 hw
    have HR7 := hid (HR.out.keeps HK7.out (by omega))
    have HC7 := hid (HC.out.keeps HK7.out (by have := HG.out; omega) (fun b o ha h0 => by have := HA.out b o ha h0; omega))
    have HK8 := hid (HK.out.hide HK7.out n4)
    clear HR HC HK HK7 HX HD
    have x0 := HX7.out.cell (j := 0) rfl
    have x1 := HX7.out.cell (j := 1) rfl
    have x2 := HX7.out.cell (j := 2) rfl
    have x3 := HX7.out.cell (j := 3) rfl
    have r0 := HR7.out.cell (j := 0) rfl
    have r1 := HR7.out.cell (j := 1) rfl
    have r2 := HR7.out.cell (j := 2) rfl
    have r3 := HR7.out.cell (j := 3) rfl
    have z0 := HR7.out.frozen 0
    have z1 := HR7.out.frozen 1
    have z2 := HR7.out.frozen 2
    have z3 := HR7.out.frozen 3
    have HKS := hid (show Keeps (· = w.heap.size + 1) w7 ((((w7.setCell ⟨w.heap.size + 1, 0, none⟩ (.int .i64 k1)).setCell ⟨w.heap.size + 1, 1, none⟩ (.int .i64 D.b)).setCell ⟨w.heap.size + 1, 2, none⟩ (.int .i64 D.r)).setCell ⟨w.heap.size + 1, 3, none⟩ (.int .i64 0)) from ((((Keeps.refl (fun q => q = w.heap.size + 1) w7).set ⟨w.heap.size + 1, 0, none⟩ _ rfl).set ⟨w.heap.size + 1, 1, none⟩ _ rfl).set ⟨w.heap.size + 1, 2, none⟩ _ rfl).set ⟨w.heap.size + 1, 3, none⟩ _ rfl)
    go_wp2_with fail
    refine bodyPost_ret (v := .agg #[.int .i64 k1, .int .i64 D.b, .int .i64 D.r, .int .i64 0]) (by simp [results, Tryd.results44, go_sem, r0, r1, r2, r3]) rfl ⟨⟨k1, D.b, D.r, 0⟩, rfl, HU2.out, ?_, ?_⟩
    · exact HC7.out.keeps HKS.out (by have := HG.out; omega) (fun b o ha h0 => by have := HA.out b o ha h0; omega)
    · exact HK8.out.hide HKS.out n5
  · have HU2 : Hid (cmdOk G ⟨k1, D.b, D.r, D.c⟩ = true) := hid (by have h := HU.out; simp only [if_true] at h; exact h)
    clear HU
    go_upto_region 10 with (fail)
    refine wp_world (fun w7 hw => ?_)
    have HX7 := hid (show Blk w7 p5 40 [.int .i64 k1, .int .i64 D.b, .int .i64 D.r, .int .i64 D.c] by rw [hw.out]; exact (((HX.out.set 1 (.int .i64 D.b)).1.set 2 (.int .i64 D.r)).1.set 3 (.int .i64 D.c)).1)
    have HK7 := hid (show Keeps (fun q => q = p5) _ w7 by rw [hw.out]; exact (((Keeps.refl (fun q => q = p5) _).set ⟨p5, 1, none⟩ _ rfl).set ⟨p5, 2, none⟩ _ rfl).set ⟨p5, 3, none⟩ _ rfl)
    clear x0 x1 x2 x3 y0 y1 y2 y3 d0 d1 d2 r0 r1 r2 r3 z0 z1 z2 z3 hw
    have HR7 := hid (HR.out.keeps HK7.out (by omega))
    have HC7 := hid (HC.out.keeps HK7.out (by have := HG.out; omega) (fun b o ha h0 => by have := HA.out b o ha h0; omega))
    have HK8 := hid (HK.out.hide HK7.out n4)
    clear HR HC HK HK7 HX HD
    have x0 := HX7.out.cell (j := 0) rfl
    have x1 := HX7.out.cell (j := 1) rfl
    have x2 := HX7.out.cell (j := 2) rfl
    have x3 := HX7.out.cell (j := 3) rfl
    have r0 := HR7.out.cell (j := 0) rfl
    have r1 := HR7.out.cell (j := 1) rfl
    have r2 := HR7.out.cell (j := 2) rfl
    have r3 := HR7.out.cell (j := 3) rfl
    have z0 := HR7.out.frozen 0
    have z1 := HR7.out.frozen 1
    have z2 := HR7.out.frozen 2
    have z3 := HR7.out.frozen 3
    have HKS := hid (show Keeps (· = w.heap.size + 1) w7 ((((w7.setCell ⟨w.heap.size + 1, 0, none⟩ (.int .i64 k1)).setCell ⟨w.heap.size + 1, 1, none⟩ (.int .i64 D.b)).setCell ⟨w.heap.size + 1, 2, none⟩ (.int .i64 D.r)).setCell ⟨w.heap.size + 1, 3, none⟩ (.int .i64 D.c)) from ((((Keeps.refl (fun q => q = w.heap.size + 1) w7).set ⟨w.heap.size + 1, 0, none⟩ _ rfl).set ⟨w.heap.size + 1, 1, none⟩ _ rfl).set ⟨w.heap.size + 1, 2, none⟩ _ rfl).set ⟨w.heap.size + 1, 3, none⟩ _ rfl)
    go_wp2_with fail
    refine bodyPost_ret (v := .agg #[.int .i64 k1, .int .i64 D.b, .int .i64 D.r, .int .i64 D.c]) (by simp [results, Tryd.results44, go_sem, r0, r1, r2, r3]) rfl ⟨⟨k1, D.b, D.r, D.c⟩, rfl, HU2.out, ?_, ?_⟩
    · exact HC7.out.keeps HKS.out (by have := HG.out; omega) (fun b o ha h0 => by have := HA.out b o ha h0; omega)
    · exact HK8.out.hide HKS.out n5
end Go.Proofs.YtggjheapjklhgaaDoor

/- A region that draws its order and changes memory within an invariant 'I' and step by step within 'R': every operation yields a value with 'F' at its world, which 'R' keeps; the tail's operations come in a row. -/
namespace Go.Proofs.YtggjheapjklhgaaDoor
open Go.RowKit
theorem invS_of {P : Program} {id : Nat} {Q : Exit → Act → World → Prop} {a : Act} {w : World} {l : List Oper} (n : Nat) {fr : (Nat → Value) → Act} (F : Nat → Value → World → Prop) (I : World → Prop) (R : World → World → Prop) (hm : P.follows .mixedOrders = true) (hd : depsB l = true) (hn : n ≤ l.length)
    (hlast : tailB l n = true)
    (hfr : ∀ vs, frOf (l.take n) 0 vs a = fr vs) (h0 : ∃ vs, a = fr vs) (hI : I (w.drewN 1)) (hF : ∀ (i : Nat) (v : Value) (w' w'' : World), F i v w' → I w' → R w' w'' → F i v w'')
    (hstep : ∀ (vs : Nat → Value) (w' : World) (i : Nat) (o : Oper), i < n → l[i]? = some o → I w' → (∀ j, (o.after.any fun e => Region.binds .any e && e.on == j) = true → F j (vs j) w') →
      Region.wanted o (yielded l.toArray (fr vs).tmps) = true ∧ o.wp P (fr vs) w' (fun a' w'' => ∃ v, a' = fr (upd vs i v) ∧ F i v w'' ∧ I w'' ∧ R w' w'') Q)
    (hend : ∀ (vs : Nat → Value) (w' : World), I w' → (∀ j, j < n → F j (vs j) w') → wpTail P l.toArray Q (l.drop n) (fr vs) w') :
    (Code.region id l.toArray true).wp P Q a w := by
  have _ := hfr
  have reach : ∀ m i, n ≤ m → m < l.length → i < m → reachB l l.length m i = true := by
    intro m i h1 h2 h3
    unfold tailB at hlast
    have h4 := List.all_eq_true.1 hlast m (List.mem_range.2 h2)
    have h5 := List.all_eq_true.1 h4 i (List.mem_range.2 h3)
    have h6 : decide (m < n) = false := by simp; omega
    rw [h6, Bool.false_or] at h5
    exact h5
  refine wp_region_inv (fun L a w' => (∃ m, n ≤ m ∧ m ≤ l.length ∧ (∀ i, L i = decide (i < m)) ∧ wpTail P l.toArray Q (l.drop m) a w') ∨
    ((∀ i, n ≤ i → L i = false) ∧ (∀ j o, L j = true → l[j]? = some o → ∀ e ∈ o.after, Region.binds .any e = true → L e.on = true) ∧ ∃ vs, a = fr vs ∧ I w' ∧ (∀ i, i < n → L i = true → F i (vs i) w'))) hm hd ?_ ?_ ?_
  · obtain ⟨vs, h0⟩ := h0
    exact .inr ⟨fun _ _ => rfl, (fun j o h => by cases h), vs, h0, hI, fun i _ h => (by cases h)⟩
  · intro L a' w' i o hJ ho hL hdep
    have hi : i < l.length := (List.getElem?_eq_some_iff.1 ho).1
    have dep : ∀ j, (o.after.any fun e => Region.binds .any e && e.on == j) = true → L j = true := fun j hj => dep_of hdep j hj
    have hdrop : l.drop i = o :: l.drop (i + 1) := by
      rw [List.drop_eq_getElem_cons hi]
      have := List.getElem?_eq_getElem hi
      rw [ho] at this
      simp only [Option.some.injEq] at this
      rw [this]
    -- one step of the tail
    have tail : (∀ j, L j = decide (j < i)) → wpTail P l.toArray Q (l.drop i) a' w' → n ≤ i →
        if Region.wanted o (yielded l.toArray a'.tmps) = true then o.wp P a' w' (fun a w' => (∃ m, n ≤ m ∧ m ≤ l.length ∧ (∀ i_1, (i_1 == i || L i_1) = decide (i_1 < m)) ∧ wpTail P l.toArray Q (l.drop m) a w') ∨
          ((∀ j, n ≤ j → (j == i || L j) = false) ∧ (∀ j o, (j == i || L j) = true → l[j]? = some o → ∀ e ∈ o.after, Region.binds .any e = true → (e.on == i || L e.on) = true) ∧ ∃ vs, a = fr vs ∧ I w' ∧ (∀ j, j < n → (j == i || L j) = true → F j (vs j) w'))) Q
        else (∃ m, n ≤ m ∧ m ≤ l.length ∧ (∀ i_1, (i_1 == i || L i_1) = decide (i_1 < m)) ∧ wpTail P l.toArray Q (l.drop m) (a'.put o.dst undef) w') ∨
          ((∀ j, n ≤ j → (j == i || L j) = false) ∧ (∀ j o, (j == i || L j) = true → l[j]? = some o → ∀ e ∈ o.after, Region.binds .any e = true → (e.on == i || L e.on) = true) ∧ ∃ vs, a'.put o.dst undef = fr vs ∧ I w' ∧ (∀ j, j < n → (j == i || L j) = true → F j (vs j) w')) := by
      intro h3 h4 hin
      rw [hdrop] at h4
      have hL' : ∀ j, (j == i || L j) = decide (j < i + 1) := by
        intro j
        rw [h3 j]
        rcases Nat.lt_trichotomy j i with h | h | h
        · simp [h]; omega
        · subst h; simp
        · have e1 : ¬ j = i := by omega
          have e2 : ¬ j < i := by omega
          have e3 : ¬ j < i + 1 := by omega
          simp [e1, e2, e3]
      unfold wpTail at h4
      split
      · rename_i hw
        rw [if_pos hw] at h4
        exact Oper.wp_mono (fun a'' w'' hh => .inl ⟨i + 1, by omega, by omega, hL', hh⟩) h4
      · rename_i hw
        rw [if_neg hw] at h4
        exact .inl ⟨i + 1, by omega, by omega, hL', h4⟩
    rcases hJ with ⟨m, h1, h2, h3, h4⟩ | ⟨h1, hcl, vs, rfl, hb, hf⟩
    · have him : i = m := by
        have e1 : ¬ i < m := by have := h3 i; rw [hL] at this; simpa using this.symm
        rcases Nat.lt_or_ge m i with h | h
        · have hcl : ∀ j o, L j = true → l[j]? = some o → ∀ e ∈ o.after, Region.binds .any e = true → L e.on = true := by
            intro j o' hj ho' e he hbnd
            rw [h3 j] at hj
            have hjm : j < m := by simpa using hj
            unfold depsB at hd
            have q1 := List.all_eq_true.1 hd j (List.mem_range.2 (by omega))
            rw [ho'] at q1
            simp only at q1
            have q2 := Array.all_eq_true'.1 q1 e he
            have q3 : e.on < j := by simpa [hbnd] using q2
            rw [h3 e.on]; simp; omega
          have := reach_of hcl l.length i (fun o' ho' e he hbnd => by rw [ho] at ho'; simp only [Option.some.injEq] at ho'; subst ho'; exact hdep e he hbnd) m (reach i m (by omega) hi h)
          rw [h3 m] at this
          simp at this
        · omega
      subst him
      exact tail h3 h4 h1
    · rcases Nat.lt_or_ge i n with hin | hin
      · have hlow : ∀ j, (o.after.any fun e => Region.binds .any e && e.on == j) = true → j < n := by
          intro j hj
          obtain ⟨e, he, hb⟩ := Array.any_eq_true'.1 hj
          simp only [Bool.and_eq_true, beq_iff_eq] at hb
          unfold depsB at hd
          have h1 := List.all_eq_true.1 hd i (List.mem_range.2 (by omega))
          rw [ho] at h1
          simp only at h1
          have h2 := Array.all_eq_true'.1 h1 e he
          have h3 : e.on < i := by simpa [hb.1] using h2
          omega
        obtain ⟨hw, hs⟩ := hstep vs w' i o hin ho hb (fun j hj => hf j (hlow j hj) (dep j hj))
        rw [if_pos hw]
        refine Oper.wp_mono (fun a'' w'' hh => ?_) hs
        obtain ⟨v, rfl, hv, hb', hR⟩ := hh
        refine .inr ⟨fun j hj => by
          have e1 : ¬ j = i := by omega
          simp [e1, h1 j hj], fun j o' hj ho' e he hbnd => ?_, upd vs i v, rfl, hb', fun j hj hl => ?_⟩
        · by_cases hji : j = i
          · subst hji
            rw [ho] at ho'
            simp only [Option.some.injEq] at ho'
            subst ho'
            simp [hdep e he hbnd]
          · have : L j = true := by simpa [hji] using hj
            simp [hcl j o' this ho' e he hbnd]
        · by_cases hji : j = i
          · subst hji; simpa [upd] using hv
          · have : L j = true := by simpa [hji] using hl
            simpa [upd, hji] using hF j _ _ _ (hf j hj this) hb hR
      · have hall : ∀ j, j < i → L j = true := fun j hj => reach_of hcl l.length i (fun o' ho' e he hbnd => by rw [ho] at ho'; simp only [Option.some.injEq] at ho'; subst ho'; exact hdep e he hbnd) j (reach i j hin hi hj)
        have hni : i = n := by
          rcases Nat.lt_or_ge n i with h | h
          · have := hall n h; rw [h1 n (Nat.le_refl _)] at this; cases this
          · omega
        subst hni
        refine tail (fun j => ?_) (hend vs w' hb (fun j hj => hf j hj (hall j hj))) hin
        rcases Nat.lt_or_ge j i with h | h
        · rw [hall j h]; simp [h]
        · rw [h1 j h]
          have : ¬ j < i := by omega
          simp [this]
  · intro L a' w' hJ hall
    have fin : ∀ a w', wpTail P l.toArray Q (l.drop l.length) a w' → Q .normal a w' := by
      intro a w' h
      rw [List.drop_length] at h
      exact h
    rcases hJ with ⟨m, h1, h2, h3, h4⟩ | ⟨h1, hcl, vs, rfl, hb, hf⟩
    · have hm : m = l.length := by
        rcases Nat.lt_or_ge m l.length with h | h
        · have := hall m h
          rw [h3 m] at this
          simp at this
        · omega
      subst hm
      exact fin _ _ h4
    · rcases Nat.lt_or_ge n l.length with h | h
      · have := hall n h; rw [h1 n (Nat.le_refl _)] at this; cases this
      · have hnl : n = l.length := by omega
        have := hend vs w' hb (fun j hj => hf j hj (hall j (by omega)))
        rw [hnl] at this
        exact fin _ _ this
end Go.Proofs.YtggjheapjklhgaaDoor

/- The reference's draw of a geometry and a command. -/
namespace Go.Proofs.YtggjheapjklhgaaDoor
open Go.RowKit
end Go.Proofs.YtggjheapjklhgaaDoor
