/- The reference's draw of an address. -/
import Derived.Test.YtggjheapjklhgaaDrwG
import Derived.Test.YtggjheapjklhgaaCmdW
namespace Go.Proofs.Ytggjheapjklhgaa
open Go.RowKit
theorem BoxG.keeps {S : Nat → Prop} {w w' : World} {g : Nat} {G : Geo} (h : BoxG w g G) (hk : Keeps S w w') (hs : ¬ S g) : BoxG w' g G := by
  obtain ⟨l, c0, c1, c2, c3⟩ := h
  have e := hk.block g l hs
  exact ⟨Nat.lt_of_lt_of_le l hk.size, (World.cell?_of_block (w := w) (a := ⟨g, 0, none⟩) e).trans c0, (World.cell?_of_block (w := w) (a := ⟨g, 1, none⟩) e).trans c1, (World.cell?_of_block (w := w) (a := ⟨g, 2, none⟩) e).trans c2, (World.cell?_of_block (w := w) (a := ⟨g, 3, none⟩) e).trans c3⟩
set_option maxRecDepth 100000 in
theorem l03Addr_any (g n c : Nat) (a : Option Addr) (G : Geo) (w : World) (hc : Cur w g a n c) (hgo : gOk G = true) :
    Calls Try.prog 122 #[.pointer (some ⟨g, 0, none⟩), .agg #[.int .i64 G.a, .int .i64 G.b, .int .i64 G.r, .int .i64 G.c]] w fun e w' => ∃ D : Adr, e = .returned (.agg #[.int .i64 D.b, .int .i64 D.r, .int .i64 D.c]) ∧ (0 ≤ D.b ∧ D.b < bankN G) ∧ (0 ≤ D.r ∧ D.r < G.r) ∧ (0 ≤ D.c ∧ D.c < G.c) ∧ Cur w' g a n c ∧ Keeps (· = g) w w' := by
  have HA := hid hc.reads.where_
  have HG := hid hc.lt
  have HC := hid hc
  have HBN := hid (bankN_pos hgo)
  have HBD := hid (bankN_bd G)
  have HGO := hid (gOk_iff.1 hgo)
  have HXG := hid (BoxG.new_ w 25 G rfl)
  clear hc hgo
  go_enter Try.func122, Try.ntmps122
  go_upto_region 1 with (fail)
  refine wp_world (fun w1 hw => ?_)
  have I1 : Hid (Cur w1 g a n c ∧ BoxG w1 w.heap.size G ∧ Blk w1 (w.heap.size + 1) 138 [.int .i64 0, .int .i64 0, .int .i64 0] ∧ Keeps (fun b => b = g) w w1) := hid (by
    rw [hw.out]
    exact ⟨HC.out.old (below_alloc2 _ _ _), HXG.out.old (below_alloc _ _), by simpa using Blk.new (w.alloc (.cells #[.int .i64 G.a, .int .i64 G.b, .int .i64 G.r, .int .i64 G.c] 25)) 138 [.int .i64 0, .int .i64 0, .int .i64 0], Keeps.of_below (below_alloc2 _ _ _)⟩)
  clear hw HXG HC
  refine invR_of 13 (fr := ?fr1)
    (fun i v => match i with
      | 0 => v = .pointer (some ⟨g, 0, none⟩)
      | 1 => v = .agg #[.int .i64 G.a, .int .i64 G.b, .int .i64 G.r, .int .i64 G.c]
      | 2 => v = .int .i64 (bankN G)
      | 3 => ∃ r : Int, v = .int .i64 r ∧ 0 ≤ r ∧ r < bankN G
      | 4 => v = .pointer (some ⟨g, 0, none⟩)
      | 5 => v = .pointer (some ⟨w.heap.size, 2, none⟩)
      | 6 => v = .int .i64 G.r
      | 7 => ∃ r : Int, v = .int .i64 r ∧ 0 ≤ r ∧ r < G.r
      | 8 => v = .pointer (some ⟨g, 0, none⟩)
      | 9 => v = .pointer (some ⟨w.heap.size, 3, none⟩)
      | 10 => v = .int .i64 G.c
      | 11 => ∃ r : Int, v = .int .i64 r ∧ 0 ≤ r ∧ r < G.c
      | _ => ∃ x y z : Int, v = .agg #[.int .i64 x, .int .i64 y, .int .i64 z] ∧ (0 ≤ x ∧ x < bankN G) ∧ (0 ≤ y ∧ y < G.r) ∧ (0 ≤ z ∧ z < G.c)
    ) (fun w' => Cur w' g a n c ∧ BoxG w' w.heap.size G ∧ Blk w' (w.heap.size + 1) 138 [.int .i64 0, .int .i64 0, .int .i64 0] ∧ Keeps (fun b => b = g) w w')
    (by kernel_rfl) (by kernel_rfl) (by decide) (by kernel_rfl) ?hfr1 ⟨fun _ => undef, ?h01⟩ ?hI1 ?hstep1 ?hend1
  case hfr1 => intro vs; simp only [frOf, List.take_succ_cons, List.take_zero]; go_simp; exact rfl
  case h01 => rfl
  case hI1 => exact ⟨I1.out.1.drewN 1, I1.out.2.1.old (below_ofDrewN _ _ 1), I1.out.2.2.1, I1.out.2.2.2.drewN 1⟩
  case hstep1 =>
    intro vs w2 i o hin ho hI hd
    match i, ho, hin with
    | 0, ho, _ =>
      simp only [List.getElem?_cons_zero, Option.some.injEq] at ho
      subst ho
      refine ⟨wanted_none rfl, ?_⟩
      generalize hK : (fun (a' : Act) (w'' : World) => ∃ v : Value, _ ∧ _ ∧ _) = K
      go_simp
      rw [← hK]
      exact ⟨_, rfl, rfl, hI⟩
    | 1, ho, _ =>
      simp only [List.getElem?_cons_succ, List.getElem?_cons_zero, Option.some.injEq] at ho
      subst ho
      refine ⟨wanted_none rfl, ?_⟩
      obtain ⟨_, c0, c1, c2, c3⟩ := hI.2.1
      generalize hK : (fun (a' : Act) (w'' : World) => ∃ v : Value, _ ∧ _ ∧ _) = K
      go_simp
      rw [← hK]
      exact ⟨_, rfl, rfl, hI⟩
    | 2, ho, _ =>
      simp only [List.getElem?_cons_succ, List.getElem?_cons_zero, Option.some.injEq] at ho
      subst ho
      refine ⟨wanted_none rfl, ?_⟩
      have e1 : Hid (vs 1 = .agg #[.int .i64 G.a, .int .i64 G.b, .int .i64 G.r, .int .i64 G.c]) := hd 1 (by kernel_rfl)
      generalize hK : (fun (a' : Act) (w'' : World) => ∃ v : Value, _ ∧ _ ∧ _) = K
      go_simp
      refine (calls_args (by rw [e1.out]) (specBankCount_any G _)).mono ?_
      rintro e w3 ⟨rfl, B⟩
      rw [← hK]
      exact ⟨_, rfl, rfl, hI.1.old B, hI.2.1.old B, hI.2.2.1.old B, hI.2.2.2.trans (Keeps.of_below B)⟩
    | 3, ho, _ =>
      simp only [List.getElem?_cons_succ, List.getElem?_cons_zero, Option.some.injEq] at ho
      subst ho
      refine ⟨wanted_none rfl, ?_⟩
      have ep : vs 0 = .pointer (some ⟨g, 0, none⟩) := hd 0 (by kernel_rfl)
      have ea : vs 2 = .int .i64 (bankN G) := hd 2 (by kernel_rfl)
      have HP := hid ep
      have HE := hid ea
      clear ep ea
      generalize hK : (fun (a' : Act) (w'' : World) => ∃ v : Value, _ ∧ _ ∧ _) = K
      go_simp
      refine (calls_args (by rw [HP.out, HE.out]) (l01Below_any _ _ _ _ (bankN G) _ hI.1 (by have h1 := HBN.out; have h2 := HBD.out; omega))).mono ?_
      rintro e w3 ⟨r, rfl, p, q, C, KK⟩
      rw [← hK]
      exact ⟨_, rfl, ⟨r, rfl, p, q (by have h1 := HBN.out; have h2 := HBD.out; omega)⟩, C, hI.2.1.keeps KK (by have := HG.out; omega), hI.2.2.1.keeps KK (by have := HG.out; omega), hI.2.2.2.trans KK⟩
    | 4, ho, _ =>
      simp only [List.getElem?_cons_succ, List.getElem?_cons_zero, Option.some.injEq] at ho
      subst ho
      refine ⟨wanted_none rfl, ?_⟩
      generalize hK : (fun (a' : Act) (w'' : World) => ∃ v : Value, _ ∧ _ ∧ _) = K
      go_simp
      rw [← hK]
      exact ⟨_, rfl, rfl, hI⟩
    | 5, ho, _ =>
      simp only [List.getElem?_cons_succ, List.getElem?_cons_zero, Option.some.injEq] at ho
      subst ho
      refine ⟨wanted_none rfl, ?_⟩
      generalize hK : (fun (a' : Act) (w'' : World) => ∃ v : Value, _ ∧ _ ∧ _) = K
      go_simp
      rw [← hK]
      exact ⟨_, rfl, rfl, hI⟩
    | 6, ho, _ =>
      simp only [List.getElem?_cons_succ, List.getElem?_cons_zero, Option.some.injEq] at ho
      subst ho
      refine ⟨wanted_none rfl, ?_⟩
      have es := hd 5 (by kernel_rfl)
      obtain ⟨_, c0, c1, c2, c3⟩ := hI.2.1
      generalize hK : (fun (a' : Act) (w'' : World) => ∃ v : Value, _ ∧ _ ∧ _) = K
      generalize hup : vs 5 = up at es ⊢
      subst es
      go_simp
      rw [← hK]
      exact ⟨_, by simp [upd, hup], rfl, hI⟩
    | 7, ho, _ =>
      simp only [List.getElem?_cons_succ, List.getElem?_cons_zero, Option.some.injEq] at ho
      subst ho
      refine ⟨wanted_none rfl, ?_⟩
      have ep : vs 4 = .pointer (some ⟨g, 0, none⟩) := hd 4 (by kernel_rfl)
      have ea : vs 6 = .int .i64 G.r := hd 6 (by kernel_rfl)
      have HP := hid ep
      have HE := hid ea
      clear ep ea
      generalize hK : (fun (a' : Act) (w'' : World) => ∃ v : Value, _ ∧ _ ∧ _) = K
      go_simp
      refine (calls_args (by rw [HP.out, HE.out]) (l01Below_any _ _ _ _ G.r _ hI.1 (by have h1 := HGO.out; omega))).mono ?_
      rintro e w3 ⟨r, rfl, p, q, C, KK⟩
      rw [← hK]
      exact ⟨_, rfl, ⟨r, rfl, p, q (by have h1 := HGO.out; omega)⟩, C, hI.2.1.keeps KK (by have := HG.out; omega), hI.2.2.1.keeps KK (by have := HG.out; omega), hI.2.2.2.trans KK⟩
    | 8, ho, _ =>
      simp only [List.getElem?_cons_succ, List.getElem?_cons_zero, Option.some.injEq] at ho
      subst ho
      refine ⟨wanted_none rfl, ?_⟩
      generalize hK : (fun (a' : Act) (w'' : World) => ∃ v : Value, _ ∧ _ ∧ _) = K
      go_simp
      rw [← hK]
      exact ⟨_, rfl, rfl, hI⟩
    | 9, ho, _ =>
      simp only [List.getElem?_cons_succ, List.getElem?_cons_zero, Option.some.injEq] at ho
      subst ho
      refine ⟨wanted_none rfl, ?_⟩
      generalize hK : (fun (a' : Act) (w'' : World) => ∃ v : Value, _ ∧ _ ∧ _) = K
      go_simp
      rw [← hK]
      exact ⟨_, rfl, rfl, hI⟩
    | 10, ho, _ =>
      simp only [List.getElem?_cons_succ, List.getElem?_cons_zero, Option.some.injEq] at ho
      subst ho
      refine ⟨wanted_none rfl, ?_⟩
      have es := hd 9 (by kernel_rfl)
      obtain ⟨_, c0, c1, c2, c3⟩ := hI.2.1
      generalize hK : (fun (a' : Act) (w'' : World) => ∃ v : Value, _ ∧ _ ∧ _) = K
      generalize hup : vs 9 = up at es ⊢
      subst es
      go_simp
      rw [← hK]
      exact ⟨_, by simp [upd, hup], rfl, hI⟩
    | 11, ho, _ =>
      simp only [List.getElem?_cons_succ, List.getElem?_cons_zero, Option.some.injEq] at ho
      subst ho
      refine ⟨wanted_none rfl, ?_⟩
      have ep : vs 8 = .pointer (some ⟨g, 0, none⟩) := hd 8 (by kernel_rfl)
      have ea : vs 10 = .int .i64 G.c := hd 10 (by kernel_rfl)
      have HP := hid ep
      have HE := hid ea
      clear ep ea
      generalize hK : (fun (a' : Act) (w'' : World) => ∃ v : Value, _ ∧ _ ∧ _) = K
      go_simp
      refine (calls_args (by rw [HP.out, HE.out]) (l01Below_any _ _ _ _ G.c _ hI.1 (by have h1 := HGO.out; omega))).mono ?_
      rintro e w3 ⟨r, rfl, p, q, C, KK⟩
      rw [← hK]
      exact ⟨_, rfl, ⟨r, rfl, p, q (by have h1 := HGO.out; omega)⟩, C, hI.2.1.keeps KK (by have := HG.out; omega), hI.2.2.1.keeps KK (by have := HG.out; omega), hI.2.2.2.trans KK⟩
    | 12, ho, _ =>
      simp only [List.getElem?_cons_succ, List.getElem?_cons_zero, Option.some.injEq] at ho
      subst ho
      refine ⟨wanted_none rfl, ?_⟩
      obtain ⟨x, e3, b3⟩ := hd 3 (by kernel_rfl)
      obtain ⟨y, e7, b7⟩ := hd 7 (by kernel_rfl)
      obtain ⟨z, e11, b11⟩ := hd 11 (by kernel_rfl)
      generalize hK : (fun (a' : Act) (w'' : World) => ∃ v : Value, _ ∧ _ ∧ _) = K
      go_simp
      rw [← hK]
      exact ⟨_, by simp [upd, e3, e7, e11], ⟨x, y, z, rfl, b3, b7, b11⟩, hI⟩
    | n + 13, _, hin => exact absurd hin (by omega)
  case hend1 =>
    intro vs w2 hI hf
    obtain ⟨x, y, z, e12, bx, by_, bz⟩ := hf 12 (by decide)
    generalize vs 12 = u12 at e12 ⊢
    subst e12
    obtain ⟨C, _, HV, KW⟩ := hI
    have v0 := HV.cell (j := 0) rfl
    have v1 := HV.cell (j := 1) rfl
    have v2 := HV.cell (j := 2) rfl
    have f0 := HV.frozen 0
    have f1 := HV.frozen 1
    have f2 := HV.frozen 2
    have HB := hid bx
    have HY := hid by_
    have HZ := hid bz
    have HKW := hid KW
    have HC := hid C
    have KS : Keeps (· = w.heap.size + 1) w2 (((w2.setCell ⟨w.heap.size + 1, 0, none⟩ (.int .i64 x)).setCell ⟨w.heap.size + 1, 1, none⟩ (.int .i64 y)).setCell ⟨w.heap.size + 1, 2, none⟩ (.int .i64 z)) :=
      (((Keeps.refl (fun b => b = w.heap.size + 1) w2).set ⟨w.heap.size + 1, 0, none⟩ _ rfl).set ⟨w.heap.size + 1, 1, none⟩ _ rfl).set ⟨w.heap.size + 1, 2, none⟩ _ rfl
    have HKS := hid KS
    clear KS bx by_ bz KW C HV hf
    refine wpTail_plain rfl fun K hK => ?_
    go_simp
    refine hK _ _ (wpTail_nil ?_)
    clear hK K
    go_wp2_with fail
    refine bodyPost_ret (v := .agg #[.int .i64 x, .int .i64 y, .int .i64 z]) (by simp [results, Try.results122, go_sem, v0, v1, v2]) rfl ⟨⟨x, y, z⟩, rfl, HB.out, HY.out, HZ.out, ?_, ?_⟩
    · exact HC.out.keeps HKS.out (by have := HG.out; omega) (fun b o ha h0 => by have := HA.out b o ha h0; omega)
    · exact HKW.out.hide HKS.out (by omega)
end Go.Proofs.Ytggjheapjklhgaa
