/- ReadyOk: what the program's and the reference's return. -/
import Derived.Test.YtggjheapjklhgaaRdyN
import Derived.Test.YtggjheapjklhgaaInv
import Derived.Deep.Cut
namespace Go.Proofs.Ytggjheapjklhgaa
open Go.RowKit

/-- The command that is kept at a place; is the place used? -/
def cmdAt (G : Geo) (i : Int) : Cmd := ⟨i % 9 + 1, if decide (i / 9 < bankN G) = true then i / 9 else 0, 0, 0⟩
def usedB (G : Geo) (i : Int) : Bool := decide (i / 9 < bankN G) == usesB (i % 9 + 1)
/-- A fresh variable of a command. -/
structure BoxCN (w : World) (g : Nat) : Prop where
  hh : w.heap[g]? = some (.cells #[.int .i64 0, .int .i64 0, .int .i64 0, .int .i64 0] 32 (0, 0))
theorem BoxCN.new_ (w : World) {g : Nat} (h : w.heap.size = g) : BoxCN (w.alloc (.cells #[.int .i64 0, .int .i64 0, .int .i64 0, .int .i64 0] 32)) g := by subst h; exact ⟨heap_alloc_new w _⟩
theorem BoxCN.lt {w : World} {g : Nat} (h : BoxCN w g) : g < w.heap.size := (Array.getElem?_eq_some_iff.1 h.hh).1
theorem BoxCN.old {w w' : World} {g : Nat} (h : BoxCN w g) (hb : Below w.heap.size w w') : BoxCN w' g := ⟨(hb.block g h.lt).trans h.hh⟩
theorem BoxCN.keeps {S : Nat → Prop} {w w' : World} {g : Nat} (h : BoxCN w g) (hk : Keeps S w w') (hs : ¬ S g) : BoxCN w' g := ⟨(hk.block g h.lt hs).trans h.hh⟩
theorem BoxCN.c {w : World} {g : Nat} (h : BoxCN w g) (j : Nat) (hj : j < 4) : w.cell? ⟨g, j, none⟩ = some (.int .i64 0) := by
  rw [cell_of_row w g j _ _ (0, 0) h.hh]
  match j, hj with
  | 0, _ => rfl
  | 1, _ => rfl
  | 2, _ => rfl
  | 3, _ => rfl
theorem BoxCN.fr {w : World} {g : Nat} (h : BoxCN w g) (j : Nat) : w.frozen? ⟨g, j, none⟩ = false := frozen_of_row w g j _ _ h.hh
theorem set4_cells (w : World) (b : Nat) (v0 v1 v2 v3 : Value) {u0 u1 u2 u3 : Value} (h0 : w.cell? ⟨b, 0, none⟩ = some u0) (h1 : w.cell? ⟨b, 1, none⟩ = some u1) (h2 : w.cell? ⟨b, 2, none⟩ = some u2) (h3 : w.cell? ⟨b, 3, none⟩ = some u3) :
    let W := ((((w.setCell ⟨b, 0, none⟩ v0).setCell ⟨b, 1, none⟩ v1).setCell ⟨b, 2, none⟩ v2).setCell ⟨b, 3, none⟩ v3)
    W.cell? ⟨b, 0, none⟩ = some v0 ∧ W.cell? ⟨b, 1, none⟩ = some v1 ∧ W.cell? ⟨b, 2, none⟩ = some v2 ∧ W.cell? ⟨b, 3, none⟩ = some v3 := by
  have o : ∀ (x : World) (i j : Nat) (v : Value), i ≠ j → (x.setCell ⟨b, i, none⟩ v).cell? ⟨b, j, none⟩ = x.cell? ⟨b, j, none⟩ := fun x i j v hij => World.cell?_setCell_other _ _ _ _ (fun e => hij (Addr.mk.inj e).2.1)
  refine ⟨?_, ?_, ?_, ?_⟩
  · rw [o _ 3 0 _ (by decide), o _ 2 0 _ (by decide), o _ 1 0 _ (by decide)]; exact World.cell?_setCell_same _ _ _ h0
  · rw [o _ 3 1 _ (by decide), o _ 2 1 _ (by decide)]; exact World.cell?_setCell_same _ _ _ ((o _ 0 1 _ (by decide)).trans h1)
  · rw [o _ 3 2 _ (by decide)]; exact World.cell?_setCell_same _ _ _ ((o _ 1 2 _ (by decide)).trans ((o _ 0 2 _ (by decide)).trans h2))
  · exact World.cell?_setCell_same _ _ _ ((o _ 2 3 _ (by decide)).trans ((o _ 1 3 _ (by decide)).trans ((o _ 0 3 _ (by decide)).trans h3)))
set_option maxHeartbeats 4000000 in
set_option maxRecDepth 100000 in
theorem commandAt_any (G : Geo) (i : Nat) (w : World) (hi : i ≤ 1048576) :
    Calls Try.prog 80 #[.agg #[.int .i64 G.a, .int .i64 G.b, .int .i64 G.r, .int .i64 G.c], .int .i64 i] w fun e w' => e = .returned (.tuple #[.agg #[.int .i64 (cmdAt G i).k, .int .i64 (cmdAt G i).b, .int .i64 0, .int .i64 0], .bool (usedB G i)]) ∧ Below w.heap.size w w' := by
  have h0 : (0 : Int) ≤ (i : Int) := by omega
  have h9 : 0 ≤ (i : Int) % 9 ∧ (i : Int) % 9 ≤ 8 := by omega
  have hbd := bankN_bd G
  have HBB := hid (below_alloc3 w (.cells #[.int .i64 G.a, .int .i64 G.b, .int .i64 G.r, .int .i64 G.c] 25) (.cells #[.int .i64 0, .int .i64 0, .int .i64 0, .int .i64 0] 32) (.cells #[.int .i64 ((i : Int) % 9 + 1), .int .i64 0, .int .i64 0, .int .i64 0] 32))
  have HCN0 := hid ((BoxCN.new_ (w.alloc (.cells #[.int .i64 G.a, .int .i64 G.b, .int .i64 G.r, .int .i64 G.c] 25)) (show _ = w.heap.size + 1 by simp)).old (below_alloc _ (.cells #[.int .i64 ((i : Int) % 9 + 1), .int .i64 0, .int .i64 0, .int .i64 0] 32)))
  have hh := heap_alloc_new ((w.alloc (.cells #[.int .i64 G.a, .int .i64 G.b, .int .i64 G.r, .int .i64 G.c] 25)).alloc (.cells #[.int .i64 0, .int .i64 0, .int .i64 0, .int .i64 0] 32)) (.cells #[.int .i64 ((i : Int) % 9 + 1), .int .i64 0, .int .i64 0, .int .i64 0] 32)
  simp only [World.size_alloc] at hh
  have HH := hid hh
  clear hh
  go_enter Try.func80, Try.ntmps80
  go_wp2_with fail
  refine (implBankCount_any G _).mono ?_
  rintro e w1 ⟨rfl, B⟩
  have HB := hid (below_step HBB.out B (Nat.le_refl _))
  have HCN := hid (HCN0.out.old B)
  have HH1 := hid ((B.block (w.heap.size + 1 + 1) (by simp)).trans HH.out)
  have hlt2 : w.heap.size + 1 + 1 < w1.heap.size := (Array.getElem?_eq_some_iff.1 HH1.out).1
  have k0 := cell_of_row w1 (w.heap.size + 1 + 1) 0 _ _ (0, 0) HH1.out
  have k1 := cell_of_row w1 (w.heap.size + 1 + 1) 1 _ _ (0, 0) HH1.out
  have k2 := cell_of_row w1 (w.heap.size + 1 + 1) 2 _ _ (0, 0) HH1.out
  have k3 := cell_of_row w1 (w.heap.size + 1 + 1) 3 _ _ (0, 0) HH1.out
  simp only [List.getElem?_toArray, List.getElem?_cons_zero, List.getElem?_cons_succ] at k0 k1 k2 k3
  have fb := frozen_of_row w1 (w.heap.size + 1 + 1) 1 _ _ HH1.out
  clear B HBB HCN0 HH
  obtain ⟨ub, hub⟩ : ∃ u, usesB ((i : Int) % 9 + 1) = u := ⟨_, rfl⟩
  have HUB := hid hub
  clear hub
  cases hb : decide ((i : Int) / 9 < bankN G) with
  | true =>
    have HV := hid (show cmdAt G i = ⟨(i : Int) % 9 + 1, ((i : Int) / 9), 0, 0⟩ by simp [cmdAt, hb])
    have HU := hid (show usedB G i = (true == ub) by unfold usedB; rw [hb, HUB.out])
    go_upto_region 5 with (fail)
    refine wp_world (fun w2 hw => ?_)
    have HKW : Hid (Keeps (fun b => b = w.heap.size + 1 + 1) w1 w2) := by rw [hw.out]; exact hid (Keeps.set (S := fun b => b = w.heap.size + 1 + 1) (Keeps.refl _ _) ⟨w.heap.size + 1 + 1, 1, none⟩ _ rfl)
    have HCNW := hid (HCN.out.keeps HKW.out (fun e => by omega))
    have y0 : w2.cell? ⟨w.heap.size + 1 + 1, 0, none⟩ = some (.int .i64 ((i : Int) % 9 + 1)) := by rw [hw.out]; rw [World.cell?_setCell_other _ _ _ _ (by simp)]; exact k0
    have y1 : w2.cell? ⟨w.heap.size + 1 + 1, 1, none⟩ = some (.int .i64 ((i : Int) / 9)) := by rw [hw.out]; exact World.cell?_setCell_same _ _ _ k1
    have y2 : w2.cell? ⟨w.heap.size + 1 + 1, 2, none⟩ = some (.int .i64 0) := by rw [hw.out]; rw [World.cell?_setCell_other _ _ _ _ (by simp)]; exact k2
    have y3 : w2.cell? ⟨w.heap.size + 1 + 1, 3, none⟩ = some (.int .i64 0) := by rw [hw.out]; rw [World.cell?_setCell_other _ _ _ _ (by simp)]; exact k3
    obtain ⟨W3, hW3⟩ : ∃ W3, W3 = (((((w2.setCell ⟨w.heap.size + 1, 0, none⟩ (.int .i64 ((i : Int) % 9 + 1))).setCell ⟨w.heap.size + 1, 1, none⟩ (.int .i64 ((i : Int) / 9))).setCell ⟨w.heap.size + 1, 2, none⟩ (.int .i64 0)).setCell ⟨w.heap.size + 1, 3, none⟩ (.int .i64 0)).drew) := ⟨_, rfl⟩
    have HW3 := hid hW3
    have K3 : Keeps (fun b => b = w.heap.size + 1) w2 W3 := by rw [hW3]; exact Keeps.drewN ((((Keeps.set (S := fun b => b = w.heap.size + 1) (Keeps.refl _ w2) ⟨w.heap.size + 1, 0, none⟩ _ rfl).set ⟨w.heap.size + 1, 1, none⟩ _ rfl).set ⟨w.heap.size + 1, 2, none⟩ _ rfl).set ⟨w.heap.size + 1, 3, none⟩ _ rfl) 1
    have HK3 := hid K3
    have hne : ¬ (w.heap.size + 1 + 1 = w.heap.size + 1) := by omega
    have hs12 := HKW.out.size
    have l2 : w.heap.size + 1 + 1 < w2.heap.size := by omega
    have z0 := (K3.cell l2 hne 0).trans y0
    have z1 := (K3.cell l2 hne 1).trans y1
    have z2 := (K3.cell l2 hne 2).trans y2
    have z3 := (K3.cell l2 hne 3).trans y3
    replace y0 : w2.drew.cell? ⟨w.heap.size + 1 + 1, 0, none⟩ = some (.int .i64 ((i : Int) % 9 + 1)) := y0
    replace y1 : w2.drew.cell? ⟨w.heap.size + 1 + 1, 1, none⟩ = some (.int .i64 ((i : Int) / 9)) := y1
    replace y2 : w2.drew.cell? ⟨w.heap.size + 1 + 1, 2, none⟩ = some (.int .i64 0) := y2
    replace y3 : w2.drew.cell? ⟨w.heap.size + 1 + 1, 3, none⟩ = some (.int .i64 0) := y3
    have HZ := hid (And.intro z0 (And.intro z1 (And.intro z2 z3)))
    have HY := hid (And.intro y0 (And.intro y1 (And.intro y2 y3)))
    clear hw k0 k1 k2 k3 fb hW3 K3 y0 y1 y2 y3 z0 z1 z2 z3
    refine fix_of 6 (fun n => match n with | 0 => .agg #[.int .i64 ((i : Int) % 9 + 1), .int .i64 ((i : Int) / 9), .int .i64 0, .int .i64 0] | 1 => .bool true | 2 => .pointer (some ⟨w.heap.size + 1 + 1, 0, none⟩) | 3 => .int .i64 ((i : Int) % 9 + 1) | 4 => .bool ub | 5 => .bool (true == ub) | 6 => undef | _ => .bool (true == ub)) W3 (fr := ?frtrue) (by kernel_rfl) (by kernel_rfl) (by decide) ?hfrtrue ⟨fun n => if n = 7 then .bool false else undef, ?h0true⟩ ?hsteptrue ?hstoretrue ?hendtrue
    case hfrtrue => intro vs; simp only [frOf]; go_simp; exact rfl
    case h0true => rfl
    case hsteptrue =>
      intro vs w' j o ho hj hw hd
      have Y : w'.cell? ⟨w.heap.size + 1 + 1, 0, none⟩ = some (.int .i64 ((i : Int) % 9 + 1)) ∧ w'.cell? ⟨w.heap.size + 1 + 1, 1, none⟩ = some (.int .i64 ((i : Int) / 9)) ∧ w'.cell? ⟨w.heap.size + 1 + 1, 2, none⟩ = some (.int .i64 0) ∧ w'.cell? ⟨w.heap.size + 1 + 1, 3, none⟩ = some (.int .i64 0) := by
        rcases hw with h | h
        · rw [h]; exact HY.out
        · rw [h]; exact HZ.out
      match j, ho, hj with
      | 0, ho, _ =>
        simp only [List.getElem?_cons_zero, Option.some.injEq] at ho
        subst ho
        refine ⟨wanted_none rfl, ?_⟩
        obtain ⟨c0, c1, c2, c3⟩ := Y
        generalize hK : (fun (a' : Act) (w'' : World) => _ ∧ _) = K
        go_simp
        rw [← hK]
        exact ⟨rfl, rfl⟩
      | 1, ho, _ =>
        simp only [List.getElem?_cons_succ, List.getElem?_cons_zero, Option.some.injEq] at ho
        subst ho
        refine ⟨wanted_none rfl, ?_⟩
        generalize hK : (fun (a' : Act) (w'' : World) => _ ∧ _) = K
        go_simp
        rw [← hK]
        exact ⟨rfl, rfl⟩
      | 2, ho, _ =>
        simp only [List.getElem?_cons_succ, List.getElem?_cons_zero, Option.some.injEq] at ho
        subst ho
        refine ⟨wanted_none rfl, ?_⟩
        generalize hK : (fun (a' : Act) (w'' : World) => _ ∧ _) = K
        go_simp
        rw [← hK]
        exact ⟨rfl, rfl⟩
      | 3, ho, _ =>
        simp only [List.getElem?_cons_succ, List.getElem?_cons_zero, Option.some.injEq] at ho
        subst ho
        refine ⟨wanted_none rfl, ?_⟩
        obtain ⟨c0, _, _, _⟩ := Y
        have e2 : vs 2 = .pointer (some ⟨w.heap.size + 1 + 1, 0, none⟩) := hd 2 (by kernel_rfl)
        generalize hK : (fun (a' : Act) (w'' : World) => _ ∧ _) = K
        go_simp
        rw [← hK]
        exact ⟨by simp [upd, e2], rfl⟩
      | 4, ho, _ =>
        simp only [List.getElem?_cons_succ, List.getElem?_cons_zero, Option.some.injEq] at ho
        subst ho
        refine ⟨wanted_none rfl, ?_⟩
        have e3 : Hid (vs 3 = .int .i64 ((i : Int) % 9 + 1)) := hd 3 (by kernel_rfl)
        generalize hK : (fun (a' : Act) (w'' : World) => _ ∧ _) = K
        go_simp
        refine (calls_args (by rw [e3.out]) (usesBank_of HUB.out)).mono ?_
        rintro e w3 ⟨rfl, rfl⟩
        rw [← hK]
        exact ⟨rfl, rfl⟩
      | 5, ho, _ =>
        simp only [List.getElem?_cons_succ, List.getElem?_cons_zero, Option.some.injEq] at ho
        subst ho
        refine ⟨wanted_none rfl, ?_⟩
        have e1 : vs 1 = .bool true := hd 1 (by kernel_rfl)
        have e4 : vs 4 = .bool ub := hd 4 (by kernel_rfl)
        generalize hK : (fun (a' : Act) (w'' : World) => _ ∧ _) = K
        go_simp
        rw [← hK]
        exact ⟨by simp [upd, e1, e4], rfl⟩
      | 6, _, hj => exact absurd rfl hj
      | 7, ho, _ =>
        simp only [List.getElem?_cons_succ, List.getElem?_cons_zero, Option.some.injEq] at ho
        subst ho
        refine ⟨wanted_none rfl, ?_⟩
        have e5 : vs 5 = .bool (true == ub) := hd 5 (by kernel_rfl)
        generalize hK : (fun (a' : Act) (w'' : World) => _ ∧ _) = K
        go_simp
        rw [← hK]
        exact ⟨by simp [upd, e5], rfl⟩
      | n + 8, ho, _ => simp at ho
    case hstoretrue =>
      intro vs o ho hd
      simp only [List.getElem?_cons_succ, List.getElem?_cons_zero, Option.some.injEq] at ho
      subst ho
      refine ⟨wanted_none rfl, ?_⟩
      have e0 : vs 0 = .agg #[.int .i64 ((i : Int) % 9 + 1), .int .i64 ((i : Int) / 9), .int .i64 0, .int .i64 0] := hd 0 (by kernel_rfl)
      have r0 : w2.cell? ⟨w.heap.size + 1, 0, none⟩ = some (.int .i64 0) := HCNW.out.c 0 (by decide)
      have r1 : w2.cell? ⟨w.heap.size + 1, 1, none⟩ = some (.int .i64 0) := HCNW.out.c 1 (by decide)
      have r2 : w2.cell? ⟨w.heap.size + 1, 2, none⟩ = some (.int .i64 0) := HCNW.out.c 2 (by decide)
      have r3 : w2.cell? ⟨w.heap.size + 1, 3, none⟩ = some (.int .i64 0) := HCNW.out.c 3 (by decide)
      have f0 : w2.frozen? ⟨w.heap.size + 1, 0, none⟩ = false := HCNW.out.fr 0
      have f1 : w2.frozen? ⟨w.heap.size + 1, 1, none⟩ = false := HCNW.out.fr 1
      have f2 : w2.frozen? ⟨w.heap.size + 1, 2, none⟩ = false := HCNW.out.fr 2
      have f3 : w2.frozen? ⟨w.heap.size + 1, 3, none⟩ = false := HCNW.out.fr 3
      generalize hK : (fun (a' : Act) (w'' : World) => _ ∧ _) = K
      go_simp
      rw [← hK]
      exact ⟨by simp [upd, e0], HW3.out.symm⟩
    case hendtrue =>
      intro vs hv
      have e7 : vs 7 = .bool (true == ub) := hv 7 (by decide)
      generalize vs 7 = u7 at e7 ⊢
      subst e7
      obtain ⟨q0, q1, q2, q3⟩ : W3.cell? ⟨w.heap.size + 1, 0, none⟩ = some (.int .i64 ((i : Int) % 9 + 1)) ∧ W3.cell? ⟨w.heap.size + 1, 1, none⟩ = some (.int .i64 ((i : Int) / 9)) ∧ W3.cell? ⟨w.heap.size + 1, 2, none⟩ = some (.int .i64 0) ∧ W3.cell? ⟨w.heap.size + 1, 3, none⟩ = some (.int .i64 0) := by rw [HW3.out]; exact set4_cells w2 _ _ _ _ _ (HCNW.out.c 0 (by decide)) (HCNW.out.c 1 (by decide)) (HCNW.out.c 2 (by decide)) (HCNW.out.c 3 (by decide))
      go_wp2_with fail
      refine bodyPost_ret (v := .tuple #[.agg #[.int .i64 ((i : Int) % 9 + 1), .int .i64 ((i : Int) / 9), .int .i64 0, .int .i64 0], .bool (true == ub)]) (by simp [results, Try.results80, go_sem, q0, q1, q2, q3]) rfl ⟨by rw [HV.out, HU.out], ?_⟩
      exact (HB.out.trans (HKW.out.below HB.out.size (fun q hq e => by omega))).trans (HK3.out.below (by have := HB.out.size; omega) (fun q hq e => by omega))
  | false =>
    have HV := hid (show cmdAt G i = ⟨(i : Int) % 9 + 1, 0, 0, 0⟩ by simp [cmdAt, hb])
    have HU := hid (show usedB G i = (false == ub) by unfold usedB; rw [hb, HUB.out])
    go_upto_region 5 with (fail)
    refine wp_world (fun w2 hw => ?_)
    have HKW : Hid (Keeps (fun b => b = w.heap.size + 1 + 1) w1 w2) := by rw [hw.out]; exact hid (Keeps.refl _ _)
    have HCNW := hid (HCN.out.keeps HKW.out (fun e => by omega))
    have y0 : w2.cell? ⟨w.heap.size + 1 + 1, 0, none⟩ = some (.int .i64 ((i : Int) % 9 + 1)) := by rw [hw.out]; exact k0
    have y1 : w2.cell? ⟨w.heap.size + 1 + 1, 1, none⟩ = some (.int .i64 0) := by rw [hw.out]; exact k1
    have y2 : w2.cell? ⟨w.heap.size + 1 + 1, 2, none⟩ = some (.int .i64 0) := by rw [hw.out]; exact k2
    have y3 : w2.cell? ⟨w.heap.size + 1 + 1, 3, none⟩ = some (.int .i64 0) := by rw [hw.out]; exact k3
    obtain ⟨W3, hW3⟩ : ∃ W3, W3 = (((((w2.setCell ⟨w.heap.size + 1, 0, none⟩ (.int .i64 ((i : Int) % 9 + 1))).setCell ⟨w.heap.size + 1, 1, none⟩ (.int .i64 0)).setCell ⟨w.heap.size + 1, 2, none⟩ (.int .i64 0)).setCell ⟨w.heap.size + 1, 3, none⟩ (.int .i64 0)).drew) := ⟨_, rfl⟩
    have HW3 := hid hW3
    have K3 : Keeps (fun b => b = w.heap.size + 1) w2 W3 := by rw [hW3]; exact Keeps.drewN ((((Keeps.set (S := fun b => b = w.heap.size + 1) (Keeps.refl _ w2) ⟨w.heap.size + 1, 0, none⟩ _ rfl).set ⟨w.heap.size + 1, 1, none⟩ _ rfl).set ⟨w.heap.size + 1, 2, none⟩ _ rfl).set ⟨w.heap.size + 1, 3, none⟩ _ rfl) 1
    have HK3 := hid K3
    have hne : ¬ (w.heap.size + 1 + 1 = w.heap.size + 1) := by omega
    have hs12 := HKW.out.size
    have l2 : w.heap.size + 1 + 1 < w2.heap.size := by omega
    have z0 := (K3.cell l2 hne 0).trans y0
    have z1 := (K3.cell l2 hne 1).trans y1
    have z2 := (K3.cell l2 hne 2).trans y2
    have z3 := (K3.cell l2 hne 3).trans y3
    replace y0 : w2.drew.cell? ⟨w.heap.size + 1 + 1, 0, none⟩ = some (.int .i64 ((i : Int) % 9 + 1)) := y0
    replace y1 : w2.drew.cell? ⟨w.heap.size + 1 + 1, 1, none⟩ = some (.int .i64 0) := y1
    replace y2 : w2.drew.cell? ⟨w.heap.size + 1 + 1, 2, none⟩ = some (.int .i64 0) := y2
    replace y3 : w2.drew.cell? ⟨w.heap.size + 1 + 1, 3, none⟩ = some (.int .i64 0) := y3
    have HZ := hid (And.intro z0 (And.intro z1 (And.intro z2 z3)))
    have HY := hid (And.intro y0 (And.intro y1 (And.intro y2 y3)))
    clear hw k0 k1 k2 k3 fb hW3 K3 y0 y1 y2 y3 z0 z1 z2 z3
    refine fix_of 6 (fun n => match n with | 0 => .agg #[.int .i64 ((i : Int) % 9 + 1), .int .i64 0, .int .i64 0, .int .i64 0] | 1 => .bool false | 2 => .pointer (some ⟨w.heap.size + 1 + 1, 0, none⟩) | 3 => .int .i64 ((i : Int) % 9 + 1) | 4 => .bool ub | 5 => .bool (false == ub) | 6 => undef | _ => .bool (false == ub)) W3 (fr := ?frfalse) (by kernel_rfl) (by kernel_rfl) (by decide) ?hfrfalse ⟨fun n => if n = 7 then .bool false else undef, ?h0false⟩ ?hstepfalse ?hstorefalse ?hendfalse
    case hfrfalse => intro vs; simp only [frOf]; go_simp; exact rfl
    case h0false => rfl
    case hstepfalse =>
      intro vs w' j o ho hj hw hd
      have Y : w'.cell? ⟨w.heap.size + 1 + 1, 0, none⟩ = some (.int .i64 ((i : Int) % 9 + 1)) ∧ w'.cell? ⟨w.heap.size + 1 + 1, 1, none⟩ = some (.int .i64 0) ∧ w'.cell? ⟨w.heap.size + 1 + 1, 2, none⟩ = some (.int .i64 0) ∧ w'.cell? ⟨w.heap.size + 1 + 1, 3, none⟩ = some (.int .i64 0) := by
        rcases hw with h | h
        · rw [h]; exact HY.out
        · rw [h]; exact HZ.out
      match j, ho, hj with
      | 0, ho, _ =>
        simp only [List.getElem?_cons_zero, Option.some.injEq] at ho
        subst ho
        refine ⟨wanted_none rfl, ?_⟩
        obtain ⟨c0, c1, c2, c3⟩ := Y
        generalize hK : (fun (a' : Act) (w'' : World) => _ ∧ _) = K
        go_simp
        rw [← hK]
        exact ⟨rfl, rfl⟩
      | 1, ho, _ =>
        simp only [List.getElem?_cons_succ, List.getElem?_cons_zero, Option.some.injEq] at ho
        subst ho
        refine ⟨wanted_none rfl, ?_⟩
        generalize hK : (fun (a' : Act) (w'' : World) => _ ∧ _) = K
        go_simp
        rw [← hK]
        exact ⟨rfl, rfl⟩
      | 2, ho, _ =>
        simp only [List.getElem?_cons_succ, List.getElem?_cons_zero, Option.some.injEq] at ho
        subst ho
        refine ⟨wanted_none rfl, ?_⟩
        generalize hK : (fun (a' : Act) (w'' : World) => _ ∧ _) = K
        go_simp
        rw [← hK]
        exact ⟨rfl, rfl⟩
      | 3, ho, _ =>
        simp only [List.getElem?_cons_succ, List.getElem?_cons_zero, Option.some.injEq] at ho
        subst ho
        refine ⟨wanted_none rfl, ?_⟩
        obtain ⟨c0, _, _, _⟩ := Y
        have e2 : vs 2 = .pointer (some ⟨w.heap.size + 1 + 1, 0, none⟩) := hd 2 (by kernel_rfl)
        generalize hK : (fun (a' : Act) (w'' : World) => _ ∧ _) = K
        go_simp
        rw [← hK]
        exact ⟨by simp [upd, e2], rfl⟩
      | 4, ho, _ =>
        simp only [List.getElem?_cons_succ, List.getElem?_cons_zero, Option.some.injEq] at ho
        subst ho
        refine ⟨wanted_none rfl, ?_⟩
        have e3 : Hid (vs 3 = .int .i64 ((i : Int) % 9 + 1)) := hd 3 (by kernel_rfl)
        generalize hK : (fun (a' : Act) (w'' : World) => _ ∧ _) = K
        go_simp
        refine (calls_args (by rw [e3.out]) (usesBank_of HUB.out)).mono ?_
        rintro e w3 ⟨rfl, rfl⟩
        rw [← hK]
        exact ⟨rfl, rfl⟩
      | 5, ho, _ =>
        simp only [List.getElem?_cons_succ, List.getElem?_cons_zero, Option.some.injEq] at ho
        subst ho
        refine ⟨wanted_none rfl, ?_⟩
        have e1 : vs 1 = .bool false := hd 1 (by kernel_rfl)
        have e4 : vs 4 = .bool ub := hd 4 (by kernel_rfl)
        generalize hK : (fun (a' : Act) (w'' : World) => _ ∧ _) = K
        go_simp
        rw [← hK]
        exact ⟨by simp [upd, e1, e4], rfl⟩
      | 6, _, hj => exact absurd rfl hj
      | 7, ho, _ =>
        simp only [List.getElem?_cons_succ, List.getElem?_cons_zero, Option.some.injEq] at ho
        subst ho
        refine ⟨wanted_none rfl, ?_⟩
        have e5 : vs 5 = .bool (false == ub) := hd 5 (by kernel_rfl)
        generalize hK : (fun (a' : Act) (w'' : World) => _ ∧ _) = K
        go_simp
        rw [← hK]
        exact ⟨by simp [upd, e5], rfl⟩
      | n + 8, ho, _ => simp at ho
    case hstorefalse =>
      intro vs o ho hd
      simp only [List.getElem?_cons_succ, List.getElem?_cons_zero, Option.some.injEq] at ho
      subst ho
      refine ⟨wanted_none rfl, ?_⟩
      have e0 : vs 0 = .agg #[.int .i64 ((i : Int) % 9 + 1), .int .i64 0, .int .i64 0, .int .i64 0] := hd 0 (by kernel_rfl)
      have r0 : w2.cell? ⟨w.heap.size + 1, 0, none⟩ = some (.int .i64 0) := HCNW.out.c 0 (by decide)
      have r1 : w2.cell? ⟨w.heap.size + 1, 1, none⟩ = some (.int .i64 0) := HCNW.out.c 1 (by decide)
      have r2 : w2.cell? ⟨w.heap.size + 1, 2, none⟩ = some (.int .i64 0) := HCNW.out.c 2 (by decide)
      have r3 : w2.cell? ⟨w.heap.size + 1, 3, none⟩ = some (.int .i64 0) := HCNW.out.c 3 (by decide)
      have f0 : w2.frozen? ⟨w.heap.size + 1, 0, none⟩ = false := HCNW.out.fr 0
      have f1 : w2.frozen? ⟨w.heap.size + 1, 1, none⟩ = false := HCNW.out.fr 1
      have f2 : w2.frozen? ⟨w.heap.size + 1, 2, none⟩ = false := HCNW.out.fr 2
      have f3 : w2.frozen? ⟨w.heap.size + 1, 3, none⟩ = false := HCNW.out.fr 3
      generalize hK : (fun (a' : Act) (w'' : World) => _ ∧ _) = K
      go_simp
      rw [← hK]
      exact ⟨by simp [upd, e0], HW3.out.symm⟩
    case hendfalse =>
      intro vs hv
      have e7 : vs 7 = .bool (false == ub) := hv 7 (by decide)
      generalize vs 7 = u7 at e7 ⊢
      subst e7
      obtain ⟨q0, q1, q2, q3⟩ : W3.cell? ⟨w.heap.size + 1, 0, none⟩ = some (.int .i64 ((i : Int) % 9 + 1)) ∧ W3.cell? ⟨w.heap.size + 1, 1, none⟩ = some (.int .i64 0) ∧ W3.cell? ⟨w.heap.size + 1, 2, none⟩ = some (.int .i64 0) ∧ W3.cell? ⟨w.heap.size + 1, 3, none⟩ = some (.int .i64 0) := by rw [HW3.out]; exact set4_cells w2 _ _ _ _ _ (HCNW.out.c 0 (by decide)) (HCNW.out.c 1 (by decide)) (HCNW.out.c 2 (by decide)) (HCNW.out.c 3 (by decide))
      go_wp2_with fail
      refine bodyPost_ret (v := .tuple #[.agg #[.int .i64 ((i : Int) % 9 + 1), .int .i64 0, .int .i64 0, .int .i64 0], .bool (false == ub)]) (by simp [results, Try.results80, go_sem, q0, q1, q2, q3]) rfl ⟨by rw [HV.out, HU.out], ?_⟩
      exact (HB.out.trans (HKW.out.below HB.out.size (fun q hq e => by omega))).trans (HK3.out.below (by have := HB.out.size; omega) (fun q hq e => by omega))
end Go.Proofs.Ytggjheapjklhgaa
