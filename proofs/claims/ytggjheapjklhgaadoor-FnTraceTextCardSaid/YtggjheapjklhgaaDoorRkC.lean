/- Copies of a rank: what the program's and the reference's return. -/
import Derived.Test.YtggjheapjklhgaaDoorApp
import Derived.Test.YtggjheapjklhgaaDoorRnkF
import Derived.Test.YtggjheapjklhgaaDoorDraw
import Derived.Test.YtggjheapjklhgaaDoorInv
import Derived.Deep.Cut
namespace Go.Proofs.YtggjheapjklhgaaDoor
open Go.RowKit
set_option maxRecDepth 100000 in
theorem l08Copy_any (R : RankE) (w : World) (hR : RankR w R) (hn : R.n ≤ 1048576) :
    Calls Tryd.prog 77 #[.agg #[.slice R.a R.n R.c, .int .i64 R.p]] w fun e w' => ∃ R' : RankE, e = .returned (.agg #[.slice R'.a R'.n R'.c, .int .i64 R'.p]) ∧ OwnR w' w.heap.size w'.heap.size R' ∧ R'.d = R.d ∧ Below w.heap.size w w' := by
  have HX := hid hR.recs
  have HN := hid hR.len
  clear hR
  go_enter Tryd.func77, Tryd.ntmps77
  go_upto_region 1 with (fail)
  refine wp_world (fun W hw => ?_)
  have HB0 : Hid (Blk W w.heap.size 75 [.slice R.a R.n R.c, .int .i64 R.p]) := by rw [hw.out]; exact hid ((Blk.new w 75 [.slice R.a R.n R.c, .int .i64 R.p]).old (below_alloc _ _))
  have HB1 : Hid (Blk W (w.heap.size + 1) 75 [.slice none 0 0, .int .i64 0]) := by rw [hw.out]; exact hid (by simpa using Blk.new (w.alloc (.cells #[.slice R.a R.n R.c, .int .i64 R.p] 75)) 75 [.slice none 0 0, .int .i64 0])
  have HBB : Hid (Below w.heap.size w W) := by rw [hw.out]; exact hid (below_alloc2 _ _ _)
  have HS : Hid (W.heap.size = w.heap.size + 2) := by rw [hw.out]; exact hid (by simp)
  clear hw
  have HX := hid (HX.out.old HBB.out)
  refine growR_of 7 (fr := ?fr1)
    (fun i v w' => match i with
        | 0 => ∃ g, v = .slice (some ⟨g, 0, none⟩) 0 0 ∧ OwnF encB 2 89 w' W.heap.size w'.heap.size (some ⟨g, 0, none⟩) 0 0 []
        | 1 => v = .pointer (some ⟨w.heap.size, 0, none⟩)
        | 2 => v = .slice R.a R.n R.c
        | 3 => ∃ a' c', v = .slice a' R.n c' ∧ OwnF encB 2 89 w' W.heap.size w'.heap.size a' R.n c' R.es
        | 4 => v = .pointer (some ⟨w.heap.size, 1, none⟩)
        | 5 => v = .int .i64 R.p
        | _ => ∃ a' c', v = .agg #[.slice a' R.n c', .int .i64 R.p] ∧ OwnF encB 2 89 w' W.heap.size w'.heap.size a' R.n c' R.es
      ) (by kernel_rfl) (by kernel_rfl) (by decide) (by kernel_rfl) ?hfr1 ⟨fun _ => undef, ?h01⟩ ?hF1 ?hstep1 ?hend1
  case hfr1 => intro vs; simp only [frOf, List.take_succ_cons, List.take_zero]; go_simp; exact rfl
  case h01 => rfl
  case hF1 =>
    intro i v w' w'' h hb
    match i, h with
    | 0, h => obtain ⟨g, e, o⟩ := h; exact ⟨g, e, (o.old hb).up hb.size (Nat.le_refl _)⟩
    | 1, h => exact h
    | 2, h => exact h
    | 3, h => obtain ⟨a', c', e, o⟩ := h; exact ⟨a', c', e, (o.old hb).up hb.size (Nat.le_refl _)⟩
    | 4, h => exact h
    | 5, h => exact h
    | n + 6, h => obtain ⟨a', c', e, o⟩ := h; exact ⟨a', c', e, (o.old hb).up hb.size (Nat.le_refl _)⟩
  case hstep1 =>
    intro vs w' i o hin ho hb hd
    match i, ho, hin with
    | 0, ho, _ =>
      simp only [List.getElem?_cons_zero, Option.some.injEq] at ho
      subst ho
      refine ⟨wanted_none rfl, ?_⟩
      generalize hK : (fun (a' : Act) (w'' : World) => ∃ v : Value, _ ∧ _ ∧ _) = K
      go_simp
      rw [← hK]
      exact ⟨_, rfl, ⟨_, rfl, OwnF.mono (OwnF.of_lit w' rfl) hb.size⟩, below_alloc _ _⟩
    | 1, ho, _ =>
      simp only [List.getElem?_cons_succ, List.getElem?_cons_zero, Option.some.injEq] at ho
      subst ho
      refine ⟨wanted_none rfl, ?_⟩
      generalize hK : (fun (a' : Act) (w'' : World) => ∃ v : Value, _ ∧ _ ∧ _) = K
      go_simp
      rw [← hK]
      exact ⟨_, rfl, rfl, Below.refl _ _⟩
    | 2, ho, _ =>
      simp only [List.getElem?_cons_succ, List.getElem?_cons_zero, Option.some.injEq] at ho
      subst ho
      refine ⟨wanted_none rfl, ?_⟩
      have e0 : vs 1 = .pointer (some ⟨w.heap.size, 0, none⟩) := hd 1 (by kernel_rfl)
      have q0 := (HB0.out.old hb).cell (j := 0) rfl
      generalize hK : (fun (a' : Act) (w'' : World) => ∃ v : Value, _ ∧ _ ∧ _) = K
      generalize hup : vs 1 = up at e0 ⊢
      subst e0
      go_simp
      rw [← hK]
      exact ⟨_, by simp [upd, hup], rfl, Below.refl _ _⟩
    | 3, ho, _ =>
      simp only [List.getElem?_cons_succ, List.getElem?_cons_zero, Option.some.injEq] at ho
      subst ho
      refine ⟨wanted_none rfl, ?_⟩
      obtain ⟨g, e0, O⟩ := hd 0 (by kernel_rfl)
      have e2 : vs 2 = .slice R.a R.n R.c := hd 2 (by kernel_rfl)
      generalize hK : (fun (a' : Act) (w'' : World) => ∃ v : Value, _ ∧ _ ∧ _) = K
      refine wp_append_newrow recB _ _ rfl w' W.heap.size _ g O (by go_simp) R.a R.n R.c R.es (HX.out.old hb) HN.out (by go_simp) hb.size (by omega) ?_
      intro a' c' w2 O2 B
      rw [← hK]
      exact ⟨_, rfl, ⟨a', c', rfl, O2⟩, B⟩
    | 4, ho, _ =>
      simp only [List.getElem?_cons_succ, List.getElem?_cons_zero, Option.some.injEq] at ho
      subst ho
      refine ⟨wanted_none rfl, ?_⟩
      generalize hK : (fun (a' : Act) (w'' : World) => ∃ v : Value, _ ∧ _ ∧ _) = K
      go_simp
      rw [← hK]
      exact ⟨_, rfl, rfl, Below.refl _ _⟩
    | 5, ho, _ =>
      simp only [List.getElem?_cons_succ, List.getElem?_cons_zero, Option.some.injEq] at ho
      subst ho
      refine ⟨wanted_none rfl, ?_⟩
      have e0 : vs 4 = .pointer (some ⟨w.heap.size, 1, none⟩) := hd 4 (by kernel_rfl)
      have q0 := (HB0.out.old hb).cell (j := 1) rfl
      generalize hK : (fun (a' : Act) (w'' : World) => ∃ v : Value, _ ∧ _ ∧ _) = K
      generalize hup : vs 4 = up at e0 ⊢
      subst e0
      go_simp
      rw [← hK]
      exact ⟨_, by simp [upd, hup], rfl, Below.refl _ _⟩
    | 6, ho, _ =>
      simp only [List.getElem?_cons_succ, List.getElem?_cons_zero, Option.some.injEq] at ho
      subst ho
      refine ⟨wanted_none rfl, ?_⟩
      obtain ⟨a', c', e3, O⟩ := hd 3 (by kernel_rfl)
      have e5 : vs 5 = .int .i64 R.p := hd 5 (by kernel_rfl)
      generalize hK : (fun (a' : Act) (w'' : World) => ∃ v : Value, _ ∧ _ ∧ _) = K
      generalize hu3 : vs 3 = u3 at e3 ⊢
      subst e3
      generalize hu5 : vs 5 = u5 at e5 ⊢
      subst e5
      go_simp
      rw [← hK]
      exact ⟨_, by simp [upd, hu3, hu5], ⟨a', c', rfl, O⟩, Below.refl _ _⟩
    | n + 7, _, hin => exact absurd hin (by omega)
  case hend1 =>
    intro vs w1 hb hf
    obtain ⟨a', c', e6, O⟩ := hf 6 (by decide)
    have HO := hid O
    have HB := hid hb
    clear hf O hb
    generalize vs 6 = v6 at e6 ⊢
    subst e6
    have HD1 := hid (HB1.out.old HB.out)
    have d0 := HD1.out.cell (j := 0) rfl
    have d1 := HD1.out.cell (j := 1) rfl
    have f0 := HD1.out.frozen 0
    have f1 := HD1.out.frozen 1
    have HKK : Hid (Keeps (fun b => b = w.heap.size + 1) w1 ((w1.setCell ⟨w.heap.size + 1, 0, none⟩ (.slice a' R.n c')).setCell ⟨w.heap.size + 1, 1, none⟩ (.int .i64 R.p))) := hid ((Keeps.set (S := fun b => b = w.heap.size + 1) (Keeps.refl _ _) ⟨w.heap.size + 1, 0, none⟩ _ rfl).set ⟨w.heap.size + 1, 1, none⟩ _ rfl)
    simp only [List.drop_succ_cons, List.drop_zero]
    refine wpTail_plain rfl fun K hK => ?_
    go_simp
    refine hK _ _ (wpTail_nil ?_)
    go_wp2_with fail
    refine bodyPost_ret (v := .agg #[.slice a' R.n c', .int .i64 R.p]) (by simp [results, Tryd.results77, go_sem, d0, d1]) rfl ⟨⟨a', R.n, c', R.es, R.p⟩, rfl, ?_, rfl, ?_⟩
    · exact OwnF.up (OwnF.mono (OwnF.keeps HO.out HKK.out (fun b hb _ hS => by have := HS.out; omega)) (by have := HS.out; omega)) HKK.out.size (Nat.le_refl _)
    · exact (below_step HBB.out HB.out (Nat.le_refl _)).trans (HKK.out.below (by have := HB.out.size; have := HS.out; omega) (fun k hk hS => by omega))
end Go.Proofs.YtggjheapjklhgaaDoor
