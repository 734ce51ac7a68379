/- Copies of a summary: what the program's and the reference's return. -/
import Derived.Test.YtggjheapjklhgaaRdyN
import Derived.Test.YtggjheapjklhgaaApp
import Derived.Test.YtggjheapjklhgaaInv
import Derived.Test.YtggjheapjklhgaaLwR
namespace Go.Proofs.Ytggjheapjklhgaa
open Go.RowKit
def encN (x : Int) : List Value := [.int .i64 x]
theorem encN_len (x : Int) : (encN x).length = 1 := rfl
theorem recN : RecT encN 1 35 3 (.int .i64 0) 8 :=
  ⟨encN_len, by decide, Try.underlying35, by kernel_rfl, rfl, fun e u hu => by simp [encN] at hu; subst hu; rfl, by decide⟩
theorem RecR.ints {w : World} {a : Option Addr} {xs : List Int} (h : RecR encN 1 w a xs) : IntsR w a xs := by
  intro i x hx
  obtain ⟨b, o, ha, hb, hc⟩ := h i x hx
  have := hc 0 _ rfl
  rw [Nat.mul_one, Nat.add_zero] at this
  exact ⟨b, o, ha, hb, this⟩
theorem IntsR.recs {w : World} {a : Option Addr} {xs : List Int} (h : IntsR w a xs) : RecR encN 1 w a xs := by
  intro i x hx
  obtain ⟨b, o, ha, hb, hc⟩ := h i x hx
  refine ⟨b, o, ha, hb, fun j v hv => ?_⟩
  match j, hv with
  | 0, hv =>
    simp only [encN, List.getElem?_cons_zero, Option.some.injEq] at hv
    rw [← hv, Nat.mul_one, Nat.add_zero]; exact hc
  | j + 1, hv => simp [encN] at hv
theorem OwnF.le_cap {α : Type} {f : α → List Value} {k : Nat} {T : TypeId} {w : World} {B U : Nat} {a : Option Addr} {n c : Nat} {xs : List α} (h : OwnF f k T w B U a n c xs) : n ≤ c := by
  rcases h.row.2 with ⟨hv, _⟩ | ⟨g', cap', cur, hv, _, _, hnc, _⟩
  · injection hv with _ h2 h3; omega
  · injection hv with _ _ h3; omega
theorem OwnF.toS {w : World} {B U : Nat} {a : Option Addr} {n c : Nat} {xs : List Int} (h : OwnF encN 1 3 w B U a n c xs) : OwnS w B a n c xs := by
  have hl := OwnF.length encN_len (by decide) h
  refine ⟨hl, h.le_cap, fun hn => ?_⟩
  have hr := h.row
  have e : xs.flatMap encN = xs.map (Value.int .i64) := by
    clear h hl hr
    induction xs with
    | nil => rfl
    | cons x xs ih => rw [List.flatMap_cons, List.map_cons, ih]; rfl
  rw [e] at hr
  obtain ⟨g, cap, hv, hB, hi⟩ := IRow.of_owns hr (fun hv => by injection hv with _ h2 _; exact hn h2)
  injection hv with h1 _ h3
  subst h1
  subst h3
  exact ⟨g, rfl, hB, hi⟩
theorem newS {w w1 : World} {B U : Nat} {a : Option Addr} {n c : Nat} {xs : List Int} (h : OwnF encN 1 3 w1 B U a n c xs) (hnew : n ≠ 0 → ∃ g, a = some ⟨g, 0, none⟩ ∧ w.heap.size ≤ g) : OwnS w1 w.heap.size a n c xs := by
  have hs := h.toS
  refine ⟨hs.length, hs.cap, fun hn => ?_⟩
  obtain ⟨g, e, _, hr⟩ := hs.row hn
  obtain ⟨g', e', hg⟩ := hnew hn
  rw [e] at e'
  simp only [Option.some.injEq, Addr.mk.injEq, and_true] at e'
  subst e'
  exact ⟨g, e, hg, hr⟩
def apartV (x y : Value) : Prop := ∀ a n c b m d, x = .slice a n c → y = .slice b m d → ∀ k, blkS a n k → ¬ blkS b m k
theorem apartV_undef_l (y : Value) : apartV undef y := fun a n c b m d h => by cases h
theorem apartV_undef_r (x : Value) : apartV x undef := fun a n c b m d _ h => by cases h
theorem apartV_new {w w1 : World} {B : Nat} {x : Value} {b : Option Addr} {m d : Nat} {xs ys : List Int} (h : x = undef ∨ ∃ a n c, x = .slice a n c ∧ OwnS w B a n c xs) (hy : OwnS w1 w.heap.size b m d ys) : apartV x (.slice b m d) ∧ apartV (.slice b m d) x := by
  rcases h with rfl | ⟨a, n, c, rfl, o⟩
  · exact ⟨apartV_undef_l _, apartV_undef_r _⟩
  · refine ⟨fun a' n' c' b' m' d' e1 e2 k h1 h2 => ?_, fun a' n' c' b' m' d' e1 e2 k h1 h2 => ?_⟩
    · cases e1; cases e2
      have := (o.lt h1).2
      have := (hy.lt h2).1
      omega
    · cases e1; cases e2
      have := (o.lt h2).2
      have := (hy.lt h1).1
      omega
set_option maxRecDepth 100000 in
theorem l10Copy_any (Y : RdyE) (w : World) (hY : RdyR w Y) (hs : Y.small) :
    Calls Try.prog 87 #[.agg #[.slice Y.s0.a Y.s0.n Y.s0.c, .slice Y.s1.a Y.s1.n Y.s1.c]] w fun e w' => ∃ Y' : RdyE, e = .returned (.agg #[.slice Y'.s0.a Y'.s0.n Y'.s0.c, .slice Y'.s1.a Y'.s1.n Y'.s1.c]) ∧ OwnY w' w.heap.size w'.heap.size Y' ∧ Y'.d = Y.d ∧ Below w.heap.size w w' ∧ OwnF encN 1 3 w' w.heap.size w'.heap.size Y'.s1.a Y'.s1.n Y'.s1.c Y'.acts ∧ (Y'.s1.n = 0 → Y'.s1.c = 0) := by
  have HX0 := hid hY.last
  have HX1 := hid hY.acts
  have HN0 := hid hY.l0
  have HN1 := hid hY.l1
  have hn0 : Y.s0.n ≤ 1048576 := by rw [hY.l0]; exact hs.1
  have hn1 : Y.s1.n ≤ 1048576 := by rw [hY.l1]; exact hs.2
  clear hY hs
  go_enter Try.func87, Try.ntmps87
  go_upto_region 1 with (fail)
  refine wp_world (fun W hw => ?_)
  have HB0 : Hid (Blk W w.heap.size 37 [.slice Y.s0.a Y.s0.n Y.s0.c, .slice Y.s1.a Y.s1.n Y.s1.c]) := by rw [hw.out]; exact hid ((Blk.new w 37 [.slice Y.s0.a Y.s0.n Y.s0.c, .slice Y.s1.a Y.s1.n Y.s1.c]).old (below_alloc _ _))
  have HB1 : Hid (Blk W (w.heap.size + 1) 37 [.slice none 0 0, .slice none 0 0]) := by rw [hw.out]; exact hid (by simpa using Blk.new (w.alloc (.cells #[.slice Y.s0.a Y.s0.n Y.s0.c, .slice Y.s1.a Y.s1.n Y.s1.c] 37)) 37 [.slice none 0 0, .slice none 0 0])
  have HBB : Hid (Below w.heap.size w W) := by rw [hw.out]; exact hid (below_alloc2 _ _ _)
  have HS : Hid (W.heap.size = w.heap.size + 2) := by rw [hw.out]; exact hid (by simp)
  clear hw
  have HX0 := hid (HX0.out.old HBB.out)
  have HX1 := hid (HX1.out.old HBB.out)
  refine growD_of 9 (fr := ?fr1)
    (fun i v w' => match i with
        | 0 => ∃ g, v = .slice (some ⟨g, 0, none⟩) 0 0 ∧ OwnF encN 1 3 w' W.heap.size w'.heap.size (some ⟨g, 0, none⟩) 0 0 []
        | 1 => v = .pointer (some ⟨w.heap.size, 0, none⟩)
        | 2 => v = .slice Y.s0.a Y.s0.n Y.s0.c
        | 3 => ∃ a' c', v = .slice a' Y.s0.n c' ∧ OwnF encN 1 3 w' W.heap.size w'.heap.size a' Y.s0.n c' Y.last ∧ (Y.s0.n = 0 → c' = 0)
        | 4 => ∃ g, v = .slice (some ⟨g, 0, none⟩) 0 0 ∧ OwnF encN 1 3 w' W.heap.size w'.heap.size (some ⟨g, 0, none⟩) 0 0 []
        | 5 => v = .pointer (some ⟨w.heap.size, 1, none⟩)
        | 6 => v = .slice Y.s1.a Y.s1.n Y.s1.c
        | 7 => ∃ a' c', v = .slice a' Y.s1.n c' ∧ OwnF encN 1 3 w' W.heap.size w'.heap.size a' Y.s1.n c' Y.acts ∧ (Y.s1.n = 0 → c' = 0)
        | _ => ∃ a' c' b' d', v = .agg #[.slice a' Y.s0.n c', .slice b' Y.s1.n d'] ∧ OwnF encN 1 3 w' W.heap.size w'.heap.size a' Y.s0.n c' Y.last ∧ OwnF encN 1 3 w' W.heap.size w'.heap.size b' Y.s1.n d' Y.acts ∧ (Y.s1.n = 0 → d' = 0) ∧ ∀ k, blkS a' Y.s0.n k → ¬ blkS b' Y.s1.n k
      ) (fun vs => apartV (vs 3) (vs 7)) (by kernel_rfl) (by kernel_rfl) (by decide) (by kernel_rfl) ?hfr1 ?h01 ?hD1 ?hF1 ?hstep1 ?hend1
  case hD1 => exact apartV_undef_l _
  case hfr1 => intro vs; simp only [frOf, List.take_succ_cons, List.take_zero]; go_simp; exact rfl
  case h01 => rfl
  case hF1 =>
    intro i v w' w'' h hb
    match i, h with
    | 0, h => obtain ⟨g, e, o⟩ := h; exact ⟨g, e, (o.old hb).up hb.size (Nat.le_refl _)⟩
    | 1, h => exact h
    | 2, h => exact h
    | 3, h => obtain ⟨a', c', e, o, z⟩ := h; exact ⟨a', c', e, (o.old hb).up hb.size (Nat.le_refl _), z⟩
    | 4, h => obtain ⟨g, e, o⟩ := h; exact ⟨g, e, (o.old hb).up hb.size (Nat.le_refl _)⟩
    | 5, h => exact h
    | 6, h => exact h
    | 7, h => obtain ⟨a', c', e, o, z⟩ := h; exact ⟨a', c', e, (o.old hb).up hb.size (Nat.le_refl _), z⟩
    | n + 8, h => obtain ⟨a', c', b', d', e, o, q, zz, z⟩ := h; exact ⟨a', c', b', d', e, (o.old hb).up hb.size (Nat.le_refl _), (q.old hb).up hb.size (Nat.le_refl _), zz, z⟩
  case hstep1 =>
    intro vs w' i o hin ho hb hD hu hd
    match i, ho, hin with
    | 0, ho, _ =>
      simp only [List.getElem?_cons_zero, Option.some.injEq] at ho
      subst ho
      refine ⟨wanted_none rfl, ?_⟩
      generalize hK : (fun (a' : Act) (w'' : World) => ∃ v : Value, _ ∧ _ ∧ _ ∧ _) = K
      go_simp
      rw [← hK]
      exact ⟨_, rfl, ⟨_, rfl, OwnF.mono (OwnF.of_lit w' rfl) hb.size⟩, below_alloc _ _, by simpa [upd] using hD⟩
    | 1, ho, _ =>
      simp only [List.getElem?_cons_succ, List.getElem?_cons_zero, Option.some.injEq] at ho
      subst ho
      refine ⟨wanted_none rfl, ?_⟩
      generalize hK : (fun (a' : Act) (w'' : World) => ∃ v : Value, _ ∧ _ ∧ _ ∧ _) = K
      go_simp
      rw [← hK]
      exact ⟨_, rfl, rfl, Below.refl _ _, by simpa [upd] using hD⟩
    | 2, ho, _ =>
      simp only [List.getElem?_cons_succ, List.getElem?_cons_zero, Option.some.injEq] at ho
      subst ho
      refine ⟨wanted_none rfl, ?_⟩
      have e0 : vs 1 = .pointer (some ⟨w.heap.size, 0, none⟩) := hd 1 (by kernel_rfl)
      have q0 := (HB0.out.old hb).cell (j := 0) rfl
      generalize hK : (fun (a' : Act) (w'' : World) => ∃ v : Value, _ ∧ _ ∧ _ ∧ _) = K
      generalize hup : vs 1 = up at e0 ⊢
      subst e0
      go_simp
      rw [← hK]
      exact ⟨_, by simp [upd, hup], rfl, Below.refl _ _, by simpa [upd] using hD⟩
    | 3, ho, _ =>
      simp only [List.getElem?_cons_succ, List.getElem?_cons_zero, Option.some.injEq] at ho
      subst ho
      refine ⟨wanted_none rfl, ?_⟩
      obtain ⟨g, e0, OE⟩ := hd 0 (by kernel_rfl)
      have e2 : vs 2 = .slice Y.s0.a Y.s0.n Y.s0.c := hd 2 (by kernel_rfl)
      have hoth := (hu 7 (by decide)).imp_right (fun h => (show ∃ a n c, vs 7 = .slice a n c ∧ OwnS w' W.heap.size a n c Y.acts by obtain ⟨a, c, e, o, _⟩ := h; exact ⟨a, _, c, e, o.toS⟩))
      generalize hK : (fun (a' : Act) (w'' : World) => ∃ v : Value, _ ∧ _ ∧ _ ∧ _) = K
      refine wp_append_newrow2 recN _ _ rfl w' W.heap.size _ g OE (by go_simp) Y.s0.a Y.s0.n Y.s0.c Y.last (IntsR.recs (HX0.out.old hb)) HN0.out (by go_simp) hb.size (by omega) ?_
      intro a' c' w2 O2 B hnew
      rw [← hK]
      exact ⟨_, rfl, ⟨a', c', rfl, O2, hnew.2⟩, B, by simpa [upd] using (apartV_new hoth (newS O2 hnew.1)).2⟩
    | 4, ho, _ =>
      simp only [List.getElem?_cons_succ, List.getElem?_cons_zero, Option.some.injEq] at ho
      subst ho
      refine ⟨wanted_none rfl, ?_⟩
      generalize hK : (fun (a' : Act) (w'' : World) => ∃ v : Value, _ ∧ _ ∧ _ ∧ _) = K
      go_simp
      rw [← hK]
      exact ⟨_, rfl, ⟨_, rfl, OwnF.mono (OwnF.of_lit w' rfl) hb.size⟩, below_alloc _ _, by simpa [upd] using hD⟩
    | 5, ho, _ =>
      simp only [List.getElem?_cons_succ, List.getElem?_cons_zero, Option.some.injEq] at ho
      subst ho
      refine ⟨wanted_none rfl, ?_⟩
      generalize hK : (fun (a' : Act) (w'' : World) => ∃ v : Value, _ ∧ _ ∧ _ ∧ _) = K
      go_simp
      rw [← hK]
      exact ⟨_, rfl, rfl, Below.refl _ _, by simpa [upd] using hD⟩
    | 6, ho, _ =>
      simp only [List.getElem?_cons_succ, List.getElem?_cons_zero, Option.some.injEq] at ho
      subst ho
      refine ⟨wanted_none rfl, ?_⟩
      have e0 : vs 5 = .pointer (some ⟨w.heap.size, 1, none⟩) := hd 5 (by kernel_rfl)
      have q0 := (HB0.out.old hb).cell (j := 1) rfl
      generalize hK : (fun (a' : Act) (w'' : World) => ∃ v : Value, _ ∧ _ ∧ _ ∧ _) = K
      generalize hup : vs 5 = up at e0 ⊢
      subst e0
      go_simp
      rw [← hK]
      exact ⟨_, by simp [upd, hup], rfl, Below.refl _ _, by simpa [upd] using hD⟩
    | 7, ho, _ =>
      simp only [List.getElem?_cons_succ, List.getElem?_cons_zero, Option.some.injEq] at ho
      subst ho
      refine ⟨wanted_none rfl, ?_⟩
      obtain ⟨g, e0, OE⟩ := hd 4 (by kernel_rfl)
      have e2 : vs 6 = .slice Y.s1.a Y.s1.n Y.s1.c := hd 6 (by kernel_rfl)
      have hoth := (hu 3 (by decide)).imp_right (fun h => (show ∃ a n c, vs 3 = .slice a n c ∧ OwnS w' W.heap.size a n c Y.last by obtain ⟨a, c, e, o, _⟩ := h; exact ⟨a, _, c, e, o.toS⟩))
      generalize hK : (fun (a' : Act) (w'' : World) => ∃ v : Value, _ ∧ _ ∧ _ ∧ _) = K
      refine wp_append_newrow2 recN _ _ rfl w' W.heap.size _ g OE (by go_simp) Y.s1.a Y.s1.n Y.s1.c Y.acts (IntsR.recs (HX1.out.old hb)) HN1.out (by go_simp) hb.size (by omega) ?_
      intro a' c' w2 O2 B hnew
      rw [← hK]
      exact ⟨_, rfl, ⟨a', c', rfl, O2, hnew.2⟩, B, by simpa [upd] using (apartV_new hoth (newS O2 hnew.1)).1⟩
    | 8, ho, _ =>
      simp only [List.getElem?_cons_succ, List.getElem?_cons_zero, Option.some.injEq] at ho
      subst ho
      refine ⟨wanted_none rfl, ?_⟩
      obtain ⟨a', c', e3, O3, _⟩ := hd 3 (by kernel_rfl)
      obtain ⟨b', d', e7, O7, hz7⟩ := hd 7 (by kernel_rfl)
      have hap := hD _ _ _ _ _ _ e3 e7
      generalize hK : (fun (a' : Act) (w'' : World) => ∃ v : Value, _ ∧ _ ∧ _ ∧ _) = K
      generalize hu3 : vs 3 = u3 at e3 ⊢
      subst e3
      generalize hu7 : vs 7 = u7 at e7 ⊢
      subst e7
      go_simp
      rw [← hK]
      exact ⟨_, by simp [upd, hu3, hu7], ⟨a', c', b', d', rfl, O3, O7, hz7, hap⟩, Below.refl _ _, by simpa [upd] using hD⟩
    | n + 9, _, hin => exact absurd hin (by omega)
  case hend1 =>
    intro vs w1 hb hD hf
    obtain ⟨a', c', b', d', e8, O0, O1, hz1, hap⟩ := hf 8 (by decide)
    have HO0 := hid O0
    have HO1 := hid O1
    have HAP := hid hap
    have HB := hid hb
    clear hf O0 O1 hap hb hD
    generalize vs 8 = v8 at e8 ⊢
    subst e8
    have HD1 := hid (HB1.out.old HB.out)
    have d0 := HD1.out.cell (j := 0) rfl
    have d1 := HD1.out.cell (j := 1) rfl
    have f0 := HD1.out.frozen 0
    have f1 := HD1.out.frozen 1
    have HKK := hid (stored2 w1 (w.heap.size + 1) (.slice a' Y.s0.n c') (.slice b' Y.s1.n d'))
    simp only [List.drop_succ_cons, List.drop_zero]
    refine wpTail_plain rfl fun K hK => ?_
    go_simp
    refine hK _ _ (wpTail_nil ?_)
    go_wp2_with fail
    refine bodyPost_ret (v := .agg #[.slice a' Y.s0.n c', .slice b' Y.s1.n d']) (by simp [results, Try.results87, go_sem, d0, d1]) rfl ⟨⟨⟨a', Y.s0.n, c'⟩, ⟨b', Y.s1.n, d'⟩, Y.last, Y.acts⟩, rfl, ?_, rfl, ?_, ?_, hz1⟩
    · have h0 := HO0.out.toS.keeps HKK.out (fun b hb hS => by have := HS.out; have := (HO0.out.toS.lt hb).1; omega)
      have h1 := HO1.out.toS.keeps HKK.out (fun b hb hS => by have := HS.out; have := (HO1.out.toS.lt hb).1; omega)
      exact ⟨Nat.le_refl _, h0.mono (by have := HS.out; omega), h1.mono (by have := HS.out; omega), fun b hb => (h0.lt hb).2, fun b hb => (h1.lt hb).2, HAP.out⟩
    · exact (below_step HBB.out HB.out (Nat.le_refl _)).trans (HKK.out.below (by have := HB.out.size; have := HS.out; omega) (fun k hk hS => by omega))
    · exact OwnF.up (OwnF.mono (OwnF.keeps HO1.out HKK.out (fun b h1 h2 h3 => by have := HS.out; omega)) (by have := HS.out; omega)) HKK.out.size (Nat.le_refl _)
set_option maxRecDepth 100000 in
theorem copyReady_any (Y : RdyE) (w : World) (hY : RdyR w Y) (hs : Y.small) :
    Calls Try.prog 92 #[.agg #[.slice Y.s0.a Y.s0.n Y.s0.c, .slice Y.s1.a Y.s1.n Y.s1.c]] w fun e w' => ∃ Y' : RdyE, e = .returned (.agg #[.slice Y'.s0.a Y'.s0.n Y'.s0.c, .slice Y'.s1.a Y'.s1.n Y'.s1.c]) ∧ OwnY w' w.heap.size w'.heap.size Y' ∧ Y'.d = Y.d ∧ Below w.heap.size w w' ∧ OwnF encN 1 3 w' w.heap.size w'.heap.size Y'.s1.a Y'.s1.n Y'.s1.c Y'.acts ∧ (Y'.s1.n = 0 → Y'.s1.c = 0) := by
  have HX0 := hid hY.last
  have HX1 := hid hY.acts
  have HN0 := hid hY.l0
  have HN1 := hid hY.l1
  have hn0 : Y.s0.n ≤ 1048576 := by rw [hY.l0]; exact hs.1
  have hn1 : Y.s1.n ≤ 1048576 := by rw [hY.l1]; exact hs.2
  clear hY hs
  go_enter Try.func92, Try.ntmps92
  go_upto_region 1 with (fail)
  refine wp_world (fun W hw => ?_)
  have HB0 : Hid (Blk W w.heap.size 37 [.slice Y.s0.a Y.s0.n Y.s0.c, .slice Y.s1.a Y.s1.n Y.s1.c]) := by rw [hw.out]; exact hid ((Blk.new w 37 [.slice Y.s0.a Y.s0.n Y.s0.c, .slice Y.s1.a Y.s1.n Y.s1.c]).old (below_alloc _ _))
  have HB1 : Hid (Blk W (w.heap.size + 1) 37 [.slice none 0 0, .slice none 0 0]) := by rw [hw.out]; exact hid (by simpa using Blk.new (w.alloc (.cells #[.slice Y.s0.a Y.s0.n Y.s0.c, .slice Y.s1.a Y.s1.n Y.s1.c] 37)) 37 [.slice none 0 0, .slice none 0 0])
  have HBB : Hid (Below w.heap.size w W) := by rw [hw.out]; exact hid (below_alloc2 _ _ _)
  have HS : Hid (W.heap.size = w.heap.size + 2) := by rw [hw.out]; exact hid (by simp)
  clear hw
  have HX0 := hid (HX0.out.old HBB.out)
  have HX1 := hid (HX1.out.old HBB.out)
  refine growD_of 9 (fr := ?fr2)
    (fun i v w' => match i with
        | 0 => ∃ g, v = .slice (some ⟨g, 0, none⟩) 0 0 ∧ OwnF encN 1 3 w' W.heap.size w'.heap.size (some ⟨g, 0, none⟩) 0 0 []
        | 1 => v = .pointer (some ⟨w.heap.size, 0, none⟩)
        | 2 => v = .slice Y.s0.a Y.s0.n Y.s0.c
        | 3 => ∃ a' c', v = .slice a' Y.s0.n c' ∧ OwnF encN 1 3 w' W.heap.size w'.heap.size a' Y.s0.n c' Y.last ∧ (Y.s0.n = 0 → c' = 0)
        | 4 => ∃ g, v = .slice (some ⟨g, 0, none⟩) 0 0 ∧ OwnF encN 1 3 w' W.heap.size w'.heap.size (some ⟨g, 0, none⟩) 0 0 []
        | 5 => v = .pointer (some ⟨w.heap.size, 1, none⟩)
        | 6 => v = .slice Y.s1.a Y.s1.n Y.s1.c
        | 7 => ∃ a' c', v = .slice a' Y.s1.n c' ∧ OwnF encN 1 3 w' W.heap.size w'.heap.size a' Y.s1.n c' Y.acts ∧ (Y.s1.n = 0 → c' = 0)
        | _ => ∃ a' c' b' d', v = .agg #[.slice a' Y.s0.n c', .slice b' Y.s1.n d'] ∧ OwnF encN 1 3 w' W.heap.size w'.heap.size a' Y.s0.n c' Y.last ∧ OwnF encN 1 3 w' W.heap.size w'.heap.size b' Y.s1.n d' Y.acts ∧ (Y.s1.n = 0 → d' = 0) ∧ ∀ k, blkS a' Y.s0.n k → ¬ blkS b' Y.s1.n k
      ) (fun vs => apartV (vs 3) (vs 7)) (by kernel_rfl) (by kernel_rfl) (by decide) (by kernel_rfl) ?hfr2 ?h02 ?hD2 ?hF2 ?hstep2 ?hend2
  case hD2 => exact apartV_undef_l _
  case hfr2 => intro vs; simp only [frOf, List.take_succ_cons, List.take_zero]; go_simp; exact rfl
  case h02 => rfl
  case hF2 =>
    intro i v w' w'' h hb
    match i, h with
    | 0, h => obtain ⟨g, e, o⟩ := h; exact ⟨g, e, (o.old hb).up hb.size (Nat.le_refl _)⟩
    | 1, h => exact h
    | 2, h => exact h
    | 3, h => obtain ⟨a', c', e, o, z⟩ := h; exact ⟨a', c', e, (o.old hb).up hb.size (Nat.le_refl _), z⟩
    | 4, h => obtain ⟨g, e, o⟩ := h; exact ⟨g, e, (o.old hb).up hb.size (Nat.le_refl _)⟩
    | 5, h => exact h
    | 6, h => exact h
    | 7, h => obtain ⟨a', c', e, o, z⟩ := h; exact ⟨a', c', e, (o.old hb).up hb.size (Nat.le_refl _), z⟩
    | n + 8, h => obtain ⟨a', c', b', d', e, o, q, zz, z⟩ := h; exact ⟨a', c', b', d', e, (o.old hb).up hb.size (Nat.le_refl _), (q.old hb).up hb.size (Nat.le_refl _), zz, z⟩
  case hstep2 =>
    intro vs w' i o hin ho hb hD hu hd
    match i, ho, hin with
    | 0, ho, _ =>
      simp only [List.getElem?_cons_zero, Option.some.injEq] at ho
      subst ho
      refine ⟨wanted_none rfl, ?_⟩
      generalize hK : (fun (a' : Act) (w'' : World) => ∃ v : Value, _ ∧ _ ∧ _ ∧ _) = K
      go_simp
      rw [← hK]
      exact ⟨_, rfl, ⟨_, rfl, OwnF.mono (OwnF.of_lit w' rfl) hb.size⟩, below_alloc _ _, by simpa [upd] using hD⟩
    | 1, ho, _ =>
      simp only [List.getElem?_cons_succ, List.getElem?_cons_zero, Option.some.injEq] at ho
      subst ho
      refine ⟨wanted_none rfl, ?_⟩
      generalize hK : (fun (a' : Act) (w'' : World) => ∃ v : Value, _ ∧ _ ∧ _ ∧ _) = K
      go_simp
      rw [← hK]
      exact ⟨_, rfl, rfl, Below.refl _ _, by simpa [upd] using hD⟩
    | 2, ho, _ =>
      simp only [List.getElem?_cons_succ, List.getElem?_cons_zero, Option.some.injEq] at ho
      subst ho
      refine ⟨wanted_none rfl, ?_⟩
      have e0 : vs 1 = .pointer (some ⟨w.heap.size, 0, none⟩) := hd 1 (by kernel_rfl)
      have q0 := (HB0.out.old hb).cell (j := 0) rfl
      generalize hK : (fun (a' : Act) (w'' : World) => ∃ v : Value, _ ∧ _ ∧ _ ∧ _) = K
      generalize hup : vs 1 = up at e0 ⊢
      subst e0
      go_simp
      rw [← hK]
      exact ⟨_, by simp [upd, hup], rfl, Below.refl _ _, by simpa [upd] using hD⟩
    | 3, ho, _ =>
      simp only [List.getElem?_cons_succ, List.getElem?_cons_zero, Option.some.injEq] at ho
      subst ho
      refine ⟨wanted_none rfl, ?_⟩
      obtain ⟨g, e0, OE⟩ := hd 0 (by kernel_rfl)
      have e2 : vs 2 = .slice Y.s0.a Y.s0.n Y.s0.c := hd 2 (by kernel_rfl)
      have hoth := (hu 7 (by decide)).imp_right (fun h => (show ∃ a n c, vs 7 = .slice a n c ∧ OwnS w' W.heap.size a n c Y.acts by obtain ⟨a, c, e, o, _⟩ := h; exact ⟨a, _, c, e, o.toS⟩))
      generalize hK : (fun (a' : Act) (w'' : World) => ∃ v : Value, _ ∧ _ ∧ _ ∧ _) = K
      refine wp_append_newrow2 recN _ _ rfl w' W.heap.size _ g OE (by go_simp) Y.s0.a Y.s0.n Y.s0.c Y.last (IntsR.recs (HX0.out.old hb)) HN0.out (by go_simp) hb.size (by omega) ?_
      intro a' c' w2 O2 B hnew
      rw [← hK]
      exact ⟨_, rfl, ⟨a', c', rfl, O2, hnew.2⟩, B, by simpa [upd] using (apartV_new hoth (newS O2 hnew.1)).2⟩
    | 4, ho, _ =>
      simp only [List.getElem?_cons_succ, List.getElem?_cons_zero, Option.some.injEq] at ho
      subst ho
      refine ⟨wanted_none rfl, ?_⟩
      generalize hK : (fun (a' : Act) (w'' : World) => ∃ v : Value, _ ∧ _ ∧ _ ∧ _) = K
      go_simp
      rw [← hK]
      exact ⟨_, rfl, ⟨_, rfl, OwnF.mono (OwnF.of_lit w' rfl) hb.size⟩, below_alloc _ _, by simpa [upd] using hD⟩
    | 5, ho, _ =>
      simp only [List.getElem?_cons_succ, List.getElem?_cons_zero, Option.some.injEq] at ho
      subst ho
      refine ⟨wanted_none rfl, ?_⟩
      generalize hK : (fun (a' : Act) (w'' : World) => ∃ v : Value, _ ∧ _ ∧ _ ∧ _) = K
      go_simp
      rw [← hK]
      exact ⟨_, rfl, rfl, Below.refl _ _, by simpa [upd] using hD⟩
    | 6, ho, _ =>
      simp only [List.getElem?_cons_succ, List.getElem?_cons_zero, Option.some.injEq] at ho
      subst ho
      refine ⟨wanted_none rfl, ?_⟩
      have e0 : vs 5 = .pointer (some ⟨w.heap.size, 1, none⟩) := hd 5 (by kernel_rfl)
      have q0 := (HB0.out.old hb).cell (j := 1) rfl
      generalize hK : (fun (a' : Act) (w'' : World) => ∃ v : Value, _ ∧ _ ∧ _ ∧ _) = K
      generalize hup : vs 5 = up at e0 ⊢
      subst e0
      go_simp
      rw [← hK]
      exact ⟨_, by simp [upd, hup], rfl, Below.refl _ _, by simpa [upd] using hD⟩
    | 7, ho, _ =>
      simp only [List.getElem?_cons_succ, List.getElem?_cons_zero, Option.some.injEq] at ho
      subst ho
      refine ⟨wanted_none rfl, ?_⟩
      obtain ⟨g, e0, OE⟩ := hd 4 (by kernel_rfl)
      have e2 : vs 6 = .slice Y.s1.a Y.s1.n Y.s1.c := hd 6 (by kernel_rfl)
      have hoth := (hu 3 (by decide)).imp_right (fun h => (show ∃ a n c, vs 3 = .slice a n c ∧ OwnS w' W.heap.size a n c Y.last by obtain ⟨a, c, e, o, _⟩ := h; exact ⟨a, _, c, e, o.toS⟩))
      generalize hK : (fun (a' : Act) (w'' : World) => ∃ v : Value, _ ∧ _ ∧ _ ∧ _) = K
      refine wp_append_newrow2 recN _ _ rfl w' W.heap.size _ g OE (by go_simp) Y.s1.a Y.s1.n Y.s1.c Y.acts (IntsR.recs (HX1.out.old hb)) HN1.out (by go_simp) hb.size (by omega) ?_
      intro a' c' w2 O2 B hnew
      rw [← hK]
      exact ⟨_, rfl, ⟨a', c', rfl, O2, hnew.2⟩, B, by simpa [upd] using (apartV_new hoth (newS O2 hnew.1)).1⟩
    | 8, ho, _ =>
      simp only [List.getElem?_cons_succ, List.getElem?_cons_zero, Option.some.injEq] at ho
      subst ho
      refine ⟨wanted_none rfl, ?_⟩
      obtain ⟨a', c', e3, O3, _⟩ := hd 3 (by kernel_rfl)
      obtain ⟨b', d', e7, O7, hz7⟩ := hd 7 (by kernel_rfl)
      have hap := hD _ _ _ _ _ _ e3 e7
      generalize hK : (fun (a' : Act) (w'' : World) => ∃ v : Value, _ ∧ _ ∧ _ ∧ _) = K
      generalize hu3 : vs 3 = u3 at e3 ⊢
      subst e3
      generalize hu7 : vs 7 = u7 at e7 ⊢
      subst e7
      go_simp
      rw [← hK]
      exact ⟨_, by simp [upd, hu3, hu7], ⟨a', c', b', d', rfl, O3, O7, hz7, hap⟩, Below.refl _ _, by simpa [upd] using hD⟩
    | n + 9, _, hin => exact absurd hin (by omega)
  case hend2 =>
    intro vs w1 hb hD hf
    obtain ⟨a', c', b', d', e8, O0, O1, hz1, hap⟩ := hf 8 (by decide)
    have HO0 := hid O0
    have HO1 := hid O1
    have HAP := hid hap
    have HB := hid hb
    clear hf O0 O1 hap hb hD
    generalize vs 8 = v8 at e8 ⊢
    subst e8
    have HD1 := hid (HB1.out.old HB.out)
    have d0 := HD1.out.cell (j := 0) rfl
    have d1 := HD1.out.cell (j := 1) rfl
    have f0 := HD1.out.frozen 0
    have f1 := HD1.out.frozen 1
    have HKK := hid (stored2 w1 (w.heap.size + 1) (.slice a' Y.s0.n c') (.slice b' Y.s1.n d'))
    simp only [List.drop_succ_cons, List.drop_zero]
    refine wpTail_plain rfl fun K hK => ?_
    go_simp
    refine hK _ _ (wpTail_nil ?_)
    go_wp2_with fail
    refine bodyPost_ret (v := .agg #[.slice a' Y.s0.n c', .slice b' Y.s1.n d']) (by simp [results, Try.results92, go_sem, d0, d1]) rfl ⟨⟨⟨a', Y.s0.n, c'⟩, ⟨b', Y.s1.n, d'⟩, Y.last, Y.acts⟩, rfl, ?_, rfl, ?_, ?_, hz1⟩
    · have h0 := HO0.out.toS.keeps HKK.out (fun b hb hS => by have := HS.out; have := (HO0.out.toS.lt hb).1; omega)
      have h1 := HO1.out.toS.keeps HKK.out (fun b hb hS => by have := HS.out; have := (HO1.out.toS.lt hb).1; omega)
      exact ⟨Nat.le_refl _, h0.mono (by have := HS.out; omega), h1.mono (by have := HS.out; omega), fun b hb => (h0.lt hb).2, fun b hb => (h1.lt hb).2, HAP.out⟩
    · exact (below_step HBB.out HB.out (Nat.le_refl _)).trans (HKK.out.below (by have := HB.out.size; have := HS.out; omega) (fun k hk hS => by omega))
    · exact OwnF.up (OwnF.mono (OwnF.keeps HO1.out HKK.out (fun b h1 h2 h3 => by have := HS.out; omega)) (by have := HS.out; omega)) HKK.out.size (Nat.le_refl _)
end Go.Proofs.Ytggjheapjklhgaa
