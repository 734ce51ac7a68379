/- EncodeSymbols, DataOf, WordOk: what the program's and the reference's calls return. -/
import Derived.Test.YtnfkkkjookfdiaaCodeW
import Derived.Test.YtnfkkkjookfdiaaMemA
import Derived.WalkSpells
namespace Go.Proofs.Ytnfkkkjookfdiaa
open Go.RowKit

theorem symOk_pad {xs : List Int} (h : symOk xs 8 = true) : symOk ([0, 0, 0] ++ xs) 11 = true := by
  simp only [symOk, allEl, Bool.and_eq_true, List.all_append] at h ⊢
  refine ⟨⟨by decide, h.1⟩, ?_⟩
  have := h.2
  simp at this ⊢
  omega

set_option maxRecDepth 100000 in
theorem implEncodeSymbols_yes (a : Option Addr) (c : Nat) (xs : List Int) (w : World) (hx : IntsR w a xs) (hm : xs.length = 8) (hok : symOk xs 8 = true) :
    Calls Try.prog 20 #[.slice a 8 c] w fun e w' => ∃ g cap, e = .returned (.slice (some ⟨g, 0, none⟩) 11 cap) ∧ w.heap.size ≤ g ∧ IRow w' g 11 cap (encI xs) ∧ Below w.heap.size w w' := by
  have HX := hid hx
  have HM := hid hm
  have hpad := hid (symOk_pad hok)
  clear hx hm
  have hmk := make3
  go_enter Try.func20, Try.ntmps20
  go_wp2_with (first
    | (go_at_call 53; refine (implSymbolsOk_any _ _ _ _ _ _ HX.out HM.out.symm (by rw [HM.out]; omega)).mono ?_; rintro e w' ⟨rfl, q, rfl⟩)
    | (at_builtin; refine wpList_append_ints rfl _ _ rfl _ w.heap.size w.heap.size 3 3 [0, 0, 0] (zeros3 _) (by simp) rfl a 8 c xs ((HX.out.drewN _).old ((Below.refl _ _).alloc (by simp) _)) HM.out.symm rfl 11 rfl (by omega) (by simp) ?_; intro g cap w1 hg hrow hbel))
  have hE : encI xs = [encC0 (synN ([0, 0, 0] ++ xs) 0 11) (synN ([0, 0, 0] ++ xs) 1 11) (synN ([0, 0, 0] ++ xs) 2 11), encC1 (synN ([0, 0, 0] ++ xs) 0 11) (synN ([0, 0, 0] ++ xs) 1 11) (synN ([0, 0, 0] ++ xs) 2 11), encC2 (synN ([0, 0, 0] ++ xs) 0 11) (synN ([0, 0, 0] ++ xs) 1 11) (synN ([0, 0, 0] ++ xs) 2 11)] ++ xs := rfl
  refine (implSyndromes_yes _ _ _ _ hrow.reads (by simp [HM.out]) hpad.out).mono ?_
  rintro e w2 ⟨gs, rfl, hgs, S, B2⟩
  have hlt := hrow.lt
  have R := hrow.old B2
  unfold syn at S
  generalize synN ([0, 0, 0] ++ xs) 0 11 = s0 at *
  generalize synN ([0, 0, 0] ++ xs) 1 11 = s1 at *
  generalize synN ([0, 0, 0] ++ xs) 2 11 = s2 at *
  have c0 := S.cell (i := 0) rfl
  have c1 := S.cell (i := 1) rfl
  have c2 := S.cell (i := 2) rfl
  have r0 := R.cell (i := 0) rfl
  have r1 := R.cell (i := 1) rfl
  have r2 := R.cell (i := 2) rfl
  have f0 := R.frozen 0
  have f1 := R.frozen 1
  have f2 := R.frozen 2
  have hne : ¬ gs = g := by omega
  have hne' : ¬ g = gs := by omega
  unfold encC0 encC1 encC2 at hE
  have HE := hid hE
  have HR := hid R
  have HS := hid S
  have HB2 := hid ((((Below.refl w.heap.size w).trans (below_ofDrewN _ _ q)).alloc (by simp) (.cells #[.int .i64 0, .int .i64 0, .int .i64 0] 3)).trans (hbel.trans (B2.mono (by have := hbel.size; simp at this; omega))))
  clear hE R S hrow hbel B2 hmk
  go_wp2
  go_quiet (fail)
  go_wp2_with (first
    | (go_at_call 58; refine (implGfInv_any _ _).mono ?_; rintro e w' ⟨rfl, rfl⟩)
    | (go_at_call 59; refine (implGfMul_any _ _ _).mono ?_; rintro e w' ⟨rfl, rfl⟩))
  generalize gfMul (bits .xor .i64 (gfMul 2 (bits .xor .i64 s0 s1)) (gfMul 5 (bits .xor .i64 s0 s2))) (gfInv 4) = e1 at *
  generalize gfMul (bits .xor .i64 (gfMul 3 (bits .xor .i64 s0 s2)) (gfMul 5 (bits .xor .i64 s0 s1))) (gfInv 4) = e2 at *
  refine wp_world ?_
  intro w3 hw3
  have R1 := (HR.out.drewN nq).set 1 e1
  have R2 := R1.1.set 2 e2
  have R3 : IRow w3 g 11 cap ([0, e1, e2] ++ xs) := by rw [hw3.out]; exact R2.1
  have S3 : IRow w3 gs 3 3 [s0, s1, s2] := by rw [hw3.out]; exact (HS.out.drewN nq).keeps (R1.2.trans R2.2) hne
  have B3 : Below w.heap.size w w3 := by rw [hw3.out]; exact ((below_drewN HB2.out nq).setCell (p := ⟨g, 1, none⟩) hg _).setCell (p := ⟨g, 2, none⟩) hg _
  clear R1 R2 c0 c1 c2 r0 r1 r2 f0 f1 f2 HS HR HB2
  have c0 := S3.cell (i := 0) rfl
  have r0 := R3.cell (i := 0) rfl
  have r1 := R3.cell (i := 1) rfl
  have r2 := R3.cell (i := 2) rfl
  have f0 := R3.frozen 0
  have HR := hid (R3.set 0 (bits .xor .i64 (bits .xor .i64 s0 e1) e2)).1
  have HB := hid (B3.setCell (p := ⟨g, 0, none⟩) hg (.int .i64 (bits .xor .i64 (bits .xor .i64 s0 e1) e2)))
  clear R3 S3 B3
  refine wp_region_still_tail 13 (by kernel_rfl) (by kernel_rfl) ?_
  simp only [List.take_succ_cons, List.take_zero, List.drop_succ_cons, List.drop_zero]
  repeat still_step
  refine wpStill_nil ?_
  go_wp2
  go_ret
  exact ⟨g, cap, rfl, hg, by rw [HE.out]; exact HR.out, HB.out.drew⟩

theorem getD_of {α : Type} {xs : List α} {k : Nat} {x z : α} (h : xs[k]? = some x) : xs[k]?.getD z = x := by rw [h]; rfl

theorem ones2 (w : World) : IRow (w.alloc (.cells #[.int .i64 1, .int .i64 1] 3)) w.heap.size 2 2 [1, 1] := by
  have := World.ownsRow_lit (base := w.heap.size) (e := 3) (size := 1) w #[.int .i64 1, .int .i64 1] 2 (Nat.le_refl _) (by unfold maxLen; omega) (by simp)
  simpa [IRow] using this

end Go.Proofs.Ytnfkkkjookfdiaa
