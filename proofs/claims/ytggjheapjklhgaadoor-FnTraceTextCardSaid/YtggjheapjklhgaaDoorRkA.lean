/- RankAfter: what the program's and the reference's return. -/
import Derived.Test.YtggjheapjklhgaaDoorRkD
namespace Go.Proofs.YtggjheapjklhgaaDoor
open Go.RowKit
theorem OwnF.drew {α : Type} {f : α → List Value} {k : Nat} {T : TypeId} {w : World} {B U : Nat} {a : Option Addr} {n c : Nat} {xs : List α} (h : OwnF f k T w B U a n c xs) : OwnF f k T w.drew B U a n c xs := h.drewN 1
theorem rankAfter_no {G : Geo} {D : RkD} {C : Cmd} (h : allowed G D C = false) : rankAfter G D C = D := by unfold rankAfter; rw [if_neg (by simp [h])]
theorem rankAfter_yes {G : Geo} {D : RkD} {C : Cmd} (h : allowed G D C = true) : rankAfter G D C = doR D C := by unfold rankAfter; rw [if_pos h]
theorem allowed_parts {G : Geo} {D : RkD} {C : Cmd} (h : allowed G D C = true) : rankOk G D = true ∧ cmdOk G C = true ∧ may D C = true := by
  unfold allowed at h
  simp only [Bool.and_eq_true] at h
  exact ⟨h.1.1, h.1.2, h.2⟩
set_option maxHeartbeats 4000000 in
set_option maxRecDepth 100000 in
theorem specRankAfter_any (G : Geo) (R : RankE) (C : Cmd) (w : World) (hR : RankR w R) (hn : R.n ≤ 1048576) :
    Calls Tryd.prog 66 #[.agg #[.int .i64 G.a, .int .i64 G.b, .int .i64 G.r, .int .i64 G.c], .agg #[.slice R.a R.n R.c, .int .i64 R.p], .agg #[.int .i64 C.k, .int .i64 C.b, .int .i64 C.r, .int .i64 C.c]] w fun e w' => ∃ R' : RankE, e = .returned (.tuple #[.agg #[.slice R'.a R'.n R'.c, .int .i64 R'.p], .bool (allowed G R.d C)]) ∧ OwnR w' w.heap.size w'.heap.size R' ∧ R'.d = rankAfter G R.d C ∧ Below w.heap.size w w' := by
  have HX := hid hR
  have HC0 := hid (BoxC.new_ ((w.alloc (.cells #[.int .i64 G.a, .int .i64 G.b, .int .i64 G.r, .int .i64 G.c] 32)).alloc (.cells #[.slice R.a R.n R.c, .int .i64 R.p] 75)) 40 C (show _ = w.heap.size + 2 by simp))
  clear hR
  go_enter Tryd.func66, Tryd.ntmps66
  go_upto_region 1 with (fail)
  refine wp_world (fun W hw => ?_)
  have HG : Hid (BoxG W w.heap.size G) := by rw [hw.out]; exact hid ((((BoxG.new_ w 32 G rfl).old (below_alloc _ _)).old (below_alloc _ _)).old (below_alloc _ _))
  have HK : Hid (BoxK2 W (w.heap.size + 1) R) := by rw [hw.out]; exact hid ((((BoxK2.new_ (w.alloc (.cells #[.int .i64 G.a, .int .i64 G.b, .int .i64 G.r, .int .i64 G.c] 32)) 75 R (show _ = w.heap.size + 1 by simp))).old (below_alloc _ _)).old (below_alloc _ _))
  have HC : Hid (BoxC W (w.heap.size + 2) C) := by rw [hw.out]; exact hid (HC0.out.old (below_alloc _ _))
  have HT : Hid (Blk W (w.heap.size + 3) 75 [.slice none 0 0, .int .i64 0]) := by rw [hw.out]; exact hid (by simpa using Blk.new (((w.alloc (.cells #[.int .i64 G.a, .int .i64 G.b, .int .i64 G.r, .int .i64 G.c] 32)).alloc (.cells #[.slice R.a R.n R.c, .int .i64 R.p] 75)).alloc (.cells #[.int .i64 C.k, .int .i64 C.b, .int .i64 C.r, .int .i64 C.c] 40)) 75 [.slice none 0 0, .int .i64 0])
  have HB : Hid (Below w.heap.size w W) := by rw [hw.out]; exact hid (below_allocs4 _ _ _ _ _)
  have HSW : Hid (W.heap.size = w.heap.size + 4) := by rw [hw.out]; exact hid (by simp)
  have HX := hid (HX.out.old HB.out)
  clear hw HC0
  obtain ⟨_, k0, k1⟩ := HK.out
  go_wp2_with fail
  clear k0 k1
  refine (l08Copy_any R _ HX.out hn).mono ?_
  rintro e w2 ⟨R1, rfl, O, D, B⟩
  have HD := hid D
  have HO := hid O
  have HRL := hid O.reads.len
  have HSR := hid O.reads
  have HLO : Hid (W.heap.size = w.heap.size + 4 ∧ W.heap.size ≤ w2.heap.size) := hid ⟨HSW.out, B.size⟩
  have HG := hid (HG.out.old B)
  have HK := hid (HK.out.old B)
  have HC := hid (HC.out.old B)
  have HT := hid (HT.out.old B)
  have HB := hid (below_step HB.out B (Nat.le_refl _))
  have HX := hid (HX.out.old B)
  clear D O B
  obtain ⟨ra, rn, rc, es, rp⟩ := R1
  dsimp only at HRL
  go_upto_region 2 with (fail)
  refine wp_world (fun w3 hw => ?_)
  have HV : Hid (Blk w3 w2.heap.size 75 [.slice ra rn rc, .int .i64 rp]) := by rw [hw.out]; exact hid (Blk.new _ _ _)
  have B : Below w2.heap.size w2 w3 := by rw [hw.out]; exact below_alloc _ _
  clear hw
  obtain ⟨g8, hg8⟩ : ∃ g8, g8 = w2.heap.size := ⟨_, rfl⟩
  rw [← hg8] at HV HLO HO
  have HG := hid (HG.out.old B)
  have HK := hid (HK.out.old B)
  have HC := hid (HC.out.old B)
  have HT := hid (HT.out.old B)
  have HB := hid (below_step HB.out B (Nat.le_refl _))
  have HX := hid (HX.out.old B)
  have HO := hid (HO.out.old B)
  rw [← hg8]
  clear B hg8
  have HV0 := HV.out.lt
  obtain ⟨_, g0, g1, g2, g3⟩ := HG.out
  obtain ⟨_, k0, k1⟩ := HK.out
  obtain ⟨_, q0, q1, q2, q3⟩ := HC.out
  go_wp2_with fail
  clear g0 g1 g2 g3 k0 k1 q0 q1 q2 q3
  refine (specAllowed_any G R C _ HX.out hn).mono ?_
  rintro e w4 ⟨rfl, B⟩
  have HC := hid (HC.out.old B)
  have HT := hid (HT.out.old B)
  have HB := hid (below_step HB.out B (Nat.le_refl _))
  have HO := hid (HO.out.old B)
  have HV := hid (HV.out.old B)
  clear B HG HK HV0
  cases hal : allowed G R.d C with
  | false =>
    have HAL := hid hal
    clear hal
    have c0 : w4.cell? ⟨g8, 0, none⟩ = some (.slice ra rn rc) := HV.out.cell (j := 0) rfl
    have c1 : w4.cell? ⟨g8, 1, none⟩ = some (.int .i64 rp) := HV.out.cell (j := 1) rfl
    have d0 := HT.out.cell (j := 0) rfl
    have d1 := HT.out.cell (j := 1) rfl
    have f0 := HT.out.frozen 0
    have f1 := HT.out.frozen 1
    have HKK : Hid (Keeps (fun b => b = w.heap.size + 3) w4 ((w4.setCell ⟨w.heap.size + 3, 0, none⟩ (.slice ra rn rc)).setCell ⟨w.heap.size + 3, 1, none⟩ (.int .i64 rp))) := hid ((Keeps.set (S := fun b => b = w.heap.size + 3) (Keeps.refl _ _) ⟨w.heap.size + 3, 0, none⟩ _ rfl).set ⟨w.heap.size + 3, 1, none⟩ _ rfl)
    go_wp2_with fail
    refine bodyPost_ret (v := .tuple #[.agg #[.slice ra rn rc, .int .i64 rp], .bool false]) (by simp [results, Tryd.results66, go_sem, d0, d1]) rfl ⟨⟨ra, rn, rc, es, rp⟩, by rw [HAL.out], ?_, HD.out.trans (rankAfter_no HAL.out).symm, ?_⟩
    · exact OwnF.up (OwnF.mono (OwnF.keeps HO.out HKK.out (fun b h1 h2 h3 => by have := HLO.out; omega)) (by have := HLO.out; omega)) (Nat.le_trans HO.out.le HKK.out.size) (Nat.le_refl _)
    · exact HB.out.trans (HKK.out.below HB.out.size (fun k hk hS => by omega))
  | true =>
    have HAL := hid hal
    have HIN : Hid (inR rn C) := by
      obtain ⟨h1, h2, _⟩ := allowed_parts hal
      rw [← HD.out] at h1
      exact hid (inR_of (R := ⟨ra, rn, rc, es, rp⟩) HRL.out h1 h2)
    have hrn : rn ≤ 1048576 := by
      have h1 : es = R.es := congrArg RkD.banks HD.out
      have h2 := HRL.out
      have h3 := HX.out.len
      rw [h1] at h2
      omega
    clear hal
    obtain ⟨_, q0, q1, q2, q3⟩ := HC.out
    have HV0 := HV.out.lt
    go_wp2_with fail
    clear q0 q1 q2 q3
    refine (l08Do_any g8 _ g8 ⟨ra, rn, rc, es, rp⟩ C _ HV.out HO.out HIN.out (.inr (Nat.le_refl _)) hrn).mono ?_
    rintro e w5 ⟨rfl, ⟨ra', rn', rc', es', rp'⟩, h1, h2, h3, h4, V, O, K⟩
    dsimp only at h1 h2 h3
    subst h1 h2 h3
    have HT := hid (HT.out.keeps K (fun hS => by
      rcases hS with hS | hS
      · have := HLO.out; omega
      · have := OwnR.in_ HO.out hS; have := HLO.out; omega))
    have HB := hid (HB.out.trans (K.below HB.out.size (fun q hq hS => by
      rcases hS with hS | hS
      · have := HLO.out; omega
      · have := OwnR.in_ HO.out hS; have := HLO.out; omega)))
    have HE := hid h4
    have HV := hid V
    have HO := hid O
    clear h4 V O K HV0
    have c0 : w5.cell? ⟨g8, 0, none⟩ = some (.slice ra' rn' rc') := HV.out.cell (j := 0) rfl
    have c1 : w5.cell? ⟨g8, 1, none⟩ = some (.int .i64 rp') := HV.out.cell (j := 1) rfl
    have d0 := HT.out.cell (j := 0) rfl
    have d1 := HT.out.cell (j := 1) rfl
    have f0 := HT.out.frozen 0
    have f1 := HT.out.frozen 1
    have HKK : Hid (Keeps (fun b => b = w.heap.size + 3) w5 ((w5.setCell ⟨w.heap.size + 3, 0, none⟩ (.slice ra' rn' rc')).setCell ⟨w.heap.size + 3, 1, none⟩ (.int .i64 rp'))) := hid ((Keeps.set (S := fun b => b = w.heap.size + 3) (Keeps.refl _ _) ⟨w.heap.size + 3, 0, none⟩ _ rfl).set ⟨w.heap.size + 3, 1, none⟩ _ rfl)
    go_wp2_with fail
    refine bodyPost_ret (v := .tuple #[.agg #[.slice ra' rn' rc', .int .i64 rp'], .bool true]) (by simp [results, Tryd.results66, go_sem, d0, d1]) rfl ⟨⟨ra', rn', rc', es', rp'⟩, by rw [HAL.out], ?_, HE.out.trans ((congrArg (fun d => doR d C) HD.out).trans (rankAfter_yes HAL.out).symm), ?_⟩
    · exact OwnF.up (OwnF.mono (OwnF.keeps HO.out HKK.out (fun b h1 h2 h3 => by have := HLO.out; omega)) (by have := HLO.out; omega)) (Nat.le_trans HO.out.le HKK.out.size) (Nat.le_refl _)
    · exact HB.out.trans (HKK.out.below HB.out.size (fun k hk hS => by omega))
end Go.Proofs.YtggjheapjklhgaaDoor
