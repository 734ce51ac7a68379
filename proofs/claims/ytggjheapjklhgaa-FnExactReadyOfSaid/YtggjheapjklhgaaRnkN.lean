/- RankNew: what the program's and the reference's return. -/
import Derived.Test.YtggjheapjklhgaaRnkF
import Derived.Test.YtggjheapjklhgaaCmdW
namespace Go.Proofs.Ytggjheapjklhgaa
open Go.RowKit

def rankNew (G : Geo) : RkD := ⟨List.replicate (bankN G).toNat (false, 0), 0⟩
theorem rankNew_len (G : Geo) : (rankNew G).banks.length ≤ 8 := by
  have := bankN_bd G
  simp [rankNew]; omega
theorem OwnF.none_ {α : Type} {f : α → List Value} {k : Nat} {T : TypeId} (w : World) (B U : Nat) (hU : U ≤ w.heap.size) : OwnF f k T w B U none 0 0 [] :=
  ⟨hU, ⟨by simp, .inl ⟨rfl, rfl⟩⟩, fun b hb => by simp [Value.ownBlock] at hb⟩
/-- A fresh variable of a rank. -/
structure BoxKN (w : World) (g : Nat) : Prop where
  hh : w.heap[g]? = some (.cells #[.slice none 0 0, .int .i64 0] 41 (0, 0))
theorem BoxKN.new_ (w : World) {g : Nat} (h : w.heap.size = g) : BoxKN (w.alloc (.cells #[.slice none 0 0, .int .i64 0] 41)) g := by subst h; exact ⟨heap_alloc_new w _⟩
theorem BoxKN.lt {w : World} {g : Nat} (h : BoxKN w g) : g < w.heap.size := (Array.getElem?_eq_some_iff.1 h.hh).1
theorem BoxKN.old {w w' : World} {g : Nat} (h : BoxKN w g) (hb : Below w.heap.size w w') : BoxKN w' g := ⟨(hb.block g h.lt).trans h.hh⟩
theorem BoxKN.c0 {w : World} {g : Nat} (h : BoxKN w g) : w.cell? ⟨g, 0, none⟩ = some (.slice none 0 0) := by rw [cell_of_row w g 0 _ _ (0, 0) h.hh]; simp
theorem BoxKN.c1 {w : World} {g : Nat} (h : BoxKN w g) : w.cell? ⟨g, 1, none⟩ = some (.int .i64 0) := by rw [cell_of_row w g 1 _ _ (0, 0) h.hh]; simp
theorem BoxKN.fr {w : World} {g : Nat} (h : BoxKN w g) (j : Nat) : w.frozen? ⟨g, j, none⟩ = false := frozen_of_row w g j _ _ h.hh
set_option maxRecDepth 100000 in
theorem implRankNew_any (G : Geo) (w : World) :
    Calls Try.prog 110 #[.agg #[.int .i64 G.a, .int .i64 G.b, .int .i64 G.r, .int .i64 G.c]] w fun e w' => ∃ R' : RankE, e = .returned (.agg #[.slice R'.a R'.n R'.c, .int .i64 R'.p]) ∧ OwnR w' w.heap.size w'.heap.size R' ∧ R'.d = rankNew G ∧ Below w.heap.size w w' := by
  obtain ⟨i0, hi, hz0, hz1, hz2⟩ := info_parts recB.info
  have HG := hid ((BoxG.new_ w 25 G rfl).old (below_alloc _ (.cells #[.slice none 0 0, .int .i64 0] 41)))
  have HBB := hid (below_alloc2 w (.cells #[.int .i64 G.a, .int .i64 G.b, .int .i64 G.r, .int .i64 G.c] 25) (.cells #[.slice none 0 0, .int .i64 0] 41))
  have HK := hid (BoxKN.new_ (w.alloc (.cells #[.int .i64 G.a, .int .i64 G.b, .int .i64 G.r, .int .i64 G.c] 25)) (show _ = w.heap.size + 1 by simp))
  go_enter Try.func110, Try.ntmps110
  go_wp2_with fail
  refine (implGeometryOk_any G _).mono ?_
  rintro e w1 ⟨rfl, B⟩
  have HB := hid (below_step HBB.out B (Nat.le_refl _))
  have HG := hid (HG.out.old B)
  have HK := hid (HK.out.old B)
  clear B HBB
  cases hg : gOk G with
  | false =>
    have HV := hid (show rankNew G = ⟨[], 0⟩ by simp [rankNew, bankN_no hg])
    have K : Keeps (fun b => b = w.heap.size + 1) w1 ((w1.setCell ⟨w.heap.size + 1, 0, none⟩ (.slice none 0 0)).setCell ⟨w.heap.size + 1, 1, none⟩ (.int .i64 0)) := (Keeps.set (S := fun b => b = w.heap.size + 1) (Keeps.refl _ _) ⟨w.heap.size + 1, 0, none⟩ _ rfl).set ⟨w.heap.size + 1, 1, none⟩ _ rfl
    have HKK := hid K
    clear K
    have c0 := HK.out.c0
    have c1 := HK.out.c1
    have f0 := HK.out.fr 0
    have f1 := HK.out.fr 1
    go_wp2
    refine bodyPost_ret (v := .agg #[.slice none 0 0, .int .i64 0]) (by simp [results, Try.results110, go_sem, c0, c1]) rfl ⟨⟨none, 0, 0, [], 0⟩, rfl, ?_, by rw [HV.out]; rfl, ?_⟩
    · exact OwnF.none_ _ _ _ (Nat.le_refl _)
    · exact HB.out.trans (HKK.out.below HB.out.size (fun k hk hS => by omega))
  | true =>
    clear hg
    have hbd := bankN_bd G
    obtain ⟨m, hm⟩ : ∃ m : Nat, bankN G = (m : Int) := ⟨(bankN G).toNat, by omega⟩
    have HV := hid (show rankNew G = ⟨List.replicate m (false, 0), 0⟩ by simp [rankNew, hm])
    have hm8 : m ≤ 8 := by omega
    have HM := hid hm
    clear hm hbd
    obtain ⟨_, g0, g1, g2, g3⟩ := HG.out
    go_wp2_with fail
    clear g0 g1 g2 g3
    refine (implBankCount_any G _).mono ?_
    rintro e w2 ⟨rfl, B⟩
    rw [HM.out]
    have HB := hid (below_step HB.out B (Nat.le_refl _))
    have HK := hid (HK.out.old B)
    clear B
    go_wp2_with (first | (at_make; refine wpList_make_full _ rfl _ _ 39 rfl w2.heap.size 69 i0 (.agg #[.bool false, .int .i64 0]) 2 Try.underlying39 hi hz0 hz1 _ _ _ _ m rfl rfl rfl rfl (by rw [hz2]; omega) (by unfold maxLen; omega) (Nat.le_refl _) ?_; intro w3 hown hg3; have B3 := (Below.refl w2.heap.size w2).grown hg3 (Nat.le_refl _) (fun k h => by cases h); have HK3 := hid (HK.out.old B3); have c0 := HK3.out.c0; have c1 := HK3.out.c1; have f0 := HK3.out.fr 0; have f1 := HK3.out.fr 1; have hlt3 : w2.heap.size < w3.heap.size := (World.ownsRow.lt hown w2.heap.size rfl).2; have HO := hid (OwnB.made hown hlt3); have HB3 := hid (below_step HB.out B3 (Nat.le_refl _)); have HS3 := hid B3.size; have HS2 := hid HB.out.size; clear hown hg3 B3))
    have hgk := HK3.out.lt
    have K : Keeps (fun b => b = w.heap.size + 1) w3 ((w3.setCell ⟨w.heap.size + 1, 0, none⟩ (.slice (some ⟨w2.heap.size, 0, none⟩) m m)).setCell ⟨w.heap.size + 1, 1, none⟩ (.int .i64 0)) := (Keeps.set (S := fun b => b = w.heap.size + 1) (Keeps.refl _ _) ⟨w.heap.size + 1, 0, none⟩ _ rfl).set ⟨w.heap.size + 1, 1, none⟩ _ rfl
    have HKK := hid K
    clear K
    refine bodyPost_ret (v := .agg #[.slice (some ⟨w2.heap.size, 0, none⟩) m m, .int .i64 0]) (by simp [results, Try.results110, go_sem, c0, c1]) rfl ⟨⟨some ⟨w2.heap.size, 0, none⟩, m, m, List.replicate m (false, 0), 0⟩, rfl, ?_, by rw [HV.out]; rfl, ?_⟩
    · have h1 := HK.out.lt
      exact OwnF.up (OwnF.mono (OwnF.keeps HO.out HKK.out (fun b hb _ hS => by omega)) (by have := HS2.out; omega)) HKK.out.size (Nat.le_refl _)
    · exact HB3.out.trans (HKK.out.below HB3.out.size (fun k hk hS => by omega))
set_option maxRecDepth 100000 in
theorem specRankNew_any (G : Geo) (w : World) :
    Calls Try.prog 74 #[.agg #[.int .i64 G.a, .int .i64 G.b, .int .i64 G.r, .int .i64 G.c]] w fun e w' => ∃ R' : RankE, e = .returned (.agg #[.slice R'.a R'.n R'.c, .int .i64 R'.p]) ∧ OwnR w' w.heap.size w'.heap.size R' ∧ R'.d = rankNew G ∧ Below w.heap.size w w' := by
  obtain ⟨i0, hi, hz0, hz1, hz2⟩ := info_parts recB.info
  have HG := hid ((BoxG.new_ w 25 G rfl).old (below_alloc _ (.cells #[.slice none 0 0, .int .i64 0] 41)))
  have HBB := hid (below_alloc2 w (.cells #[.int .i64 G.a, .int .i64 G.b, .int .i64 G.r, .int .i64 G.c] 25) (.cells #[.slice none 0 0, .int .i64 0] 41))
  have HK := hid (BoxKN.new_ (w.alloc (.cells #[.int .i64 G.a, .int .i64 G.b, .int .i64 G.r, .int .i64 G.c] 25)) (show _ = w.heap.size + 1 by simp))
  go_enter Try.func74, Try.ntmps74
  go_wp2_with fail
  · have hbd := bankN_bd G
    obtain ⟨m, hm⟩ : ∃ m : Nat, bankN G = (m : Int) := ⟨(bankN G).toNat, by omega⟩
    have HV := hid (show rankNew G = ⟨List.replicate m (false, 0), 0⟩ by simp [rankNew, hm])
    have hm8 : m ≤ 8 := by omega
    have HM := hid hm
    clear hm hbd
    refine (specBankCount_any G _).mono ?_
    rintro e w2 ⟨rfl, B⟩
    rw [HM.out]
    have HB := hid (below_step HBB.out B (Nat.le_refl _))
    have HK := hid (HK.out.old B)
    clear B
    go_wp2_with (first | (at_make; refine wpList_make_full _ rfl _ _ 39 rfl w2.heap.size 69 i0 (.agg #[.bool false, .int .i64 0]) 2 Try.underlying39 hi hz0 hz1 _ _ _ _ m rfl rfl rfl rfl (by rw [hz2]; omega) (by unfold maxLen; omega) (Nat.le_refl _) ?_; intro w3 hown hg3; have B3 := (Below.refl w2.heap.size w2).grown hg3 (Nat.le_refl _) (fun k h => by cases h); have HK3 := hid (HK.out.old B3); have c0 := HK3.out.c0; have c1 := HK3.out.c1; have f0 := HK3.out.fr 0; have f1 := HK3.out.fr 1; have hlt3 : w2.heap.size < w3.heap.size := (World.ownsRow.lt hown w2.heap.size rfl).2; have HO := hid (OwnB.made hown hlt3); have HB3 := hid (below_step HB.out B3 (Nat.le_refl _)); have HS3 := hid B3.size; have HS2 := hid HB.out.size; clear hown hg3 B3))
    have hgk := HK3.out.lt
    have K : Keeps (fun b => b = w.heap.size + 1) w3 ((w3.setCell ⟨w.heap.size + 1, 0, none⟩ (.slice (some ⟨w2.heap.size, 0, none⟩) m m)).setCell ⟨w.heap.size + 1, 1, none⟩ (.int .i64 0)) := (Keeps.set (S := fun b => b = w.heap.size + 1) (Keeps.refl _ _) ⟨w.heap.size + 1, 0, none⟩ _ rfl).set ⟨w.heap.size + 1, 1, none⟩ _ rfl
    have HKK := hid K
    clear K
    refine bodyPost_ret (v := .agg #[.slice (some ⟨w2.heap.size, 0, none⟩) m m, .int .i64 0]) (by simp [results, Try.results74, go_sem, c0, c1]) rfl ⟨⟨some ⟨w2.heap.size, 0, none⟩, m, m, List.replicate m (false, 0), 0⟩, rfl, ?_, by rw [HV.out]; rfl, ?_⟩
    · have h1 := HK.out.lt
      exact OwnF.up (OwnF.mono (OwnF.keeps HO.out HKK.out (fun b hb _ hS => by omega)) (by have := HS2.out; omega)) HKK.out.size (Nat.le_refl _)
    · exact HB3.out.trans (HKK.out.below HB3.out.size (fun k hk hS => by omega))
end Go.Proofs.Ytggjheapjklhgaa
