/- ReadyNew: what the program's and the reference's return. -/
import Derived.Test.YtggjheapjklhgaaRdyW
import Derived.Test.YtggjheapjklhgaaCmdW
namespace Go.Proofs.Ytggjheapjklhgaa
open Go.RowKit

def readyLen (G : Geo) : Nat := (9 * (bankN G + 1)).toNat
def readyNew (G : Geo) : RdyD := if gOk G = true then ⟨List.replicate (readyLen G) (-1), []⟩ else ⟨[], []⟩
theorem readyLen_bd (G : Geo) : readyLen G ≤ 81 ∧ 9 * (bankN G + 1) = (readyLen G : Int) := by
  have := bankN_bd G
  unfold readyLen; omega
/-- A fresh variable of a summary. -/
structure BoxYN (w : World) (g : Nat) : Prop where
  hh : w.heap[g]? = some (.cells #[.slice none 0 0, .slice none 0 0] 37 (0, 0))
theorem BoxYN.new_ (w : World) {g : Nat} (h : w.heap.size = g) : BoxYN (w.alloc (.cells #[.slice none 0 0, .slice none 0 0] 37)) g := by subst h; exact ⟨heap_alloc_new w _⟩
theorem BoxYN.lt {w : World} {g : Nat} (h : BoxYN w g) : g < w.heap.size := (Array.getElem?_eq_some_iff.1 h.hh).1
theorem BoxYN.old {w w' : World} {g : Nat} (h : BoxYN w g) (hb : Below w.heap.size w w') : BoxYN w' g := ⟨(hb.block g h.lt).trans h.hh⟩
theorem BoxYN.keeps {S : Nat → Prop} {w w' : World} {g : Nat} (h : BoxYN w g) (hk : Keeps S w w') (hs : ¬ S g) : BoxYN w' g := ⟨(hk.block g h.lt hs).trans h.hh⟩
theorem BoxYN.c0 {w : World} {g : Nat} (h : BoxYN w g) : w.cell? ⟨g, 0, none⟩ = some (.slice none 0 0) := by rw [cell_of_row w g 0 _ _ (0, 0) h.hh]; simp
theorem BoxYN.c1 {w : World} {g : Nat} (h : BoxYN w g) : w.cell? ⟨g, 1, none⟩ = some (.slice none 0 0) := by rw [cell_of_row w g 1 _ _ (0, 0) h.hh]; simp
theorem BoxYN.fr {w : World} {g : Nat} (h : BoxYN w g) (j : Nat) : w.frozen? ⟨g, j, none⟩ = false := frozen_of_row w g j _ _ h.hh
theorem neg_at (n k : Nat) (h : k < n) : (List.replicate n (-1 : Int))[k]? = some (-1) := by rw [List.getElem?_replicate]; simp [h]
theorem stored_y (w : World) (g : Nat) (x y : Value) : Keeps (fun b => b = g) w ((w.setCell ⟨g, 0, none⟩ x).setCell ⟨g, 1, none⟩ y) := (Keeps.set (S := fun b => b = g) (Keeps.refl _ _) ⟨g, 0, none⟩ _ rfl).set ⟨g, 1, none⟩ _ rfl
/-- A summary of the call's own that has one row. -/
theorem OwnY.one {w : World} {B g n : Nat} {xs : List Int} (h : IRow w g n n xs) (hB : B ≤ g) : OwnY w B w.heap.size ⟨⟨some ⟨g, 0, none⟩, n, n⟩, ⟨none, 0, 0⟩, xs, []⟩ :=
  ⟨Nat.le_refl _, OwnS.of_row h hB, OwnS.empty _ _ _ _, fun _ hb => ((OwnS.of_row h hB).lt hb).2, fun _ hb => absurd rfl hb.1, fun _ _ hb => absurd rfl hb.1⟩
theorem OwnY.none_ (w : World) (B : Nat) : OwnY w B w.heap.size ⟨⟨none, 0, 0⟩, ⟨none, 0, 0⟩, [], []⟩ :=
  ⟨Nat.le_refl _, OwnS.empty _ _ _ _, OwnS.empty _ _ _ _, fun _ hb => absurd rfl hb.1, fun _ hb => absurd rfl hb.1, fun _ hb => absurd rfl hb.1⟩

theorem l10Fill_any (n : Nat) (w : World) (hn : n ≤ 1048576) :
    Calls Try.prog 137 #[.int .i64 n] w fun e w' => ∃ g, e = .returned (.slice (some ⟨g, 0, none⟩) n n) ∧ w.heap.size ≤ g ∧ IRow w' g n n (List.replicate n (-1)) ∧ Below w.heap.size w w' := by
  obtain ⟨i0, hi, hz0, hz1, hz2⟩ := info_parts infoInt
  have HN : Hid (n = (List.replicate n (-1 : Int)).length) := hid (by simp)
  go_enter Try.func137, Try.ntmps137
  go_wp2_with (first | (at_make; refine wpList_make_full _ rfl _ _ 35 rfl w.heap.size 3 i0 (.int .i64 0) 1 Try.underlying35 hi hz0 hz1 _ _ _ _ n rfl rfl rfl rfl (by rw [hz2]; omega) (by unfold maxLen; omega) (Nat.le_refl _) ?_; intro w1 hown hg))
  have HO1 := hid (IRow.made hown)
  have HB1 := hid ((Below.refl w.heap.size w).grown hg (Nat.le_refl _) (fun k h => by cases h))
  clear hown hg
  go_loopw [4] (fun i wr => ∃ k : Nat, k ≤ n ∧ i = .int .i64 k ∧ Hid (IRow wr w.heap.size n n ((List.replicate n (-1 : Int)).take k ++ List.replicate (n - k) 0)) ∧ Hid (Below w.heap.size w wr)) (fun i _ => n - (intOf i).toNat)
  case atStart => exact ⟨0, Nat.zero_le _, rfl, by simpa using HO1, HB1⟩
  case round =>
    clear HO1 HB1
    obtain ⟨k, hk, rfl, HO, HB⟩ := hrel
    by_cases hlt : k < n
    · have hc3 := HO.out.cell (fill_at 0 HN.out hlt)
      have hf3 := HO.out.frozen k
      have HO' := hid (HO.out.set k (-1)).1
      rw [fill_set HN.out (neg_at n k hlt)] at HO'
      have HB' := hid (HB.out.setCell (p := ⟨w.heap.size, k, none⟩) (Nat.le_refl _) (.int .i64 (-1)))
      clear HO HB
      go_wp2
      go_roundw
      case rel => exact ⟨k + 1, by omega, by go_num, HO', HB'⟩
      case measure => simp [intOf]; omega
    · have HO' := hid HO.out
      rw [fill_done HN.out hlt] at HO'
      clear HO
      go_wp2
      go_ret
      exact ⟨_, rfl, Nat.le_refl _, HO'.out, HB.out⟩
set_option maxRecDepth 100000 in
theorem specReadyNew_any (G : Geo) (w : World) :
    Calls Try.prog 108 #[.agg #[.int .i64 G.a, .int .i64 G.b, .int .i64 G.r, .int .i64 G.c]] w fun e w' => ∃ Y' : RdyE, e = .returned (.agg #[.slice Y'.s0.a Y'.s0.n Y'.s0.c, .slice Y'.s1.a Y'.s1.n Y'.s1.c]) ∧ OwnY w' w.heap.size w'.heap.size Y' ∧ Y'.d = readyNew G ∧ Below w.heap.size w w' := by
  have HG := hid ((BoxG.new_ w 25 G rfl).old (below_alloc _ (.cells #[.slice none 0 0, .slice none 0 0] 37)))
  have HBB := hid (below_alloc2 w (.cells #[.int .i64 G.a, .int .i64 G.b, .int .i64 G.r, .int .i64 G.c] 25) (.cells #[.slice none 0 0, .slice none 0 0] 37))
  have HK := hid (BoxYN.new_ (w.alloc (.cells #[.int .i64 G.a, .int .i64 G.b, .int .i64 G.r, .int .i64 G.c] 25)) (show _ = w.heap.size + 1 by simp))
  go_enter Try.func108, Try.ntmps108
  go_wp2_with fail
  refine (specGeometryOk_any G _).mono ?_
  rintro e w1 ⟨rfl, B⟩
  have HB := hid (below_step HBB.out B (Nat.le_refl _))
  have HG := hid (HG.out.old B)
  have HK := hid (HK.out.old B)
  clear B HBB
  cases hg : gOk G with
  | false =>
    have HV := hid (show readyNew G = ⟨[], []⟩ by simp [readyNew, hg])
    have c0 := HK.out.c0
    have c1 := HK.out.c1
    have f0 := HK.out.fr 0
    have f1 := HK.out.fr 1
    have HKK := hid (stored_y w1 (w.heap.size + 1) (.slice none 0 0) (.slice none 0 0))
    go_wp2
    refine bodyPost_ret (v := .agg #[.slice none 0 0, .slice none 0 0]) (by simp [results, Try.results108, go_sem, c0, c1]) rfl ⟨⟨⟨none, 0, 0⟩, ⟨none, 0, 0⟩, [], []⟩, rfl, OwnY.none_ _ _, by rw [HV.out]; rfl, ?_⟩
    exact HB.out.trans (HKK.out.below HB.out.size (fun k hk hS => by omega))
  | true =>
    obtain ⟨hl, hbn⟩ := readyLen_bd G
    have hb := bankN_bd G
    have e1 : IntKind.i64.wrap (bankN G + 1) = bankN G + 1 := IntWalk.i64_in _ (by omega)
    have e2 : IntKind.i64.wrap (9 * (bankN G + 1)) = (readyLen G : Int) := by rw [IntWalk.i64_in _ (by omega)]; exact hbn
    have e3 : wrap64 (9 * (bankN G + 1)) = (readyLen G : Int) := by rw [IntWalk.wrap64_in _ (by omega)]; exact hbn
    have HV := hid (show readyNew G = ⟨List.replicate (readyLen G) (-1), []⟩ by simp [readyNew, hg])
    obtain ⟨_, g0, g1, g2, g3⟩ := HG.out
    have HBN := hid hbn
    clear hg hb
    go_wp2_with fail
    clear g0 g1 g2 g3
    refine (specBankCount_any G _).mono ?_
    rintro e w2 ⟨rfl, B⟩
    have HB := hid (below_step HB.out B (Nat.le_refl _))
    have HK := hid (HK.out.old B)
    clear B
    go_wp2_with fail
    refine (calls_args (by rw [← HBN.out]) (l10Fill_any (readyLen G) _ (by omega))).mono ?_
    rintro e w3 ⟨g, rfl, hg, O, B⟩
    have HB3 := hid (below_step HB.out B (Nat.le_refl _))
    have HK3 := hid (HK.out.old B)
    have HO := hid O
    have hs2 := HB.out.size
    have hkl := HK.out.lt
    clear B O
    have c0 := HK3.out.c0
    have c1 := HK3.out.c1
    have f0 := HK3.out.fr 0
    have f1 := HK3.out.fr 1
    have HKK := hid (stored_y w3 (w.heap.size + 1) (.slice (some ⟨g, 0, none⟩) (readyLen G) (readyLen G)) (.slice none 0 0))
    clear e1 e2 e3 hbn
    go_wp2
    refine bodyPost_ret (v := .agg #[.slice (some ⟨g, 0, none⟩) (readyLen G) (readyLen G), .slice none 0 0]) (by simp [results, Try.results108, go_sem, c0, c1]) rfl ⟨⟨⟨some ⟨g, 0, none⟩, readyLen G, readyLen G⟩, ⟨none, 0, 0⟩, List.replicate (readyLen G) (-1), []⟩, rfl, ?_, by rw [HV.out]; rfl, ?_⟩
    · exact OwnY.one (HO.out.keeps HKK.out (fun hS => by omega)) (by omega)
    · exact HB3.out.trans (HKK.out.below HB3.out.size (fun k hk hS => by omega))
set_option maxRecDepth 100000 in
theorem implReadyNew_any (G : Geo) (w : World) :
    Calls Try.prog 73 #[.agg #[.int .i64 G.a, .int .i64 G.b, .int .i64 G.r, .int .i64 G.c]] w fun e w' => ∃ Y' : RdyE, e = .returned (.agg #[.slice Y'.s0.a Y'.s0.n Y'.s0.c, .slice Y'.s1.a Y'.s1.n Y'.s1.c]) ∧ OwnY w' w.heap.size w'.heap.size Y' ∧ Y'.d = readyNew G ∧ Below w.heap.size w w' := by
  obtain ⟨i0, hi, hz0, hz1, hz2⟩ := info_parts infoInt
  have HG := hid ((BoxG.new_ w 25 G rfl).old (below_alloc _ (.cells #[.slice none 0 0, .slice none 0 0] 37)))
  have HBB := hid (below_alloc2 w (.cells #[.int .i64 G.a, .int .i64 G.b, .int .i64 G.r, .int .i64 G.c] 25) (.cells #[.slice none 0 0, .slice none 0 0] 37))
  have HK := hid (BoxYN.new_ (w.alloc (.cells #[.int .i64 G.a, .int .i64 G.b, .int .i64 G.r, .int .i64 G.c] 25)) (show _ = w.heap.size + 1 by simp))
  go_enter Try.func73, Try.ntmps73
  go_wp2_with fail
  refine (implGeometryOk_any G _).mono ?_
  rintro e w1 ⟨rfl, B⟩
  have HB := hid (below_step HBB.out B (Nat.le_refl _))
  have HG := hid (HG.out.old B)
  have HK := hid (HK.out.old B)
  clear B HBB
  cases hg : gOk G with
  | false =>
    have HV := hid (show readyNew G = ⟨[], []⟩ by simp [readyNew, hg])
    have c0 := HK.out.c0
    have c1 := HK.out.c1
    have f0 := HK.out.fr 0
    have f1 := HK.out.fr 1
    have HKK := hid (stored_y w1 (w.heap.size + 1) (.slice none 0 0) (.slice none 0 0))
    go_wp2
    refine bodyPost_ret (v := .agg #[.slice none 0 0, .slice none 0 0]) (by simp [results, Try.results73, go_sem, c0, c1]) rfl ⟨⟨⟨none, 0, 0⟩, ⟨none, 0, 0⟩, [], []⟩, rfl, OwnY.none_ _ _, by rw [HV.out]; rfl, ?_⟩
    exact HB.out.trans (HKK.out.below HB.out.size (fun k hk hS => by omega))
  | true =>
    obtain ⟨hl, hbn⟩ := readyLen_bd G
    have hb := bankN_bd G
    have e1 : IntKind.i64.wrap (bankN G + 1) = bankN G + 1 := IntWalk.i64_in _ (by omega)
    have HV := hid (show readyNew G = ⟨List.replicate (readyLen G) (-1), []⟩ by simp [readyNew, hg])
    obtain ⟨_, g0, g1, g2, g3⟩ := HG.out
    have HBN := hid hbn
    clear hg
    go_wp2_with fail
    clear g0 g1 g2 g3
    refine (implBankCount_any G _).mono ?_
    rintro e w2 ⟨rfl, B⟩
    have HB := hid (below_step HB.out B (Nat.le_refl _))
    have HK := hid (HK.out.old B)
    have hsz2 := HB.out.size
    have hkl := HK.out.lt
    clear B hbn
    have HRL : Hid (readyLen G ≤ 81) := hid hl
    generalize hrl : readyLen G = n at HBN HV HRL hl
    clear hrl
    go_wp2_with (first | (at_make; refine wpList_make_full _ rfl _ _ 35 rfl w2.heap.size 3 i0 (.int .i64 0) 1 Try.underlying35 hi hz0 hz1 _ _ _ _ n rfl rfl (by rw [← HBN.out]) (by rw [← HBN.out]) (by rw [hz2]; omega) (by unfold maxLen; omega) (Nat.le_refl _) ?_; intro w3 hown hg3))
    have HB3 := hid ((Below.refl w2.heap.size w2).grown hg3 (Nat.le_refl _) (fun k h => by cases h))
    have HO3 := hid (IRow.made hown)
    clear hown hg3
    refine wp_world (fun W hw => ?_)
    have HYB : Hid (BoxY W w3.heap.size ⟨⟨some ⟨w2.heap.size, 0, none⟩, n, n⟩, ⟨none, 0, 0⟩, [], []⟩) := by rw [hw.out]; exact hid (BoxY.new_ _ _ ⟨⟨some ⟨w2.heap.size, 0, none⟩, n, n⟩, ⟨none, 0, 0⟩, [], []⟩ rfl)
    have HO : Hid (IRow W w2.heap.size n n (List.replicate n 0)) := by rw [hw.out]; exact hid (HO3.out.old (below_alloc _ _))
    have HBW : Hid (Below w2.heap.size w2 W) := by rw [hw.out]; exact hid (below_step HB3.out (below_alloc _ _) (Nat.le_refl _))
    have HKW := hid (HK.out.old HBW.out)
    have h23 := HB3.out.size
    have h24 := HO3.out.lt
    have HN : Hid (n = (List.replicate n (-1 : Int)).length) := hid (by simp)
    clear hw HB3 HO3
    go_loopw [18] (fun i wr => ∃ k : Nat, k ≤ n ∧ i = .int .i64 k ∧ Hid (IRow wr w2.heap.size n n ((List.replicate n (-1 : Int)).take k ++ List.replicate (n - k) 0)) ∧ Hid (Keeps (fun b => b = w2.heap.size) W wr)) (fun i _ => n - (intOf i).toNat)
    case atStart => exact ⟨0, Nat.zero_le _, rfl, by simpa using HO, hid (Keeps.refl _ _)⟩
    case round =>
      clear HO
      obtain ⟨k, hk, rfl, HO, HKE⟩ := hrel
      by_cases hlt : k < n
      · have hc3 := HO.out.cell (fill_at 0 HN.out hlt)
        have hf3 := HO.out.frozen k
        obtain ⟨_, y0, y1⟩ := HYB.out.keeps HKE.out (fun e => by omega)
        have hs := HO.out.set k (-1)
        have HO' := hid hs.1
        rw [fill_set HN.out (neg_at n k hlt)] at HO'
        have HKE' := hid (HKE.out.trans hs.2)
        clear hs HO HKE
        go_wp2
        go_roundw
        case rel => exact ⟨k + 1, by omega, by go_num, HO', HKE'⟩
        case measure => simp [intOf]; omega
      · have HO' := hid HO.out
        rw [fill_done HN.out hlt] at HO'
        obtain ⟨_, y0, y1⟩ := HYB.out.keeps HKE.out (fun e => by omega)
        have HK3 := hid (HKW.out.keeps HKE.out (fun e => by omega))
        have c0 := HK3.out.c0
        have c1 := HK3.out.c1
        have f0 := HK3.out.fr 0
        have f1 := HK3.out.fr 1
        have HKK := hid (stored_y wr (w.heap.size + 1) (.slice (some ⟨w2.heap.size, 0, none⟩) n n) (.slice none 0 0))
        have HB3 := hid ((HB.out.trans (HBW.out.mono hsz2)).trans (HKE.out.below (by have := HBW.out.size; omega) (fun q hq e => by omega)))
        clear HO
        go_wp2
        refine bodyPost_ret (v := .agg #[.slice (some ⟨w2.heap.size, 0, none⟩) n n, .slice none 0 0]) (by simp [results, Try.results73, go_sem, c0, c1]) rfl ⟨⟨⟨some ⟨w2.heap.size, 0, none⟩, n, n⟩, ⟨none, 0, 0⟩, List.replicate n (-1), []⟩, rfl, ?_, by rw [HV.out]; rfl, ?_⟩
        · exact OwnY.one (HO'.out.keeps HKK.out (fun hS => by omega)) (by omega)
        · exact HB3.out.trans (HKK.out.below HB3.out.size (fun k hk hS => by omega))
end Go.Proofs.Ytggjheapjklhgaa
