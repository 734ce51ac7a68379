/- Copies of cells and arrays: what the program's and the reference's functions return. -/
import Derived.Test.YtnfkkkjookfdiaaArrW
namespace Go.Proofs.Ytnfkkkjookfdiaa
open Go.RowKit

set_option maxRecDepth 100000 in
theorem implCopyCell_any (a : Option Addr) (n c : Nat) (xs : List Int) (p : Bool) (w : World) (hx : IntsR w a xs) (hn : n = xs.length) (hl : xs.length ≤ 1048576) :
    Calls Try.prog 90 #[.agg #[.slice a n c, .bool p]] w fun e w' => ∃ a' c', e = .returned (.agg #[.slice a' n c', .bool p]) ∧ OwnS w' w.heap.size a' n c' xs ∧ Below w.heap.size w w' := by
  have HX := hid hx
  have HN := hid hn
  have hnl : n ≤ 1048576 := by omega
  clear hx hn
  have hx3 := HX.out.old (below_alloc3 w (.cells #[.slice a n c, .bool p] 61) (.cells #[.slice none 0 0, .bool false] 61) (.cells #[] 3))
  have HX3 := hid hx3
  have HE := hid (IRow.empty ((w.alloc (.cells #[.slice a n c, .bool p] 61)).alloc (.cells #[.slice none 0 0, .bool false] 61)))
  clear hx3
  go_enter Try.func90, Try.ntmps90
  go_wp2_with (at_builtin; refine wpList_append_ints rfl _ _ rfl _ (w.heap.size + 1 + 1) _ 0 0 [] HE.out (by simp) (by simp [go_sem]) _ n _ xs HX3.out HN.out rfl n (by omega) (by omega) (by simp) ?_; intro g cap w1 hg R B; obtain ⟨hc, hf⟩ := bcell B; have hsz := B.size; simp only [World.size_alloc] at hsz hc hf; have x0 := (boxes2 (l1 := [.slice a n c, .bool p]) (l2 := [.slice none 0 0, .bool false]) B 0).1; have x1 := (boxes2 (l1 := [.slice a n c, .bool p]) (l2 := [.slice none 0 0, .bool false]) B 1).1; have y0 := (boxes2 (l1 := [.slice a n c, .bool p]) (l2 := [.slice none 0 0, .bool false]) B 0).2; have y1 := (boxes2 (l1 := [.slice a n c, .bool p]) (l2 := [.slice none 0 0, .bool false]) B 1).2; simp only [List.getElem?_cons_zero, List.getElem?_cons_succ] at x0 x1 y0 y1; have HR := hid R; have HB := hid B; clear R B)
  have hK : Keeps (fun b => b = w.heap.size ∨ b = w.heap.size + 1) w1 (((w1.setCell ⟨w.heap.size, 0, none⟩ (.slice (some ⟨g, 0, none⟩) n cap)).setCell ⟨w.heap.size + 1, 0, none⟩ (.slice (some ⟨g, 0, none⟩) n cap)).setCell ⟨w.heap.size + 1, 1, none⟩ (.bool p)) :=
    (((Keeps.refl _ _).set _ _ (.inl rfl)).set _ _ (.inr rfl)).set _ _ (.inr rfl)
  refine bodyPost_ret (v := .agg #[.slice (some ⟨g, 0, none⟩) n cap, .bool p]) (by simp [results, Try.results90, go_sem, hc]) rfl ⟨some ⟨g, 0, none⟩, cap, rfl, ?_, ?_⟩
  · exact OwnS.of_row (HR.out.keeps hK (fun hS => by omega)) (by omega)
  · exact ((below_alloc3 _ _ _ _).trans (HB.out.mono (by omega))).trans (hK.below (by omega) (fun k hk hS => by omega))
set_option maxRecDepth 100000 in
theorem specCopyCell_any (a : Option Addr) (n c : Nat) (xs : List Int) (p : Bool) (w : World) (hx : IntsR w a xs) (hn : n = xs.length) (hl : xs.length ≤ 1048576) :
    Calls Try.prog 87 #[.agg #[.slice a n c, .bool p]] w fun e w' => ∃ a' c', e = .returned (.agg #[.slice a' n c', .bool p]) ∧ OwnS w' w.heap.size a' n c' xs ∧ Below w.heap.size w w' := by
  have HX := hid hx
  have HN := hid hn
  have hnl : n ≤ 1048576 := by omega
  clear hx hn
  have hx3 := HX.out.old (below_alloc3 w (.cells #[.slice a n c, .bool p] 61) (.cells #[.slice none 0 0, .bool false] 61) (.cells #[] 3))
  have HX3 := hid hx3
  have HE := hid (IRow.empty ((w.alloc (.cells #[.slice a n c, .bool p] 61)).alloc (.cells #[.slice none 0 0, .bool false] 61)))
  clear hx3
  go_enter Try.func87, Try.ntmps87
  go_wp2_with (at_builtin; refine wpList_append_ints rfl _ _ rfl _ (w.heap.size + 1 + 1) _ 0 0 [] HE.out (by simp) (by simp [go_sem]) _ n _ xs HX3.out HN.out rfl n (by omega) (by omega) (by simp) ?_; intro g cap w1 hg R B; obtain ⟨hc, hf⟩ := bcell B; have hsz := B.size; simp only [World.size_alloc] at hsz hc hf; have x0 := (boxes2 (l1 := [.slice a n c, .bool p]) (l2 := [.slice none 0 0, .bool false]) B 0).1; have x1 := (boxes2 (l1 := [.slice a n c, .bool p]) (l2 := [.slice none 0 0, .bool false]) B 1).1; have y0 := (boxes2 (l1 := [.slice a n c, .bool p]) (l2 := [.slice none 0 0, .bool false]) B 0).2; have y1 := (boxes2 (l1 := [.slice a n c, .bool p]) (l2 := [.slice none 0 0, .bool false]) B 1).2; simp only [List.getElem?_cons_zero, List.getElem?_cons_succ] at x0 x1 y0 y1; have HR := hid R; have HB := hid B; clear R B)
  have hK : Keeps (fun b => b = w.heap.size ∨ b = w.heap.size + 1) w1 (((w1.setCell ⟨w.heap.size, 0, none⟩ (.slice (some ⟨g, 0, none⟩) n cap)).setCell ⟨w.heap.size + 1, 0, none⟩ (.slice (some ⟨g, 0, none⟩) n cap)).setCell ⟨w.heap.size + 1, 1, none⟩ (.bool p)) :=
    (((Keeps.refl _ _).set _ _ (.inl rfl)).set _ _ (.inr rfl)).set _ _ (.inr rfl)
  refine bodyPost_ret (v := .agg #[.slice (some ⟨g, 0, none⟩) n cap, .bool p]) (by simp [results, Try.results87, go_sem, hc]) rfl ⟨some ⟨g, 0, none⟩, cap, rfl, ?_, ?_⟩
  · exact OwnS.of_row (HR.out.keeps hK (fun hS => by omega)) (by omega)
  · exact ((below_alloc3 _ _ _ _).trans (HB.out.mono (by omega))).trans (hK.below (by omega) (fun k hk hS => by omega))
end Go.Proofs.Ytnfkkkjookfdiaa
