/- Plain lemmas on lists, for the loops' relations. -/
namespace Go.Proofs.YtggjheapjklhgaaDoor
theorem take_snoc {α : Type} {xs : List α} {k : Nat} {x : α} (h : xs[k]? = some x) : xs.take (k + 1) = xs.take k ++ [x] := by
  rw [List.take_add_one, h]; rfl
theorem length_take_of {α : Type} {xs : List α} {k : Nat} (h : k ≤ xs.length) : (xs.take k).length = k := by simp; omega
theorem some_at {α : Type} {xs : List α} {n k : Nat} (hn : n = xs.length) (h : k < n) : ∃ x, xs[k]? = some x := ⟨xs[k]'(by omega), List.getElem?_eq_getElem _⟩
theorem fill_at {α : Type} {xs : List α} {n k : Nat} (z : α) (hn : n = xs.length) (h : k < n) : (xs.take k ++ List.replicate (n - k) z)[k]? = some z := by
  have hl : (xs.take k).length = k := length_take_of (by omega)
  rw [List.getElem?_append_right (by omega), hl, Nat.sub_self, List.getElem?_replicate]
  simp; omega
theorem fill_set {α : Type} {xs : List α} {n k : Nat} {z x : α} (hn : n = xs.length) (h : xs[k]? = some x) : (xs.take k ++ List.replicate (n - k) z).set k x = xs.take (k + 1) ++ List.replicate (n - (k + 1)) z := by
  have hk : k < xs.length := (List.getElem?_eq_some_iff.1 h).1
  have hl : (xs.take k).length = k := length_take_of (by omega)
  obtain ⟨r, hr⟩ : ∃ r, n - k = r + 1 := ⟨n - k - 1, by omega⟩
  have hr' : n - (k + 1) = r := by omega
  rw [take_snoc h, hr, hr', List.set_append_right _ _ (by omega), hl, Nat.sub_self, List.replicate_succ, List.set_cons_zero, List.append_assoc, List.singleton_append]
theorem fill_done {α : Type} {xs : List α} {n k : Nat} {z : α} (hn : n = xs.length) (h : ¬ k < n) : xs.take k ++ List.replicate (n - k) z = xs := by
  rw [List.take_of_length_le (by omega), show n - k = 0 by omega]; simp
theorem over_at {α : Type} {M xs : List α} {n k : Nat} (hM : n = M.length) (hn : n = xs.length) (h : k < n) : ∃ z, (M.take k ++ xs.drop k)[k]? = some z := by
  have hl : (M.take k).length = k := length_take_of (by omega)
  rw [List.getElem?_append_right (by omega), hl, Nat.sub_self, List.getElem?_drop]
  exact ⟨xs[k]'(by omega), by simp⟩
theorem over_set {α : Type} {M xs : List α} {n k : Nat} {x : α} (hM : n = M.length) (hn : n = xs.length) (h : M[k]? = some x) : (M.take k ++ xs.drop k).set k x = M.take (k + 1) ++ xs.drop (k + 1) := by
  have hk : k < M.length := (List.getElem?_eq_some_iff.1 h).1
  have hl : (M.take k).length = k := length_take_of (by omega)
  rw [take_snoc h, List.set_append_right _ _ (by omega), hl, Nat.sub_self, List.drop_eq_getElem_cons (by omega : k < xs.length), List.set_cons_zero, List.append_assoc, List.singleton_append]
theorem over_done {α : Type} {M xs : List α} {n k : Nat} (hM : n = M.length) (hn : n = xs.length) (h : ¬ k < n) : M.take k ++ xs.drop k = M := by
  rw [List.take_of_length_le (by omega), List.drop_of_length_le (by omega)]; simp
end Go.Proofs.YtggjheapjklhgaaDoor
