/- Plain functions of the code: syndromes. -/
import Derived.Test.YtnfkkkjookfdiaaPlain
namespace Go.Proofs.Ytnfkkkjookfdiaa
open Go.RowKit
/-- The syndrome number j over the first k symbols. -/
def synN (xs : List Int) (j : Nat) : Nat → Int
  | 0 => 0
  | k + 1 => bits .xor .i64 (synN xs j k) (gfMul (xs[k]?.getD 0) (gfPow 2 ((k : Int) * (j : Int))))
/-- The program's row in round j, after i symbols. -/
def rowI (xs : List Int) (j i : Nat) : List Int := (List.range 3).map fun q => if q < j then synN xs q 11 else if q = j then synN xs q i else 0
theorem lt3 {j : Nat} (h : j < 3) : j = 0 ∨ j = 1 ∨ j = 2 := by omega
theorem rowI_next (xs : List Int) (j : Nat) (h : j < 3) : rowI xs j 11 = rowI xs (j + 1) 0 := by
  rcases lt3 h with rfl | rfl | rfl <;> simp [rowI, List.range_succ, synN]
theorem rowI_at (xs : List Int) (j i : Nat) (h : j < 3) : (rowI xs j i)[j]? = some (synN xs j i) := by
  rcases lt3 h with rfl | rfl | rfl <;> simp [rowI, List.range_succ]
theorem rowI_set (xs : List Int) (j i : Nat) (x : Int) (h : j < 3) (hx : xs[i]? = some x) : (rowI xs j i).set j (bits .xor .i64 (synN xs j i) (gfMul x (gfPow 2 ((i : Int) * (j : Int))))) = rowI xs j (i + 1) := by

  rcases lt3 h with rfl | rfl | rfl <;> simp [rowI, List.range_succ, synN, hx]
theorem rowI_zero (xs : List Int) : rowI xs 0 0 = [0, 0, 0] := by simp [rowI, List.range_succ, synN]
/-- The three syndromes. -/
def syn (xs : List Int) : List Int := [synN xs 0 11, synN xs 1 11, synN xs 2 11]
theorem rowI_done (xs : List Int) : rowI xs 3 0 = syn xs := by simp [rowI, List.range_succ, syn]
/-- The reference's row in round i, after j places. -/
def rowJ (xs : List Int) (i j : Nat) : List Int := (List.range 3).map fun q => if q < j then synN xs q (i + 1) else synN xs q i
theorem rowJ_zero (xs : List Int) : rowJ xs 0 0 = [0, 0, 0] := by simp [rowJ, List.range_succ, synN]
theorem rowJ_at (xs : List Int) (i j : Nat) (h : j < 3) : (rowJ xs i j)[j]? = some (synN xs j i) := by
  rcases lt3 h with rfl | rfl | rfl <;> simp [rowJ, List.range_succ]
theorem rowJ_set (xs : List Int) (i j : Nat) (x : Int) (h : j < 3) (hx : xs[i]? = some x) : (rowJ xs i j).set j (bits .xor .i64 (synN xs j i) (gfMul x (gfPow 2 ((i : Int) * (j : Int))))) = rowJ xs i (j + 1) := by
  rcases lt3 h with rfl | rfl | rfl <;> simp [rowJ, List.range_succ, synN, hx]
theorem rowJ_next (xs : List Int) (i : Nat) : rowJ xs i 3 = rowJ xs (i + 1) 0 := by simp [rowJ, List.range_succ]
theorem rowJ_done (xs : List Int) : rowJ xs 11 0 = syn xs := by simp [rowJ, List.range_succ, syn]
theorem pow_next_fin : ∀ i : Fin 11, ∀ j : Fin 3, gfMul (gfPow 2 ((i.val : Int) * (j.val : Int))) (gfPow 2 i.val) = gfPow 2 ((i.val : Int) * ((j.val + 1 : Nat) : Int)) := by decide +kernel
theorem pow_next {i j : Nat} (hi : i < 11) (hj : j < 3) : gfMul (gfPow 2 ((i : Int) * (j : Int))) (gfPow 2 i) = gfPow 2 ((i : Int) * ((j + 1 : Nat) : Int)) := pow_next_fin ⟨i, hi⟩ ⟨j, hj⟩
theorem pow_start (i : Nat) : gfPow 2 ((i : Int) * ((0 : Nat) : Int)) = 1 := by simp [gfPow, inB, powN]
/-- The program's check symbols out of the syndromes. -/
def encC1 (s0 s1 s2 : Int) : Int := gfMul (bits .xor .i64 (gfMul 2 (bits .xor .i64 s0 s1)) (gfMul 5 (bits .xor .i64 s0 s2))) (gfInv 4)
def encC2 (s0 s1 s2 : Int) : Int := gfMul (bits .xor .i64 (gfMul 3 (bits .xor .i64 s0 s2)) (gfMul 5 (bits .xor .i64 s0 s1))) (gfInv 4)
def encC0 (s0 s1 s2 : Int) : Int := bits .xor .i64 (bits .xor .i64 s0 (encC1 s0 s1 s2)) (encC2 s0 s1 s2)
/-- The program's codeword of eight data symbols. -/
def encI (xs : List Int) : List Int :=
  let s0 := synN ([0, 0, 0] ++ xs) 0 11
  let s1 := synN ([0, 0, 0] ++ xs) 1 11
  let s2 := synN ([0, 0, 0] ++ xs) 2 11
  [encC0 s0 s1 s2, encC1 s0 s1 s2, encC2 s0 s1 s2] ++ xs
/-- The reference's generator: its row after i rounds, out of the row L and the factor f. -/
def nx (L : List Int) (f : Int) : Nat → List Int
  | 0 => List.replicate (L.length + 1) 0
  | i + 1 =>
    let c := (nx L f i).set (i + 1) (bits .xor .i64 ((nx L f i)[i + 1]?.getD 0) (L[i]?.getD 0))
    c.set i (bits .xor .i64 (c[i]?.getD 0) (gfMul (L[i]?.getD 0) f))
theorem length_nx (L : List Int) (f : Int) (i : Nat) : (nx L f i).length = L.length + 1 := by
  induction i with
  | zero => simp [nx]
  | succ i ih => simp [nx, ih]
/-- The generator's row in round j. -/
def byL : Nat → List Int
  | 0 => []
  | 1 => [1, 1]
  | j + 2 => nx (byL (j + 1)) (gfPow 2 ((j + 1 : Nat) : Int)) (j + 2)
theorem byL_three : byL 3 = [8, 14, 7, 1] := by decide +kernel
theorem length_byL {j : Nat} (h : 1 ≤ j) (h3 : j ≤ 3) : (byL j).length = j + 1 := by
  have : j = 1 ∨ j = 2 ∨ j = 3 := by omega
  rcases this with rfl | rfl | rfl <;> decide +kernel
/-- The division: the row l in round i, after k places. -/
def rIn (l : List Int) (i : Nat) : Nat → List Int
  | 0 => l
  | k + 1 => (rIn l i k).set (i - 3 + k) (bits .xor .i64 ((rIn l i k)[i - 3 + k]?.getD 0) (gfMul ((byL 3)[k]?.getD 0) (l[i]?.getD 0)))
theorem length_rIn (l : List Int) (i k : Nat) : (rIn l i k).length = l.length := by
  induction k with
  | zero => rfl
  | succ k ih => simp [rIn, ih]
def rOut (l : List Int) : Nat → List Int
  | 0 => l
  | n + 1 => rIn (rOut l n) (10 - n) 4
theorem length_rOut (l : List Int) (n : Nat) : (rOut l n).length = l.length := by
  induction n with
  | zero => rfl
  | succ n ih => simp [rOut, length_rIn, ih]
/-- The reference's codeword of eight data symbols. -/
def encS (xs : List Int) : List Int := (rOut ([0, 0, 0] ++ xs) 8).take 3 ++ xs
theorem encS_eq (xs : List Int) : encS xs = (rOut ([0, 0, 0] ++ xs) 8).take 3 ++ xs := rfl
attribute [irreducible] encS
end Go.Proofs.Ytnfkkkjookfdiaa
