/- Plain functions that the contracts name. -/
import Derived.WalkKit
namespace Go.Proofs.YtggjheapjklhgaaDoor
open Go.RowKit
/-- n lies between lo and hi. -/
def inB (n lo hi : Int) : Bool := decide (lo ≤ n) && decide (n ≤ hi)
def gfAdd (a b : Int) : Int := if inB a 0 15 && inB b 0 15 then bits .xor .i64 a b else -1
/-- The program's product: a after k doublings, the sum after k rounds. -/
def mulA (a : Int) : Nat → Int
  | 0 => a
  | k + 1 => if 15 < wrap64 (mulA a k * 2) then bits .xor .i64 (wrap64 (mulA a k * 2)) 19 else wrap64 (mulA a k * 2)
def mulP (a b : Int) : Nat → Int
  | 0 => 0
  | k + 1 => if (bits .and .i64 (b / 2 ^ k) 1 == 1) = true then bits .xor .i64 (mulP a b k) (mulA a k) else mulP a b k
def gfMul (a b : Int) : Int := if inB a 0 15 && inB b 0 15 then mulP a b 4 else -1
/-- The reference's product: the carry-less sum after k rounds; then the reduction after t steps, of bits 6, 5, 4. -/
def smP (a b : Int) : Nat → Int
  | 0 => 0
  | k + 1 => if (bits .and .i64 (b / 2 ^ k) 1 == 1) = true then bits .xor .i64 (smP a b k) (wrap64 (a * 2 ^ k)) else smP a b k
def smR (a b : Int) : Nat → Int
  | 0 => smP a b 4
  | t + 1 => if (bits .and .i64 (smR a b t / 2 ^ (6 - t)) 1 == 1) = true then bits .xor .i64 (smR a b t) (wrap64 (19 * 2 ^ (6 - t - 4))) else smR a b t
def specMul (a b : Int) : Int := if inB a 0 15 && inB b 0 15 then smR a b 3 else -1
theorem inB_iff {n lo hi : Int} : inB n lo hi = true ↔ lo ≤ n ∧ n ≤ hi := by simp [inB]
theorem specMul_eq_fin : ∀ i : Fin 16, ∀ j : Fin 16, specMul i.val j.val = gfMul i.val j.val := by decide +kernel
/-- An element of the field is a number below 16. -/
theorem elem_fin {a : Int} (h : inB a 0 15 = true) : ∃ i : Fin 16, a = i.val := by
  rw [inB_iff] at h
  exact ⟨⟨a.toNat, by omega⟩, by simp; omega⟩
theorem specMul_eq (a b : Int) : specMul a b = gfMul a b := by
  by_cases h : (inB a 0 15 && inB b 0 15) = true
  · obtain ⟨ha, hb⟩ := (Bool.and_eq_true _ _).mp h
    obtain ⟨i, rfl⟩ := elem_fin ha
    obtain ⟨j, rfl⟩ := elem_fin hb
    exact specMul_eq_fin i j
  · simp [specMul, gfMul, h]
def invGo (a : Int) : Nat → Nat → Int
  | 0, _ => -1
  | f + 1, x => if (gfMul a x == 1) = true then x else invGo a f (x + 1)
/-- The inverse. -/
def gfInv (a : Int) : Int := invGo a 15 1
def powN (a : Int) : Nat → Int
  | 0 => 1
  | k + 1 => gfMul (powN a k) a
/-- The power. -/
def gfPow (a n : Int) : Int := if inB a 0 15 && inB n 0 1000 then powN a n.toNat else -1
def logGo (a : Int) : Nat → Nat → Int
  | 0, _ => -1
  | f + 1, n => if (gfPow 2 n == a) = true then n else logGo a f (n + 1)
/-- The logarithm. -/
def gfLog (a : Int) : Int := logGo a 15 0
end Go.Proofs.YtggjheapjklhgaaDoor
