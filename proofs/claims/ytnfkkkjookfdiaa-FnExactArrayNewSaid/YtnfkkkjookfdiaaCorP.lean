/- Plain: which symbol is corrected. -/
import Derived.Test.YtnfkkkjookfdiaaCodeP
namespace Go.Proofs.Ytnfkkkjookfdiaa
open Go.RowKit
/-- The reference's search for the place. -/
def locGo (s0 s1 s2 : Int) : Nat → Nat → Int
  | 0, _ => -1
  | f + 1, i => if (s0 != 0 && gfMul s0 (gfPow 2 i) == s1 && gfMul s1 (gfPow 2 i) == s2) = true then i else locGo s0 s1 s2 f (i + 1)
def locS (s0 s1 s2 : Int) : Int := locGo s0 s1 s2 11 0
/-- The program's place. -/
def locI (s0 s1 s2 : Int) : Int :=
  if (s0 != 0 && s1 != 0) = true then
    if (decide (gfLog (gfMul s1 (gfInv s0)) < 11) && gfMul s1 (gfMul s1 (gfInv s0)) == s2) = true then gfLog (gfMul s1 (gfInv s0)) else -1
  else -1
theorem loc_fin : ∀ i j k : Fin 16, locI i.val j.val k.val = locS i.val j.val k.val := by decide +kernel
theorem log_fin : ∀ i j : Fin 16, i ≠ 0 → j ≠ 0 → 0 ≤ gfLog (gfMul j.val (gfInv i.val)) := by decide +kernel
theorem log_nonneg {a b : Int} (ha : inB a 0 15 = true) (hb : inB b 0 15 = true) (h0 : a ≠ 0) (h1 : b ≠ 0) : 0 ≤ gfLog (gfMul b (gfInv a)) := by
  obtain ⟨i, rfl⟩ := elem_fin ha
  obtain ⟨j, rfl⟩ := elem_fin hb
  exact log_fin i j (by intro h; subst h; exact h0 rfl) (by intro h; subst h; exact h1 rfl)
theorem loc_eq {a b c : Int} (ha : inB a 0 15 = true) (hb : inB b 0 15 = true) (hc : inB c 0 15 = true) : locI a b c = locS a b c := by
  obtain ⟨i, rfl⟩ := elem_fin ha
  obtain ⟨j, rfl⟩ := elem_fin hb
  obtain ⟨k, rfl⟩ := elem_fin hc
  exact loc_fin i j k
/-- What CorrectWord returns of a word with the syndromes s0, s1, s2. -/
def corS (xs : List Int) (s0 s1 s2 : Int) : List Int × Int × Int :=
  if (s0 == 0 && s1 == 0 && s2 == 0) = true then (xs, 0, -1)
  else if locI s0 s1 s2 < 0 then (xs, 2, -1)
  else (xs.set (locI s0 s1 s2).toNat (bits .xor .i64 (xs[(locI s0 s1 s2).toNat]?.getD 0) s0), 1, locI s0 s1 s2)
theorem length_corS (xs : List Int) (s0 s1 s2 : Int) : (corS xs s0 s1 s2).1.length = xs.length := by
  unfold corS; split
  · rfl
  · split
    · rfl
    · simp
/-- Whether it is a codeword. -/
def zeroB (s0 s1 s2 : Int) : Bool := (s0 == 0) && (s1 == 0) && (s2 == 0)
theorem corS_clean (xs : List Int) {s0 s1 s2 : Int} (h : zeroB s0 s1 s2 = true) : corS xs s0 s1 s2 = (xs, 0, -1) := by unfold zeroB at h; rw [corS, if_pos h]
theorem corS_lost (xs : List Int) {s0 s1 s2 : Int} (h : zeroB s0 s1 s2 = false) (hl : locI s0 s1 s2 = -1) : corS xs s0 s1 s2 = (xs, 2, -1) := by
  unfold zeroB at h; rw [corS, if_neg (by simp [h]), if_pos (by rw [hl]; decide)]
theorem corS_fixed (xs : List Int) {s0 s1 s2 : Int} (h : zeroB s0 s1 s2 = false) {k : Nat} (hl : locI s0 s1 s2 = k) {x : Int} (hx : xs[k]? = some x) : corS xs s0 s1 s2 = (xs.set k (bits .xor .i64 x s0), 1, (k : Int)) := by
  unfold zeroB at h
  rw [corS, if_neg (by simp [h]), if_neg (by rw [hl]; omega), hl, Int.toNat_natCast, hx]; rfl
theorem locI_zero0 {s0 s1 s2 : Int} (h : s0 = 0) : locI s0 s1 s2 = -1 := by rw [locI, if_neg (by simp [h])]
theorem locI_zero1 {s0 s1 s2 : Int} (h : s1 = 0) : locI s0 s1 s2 = -1 := by rw [locI, if_neg (by simp [h])]
theorem locI_no {s0 s1 s2 : Int} (h0 : s0 ≠ 0) (h1 : s1 ≠ 0) (h : ¬ (gfLog (gfMul s1 (gfInv s0)) < 11 ∧ gfMul s1 (gfMul s1 (gfInv s0)) = s2)) : locI s0 s1 s2 = -1 := by
  rw [locI, if_pos (by simp [h0, h1]), if_neg (by intro hh; simp only [Bool.and_eq_true, decide_eq_true_eq, beq_iff_eq] at hh; exact h hh)]
theorem locI_yes {s0 s1 s2 : Int} (h0 : s0 ≠ 0) (h1 : s1 ≠ 0) (h : gfLog (gfMul s1 (gfInv s0)) < 11 ∧ gfMul s1 (gfMul s1 (gfInv s0)) = s2) : locI s0 s1 s2 = gfLog (gfMul s1 (gfInv s0)) := by
  rw [locI, if_pos (by simp [h0, h1]), if_pos (by simpa using h)]
attribute [irreducible] corS locI
end Go.Proofs.Ytnfkkkjookfdiaa
