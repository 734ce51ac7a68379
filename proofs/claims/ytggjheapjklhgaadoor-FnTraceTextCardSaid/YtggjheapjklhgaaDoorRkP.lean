/- Plain law on states: a command that is allowed leads to a valid state. -/
import Derived.Test.YtggjheapjklhgaaDoorAlwW
import Derived.Test.YtggjheapjklhgaaDoorRnkF
namespace Go.Proofs.YtggjheapjklhgaaDoor
open Go.RowKit
/-- A state changed by a command. -/
def doR (D : RkD) (C : Cmd) : RkD :=
  if (C.k == 1) = true then ⟨D.banks.set C.b.toNat (true, C.r), D.p⟩
  else if (C.k == 4) = true then ⟨D.banks.set C.b.toNat (false, 0), D.p⟩
  else if (C.k == 6) = true then ⟨D.banks, 1⟩
  else if (C.k == 8) = true then ⟨D.banks, 2⟩
  else if (C.k == 7 || C.k == 9) = true then ⟨D.banks, 0⟩
  else D
def rankAfter (G : Geo) (D : RkD) (C : Cmd) : RkD := if allowed G D C = true then doR D C else D
theorem doR_len (D : RkD) (C : Cmd) : (doR D C).banks.length = D.banks.length := by
  unfold doR
  split; · simp
  split; · simp
  split; · rfl
  split; · rfl
  split <;> rfl
theorem rankOk_iff {G : Geo} {D : RkD} : rankOk G D = true ↔ gOk G = true ∧ (D.banks.length : Int) = bankN G ∧ (0 ≤ D.p ∧ D.p ≤ 2) ∧ (∀ x ∈ D.banks, bankOk G x = true) ∧ powB D = true := by
  unfold rankOk lenR allB
  simp only [Bool.and_eq_true, List.all_eq_true, beq_iff_eq, inB_iff, and_assoc]
theorem rankNew_ok {G : Geo} (h : gOk G = true) : rankOk G (rankNew G) = true := by
  have hb := bankN_bd G
  obtain ⟨_, _, h3, _⟩ := gOk_iff.1 h
  rw [rankOk_iff]
  refine ⟨h, by simp [rankNew]; omega, by simp [rankNew], fun x hx => ?_, rfl⟩
  have : x = (false, 0) := by simp [rankNew] at hx; exact hx.2
  subst this
  unfold bankOk
  simp only [Bool.false_or, Bool.and_eq_true, inB_iff]
  exact ⟨by omega, rfl⟩
theorem powB_of {D : RkD} (h : D.p ≠ 2) : powB D = true := by unfold powB; simp [h]
theorem doR_ok {G : Geo} {D : RkD} {C : Cmd} (h1 : rankOk G D = true) (h2 : cmdOk G C = true) (h3 : may D C = true) : rankOk G (doR D C) = true := by
  obtain ⟨hg, hl, hp, hb, hw⟩ := rankOk_iff.1 h1
  obtain ⟨_, hk, _, hr, _⟩ := cmdOk_parts h2
  obtain ⟨_, _, hr3, _⟩ := gOk_iff.1 hg
  have hmem : ∀ (x y : Bool × Int) (i : Nat), bankOk G y = true → x ∈ D.banks.set i y → bankOk G x = true := by
    intro x y i hy hx
    rcases List.mem_or_eq_of_mem_set hx with h | h
    · exact hb x h
    · subst h; exact hy
  unfold doR
  unfold may at h3
  split
  · rename_i k1
    have hk1 : C.k = 1 := by simpa using k1
    rw [hk1] at h3
    simp only [beq_self_eq_true, Bool.true_or, if_true, Bool.and_eq_true, beq_iff_eq] at h3
    rw [rankOk_iff]
    refine ⟨hg, by simpa using hl, hp, fun x hx => hmem x _ _ ?_ hx, powB_of (by show D.p ≠ 2; omega)⟩
    have := hr.1 (by rw [hk1]; rfl)
    unfold bankOk
    simp [inB_iff]; omega
  split
  · rename_i k1
    have hk1 : C.k = 4 := by simpa using k1
    rw [hk1] at h3
    simp only [show ((4 : Int) == 1) = false from rfl, show ((4 : Int) == 5) = false from rfl, beq_self_eq_true, Bool.or_true, Bool.false_or, if_true, Bool.false_eq_true, if_false, Bool.and_eq_true, beq_iff_eq] at h3
    rw [rankOk_iff]
    refine ⟨hg, by simpa using hl, hp, fun x hx => hmem x _ _ ?_ hx, powB_of (by show D.p ≠ 2; omega)⟩
    unfold bankOk
    simp [inB_iff]; omega
  split
  · rw [rankOk_iff]; exact ⟨hg, hl, ⟨by simp, by simp⟩, hb, rfl⟩
  split
  · rename_i k1
    have hk1 : C.k = 8 := by simpa using k1
    rw [hk1] at h3
    simp only [show ((8 : Int) == 1) = false from rfl, show ((8 : Int) == 5) = false from rfl, show ((8 : Int) == 2) = false from rfl, show ((8 : Int) == 3) = false from rfl, show ((8 : Int) == 4) = false from rfl, show ((8 : Int) == 6) = false from rfl, beq_self_eq_true, Bool.or_false, if_true, Bool.false_eq_true, if_false, Bool.and_eq_true, beq_iff_eq] at h3
    rw [rankOk_iff]
    refine ⟨hg, hl, ⟨by simp, by simp⟩, hb, ?_⟩
    unfold powB
    simp only [Bool.or_eq_true]
    exact .inr h3.2
  split
  · rw [rankOk_iff]; exact ⟨hg, hl, ⟨by simp, by simp⟩, hb, rfl⟩
  · exact h1
theorem rankAfter_ok {G : Geo} {D : RkD} {C : Cmd} (h : allowed G D C = true) : rankOk G (rankAfter G D C) = true := by
  unfold rankAfter
  rw [if_pos h]
  unfold allowed at h
  simp only [Bool.and_eq_true] at h
  exact doR_ok h.1.1 h.1.2 h.2
theorem rankAfter_len (G : Geo) (D : RkD) (C : Cmd) : (rankAfter G D C).banks.length = D.banks.length := by
  unfold rankAfter
  split
  · exact doR_len _ _
  · rfl
end Go.Proofs.YtggjheapjklhgaaDoor
