/- Addresses: their numbers; and the laws' helpers that copy geometries, addresses and limits. -/
import Derived.Test.YtggjheapjklhgaaDoorGeoW
namespace Go.Proofs.YtggjheapjklhgaaDoor
open Go.RowKit

def adrIdx (G : Geo) (A : Adr) : Int := if adrOk G A then (A.b * G.r + A.r) * G.c + A.c else -1
theorem adrOk_parts {G : Geo} {A : Adr} (h : adrOk G A = true) : gOk G = true ∧ (0 ≤ A.b ∧ A.b ≤ bankN G - 1) ∧ (0 ≤ A.r ∧ A.r ≤ G.r - 1) ∧ (0 ≤ A.c ∧ A.c ≤ G.c - 1) := by
  have h' := h
  unfold adrOk at h'
  simp only [Bool.and_eq_true] at h'
  obtain ⟨⟨h1, h2⟩, h3⟩ := h'
  exact ⟨adrOk_geo h1, inB_iff.1 h1, inB_iff.1 h2, inB_iff.1 h3⟩
theorem adrIdx_bd {G : Geo} {A : Adr} (h : adrOk G A = true) :
    adrIdx G A = (A.b * G.r + A.r) * G.c + A.c ∧ 0 ≤ adrIdx G A ∧ adrIdx G A < lineN G ∧ 0 ≤ A.b * G.r ∧ A.b * G.r ≤ 112 ∧ A.b * G.r + A.r < rowsN G ∧ 0 ≤ (A.b * G.r + A.r) * G.c ∧ (A.b * G.r + A.r) * G.c ≤ 1016 := by
  obtain ⟨hg, ⟨b0, b1⟩, ⟨r0, r1⟩, ⟨c0, c1⟩⟩ := adrOk_parts h
  obtain ⟨_, _, ⟨q0, q1⟩, ⟨p0, p1⟩⟩ := gOk_iff.1 hg
  have hb := bankN_bd G
  have e : adrIdx G A = (A.b * G.r + A.r) * G.c + A.c := by rw [adrIdx, if_pos h]
  rw [e, lineN_yes hg, rowsN_yes hg]
  have m1 := mul_le_of b0 (show A.b ≤ 7 by omega) (show 0 ≤ G.r by omega) q1
  have m2 : A.b * G.r ≤ (bankN G - 1) * G.r := Int.mul_le_mul_of_nonneg_right b1 (by omega)
  have m3 : (bankN G - 1) * G.r = bankN G * G.r - G.r := by rw [Int.sub_mul, Int.one_mul]
  have m4 : A.b * G.r + A.r ≤ bankN G * G.r - 1 := by omega
  have m5 := mul_le_of (show 0 ≤ A.b * G.r + A.r by omega) (show A.b * G.r + A.r ≤ 127 by omega) (show 0 ≤ G.c by omega) p1
  have m6 : (A.b * G.r + A.r) * G.c ≤ (bankN G * G.r - 1) * G.c := Int.mul_le_mul_of_nonneg_right m4 (by omega)
  have m7 : (bankN G * G.r - 1) * G.c = bankN G * G.r * G.c - G.c := by rw [Int.sub_mul, Int.one_mul]
  refine ⟨rfl, by omega, by omega, by omega, by omega, by omega, by omega, by omega⟩

end Go.Proofs.YtggjheapjklhgaaDoor
