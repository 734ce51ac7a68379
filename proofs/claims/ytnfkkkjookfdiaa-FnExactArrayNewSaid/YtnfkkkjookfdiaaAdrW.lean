/- Addresses: their numbers; and the laws' helpers that copy geometries, addresses and limits. -/
import Derived.Test.YtnfkkkjookfdiaaGeoW
namespace Go.Proofs.Ytnfkkkjookfdiaa
open Go.RowKit

def adrIdx (G : Geo) (A : Adr) : Int := if adrOk G A then (A.b * G.r + A.r) * G.c + A.c else -1
theorem adrOk_parts {G : Geo} {A : Adr} (h : adrOk G A = true) : gOk G = true ∧ (0 ≤ A.b ∧ A.b ≤ bankN G - 1) ∧ (0 ≤ A.r ∧ A.r ≤ G.r - 1) ∧ (0 ≤ A.c ∧ A.c ≤ G.c - 1) := by
  have h' := h
  unfold adrOk at h'
  simp only [Bool.and_eq_true] at h'
  obtain ⟨⟨h1, h2⟩, h3⟩ := h'
  exact ⟨adrOk_geo h1, inB_iff.1 h1, inB_iff.1 h2, inB_iff.1 h3⟩
theorem adrIdx_bd {G : Geo} {A : Adr} (h : adrOk G A = true) :
    adrIdx G A = (A.b * G.r + A.r) * G.c + A.c ∧ 0 ≤ adrIdx G A ∧ adrIdx G A < lineN G ∧ 0 ≤ A.b * G.r ∧ A.b * G.r ≤ 112 ∧ A.b * G.r + A.r < rowsN G ∧ 0 ≤ (A.b * G.r + A.r) * G.c ∧ (A.b * G.r + A.r) * G.c ≤ 1016 := by
  obtain ⟨hg, ⟨b0, b1⟩, ⟨r0, r1⟩, ⟨c0, c1⟩⟩ := adrOk_parts h
  obtain ⟨_, _, ⟨q0, q1⟩, ⟨p0, p1⟩⟩ := gOk_iff.1 hg
  have hb := bankN_bd G
  have e : adrIdx G A = (A.b * G.r + A.r) * G.c + A.c := by rw [adrIdx, if_pos h]
  rw [e, lineN_yes hg, rowsN_yes hg]
  have m1 := mul_le_of b0 (show A.b ≤ 7 by omega) (show 0 ≤ G.r by omega) q1
  have m2 : A.b * G.r ≤ (bankN G - 1) * G.r := Int.mul_le_mul_of_nonneg_right b1 (by omega)
  have m3 : (bankN G - 1) * G.r = bankN G * G.r - G.r := by rw [Int.sub_mul, Int.one_mul]
  have m4 : A.b * G.r + A.r ≤ bankN G * G.r - 1 := by omega
  have m5 := mul_le_of (show 0 ≤ A.b * G.r + A.r by omega) (show A.b * G.r + A.r ≤ 127 by omega) (show 0 ≤ G.c by omega) p1
  have m6 : (A.b * G.r + A.r) * G.c ≤ (bankN G * G.r - 1) * G.c := Int.mul_le_mul_of_nonneg_right m4 (by omega)
  have m7 : (bankN G * G.r - 1) * G.c = bankN G * G.r * G.c - G.c := by rw [Int.sub_mul, Int.one_mul]
  refine ⟨rfl, by omega, by omega, by omega, by omega, by omega, by omega, by omega⟩

theorem specAddrIndex_any (G : Geo) (A : Adr) (w : World) :
    Calls Try.prog 88 #[.agg #[.int .i64 G.a, .int .i64 G.b, .int .i64 G.r, .int .i64 G.c], .agg #[.int .i64 A.b, .int .i64 A.r, .int .i64 A.c]] w fun e w' => e = .returned (.int .i64 (adrIdx G A)) ∧ Below w.heap.size w w' := by
  cases hk : adrOk G A with
  | false =>
    have HI := hid (show adrIdx G A = -1 by rw [adrIdx, if_neg (by simp [hk])])
    go_enter Try.func88, Try.ntmps88
    go_wp2_with fail
    refine (specAddrOk_any _ _ _).mono ?_
    rintro e w1 ⟨rfl, B1⟩
    rw [hk]
    go_wp2_with fail
    go_ret
    exact ⟨by rw [HI.out]; rfl, below_step (below_step (below_alloc _ _) (below_alloc _ _) (Nat.le_refl _)) B1 (Nat.le_refl _)⟩
  | true =>
    obtain ⟨hi, _, _, h1, h2, h3, h4, h5⟩ := adrIdx_bd hk
    obtain ⟨hg, ⟨b0, b1⟩, ⟨r0, r1⟩, ⟨c0, c1⟩⟩ := adrOk_parts hk
    have hb := bankN_bd G
    have hr := rowsN_bd G
    obtain ⟨_, _, ⟨q0, q1⟩, ⟨p0, p1⟩⟩ := gOk_iff.1 hg
    have HI := hid hi
    have HK := hid hk
    clear hi hg hk
    go_enter Try.func88, Try.ntmps88
    go_wp2_with fail
    refine (specAddrOk_any _ _ _).mono ?_
    rintro e w1 ⟨rfl, B1⟩
    rw [HK.out]
    have B := below_step (below_step (below_alloc _ _) (below_alloc _ _) (Nat.le_refl _)) B1 (Nat.le_refl _)
    obtain ⟨hlt, g0, g1, g2, g3⟩ := ((BoxG.new w 37 G).old (below_alloc _ _)).old B1
    obtain ⟨hlt', d0, d1, d2⟩ := (BoxA.new_ (w.alloc _) 64 A (show _ = w.heap.size + 1 by simp)).old B1
    clear B1
    go_wp2_with fail
    go_ret
    exact ⟨by rw [HI.out]; rfl, B⟩

theorem implAddrIndex_any (G : Geo) (A : Adr) (w : World) :
    Calls Try.prog 91 #[.agg #[.int .i64 G.a, .int .i64 G.b, .int .i64 G.r, .int .i64 G.c], .agg #[.int .i64 A.b, .int .i64 A.r, .int .i64 A.c]] w fun e w' => e = .returned (.int .i64 (adrIdx G A)) ∧ Below w.heap.size w w' := by
  cases hk : adrOk G A with
  | false =>
    have HI := hid (show adrIdx G A = -1 by rw [adrIdx, if_neg (by simp [hk])])
    go_enter Try.func91, Try.ntmps91
    go_wp2_with fail
    refine (implAddrOk_any _ _ _).mono ?_
    rintro e w1 ⟨rfl, B1⟩
    rw [hk]
    go_wp2_with fail
    go_ret
    exact ⟨by rw [HI.out]; rfl, below_step (below_step (below_alloc _ _) (below_alloc _ _) (Nat.le_refl _)) B1 (Nat.le_refl _)⟩
  | true =>
    obtain ⟨hi, _, _, h1, h2, h3, h4, h5⟩ := adrIdx_bd hk
    obtain ⟨hg, ⟨b0, b1⟩, ⟨r0, r1⟩, ⟨c0, c1⟩⟩ := adrOk_parts hk
    have hb := bankN_bd G
    have hr := rowsN_bd G
    obtain ⟨_, _, ⟨q0, q1⟩, ⟨p0, p1⟩⟩ := gOk_iff.1 hg
    have HI := hid hi
    have HK := hid hk
    clear hi hg hk
    go_enter Try.func91, Try.ntmps91
    go_wp2_with fail
    refine (implAddrOk_any _ _ _).mono ?_
    rintro e w1 ⟨rfl, B1⟩
    rw [HK.out]
    have B := below_step (below_step (below_alloc _ _) (below_alloc _ _) (Nat.le_refl _)) B1 (Nat.le_refl _)
    obtain ⟨hlt, g0, g1, g2, g3⟩ := ((BoxG.new w 37 G).old (below_alloc _ _)).old B1
    obtain ⟨hlt', d0, d1, d2⟩ := (BoxA.new_ (w.alloc _) 64 A (show _ = w.heap.size + 1 by simp)).old B1
    clear B1
    go_wp2_with fail
    go_ret
    exact ⟨by rw [HI.out]; rfl, B⟩

theorem toGeometry_any (G : Geo) (w : World) :
    Calls Try.prog 23 #[.agg #[.int .i64 G.a, .int .i64 G.b, .int .i64 G.r, .int .i64 G.c]] w fun e w' => e = .returned (.agg #[.int .i64 G.a, .int .i64 G.b, .int .i64 G.r, .int .i64 G.c]) ∧ Below w.heap.size w w' := by
  go_enter Try.func23, Try.ntmps23
  go_wp2
  exact bodyPost_ret (v := .agg #[.int .i64 G.a, .int .i64 G.b, .int .i64 G.r, .int .i64 G.c]) (by simp [results, Try.results23, go_sem]) rfl ⟨rfl, below_alloc3 _ _ _ _⟩
theorem toAddr_any (A : Adr) (w : World) :
    Calls Try.prog 38 #[.agg #[.int .i64 A.b, .int .i64 A.r, .int .i64 A.c]] w fun e w' => e = .returned (.agg #[.int .i64 A.b, .int .i64 A.r, .int .i64 A.c]) ∧ Below w.heap.size w w' := by
  go_enter Try.func38, Try.ntmps38
  go_wp2
  exact bodyPost_ret (v := .agg #[.int .i64 A.b, .int .i64 A.r, .int .i64 A.c]) (by simp [results, Try.results38, go_sem]) rfl ⟨rfl, below_alloc3 _ _ _ _⟩
theorem toLimits_any (a h : Int) (w : World) :
    Calls Try.prog 31 #[.agg #[.int .i64 a, .int .i64 h]] w fun e w' => e = .returned (.agg #[.int .i64 a, .int .i64 h]) ∧ Below w.heap.size w w' := by
  go_enter Try.func31, Try.ntmps31
  go_wp2
  exact bodyPost_ret (v := .agg #[.int .i64 a, .int .i64 h]) (by simp [results, Try.results31, go_sem]) rfl ⟨rfl, below_alloc3 _ _ _ _⟩
theorem implRow_any (G : Geo) (b r : Int) (w : World) :
    Calls Try.prog 80 #[.agg #[.int .i64 G.a, .int .i64 G.b, .int .i64 G.r, .int .i64 G.c], .int .i64 b, .int .i64 r] w fun e w' => e = .returned (.bool (adrOk G ⟨b, r, 0⟩)) ∧ Below w.heap.size w w' := by
  go_enter Try.func80, Try.ntmps80
  go_wp2_with fail
  refine (implAddrOk_any G ⟨b, r, 0⟩ _).mono ?_
  rintro e w1 ⟨rfl, B1⟩
  go_wp2_with fail
  go_ret
  exact ⟨rfl, below_step (below_alloc _ _) B1 (Nat.le_refl _)⟩
theorem specRow_any (G : Geo) (b r : Int) (w : World) :
    Calls Try.prog 78 #[.agg #[.int .i64 G.a, .int .i64 G.b, .int .i64 G.r, .int .i64 G.c], .int .i64 b, .int .i64 r] w fun e w' => e = .returned (.bool (adrOk G ⟨b, r, 0⟩)) ∧ Below w.heap.size w w' := by
  go_enter Try.func78, Try.ntmps78
  go_wp2_with fail
  refine (specAddrOk_any G ⟨b, r, 0⟩ _).mono ?_
  rintro e w1 ⟨rfl, B1⟩
  go_wp2_with fail
  go_ret
  exact ⟨rfl, below_step (below_alloc _ _) B1 (Nat.le_refl _)⟩
end Go.Proofs.Ytnfkkkjookfdiaa
