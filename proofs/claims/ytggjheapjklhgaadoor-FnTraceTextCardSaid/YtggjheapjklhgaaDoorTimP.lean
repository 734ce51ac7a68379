/- Commands, timings and distances: plain functions. -/
import Derived.Test.YtggjheapjklhgaaDoorGeoW
namespace Go.Proofs.YtggjheapjklhgaaDoor
open Go.RowKit

/-- A command's four numbers. -/
structure Cmd where
  k : Int
  b : Int
  r : Int
  c : Int
def usesB (k : Int) : Bool := inB k 1 5
def usesR (k : Int) : Bool := k == 1
def usesC (k : Int) : Bool := k == 2 || k == 3
def fOk (n : Int) (u : Bool) (lim : Int) : Bool := if u = true then inB n 0 (lim - 1) else n == 0
def wellF (C : Cmd) (nb nr nc : Int) : Bool := inB C.k 1 9 && fOk C.b (usesB C.k) nb && fOk C.r (usesR C.k) nr && fOk C.c (usesC C.k) nc
def cmdOk (G : Geo) (C : Cmd) : Bool := gOk G && wellF C (bankN G) G.r G.c
/-- The reference's test of a command's form. -/
def formC (C : Cmd) : Bool := (usesB C.k || C.b == 0) && (usesR C.k || C.r == 0) && (usesC C.k || C.c == 0) && (inB C.k 1 9 && inB C.b 0 7 && inB C.r 0 15 && inB C.c 0 7)
theorem fOk_iff (n : Int) (u : Bool) (lim : Int) : fOk n u lim = true ↔ (u = true → 0 ≤ n ∧ n ≤ lim - 1) ∧ (u = false → n = 0) := by
  unfold fOk
  cases u <;> simp [inB_iff]
theorem wellF_iff (C : Cmd) (nb nr nc : Int) : wellF C nb nr nc = true ↔ (1 ≤ C.k ∧ C.k ≤ 9) ∧ ((usesB C.k = true → 0 ≤ C.b ∧ C.b ≤ nb - 1) ∧ (usesB C.k = false → C.b = 0)) ∧ ((usesR C.k = true → 0 ≤ C.r ∧ C.r ≤ nr - 1) ∧ (usesR C.k = false → C.r = 0)) ∧ ((usesC C.k = true → 0 ≤ C.c ∧ C.c ≤ nc - 1) ∧ (usesC C.k = false → C.c = 0)) := by
  unfold wellF
  simp only [Bool.and_eq_true, fOk_iff, inB_iff, and_assoc]
theorem formC_eq (C : Cmd) : formC C = wellF C 8 16 8 := by
  rw [Bool.eq_iff_iff, wellF_iff]
  unfold formC
  simp only [Bool.and_eq_true, Bool.or_eq_true, beq_iff_eq, inB_iff]
  cases usesB C.k <;> cases usesR C.k <;> cases usesC C.k <;> simp <;> omega
theorem cmdOk_spec (G : Geo) (C : Cmd) : (formC C && adrOk G ⟨C.b, C.r, C.c⟩) = cmdOk G C := by
  unfold cmdOk
  cases hg : gOk G with
  | false =>
    have h : adrOk G ⟨C.b, C.r, C.c⟩ = false := by
      unfold adrOk
      rw [adrOk_no ⟨C.b, C.r, C.c⟩ hg]; rfl
    rw [h]; simp
  | true =>
    have hb := bankN_bd G
    have hp := bankN_pos hg
    obtain ⟨_, _, ⟨r0, r1⟩, ⟨q0, q1⟩⟩ := gOk_iff.1 hg
    rw [Bool.eq_iff_iff, formC_eq]
    simp only [Bool.and_eq_true, wellF_iff, Bool.true_and]
    unfold adrOk
    simp only [Bool.and_eq_true, inB_iff]
    cases usesB C.k <;> cases usesR C.k <;> cases usesC C.k <;> simp <;> omega
theorem cmdOk_geo {G : Geo} {C : Cmd} (h : cmdOk G C = true) : gOk G = true := by unfold cmdOk at h; simp only [Bool.and_eq_true] at h; exact h.1
theorem cmdOk_parts {G : Geo} {C : Cmd} (h : cmdOk G C = true) : gOk G = true ∧ (1 ≤ C.k ∧ C.k ≤ 9) ∧ ((usesB C.k = true → 0 ≤ C.b ∧ C.b ≤ bankN G - 1) ∧ (usesB C.k = false → C.b = 0)) ∧ ((usesR C.k = true → 0 ≤ C.r ∧ C.r ≤ G.r - 1) ∧ (usesR C.k = false → C.r = 0)) ∧ ((usesC C.k = true → 0 ≤ C.c ∧ C.c ≤ G.c - 1) ∧ (usesC C.k = false → C.c = 0)) := by
  unfold cmdOk at h
  simp only [Bool.and_eq_true, wellF_iff] at h
  exact h

/-- A timing's seventeen numbers. -/
structure Tim where
  t0 : Int
  t1 : Int
  t2 : Int
  t3 : Int
  t4 : Int
  t5 : Int
  t6 : Int
  t7 : Int
  t8 : Int
  t9 : Int
  t10 : Int
  t11 : Int
  t12 : Int
  t13 : Int
  t14 : Int
  t15 : Int
  t16 : Int
def timL (T : Tim) : List Int := [T.t0, T.t1, T.t2, T.t3, T.t4, T.t5, T.t6, T.t7, T.t8, T.t9, T.t10, T.t11, T.t12, T.t13, T.t14, T.t15, T.t16]
def timR (T : Tim) : Bool := (timL T).all fun n => inB n 1 64
def timO (T : Tim) : Bool := decide (T.t0 ≤ T.t2) && decide (T.t3 ≤ T.t4) && decide (T.t6 ≤ T.t7) && decide (T.t10 ≤ T.t11)
def timOk (T : Tim) : Bool := timR T && timO T
/-- The bounds of a valid timing. -/
structure TimB (T : Tim) : Prop where
  b0 : 1 ≤ T.t0 ∧ T.t0 ≤ 64
  b1 : 1 ≤ T.t1 ∧ T.t1 ≤ 64
  b2 : 1 ≤ T.t2 ∧ T.t2 ≤ 64
  b3 : 1 ≤ T.t3 ∧ T.t3 ≤ 64
  b4 : 1 ≤ T.t4 ∧ T.t4 ≤ 64
  b5 : 1 ≤ T.t5 ∧ T.t5 ≤ 64
  b6 : 1 ≤ T.t6 ∧ T.t6 ≤ 64
  b7 : 1 ≤ T.t7 ∧ T.t7 ≤ 64
  b8 : 1 ≤ T.t8 ∧ T.t8 ≤ 64
  b9 : 1 ≤ T.t9 ∧ T.t9 ≤ 64
  b10 : 1 ≤ T.t10 ∧ T.t10 ≤ 64
  b11 : 1 ≤ T.t11 ∧ T.t11 ≤ 64
  b12 : 1 ≤ T.t12 ∧ T.t12 ≤ 64
  b13 : 1 ≤ T.t13 ∧ T.t13 ≤ 64
  b14 : 1 ≤ T.t14 ∧ T.t14 ≤ 64
  b15 : 1 ≤ T.t15 ∧ T.t15 ≤ 64
  b16 : 1 ≤ T.t16 ∧ T.t16 ≤ 64
theorem timOk_bd {T : Tim} (h : timOk T = true) : TimB T := by
  unfold timOk timR timL at h
  simp only [Bool.and_eq_true, List.all_cons, List.all_nil, inB_iff] at h
  obtain ⟨⟨h0, h1, h2, h3, h4, h5, h6, h7, h8, h9, h10, h11, h12, h13, h14, h15, h16, _⟩, _⟩ := h
  exact ⟨h0, h1, h2, h3, h4, h5, h6, h7, h8, h9, h10, h11, h12, h13, h14, h15, h16⟩
/-- The distance of two commands of a bank, for a valid timing. -/
def bankG (T : Tim) (a b : Int) : Int :=
  if (a == 1 && (b == 2 || b == 3)) = true then T.t0
  else if (a == 1 && b == 4) = true then T.t2
  else if (a == 1 && (b == 1 || b == 5)) = true then T.t2 + T.t1
  else if (a == 2 && b == 4) = true then T.t8
  else if (a == 2 && (b == 1 || b == 5)) = true then T.t8 + T.t1
  else if (a == 3 && b == 4) = true then T.t9
  else if (a == 3 && (b == 1 || b == 5)) = true then T.t9 + T.t1
  else if (a == 4 && (b == 1 || b == 5)) = true then T.t1
  else if (a == 5 && (b == 1 || b == 5)) = true then T.t13
  else 0
/-- The distance of two commands of a rank, for a valid timing and a valid second kind. -/
def rankG (T : Tim) (a b : Int) (near : Bool) : Int :=
  if (a == 7) = true then T.t15
  else if (a == 9) = true then T.t16
  else if (a == 1 && b == 1) = true then (if near = true then T.t4 else T.t3)
  else if (a == 2 && b == 2 || a == 3 && b == 3) = true then (if near = true then T.t7 else T.t6)
  else if (a == 3 && b == 2) = true then (if near = true then T.t11 else T.t10)
  else if (a == 2 && b == 3) = true then T.t12
  else if (a == 5 && b == 5) = true then T.t4
  else if (a == 2 && b == 6) = true then T.t8
  else if (a == 3 && b == 6) = true then T.t9
  else if (b == 8) = true then bankG T a 1
  else if (a == 6 && b == 7 || a == 8 && b == 9) = true then T.t14
  else 0
def bankGap (T : Tim) (a b : Int) : Int := if timOk T = true then bankG T a b else 0
def rankGap (T : Tim) (a b : Int) (near : Bool) : Int := if (timOk T && inB b 1 9) = true then rankG T a b near else 0
def mx (a b : Int) : Int := if a < b then b else a
theorem mx_le (a b : Int) : a ≤ mx a b ∧ b ≤ mx a b := by unfold mx; split <;> omega
theorem mx_eq (a b : Int) : mx a b = a ∨ mx a b = b := by unfold mx; split <;> simp
def grpOf (G : Geo) (b : Int) : Int := if inB b 0 (bankN G - 1) = true then b / G.b else -1
/-- The distance of two commands, all of it valid. -/
def gapF (G : Geo) (T : Tim) (A B : Cmd) : Int :=
  if (usesB A.k && usesB B.k && A.b == B.b) = true then mx (mx 1 (rankG T A.k B.k (usesB A.k && usesB B.k && grpOf G A.b == grpOf G B.b))) (bankG T A.k B.k)
  else mx 1 (rankG T A.k B.k (usesB A.k && usesB B.k && grpOf G A.b == grpOf G B.b))
def gapAll (G : Geo) (T : Tim) (A B : Cmd) : Int := if (timOk T && cmdOk G A && cmdOk G B) = true then gapF G T A B else 0
theorem bankG_bd {T : Tim} (h : timOk T = true) (a b : Int) : 0 ≤ bankG T a b ∧ bankG T a b ≤ 128 := by
  obtain ⟨b0, b1, b2, b3, b4, b5, b6, b7, b8, b9, b10, b11, b12, b13, b14, b15, b16⟩ := timOk_bd h
  unfold bankG
  repeat (split; omega)
  omega
theorem rankG_bd {T : Tim} (h : timOk T = true) (a b : Int) (n : Bool) : 0 ≤ rankG T a b n ∧ rankG T a b n ≤ 128 := by
  obtain ⟨b0, b1, b2, b3, b4, b5, b6, b7, b8, b9, b10, b11, b12, b13, b14, b15, b16⟩ := timOk_bd h
  have hb := bankG_bd h a 1
  unfold rankG
  repeat (first | omega | split)
theorem mx_bd {a b : Int} (ha : a ≤ 128) (h0 : 1 ≤ a) (hb : b ≤ 128) : 1 ≤ mx a b ∧ mx a b ≤ 128 := by unfold mx; split <;> omega
theorem gapF_bd {T : Tim} (h : timOk T = true) (G : Geo) (A B : Cmd) : 1 ≤ gapF G T A B ∧ gapF G T A B ≤ 128 := by
  unfold gapF
  have h1 := fun n => mx_bd (a := 1) (by omega) (by omega) (rankG_bd h A.k B.k n).2
  split
  · exact mx_bd (h1 _).2 (h1 _).1 (bankG_bd h _ _).2
  · exact h1 _
end Go.Proofs.YtggjheapjklhgaaDoor
