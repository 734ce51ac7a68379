/- The first region of a copy of an array: two copies of slices of ints, built into a new variable, in any order that the region's edges allow: what holds meanwhile. -/
import Derived.Test.YtnfkkkjookfdiaaCpyW
import Derived.Test.YtnfkkkjookfdiaaInv
import Derived.Test.YtnfkkkjookfdiaaApp
namespace Go.Proofs.Ytnfkkkjookfdiaa
open Go.RowKit

/-- What holds while the region runs: L says what has come up; the u are the slots that it writes. -/
structure CpR (w0 : World) (bx : Nat) (A : ArrE) (L : Nat → Bool) (u3 u6 u7 u8 u9 u10 u11 u12 u13 u14 : Value) (w : World) : Prop where
  bel : Below w0.heap.size w0 w
  f0 : L 0 = true → ∃ g, u6 = .slice (some ⟨g, 0, none⟩) 0 0
  f1 : L 1 = true → u7 = .pointer (some ⟨bx, 1, none⟩)
  f2 : L 2 = true → u8 = .slice A.s1.a A.s1.n A.s1.c
  f3 : L 3 = true → ∃ a c, u9 = .slice a A.s1.n c ∧ OwnS w w0.heap.size a A.s1.n c A.age
  f4 : L 4 = true → ∃ g, u10 = .slice (some ⟨g, 0, none⟩) 0 0
  f5 : L 5 = true → u11 = .pointer (some ⟨bx, 2, none⟩)
  f6 : L 6 = true → u12 = .slice A.s2.a A.s2.n A.s2.c
  f7 : L 7 = true → L 3 = true ∧ ∃ a c a' c', u9 = .slice a A.s1.n c ∧ u13 = .slice a' A.s2.n c' ∧ OwnS w w0.heap.size a' A.s2.n c' A.hits ∧ ∀ b, blkS a A.s1.n b → ¬ blkS a' A.s2.n b
  f8 : L 8 = true → L 7 = true ∧ u14 = .agg #[.slice none 0 0, u9, u13]
  f9 : L 9 = true → L 10 = false → ∃ g, u3 = .pointer (some ⟨g, 0, none⟩) ∧ w0.heap.size ≤ g ∧ w.heap[g]? = some (.cells #[.slice none 0 0, .slice none 0 0, .slice none 0 0] 41 (0, 0))
  f10 : L 10 = true → (∀ i, i < 10 → L i = true) ∧ ∃ g, u3 = .pointer (some ⟨g, 0, none⟩) ∧ w0.heap.size ≤ g ∧ w.heap[g]? = some (.cells #[.slice none 0 0, u9, u13] 41 (0, 0))
section
variable {w0 w w' : World} {bx : Nat} {A : ArrE} {L : Nat → Bool} {u3 u6 u7 u8 u9 u10 u11 u12 u13 u14 : Value}
theorem lt_of_heap {w : World} {g : Nat} {o : Obj} (h : w.heap[g]? = some o) : g < w.heap.size := (Array.getElem?_eq_some_iff.1 h).1
theorem CpR.old (h : CpR w0 bx A L u3 u6 u7 u8 u9 u10 u11 u12 u13 u14 w) (hb : Below w.heap.size w w') : CpR w0 bx A L u3 u6 u7 u8 u9 u10 u11 u12 u13 u14 w' :=
  ⟨below_step h.bel hb (Nat.le_refl _), h.f0, h.f1, h.f2, fun hl => by obtain ⟨a, c, e, s⟩ := h.f3 hl; exact ⟨a, c, e, s.old hb⟩, h.f4, h.f5, h.f6,
    fun hl => by obtain ⟨h3, a, c, a', c', e, e', s, d⟩ := h.f7 hl; exact ⟨h3, a, c, a', c', e, e', s.old hb, d⟩, h.f8,
    fun hl hl' => by obtain ⟨g, e, hg, hh⟩ := h.f9 hl hl'; exact ⟨g, e, hg, (hb.block g (lt_of_heap hh)).trans hh⟩,
    fun hl => by obtain ⟨ha, g, e, hg, hh⟩ := h.f10 hl; exact ⟨ha, g, e, hg, (hb.block g (lt_of_heap hh)).trans hh⟩⟩
theorem CpR.not10 (h : CpR w0 bx A L u3 u6 u7 u8 u9 u10 u11 u12 u13 u14 w) {i : Nat} (hi : i < 10) (hL : L i = false) : L 10 = false := by
  cases h10 : L 10 with
  | false => rfl
  | true => have := (h.f10 h10).1 i hi; rw [hL] at this; cases this

theorem CpR.s0 (h : CpR w0 bx A L u3 u6 u7 u8 u9 u10 u11 u12 u13 u14 w) (hL : L 0 = false) (g : Nat) : CpR w0 bx A (fun j => j == 0 || L j) u3 (.slice (some ⟨g, 0, none⟩) 0 0) u7 u8 u9 u10 u11 u12 u13 u14 w :=
  ⟨h.bel,
   (fun _ => ⟨g, rfl⟩),
   (fun hl => h.f1 (by simpa using hl)),
   (fun hl => h.f2 (by simpa using hl)),
   (fun hl => h.f3 (by simpa using hl)),
   (fun hl => h.f4 (by simpa using hl)),
   (fun hl => h.f5 (by simpa using hl)),
   (fun hl => h.f6 (by simpa using hl)),
   (fun hl => by
    obtain ⟨h3, r⟩ := h.f7 (by simpa using hl)
    exact ⟨by simp [h3], r⟩),
   (fun hl => by
    obtain ⟨h7, r⟩ := h.f8 (by simpa using hl)
    exact ⟨by simp [h7], r⟩),
   (fun hl hl' => h.f9 (by simpa using hl) (by simpa using hl')),
   (fun hl => by
    have h10 : L 10 = true := by simpa using hl
    rw [h.not10 (i := 0) (by omega) hL] at h10; cases h10)⟩
theorem CpR.s1 (h : CpR w0 bx A L u3 u6 u7 u8 u9 u10 u11 u12 u13 u14 w) (hL : L 1 = false)  : CpR w0 bx A (fun j => j == 1 || L j) u3 u6 (.pointer (some ⟨bx, 1, none⟩)) u8 u9 u10 u11 u12 u13 u14 w :=
  ⟨h.bel,
   (fun hl => h.f0 (by simpa using hl)),
   (fun _ => rfl),
   (fun hl => h.f2 (by simpa using hl)),
   (fun hl => h.f3 (by simpa using hl)),
   (fun hl => h.f4 (by simpa using hl)),
   (fun hl => h.f5 (by simpa using hl)),
   (fun hl => h.f6 (by simpa using hl)),
   (fun hl => by
    obtain ⟨h3, r⟩ := h.f7 (by simpa using hl)
    exact ⟨by simp [h3], r⟩),
   (fun hl => by
    obtain ⟨h7, r⟩ := h.f8 (by simpa using hl)
    exact ⟨by simp [h7], r⟩),
   (fun hl hl' => h.f9 (by simpa using hl) (by simpa using hl')),
   (fun hl => by
    have h10 : L 10 = true := by simpa using hl
    rw [h.not10 (i := 1) (by omega) hL] at h10; cases h10)⟩
theorem CpR.s2 (h : CpR w0 bx A L u3 u6 u7 u8 u9 u10 u11 u12 u13 u14 w) (hL : L 2 = false)  : CpR w0 bx A (fun j => j == 2 || L j) u3 u6 u7 (.slice A.s1.a A.s1.n A.s1.c) u9 u10 u11 u12 u13 u14 w :=
  ⟨h.bel,
   (fun hl => h.f0 (by simpa using hl)),
   (fun hl => h.f1 (by simpa using hl)),
   (fun _ => rfl),
   (fun hl => h.f3 (by simpa using hl)),
   (fun hl => h.f4 (by simpa using hl)),
   (fun hl => h.f5 (by simpa using hl)),
   (fun hl => h.f6 (by simpa using hl)),
   (fun hl => by
    obtain ⟨h3, r⟩ := h.f7 (by simpa using hl)
    exact ⟨by simp [h3], r⟩),
   (fun hl => by
    obtain ⟨h7, r⟩ := h.f8 (by simpa using hl)
    exact ⟨by simp [h7], r⟩),
   (fun hl hl' => h.f9 (by simpa using hl) (by simpa using hl')),
   (fun hl => by
    have h10 : L 10 = true := by simpa using hl
    rw [h.not10 (i := 2) (by omega) hL] at h10; cases h10)⟩
theorem CpR.s3 (h : CpR w0 bx A L u3 u6 u7 u8 u9 u10 u11 u12 u13 u14 w) (hL : L 3 = false) {a : Option Addr} {c : Nat} (hs : OwnS w w0.heap.size a A.s1.n c A.age) : CpR w0 bx A (fun j => j == 3 || L j) u3 u6 u7 u8 (.slice a A.s1.n c) u10 u11 u12 u13 u14 w :=
  ⟨h.bel,
   (fun hl => h.f0 (by simpa using hl)),
   (fun hl => h.f1 (by simpa using hl)),
   (fun hl => h.f2 (by simpa using hl)),
   (fun _ => ⟨a, c, rfl, hs⟩),
   (fun hl => h.f4 (by simpa using hl)),
   (fun hl => h.f5 (by simpa using hl)),
   (fun hl => h.f6 (by simpa using hl)),
   (fun hl => by
    have := (h.f7 (by simpa using hl)).1
    rw [hL] at this; cases this),
   (fun hl => by
    have h7 := (h.f8 (by simpa using hl)).1
    have h3 := (h.f7 h7).1
    rw [hL] at h3; cases h3),
   (fun hl hl' => h.f9 (by simpa using hl) (by simpa using hl')),
   (fun hl => by
    have h10 : L 10 = true := by simpa using hl
    rw [h.not10 (i := 3) (by omega) hL] at h10; cases h10)⟩
theorem CpR.s4 (h : CpR w0 bx A L u3 u6 u7 u8 u9 u10 u11 u12 u13 u14 w) (hL : L 4 = false) (g : Nat) : CpR w0 bx A (fun j => j == 4 || L j) u3 u6 u7 u8 u9 (.slice (some ⟨g, 0, none⟩) 0 0) u11 u12 u13 u14 w :=
  ⟨h.bel,
   (fun hl => h.f0 (by simpa using hl)),
   (fun hl => h.f1 (by simpa using hl)),
   (fun hl => h.f2 (by simpa using hl)),
   (fun hl => h.f3 (by simpa using hl)),
   (fun _ => ⟨g, rfl⟩),
   (fun hl => h.f5 (by simpa using hl)),
   (fun hl => h.f6 (by simpa using hl)),
   (fun hl => by
    obtain ⟨h3, r⟩ := h.f7 (by simpa using hl)
    exact ⟨by simp [h3], r⟩),
   (fun hl => by
    obtain ⟨h7, r⟩ := h.f8 (by simpa using hl)
    exact ⟨by simp [h7], r⟩),
   (fun hl hl' => h.f9 (by simpa using hl) (by simpa using hl')),
   (fun hl => by
    have h10 : L 10 = true := by simpa using hl
    rw [h.not10 (i := 4) (by omega) hL] at h10; cases h10)⟩
theorem CpR.s5 (h : CpR w0 bx A L u3 u6 u7 u8 u9 u10 u11 u12 u13 u14 w) (hL : L 5 = false)  : CpR w0 bx A (fun j => j == 5 || L j) u3 u6 u7 u8 u9 u10 (.pointer (some ⟨bx, 2, none⟩)) u12 u13 u14 w :=
  ⟨h.bel,
   (fun hl => h.f0 (by simpa using hl)),
   (fun hl => h.f1 (by simpa using hl)),
   (fun hl => h.f2 (by simpa using hl)),
   (fun hl => h.f3 (by simpa using hl)),
   (fun hl => h.f4 (by simpa using hl)),
   (fun _ => rfl),
   (fun hl => h.f6 (by simpa using hl)),
   (fun hl => by
    obtain ⟨h3, r⟩ := h.f7 (by simpa using hl)
    exact ⟨by simp [h3], r⟩),
   (fun hl => by
    obtain ⟨h7, r⟩ := h.f8 (by simpa using hl)
    exact ⟨by simp [h7], r⟩),
   (fun hl hl' => h.f9 (by simpa using hl) (by simpa using hl')),
   (fun hl => by
    have h10 : L 10 = true := by simpa using hl
    rw [h.not10 (i := 5) (by omega) hL] at h10; cases h10)⟩
theorem CpR.s6 (h : CpR w0 bx A L u3 u6 u7 u8 u9 u10 u11 u12 u13 u14 w) (hL : L 6 = false)  : CpR w0 bx A (fun j => j == 6 || L j) u3 u6 u7 u8 u9 u10 u11 (.slice A.s2.a A.s2.n A.s2.c) u13 u14 w :=
  ⟨h.bel,
   (fun hl => h.f0 (by simpa using hl)),
   (fun hl => h.f1 (by simpa using hl)),
   (fun hl => h.f2 (by simpa using hl)),
   (fun hl => h.f3 (by simpa using hl)),
   (fun hl => h.f4 (by simpa using hl)),
   (fun hl => h.f5 (by simpa using hl)),
   (fun _ => rfl),
   (fun hl => by
    obtain ⟨h3, r⟩ := h.f7 (by simpa using hl)
    exact ⟨by simp [h3], r⟩),
   (fun hl => by
    obtain ⟨h7, r⟩ := h.f8 (by simpa using hl)
    exact ⟨by simp [h7], r⟩),
   (fun hl hl' => h.f9 (by simpa using hl) (by simpa using hl')),
   (fun hl => by
    have h10 : L 10 = true := by simpa using hl
    rw [h.not10 (i := 6) (by omega) hL] at h10; cases h10)⟩
theorem CpR.s7 (h : CpR w0 bx A L u3 u6 u7 u8 u9 u10 u11 u12 u13 u14 w) (hL : L 7 = false) (h3 : L 3 = true) {a : Option Addr} {c : Nat} (e : u9 = .slice a A.s1.n c) {a' : Option Addr} {c' : Nat} (hs : OwnS w w0.heap.size a' A.s2.n c' A.hits) (hd : ∀ b, blkS a A.s1.n b → ¬ blkS a' A.s2.n b) : CpR w0 bx A (fun j => j == 7 || L j) u3 u6 u7 u8 u9 u10 u11 u12 (.slice a' A.s2.n c') u14 w :=
  ⟨h.bel,
   (fun hl => h.f0 (by simpa using hl)),
   (fun hl => h.f1 (by simpa using hl)),
   (fun hl => h.f2 (by simpa using hl)),
   (fun hl => h.f3 (by simpa using hl)),
   (fun hl => h.f4 (by simpa using hl)),
   (fun hl => h.f5 (by simpa using hl)),
   (fun hl => h.f6 (by simpa using hl)),
   (fun _ => ⟨by simp [h3], a, c, a', c', e, rfl, hs, hd⟩),
   (fun hl => by
    have h7 := (h.f8 (by simpa using hl)).1
    rw [hL] at h7; cases h7),
   (fun hl hl' => h.f9 (by simpa using hl) (by simpa using hl')),
   (fun hl => by
    have h10 : L 10 = true := by simpa using hl
    rw [h.not10 (i := 7) (by omega) hL] at h10; cases h10)⟩
theorem CpR.s8 (h : CpR w0 bx A L u3 u6 u7 u8 u9 u10 u11 u12 u13 u14 w) (hL : L 8 = false) (h7 : L 7 = true) : CpR w0 bx A (fun j => j == 8 || L j) u3 u6 u7 u8 u9 u10 u11 u12 u13 (.agg #[.slice none 0 0, u9, u13]) w :=
  ⟨h.bel,
   (fun hl => h.f0 (by simpa using hl)),
   (fun hl => h.f1 (by simpa using hl)),
   (fun hl => h.f2 (by simpa using hl)),
   (fun hl => h.f3 (by simpa using hl)),
   (fun hl => h.f4 (by simpa using hl)),
   (fun hl => h.f5 (by simpa using hl)),
   (fun hl => h.f6 (by simpa using hl)),
   (fun hl => by
    obtain ⟨h3, r⟩ := h.f7 (by simpa using hl)
    exact ⟨by simp [h3], r⟩),
   (fun _ => ⟨by simp [h7], rfl⟩),
   (fun hl hl' => h.f9 (by simpa using hl) (by simpa using hl')),
   (fun hl => by
    have h10 : L 10 = true := by simpa using hl
    rw [h.not10 (i := 8) (by omega) hL] at h10; cases h10)⟩
theorem CpR.s9 (h : CpR w0 bx A L u3 u6 u7 u8 u9 u10 u11 u12 u13 u14 w) (hL : L 9 = false) {g : Nat} (hg : w0.heap.size ≤ g) (hh : w.heap[g]? = some (.cells #[.slice none 0 0, .slice none 0 0, .slice none 0 0] 41 (0, 0))) : CpR w0 bx A (fun j => j == 9 || L j) (.pointer (some ⟨g, 0, none⟩)) u6 u7 u8 u9 u10 u11 u12 u13 u14 w :=
  ⟨h.bel,
   (fun hl => h.f0 (by simpa using hl)),
   (fun hl => h.f1 (by simpa using hl)),
   (fun hl => h.f2 (by simpa using hl)),
   (fun hl => h.f3 (by simpa using hl)),
   (fun hl => h.f4 (by simpa using hl)),
   (fun hl => h.f5 (by simpa using hl)),
   (fun hl => h.f6 (by simpa using hl)),
   (fun hl => by
    obtain ⟨h3, r⟩ := h.f7 (by simpa using hl)
    exact ⟨by simp [h3], r⟩),
   (fun hl => by
    obtain ⟨h7, r⟩ := h.f8 (by simpa using hl)
    exact ⟨by simp [h7], r⟩),
   (fun _ _ => ⟨g, rfl, hg, hh⟩),
   (fun hl => by
    have h10 : L 10 = true := by simpa using hl
    rw [h.not10 (i := 9) (by omega) hL] at h10; cases h10)⟩
/-- The store, last of all. -/
theorem CpR.s10 (h : CpR w0 bx A L u3 u6 u7 u8 u9 u10 u11 u12 u13 u14 w) (hL : L 10 = false) (hall : ∀ i, i < 10 → L i = true) : ∃ g a c a' c', u3 = .pointer (some ⟨g, 0, none⟩) ∧ u9 = .slice a A.s1.n c ∧ u13 = .slice a' A.s2.n c' ∧ u14 = .agg #[.slice none 0 0, u9, u13] ∧ w0.heap.size ≤ g ∧ g < w.heap.size ∧
    w.heap[g]? = some (.cells #[.slice none 0 0, .slice none 0 0, .slice none 0 0] 41 (0, 0)) ∧
    CpR w0 bx A (fun j => j == 10 || L j) u3 u6 u7 u8 u9 u10 u11 u12 u13 u14 (((w.setCell ⟨g, 0, none⟩ (.slice none 0 0)).setCell ⟨g, 1, none⟩ u9).setCell ⟨g, 2, none⟩ u13) := by
  obtain ⟨g, e3, hg, hh⟩ := h.f9 (hall 9 (by omega)) hL
  obtain ⟨h7, e14⟩ := h.f8 (hall 8 (by omega))
  obtain ⟨h3, a, c, a', c', e9, e13, s13, hd⟩ := h.f7 h7
  obtain ⟨a2, c2, e9', s9⟩ := h.f3 h3
  have hlt := lt_of_heap hh
  have K : Keeps (fun b => b = g) w (((w.setCell ⟨g, 0, none⟩ (.slice none 0 0)).setCell ⟨g, 1, none⟩ u9).setCell ⟨g, 2, none⟩ u13) := (((Keeps.refl (fun b => b = g) w).set ⟨g, 0, none⟩ _ rfl).set ⟨g, 1, none⟩ _ rfl).set ⟨g, 2, none⟩ _ rfl
  have far : ∀ {x : Option Addr} {m cap : Nat} {ys : List Int}, OwnS w w0.heap.size x m cap ys → ∀ b, blkS x m b → ¬ (b = g) := by
    intro x m cap ys hs b hb he
    obtain ⟨q, hq, _, hr⟩ := hs.row hb.1
    have hbq := blkS_one hb hq
    subst hbq
    subst he
    rcases hr.2 with ⟨hv, _⟩ | ⟨g2, cap2, cur2, hv2, _, hg2, _⟩
    · cases hv
    · injection hv2 with e1 _ _
      simp only [Option.some.injEq, Addr.mk.injEq, and_true] at e1
      subst e1
      rw [hh] at hg2
      simp only [Option.some.injEq, Obj.cells.injEq] at hg2
      exact absurd hg2.2.1 (by decide)
  have hb2 : (((w.setCell ⟨g, 0, none⟩ (.slice none 0 0)).setCell ⟨g, 1, none⟩ u9).setCell ⟨g, 2, none⟩ u13).heap[g]? = some (.cells #[.slice none 0 0, u9, u13] 41 (0, 0)) := by
    simp [World.setCell, Array.getElem?_modify, hh]
  refine ⟨g, a, c, a', c', e3, e9, e13, e14, hg, hlt, hh, ⟨h.bel.trans (K.below h.bel.size (fun k hk hS => by omega)), fun _ => h.f0 (hall 0 (by omega)), fun _ => h.f1 (hall 1 (by omega)), fun _ => h.f2 (hall 2 (by omega)),
    fun _ => ⟨a2, c2, e9', s9.keeps K (far s9)⟩, fun _ => h.f4 (hall 4 (by omega)), fun _ => h.f5 (hall 5 (by omega)), fun _ => h.f6 (hall 6 (by omega)),
    fun _ => ⟨by simp [h3], a, c, a', c', e9, e13, s13.keeps K (far s13), hd⟩, fun _ => ⟨by simp [h7], e14⟩, fun _ hl' => by simp at hl', fun _ => ⟨fun i hi => by simp [hall i hi], g, e3, hg, hb2⟩⟩⟩
end
/-- The state behind k cells. -/
structure CpS (W : World) (A : ArrE) (g : Nat) (a1 : Option Addr) (c1 : Nat) (a2 : Option Addr) (c2 k : Nat) (a0 : Option Addr) (c0 : Nat) (es : List CellE) (w : World) : Prop where
  bel : Below W.heap.size W w
  lo : W.heap.size ≤ g
  blk : w.heap[g]? = some (.cells #[.slice a0 k c0, .slice a1 A.s1.n c1, .slice a2 A.s2.n c2] 41 (0, 0))
  own : OwnC w W.heap.size w.heap.size a0 k c0 es
  data : es.map CellE.d = (A.es.take k).map CellE.d
  s1 : OwnS w W.heap.size a1 A.s1.n c1 A.age
  s2 : OwnS w W.heap.size a2 A.s2.n c2 A.hits
  d12 : ∀ b, blkS a1 A.s1.n b → ¬ blkS a2 A.s2.n b
  d01 : ∀ (i : Nat) (e : CellE), es[i]? = some e → ∀ b, blkS e.a e.n b → ¬ blkS a1 A.s1.n b
  d02 : ∀ (i : Nat) (e : CellE), es[i]? = some e → ∀ b, blkS e.a e.n b → ¬ blkS a2 A.s2.n b
/-- A block of the array's type is none of ints, nor of cells. -/
theorem ints_not {w : World} {B g : Nat} {x : Option Addr} {m cap : Nat} {ys : List Int} {cs : Array Value} {T : TypeId} (hs : OwnS w B x m cap ys) (hh : w.heap[g]? = some (.cells cs T (0, 0))) (hT : (T == 3) = false) : ∀ b, blkS x m b → ¬ (b = g) := by
  intro b hb he
  obtain ⟨q, hq, _, hr⟩ := hs.row hb.1
  have hbq := blkS_one hb hq
  subst hbq
  subst he
  rcases hr.2 with ⟨hv, _⟩ | ⟨g2, cap2, cur2, hv2, _, hg2, _⟩
  · cases hv
  · injection hv2 with e1 _ _
    simp only [Option.some.injEq, Addr.mk.injEq, and_true] at e1
    subst e1
    rw [hh] at hg2
    simp only [Option.some.injEq, Obj.cells.injEq] at hg2
    rw [hg2.2.1] at hT
    exact absurd hT (by decide)
theorem row_not {α : Type} {f : α → List Value} {k : Nat} {T T' : TypeId} {w : World} {B U g : Nat} {a : Option Addr} {n c : Nat} {xs : List α} {cs : Array Value} (hr : OwnF f k T w B U a n c xs) (hh : w.heap[g]? = some (.cells cs T' (0, 0))) (hT : (T' == T) = false) : (Value.slice a n c).ownBlock ≠ some g := by
  intro he
  rcases hr.row.2 with ⟨hv, _⟩ | ⟨g2, cap2, cur2, hv2, _, hg2, _⟩
  · rw [hv] at he; cases he
  · rw [hv2, ownBlock_slice] at he
    simp only [Option.some.injEq] at he
    subst he
    rw [hh] at hg2
    simp only [Option.some.injEq, Obj.cells.injEq] at hg2
    rw [hg2.2.1] at hT
    simp at hT
theorem OwnC.none_ (w : World) (B : Nat) (_h : B ≤ w.heap.size) : OwnC w B w.heap.size none 0 0 [] :=
  ⟨⟨Nat.le_refl _, ⟨rfl, .inl ⟨rfl, rfl⟩⟩, fun b hb => by cases hb⟩, fun i e he => by simp at he, fun i e he => by simp at he, fun i j e f he => by simp at he⟩
/-- One cell more. -/
theorem CpS.step {W : World} {A : ArrE} {g : Nat} {a1 : Option Addr} {c1 : Nat} {a2 : Option Addr} {c2 k : Nat} {a0 : Option Addr} {c0 : Nat} {es : List CellE} {w w1 w2 w3 : World} {e y : CellE} {a0' : Option Addr} {c0' : Nat} (h : CpS W A g a1 c1 a2 c2 k a0 c0 es w)
    (he : A.es[k]? = some e) (hy : y.d = e.d) (hb : Below w.heap.size w w1) (hs : OwnS w1 w.heap.size y.a y.n y.c y.xs) (hrow : OwnF encC 2 61 w2 W.heap.size w2.heap.size a0' (k + 1) c0' (es ++ [y])) (hk : Keeps (fun b => (Value.slice a0 k c0).ownBlock = some b) w1 w2)
    (hw : w3 = w2.setCell ⟨g, 0, none⟩ (.slice a0' (k + 1) c0')) : CpS W A g a1 c1 a2 c2 (k + 1) a0' c0' (es ++ [y]) w3 := by
  have hg := lt_of_heap h.blk
  have own1 := h.own.old hb
  have blk1 := (hb.block g hg).trans h.blk
  have s11 := h.s1.old hb
  have s21 := h.s2.old hb
  have hs1 := hb.size
  have hs2 := hk.size
  have blk2 := (hk.block g (by omega) (row_not own1.row blk1 (by decide))).trans blk1
  have s12 := s11.keeps hk (fun b hb hS => own1.not_sym s11 hb hS)
  have s22 := s21.keeps hk (fun b hb hS => own1.not_sym s21 hb hS)
  have sy2 := hs.keeps hk (fun b hb hS => own1.not_sym hs hb hS)
  have K3 : Keeps (fun b => b = g) w2 w3 := by rw [hw]; exact (Keeps.refl _ _).set ⟨g, 0, none⟩ _ rfl
  have hs3 := K3.size
  have row3 : OwnF encC 2 61 w3 W.heap.size w3.heap.size a0' (k + 1) c0' (es ++ [y]) :=
    (OwnF.up ⟨Nat.le_trans hrow.le hs3, ownsRow_block hrow.row (fun q hq => K3.block q (hrow.hi q hq) (fun hS => row_not hrow blk2 (by decide) (by rw [← hS]; exact hq))), hrow.hi⟩ hs3 (Nat.le_refl _))
  have blk3 : w3.heap[g]? = some (.cells #[.slice a0' (k + 1) c0', .slice a1 A.s1.n c1, .slice a2 A.s2.n c2] 41 (0, 0)) := by
    rw [hw]; simp [World.setCell, Array.getElem?_modify, blk2]
  have hle := h.bel.size
  have KK : Keeps (fun b => (Value.slice a0 k c0).ownBlock = some b ∨ b = g) w1 w3 := (hk.mono fun b _ hb => .inl hb).trans (K3.mono fun b _ hb => .inr hb)
  have key : ∀ (i : Nat) (f : CellE), (es ++ [y])[i]? = some f → es[i]? = some f ∨ f = y := by
    intro i f hf
    rcases Nat.lt_or_ge i es.length with hi | hi
    · rw [List.getElem?_append_left hi] at hf; exact .inl hf
    · rw [List.getElem?_append_right hi] at hf
      refine .inr ?_
      have : i - es.length = 0 := by
        rcases Nat.eq_zero_or_pos (i - es.length) with h0 | h0
        · exact h0
        · rw [List.getElem?_eq_none (by simp; omega)] at hf; cases hf
      rw [this] at hf; simpa using hf.symm
  have far1 : ∀ b, blkS a1 A.s1.n b → b < w.heap.size := fun b hb => (h.s1.lt hb).2
  have far2 : ∀ b, blkS a2 A.s2.n b → b < w.heap.size := fun b hb => (h.s2.lt hb).2
  refine ⟨(below_step h.bel hb (Nat.le_refl _)).trans (KK.below (by omega) (fun q hq hS => ?_)), h.lo, blk3, ?_, ?_, s12.keeps K3 (ints_not s12 blk2 (by decide)), s22.keeps K3 (ints_not s22 blk2 (by decide)), h.d12, ?_, ?_⟩
  · rcases hS with hS | hS
    · have := (own1.row.row.lt q hS).1; omega
    · have := h.lo; omega
  · have hc : Keeps (fun b => b = g) w2 w3 := K3
    have own2 : OwnC w2 W.heap.size w2.heap.size a0' (k + 1) c0' (es ++ [y]) := own1.push hrow hk (by omega) (sy2.mono (by omega)) (fun b hb => by have := sy2.lt hb; omega)
    exact (own2.cells_keep K3 (fun i f hf b hb hS => ints_not (own2.own i f hf) blk2 (by decide) b hb hS) (fun b hS => by rw [hS]; exact row_not hrow blk2 (by decide))).up hs3 (Nat.le_refl _)
  · rw [List.map_append, h.data, take_snoc he, List.map_append]
    show _ ++ [y.d] = _ ++ [e.d]
    rw [hy]
  · intro i f hf b hb
    rcases key i f hf with hf | rfl
    · exact h.d01 i f hf b hb
    · intro hb'; have := (hs.lt hb).1; have := far1 b hb'; omega
  · intro i f hf b hb
    rcases key i f hf with hf | rfl
    · exact h.d02 i f hf b hb
    · intro hb'; have := (hs.lt hb).1; have := far2 b hb'; omega
end Go.Proofs.Ytnfkkkjookfdiaa
