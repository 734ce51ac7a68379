/- Copies of a summary: what the program's and the reference's return. -/
import Derived.Test.YtggjheapjklhgaaDoorRdyN
import Derived.Test.YtggjheapjklhgaaDoorApp
import Derived.Test.YtggjheapjklhgaaDoorInv
import Derived.Test.YtggjheapjklhgaaDoorLwR
namespace Go.Proofs.YtggjheapjklhgaaDoor
open Go.RowKit
def encN (x : Int) : List Value := [.int .i64 x]
theorem encN_len (x : Int) : (encN x).length = 1 := rfl
theorem recN : RecT encN 1 37 3 (.int .i64 0) 8 :=
  ⟨encN_len, by decide, Tryd.underlying37, by kernel_rfl, rfl, fun e u hu => by simp [encN] at hu; subst hu; rfl, by decide⟩
theorem RecR.ints {w : World} {a : Option Addr} {xs : List Int} (h : RecR encN 1 w a xs) : IntsR w a xs := by
  intro i x hx
  obtain ⟨b, o, ha, hb, hc⟩ := h i x hx
  have := hc 0 _ rfl
  rw [Nat.mul_one, Nat.add_zero] at this
  exact ⟨b, o, ha, hb, this⟩
theorem IntsR.recs {w : World} {a : Option Addr} {xs : List Int} (h : IntsR w a xs) : RecR encN 1 w a xs := by
  intro i x hx
  obtain ⟨b, o, ha, hb, hc⟩ := h i x hx
  refine ⟨b, o, ha, hb, fun j v hv => ?_⟩
  match j, hv with
  | 0, hv =>
    simp only [encN, List.getElem?_cons_zero, Option.some.injEq] at hv
    rw [← hv, Nat.mul_one, Nat.add_zero]; exact hc
  | j + 1, hv => simp [encN] at hv
theorem OwnF.le_cap {α : Type} {f : α → List Value} {k : Nat} {T : TypeId} {w : World} {B U : Nat} {a : Option Addr} {n c : Nat} {xs : List α} (h : OwnF f k T w B U a n c xs) : n ≤ c := by
  rcases h.row.2 with ⟨hv, _⟩ | ⟨g', cap', cur, hv, _, _, hnc, _⟩
  · injection hv with _ h2 h3; omega
  · injection hv with _ _ h3; omega
theorem OwnF.toS {w : World} {B U : Nat} {a : Option Addr} {n c : Nat} {xs : List Int} (h : OwnF encN 1 3 w B U a n c xs) : OwnS w B a n c xs := by
  have hl := OwnF.length encN_len (by decide) h
  refine ⟨hl, h.le_cap, fun hn => ?_⟩
  have hr := h.row
  have e : xs.flatMap encN = xs.map (Value.int .i64) := by
    clear h hl hr
    induction xs with
    | nil => rfl
    | cons x xs ih => rw [List.flatMap_cons, List.map_cons, ih]; rfl
  rw [e] at hr
  obtain ⟨g, cap, hv, hB, hi⟩ := IRow.of_owns hr (fun hv => by injection hv with _ h2 _; exact hn h2)
  injection hv with h1 _ h3
  subst h1
  subst h3
  exact ⟨g, rfl, hB, hi⟩
theorem newS {w w1 : World} {B U : Nat} {a : Option Addr} {n c : Nat} {xs : List Int} (h : OwnF encN 1 3 w1 B U a n c xs) (hnew : n ≠ 0 → ∃ g, a = some ⟨g, 0, none⟩ ∧ w.heap.size ≤ g) : OwnS w1 w.heap.size a n c xs := by
  have hs := h.toS
  refine ⟨hs.length, hs.cap, fun hn => ?_⟩
  obtain ⟨g, e, _, hr⟩ := hs.row hn
  obtain ⟨g', e', hg⟩ := hnew hn
  rw [e] at e'
  simp only [Option.some.injEq, Addr.mk.injEq, and_true] at e'
  subst e'
  exact ⟨g, e, hg, hr⟩
def apartV (x y : Value) : Prop := ∀ a n c b m d, x = .slice a n c → y = .slice b m d → ∀ k, blkS a n k → ¬ blkS b m k
theorem apartV_undef_l (y : Value) : apartV undef y := fun a n c b m d h => by cases h
theorem apartV_undef_r (x : Value) : apartV x undef := fun a n c b m d _ h => by cases h
theorem apartV_new {w w1 : World} {B : Nat} {x : Value} {b : Option Addr} {m d : Nat} {xs ys : List Int} (h : x = undef ∨ ∃ a n c, x = .slice a n c ∧ OwnS w B a n c xs) (hy : OwnS w1 w.heap.size b m d ys) : apartV x (.slice b m d) ∧ apartV (.slice b m d) x := by
  rcases h with rfl | ⟨a, n, c, rfl, o⟩
  · exact ⟨apartV_undef_l _, apartV_undef_r _⟩
  · refine ⟨fun a' n' c' b' m' d' e1 e2 k h1 h2 => ?_, fun a' n' c' b' m' d' e1 e2 k h1 h2 => ?_⟩
    · cases e1; cases e2
      have := (o.lt h1).2
      have := (hy.lt h2).1
      omega
    · cases e1; cases e2
      have := (o.lt h2).2
      have := (hy.lt h1).1
      omega
end Go.Proofs.YtggjheapjklhgaaDoor
