/- The laws' helpers on ranks: copying, comparing, marking. -/
import Derived.Test.YtggjheapjklhgaaDoorRankM
namespace Go.Proofs.YtggjheapjklhgaaDoor
open Go.RowKit

theorem fillB_put {α : Type} {L : List α} {n k : Nat} {z x : α} (hL : L.length = k) (hk : k < n) : (L ++ List.replicate (n - k) z).set k x = (L ++ [x]) ++ List.replicate (n - (k + 1)) z := by
  obtain ⟨r, hr⟩ : ∃ r, n - k = r + 1 := ⟨n - k - 1, by omega⟩
  rw [hr, show n - (k + 1) = r by omega, List.set_append_right _ _ (by omega), hL, Nat.sub_self, List.replicate_succ, List.set_cons_zero, List.append_assoc, List.singleton_append]
theorem recB : RecT encB 2 73 89 (.agg #[.bool false, .int .i64 0]) 16 :=
  ⟨encB_len, by decide, Tryd.underlying73, by kernel_rfl, rfl, fun e u hu => by simp [encB] at hu; rcases hu with rfl | rfl <;> rfl, by decide⟩
/-- A made row of banks. -/
theorem OwnB.made {w : World} {B g n : Nat} (h : w.ownsRow B 89 2 (.slice (some ⟨g, 0, none⟩) n n) n (madeCells (Value.agg #[.bool false, .int .i64 0]).cells (n * 2)).toList) (hg : g < w.heap.size) :
    OwnF encB 2 89 w B w.heap.size (some ⟨g, 0, none⟩) n n (List.replicate n (false, 0)) := by
  have e : (madeCells (Value.agg #[.bool false, .int .i64 0]).cells (n * 2)).toList = (List.replicate n ((false, 0) : Bool × Int)).flatMap encB := flat_made encB_len (by decide) _ (false, 0) rfl n
  rw [e] at h
  exact ⟨Nat.le_refl _, h, fun b hb => by rw [ownBlock_slice] at hb; simp only [Option.some.injEq] at hb; omega⟩
/-- One bank of a row is stored to: what is known ahead and behind. -/
theorem OwnB.cells {w : World} {B U g n c i : Nat} {xs : List (Bool × Int)} {x : Bool × Int} (h : OwnF encB 2 89 w B U (some ⟨g, 0, none⟩) n c xs) (hx : xs[i]? = some x) :
    B ≤ g ∧ g < U ∧ w.cell? ⟨g, i * 2, none⟩ = some (.bool x.1) ∧ w.cell? ⟨g, i * 2 + 1, none⟩ = some (.int .i64 x.2) ∧ w.frozen? ⟨g, i * 2, none⟩ = false ∧ w.frozen? ⟨g, i * 2 + 1, none⟩ = false := by
  obtain ⟨g', hg', hB, hU, c0⟩ := h.at_ encB_len hx (show (encB x)[0]? = some (.bool x.1) from rfl)
  obtain ⟨_, hg'', _, _, c1⟩ := h.at_ encB_len hx (show (encB x)[1]? = some (.int .i64 x.2) from rfl)
  simp only [Option.some.injEq, Addr.mk.injEq, and_true] at hg' hg''
  subst hg'
  subst hg''
  have f0 := (h.set encB_len (y := (true, x.2)) (v := .bool true) hx (show 0 < 2 by decide) rfl).2.2
  have f1 := (h.set encB_len (y := (x.1, 0)) (v := .int .i64 0) hx (show 1 < 2 by decide) rfl).2.2
  exact ⟨hB, hU, c0, c1, f0, f1⟩
theorem OwnB.set0 {w : World} {B U g n c i : Nat} {xs : List (Bool × Int)} {x : Bool × Int} (h : OwnF encB 2 89 w B U (some ⟨g, 0, none⟩) n c xs) (hx : xs[i]? = some x) (b : Bool) :
    OwnF encB 2 89 (w.setCell ⟨g, i * 2, none⟩ (.bool b)) B U (some ⟨g, 0, none⟩) n c (xs.set i (b, x.2)) ∧ Keeps (· = g) w (w.setCell ⟨g, i * 2, none⟩ (.bool b)) := by
  have s := h.set encB_len (y := (b, x.2)) (v := .bool b) hx (show 0 < 2 by decide) rfl
  exact ⟨s.1, s.2.1⟩
theorem OwnB.set1 {w : World} {B U g n c i : Nat} {xs : List (Bool × Int)} {x : Bool × Int} (h : OwnF encB 2 89 w B U (some ⟨g, 0, none⟩) n c xs) (hx : xs[i]? = some x) (r : Int) :
    OwnF encB 2 89 (w.setCell ⟨g, i * 2 + 1, none⟩ (.int .i64 r)) B U (some ⟨g, 0, none⟩) n c (xs.set i (x.1, r)) ∧ Keeps (· = g) w (w.setCell ⟨g, i * 2 + 1, none⟩ (.int .i64 r)) := by
  have s := h.set encB_len (y := (x.1, r)) (v := .int .i64 r) hx (show 1 < 2 by decide) rfl
  exact ⟨s.1, s.2.1⟩
theorem OwnB.store {w : World} {B U g n c i : Nat} {xs : List (Bool × Int)} {x : Bool × Int} (h : OwnF encB 2 89 w B U (some ⟨g, 0, none⟩) n c xs) (hx : xs[i]? = some x) (y : Bool × Int) :
    OwnF encB 2 89 ((w.setCell ⟨g, i * 2, none⟩ (.bool y.1)).setCell ⟨g, i * 2 + 1, none⟩ (.int .i64 y.2)) B U (some ⟨g, 0, none⟩) n c (xs.set i y) ∧ Keeps (· = g) w ((w.setCell ⟨g, i * 2, none⟩ (.bool y.1)).setCell ⟨g, i * 2 + 1, none⟩ (.int .i64 y.2)) := by
  have s0 := OwnB.set0 h hx y.1
  have hx1 : (xs.set i (y.1, x.2))[i]? = some (y.1, x.2) := by rw [List.getElem?_set_self (List.getElem?_eq_some_iff.1 hx).1]
  have s1 := OwnB.set1 s0.1 hx1 y.2
  rw [List.set_set] at s1
  exact ⟨s1.1, s0.2.trans s1.2⟩

theorem RkD.parts {x y : RkD} (h : x = y) : x.banks = y.banks ∧ x.p = y.p := by subst h; exact ⟨rfl, rfl⟩
/-- The marks that markBankS writes. -/
def mkB (k : Int) : Nat → List (Bool × Int)
  | 0 => []
  | n + 1 => (k % 3 == 0, k + 1) :: mkB (k + 2) n
theorem length_mkB (k : Int) (n : Nat) : (mkB k n).length = n := by
  induction n generalizing k with
  | zero => rfl
  | succ n ih => simp [mkB, ih]
theorem mkB_at (k : Int) (n i : Nat) (h : i < n) : (mkB k n)[i]? = some ((k + 2 * i) % 3 == 0, k + 2 * i + 1) := by
  induction n generalizing k i with
  | zero => omega
  | succ n ih =>
    cases i with
    | zero => simp [mkB]
    | succ i =>
      simp only [mkB, List.getElem?_cons_succ]
      rw [ih (k + 2) i (by omega)]
      have e : k + 2 + 2 * (i : Int) = k + 2 * ((i + 1 : Nat) : Int) := by omega
      rw [e]
/-- The block of a rank's banks. -/
def blkR (R : RankE) (b : Nat) : Prop := R.n ≠ 0 ∧ R.a = some ⟨b, 0, none⟩
theorem OwnR.in_ {w : World} {B U : Nat} {R : RankE} (h : OwnR w B U R) {b : Nat} (hb : blkR R b) : B ≤ b ∧ b < U := by
  obtain ⟨g, ha, h1, h2⟩ := OwnF.form h (by have := hb.1; omega)
  have := hb.2
  rw [ha] at this
  simp only [Option.some.injEq, Addr.mk.injEq, and_true] at this
  omega
theorem OwnR.not {w : World} {B U : Nat} {R : RankE} (h : OwnR w B U R) {b : Nat} (hb : b < B ∨ U ≤ b) : ¬ blkR R b := fun hS => by have := h.in_ hS; omega
theorem OwnR.box {w : World} {B U g : Nat} {R : RankE} (h : OwnR w B U R) {cs : Array Value} {t : TypeId} {p : Nat × Nat} (hg : w.heap[g]? = some (.cells cs t p)) (ht : t ≠ 89) : ¬ blkR R g := by
  intro hS
  rcases h.row.2 with ⟨hv, h0⟩ | ⟨g', cap', cur, hv, _, hg', _⟩
  · exact hS.1 h0
  · injection hv with h1 _ _
    have := hS.2
    rw [h1] at this
    simp only [Option.some.injEq, Addr.mk.injEq, and_true] at this
    subst this
    rw [hg'] at hg
    simp only [Option.some.injEq, Obj.cells.injEq] at hg
    exact ht hg.2.1.symm
def szT (left : Int) (t : Nat) : Int := if (t : Int) ≤ left then left - t else -1
theorem szT_yes {left : Int} {t : Nat} (h : (t : Int) ≤ left) : szT left t = left - t := by rw [szT, if_pos h]
theorem szT_no {left : Int} {t : Nat} (h : left < (t : Int)) : szT left t = -1 := by rw [szT, if_neg (by omega)]
end Go.Proofs.YtggjheapjklhgaaDoor
