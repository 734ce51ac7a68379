/- Laws whose functions return ranks and summaries: storing a result into its variable. -/
import Derived.Test.YtggjheapjklhgaaDoorRkC
import Derived.Test.YtggjheapjklhgaaDoorRdyN
import Derived.Test.YtggjheapjklhgaaDoorGapW
import Derived.Test.YtggjheapjklhgaaDoorEvtF
import Derived.Test.YtggjheapjklhgaaDoorInv
import Derived.Test.YtggjheapjklhgaaDoorAdrW
namespace Go.Proofs.YtggjheapjklhgaaDoor
open Go.RowKit
theorem OwnF.not_blk {α : Type} {f : α → List Value} {k : Nat} {T T' : TypeId} {w : World} {B U g : Nat} {a : Option Addr} {n c : Nat} {xs : List α} {cs : List Value} (h : OwnF f k T w B U a n c xs) (hb : Blk w g T' cs) (hT : (T' == T) = false) : (Value.slice a n c).ownBlock ≠ some g := by
  intro he
  rcases h.row.2 with ⟨hv, _⟩ | ⟨g', cap', cur, hv, _, hg', _⟩
  · rw [hv] at he; cases he
  · rw [hv, ownBlock_slice] at he
    simp only [Option.some.injEq] at he
    subst he
    unfold Blk at hb
    rw [hg'] at hb
    simp only [Option.some.injEq, Obj.cells.injEq] at hb
    rw [← hb.2.1] at hT
    simp at hT
theorem OwnF.keepsO {α : Type} {f : α → List Value} {k : Nat} {T : TypeId} {S : Nat → Prop} {w w' : World} {B U : Nat} {a : Option Addr} {n c : Nat} {xs : List α} (h : OwnF f k T w B U a n c xs) (hk : Keeps S w w') (hs : ∀ b, (Value.slice a n c).ownBlock = some b → ¬ S b) : OwnF f k T w' B U a n c xs :=
  ⟨Nat.le_trans h.le hk.size, ownsRow_block h.row fun g hg => hk.block g (Nat.lt_of_lt_of_le (h.hi g hg) h.le) (hs g hg), h.hi⟩
theorem OwnR.up {w : World} {B U V : Nat} {R : RankE} (h : OwnR w B U R) (hUV : U ≤ V) (hV : V ≤ w.heap.size) : OwnR w B V R := OwnF.up h hUV hV
theorem stored2 (w : World) (g : Nat) (x y : Value) : Keeps (fun b => b = g) w ((w.setCell ⟨g, 0, none⟩ x).setCell ⟨g, 1, none⟩ y) := (Keeps.set (S := fun b => b = g) (Keeps.refl _ _) ⟨g, 0, none⟩ _ rfl).set ⟨g, 1, none⟩ _ rfl
theorem Blk.two {w : World} {g : Nat} {T : TypeId} {a b : Value} (h : Blk w g T [a, b]) (x y : Value) : Blk ((w.setCell ⟨g, 0, none⟩ x).setCell ⟨g, 1, none⟩ y) g T [x, y] := ((h.set 0 x).1.set 1 y).1
theorem blkR_own {R : RankE} {b : Nat} (h : blkR R b) : (Value.slice R.a R.n R.c).ownBlock = some b := by rw [h.2]; rfl
/-- A rank is stored into a fresh variable. -/
theorem rank_stored {w : World} {g B : Nat} {R : RankE} {x y : Value} (hb : Blk w g 75 [x, y]) (hO : OwnR w B w.heap.size R) (hg : B ≤ g) :
    Blk ((w.setCell ⟨g, 0, none⟩ (.slice R.a R.n R.c)).setCell ⟨g, 1, none⟩ (.int .i64 R.p)) g 75 [.slice R.a R.n R.c, .int .i64 R.p] ∧
    OwnR ((w.setCell ⟨g, 0, none⟩ (.slice R.a R.n R.c)).setCell ⟨g, 1, none⟩ (.int .i64 R.p)) B ((w.setCell ⟨g, 0, none⟩ (.slice R.a R.n R.c)).setCell ⟨g, 1, none⟩ (.int .i64 R.p)).heap.size R ∧
    Below B w ((w.setCell ⟨g, 0, none⟩ (.slice R.a R.n R.c)).setCell ⟨g, 1, none⟩ (.int .i64 R.p)) ∧ ¬ blkR R g := by
  have K := stored2 w g (.slice R.a R.n R.c) (.int .i64 R.p)
  have hn : ∀ b, (Value.slice R.a R.n R.c).ownBlock = some b → ¬ b = g := fun b h e => OwnF.not_blk hO hb rfl (e ▸ h)
  exact ⟨hb.two _ _, OwnF.up (OwnF.keepsO hO K hn) K.size (Nat.le_refl _), K.below (Nat.le_of_lt (Nat.lt_of_le_of_lt hg hb.lt)) (fun q hq e => by omega), fun h => hn g (blkR_own h) rfl⟩
theorem OwnY.keepsO {S : Nat → Prop} {w w' : World} {B U : Nat} {Y : RdyE} (h : OwnY w B U Y) (hk : Keeps S w w') (hs : ∀ b, blkY Y b → ¬ S b) : OwnY w' B U Y :=
  ⟨Nat.le_trans h.le hk.size, h.last.keeps hk (fun b hb => hs b (.inl hb)), h.acts.keeps hk (fun b hb => hs b (.inr hb)), h.t0, h.t1, h.apart⟩
theorem OwnS.not_blk {w : World} {B n c g : Nat} {a : Option Addr} {xs : List Int} {T : TypeId} {cs : List Value} (h : OwnS w B a n c xs) (hb : Blk w g T cs) (hT : (T == 3) = false) : ¬ blkS a n g := by
  intro hS
  obtain ⟨q, hq, _, hr⟩ := h.row hS.1
  have e : q = g := by have := hS.2; rw [hq] at this; simpa using this
  subst e
  rcases hr.2 with ⟨hv, _⟩ | ⟨g2, cap2, cur2, hv2, _, hg2, _⟩
  · cases hv
  · injection hv2 with e1 _ _
    simp only [Option.some.injEq, Addr.mk.injEq, and_true] at e1
    subst e1
    unfold Blk at hb
    rw [hg2] at hb
    simp only [Option.some.injEq, Obj.cells.injEq] at hb
    rw [← hb.2.1] at hT
    simp at hT
theorem wp_load_tim {w : World} {g : Nat} {T : Tim} (h : BoxT w g T) {o : Oper} {ac : Act} {K : Act → World → Prop} {Q : Exit → Act → World → Prop} (x : Operand) (ho : o.op = .load 34 x)
    (hx : ac.eval x = .pointer (some ⟨g, 0, none⟩)) (hk : K (ac.put o.dst (.agg #[.int .i64 T.t0, .int .i64 T.t1, .int .i64 T.t2, .int .i64 T.t3, .int .i64 T.t4, .int .i64 T.t5, .int .i64 T.t6, .int .i64 T.t7, .int .i64 T.t8, .int .i64 T.t9, .int .i64 T.t10, .int .i64 T.t11, .int .i64 T.t12, .int .i64 T.t13, .int .i64 T.t14, .int .i64 T.t15, .int .i64 T.t16])) w) : o.wp Tryd.prog ac w K Q := by
  unfold Oper.wp execOp
  have := run_loadVar_mid (P := Tryd.prog) w g 0 34 (timV T) _ (rangeT h) Tryd.underlying34 rfl (by kernel_rfl)
  simp only [ho, hx, Instr.loadAt, Instr.sureAddr, Sem.run_bind, Sem.run_pure, Result.andThen_ok, this]
  exact hk
/-- The cells of a boxed event. -/
structure BoxEv (w : World) (g : Nat) (V : Ev) : Prop where
  lt : g < w.heap.size
  c0 : w.cell? ⟨g, 0, none⟩ = some (.int .i64 V.t)
  c1 : w.cell? ⟨g, 1, none⟩ = some (.int .i64 V.c.k)
  c2 : w.cell? ⟨g, 2, none⟩ = some (.int .i64 V.c.b)
  c3 : w.cell? ⟨g, 3, none⟩ = some (.int .i64 V.c.r)
  c4 : w.cell? ⟨g, 4, none⟩ = some (.int .i64 V.c.c)
theorem BoxEv.new_ (w : World) (t : TypeId) (V : Ev) {g : Nat} (h : w.heap.size = g) : BoxEv (w.alloc (.cells #[.int .i64 V.t, .int .i64 V.c.k, .int .i64 V.c.b, .int .i64 V.c.r, .int .i64 V.c.c] t)) g V := by
  subst h
  have h := box_at w [.int .i64 V.t, .int .i64 V.c.k, .int .i64 V.c.b, .int .i64 V.c.r, .int .i64 V.c.c] t
  exact ⟨by simp, h 0, h 1, h 2, h 3, h 4⟩
theorem BoxEv.old {w w' : World} {g : Nat} {V : Ev} (h : BoxEv w g V) (hb : Below w.heap.size w w') : BoxEv w' g V :=
  ⟨Nat.lt_of_lt_of_le h.lt hb.size, (hb.cell (p := ⟨g, 0, none⟩) h.lt).trans h.c0, (hb.cell (p := ⟨g, 1, none⟩) h.lt).trans h.c1, (hb.cell (p := ⟨g, 2, none⟩) h.lt).trans h.c2, (hb.cell (p := ⟨g, 3, none⟩) h.lt).trans h.c3, (hb.cell (p := ⟨g, 4, none⟩) h.lt).trans h.c4⟩
end Go.Proofs.YtggjheapjklhgaaDoor
