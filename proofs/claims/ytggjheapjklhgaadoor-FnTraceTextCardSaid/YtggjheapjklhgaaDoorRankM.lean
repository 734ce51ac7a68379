/- Ranks and lists of events in memory: rows of banks, rows of events. -/
import Derived.Test.YtggjheapjklhgaaDoorRec
import Derived.Test.YtggjheapjklhgaaDoorIntS
import Derived.Test.YtggjheapjklhgaaDoorMem
import Derived.Test.YtggjheapjklhgaaDoorTimP
namespace Go.Proofs.YtggjheapjklhgaaDoor
open Go.RowKit

/-- A bank: is it open, its row. -/
def encB (x : Bool × Int) : List Value := [.bool x.1, .int .i64 x.2]
theorem encB_len (x : Bool × Int) : (encB x).length = 2 := rfl
/-- A rank as it lies in memory. -/
structure RankE where
  a : Option Addr
  n : Nat
  c : Nat
  es : List (Bool × Int)
  p : Int
/-- A rank's content. -/
structure RkD where
  banks : List (Bool × Int)
  p : Int
def RankE.d (R : RankE) : RkD := ⟨R.es, R.p⟩
structure RankR (w : World) (R : RankE) : Prop where
  recs : RecR encB 2 w R.a R.es
  len : R.n = R.es.length
theorem RankR.old {w w' : World} {R : RankE} (h : RankR w R) (hb : Below w.heap.size w w') : RankR w' R := ⟨h.recs.old hb, h.len⟩
theorem RankR.at_ {w : World} {R : RankE} {k : Nat} (h : RankR w R) (hk : k < R.n) :
    ∃ e b o, R.es[k]? = some e ∧ R.a = some ⟨b, o, none⟩ ∧ b < w.heap.size ∧ w.cell? ⟨b, o + k * 2, none⟩ = some (.bool e.1) ∧ w.cell? ⟨b, o + k * 2 + 1, none⟩ = some (.int .i64 e.2) := by
  obtain ⟨e, he⟩ := some_at h.len hk
  obtain ⟨b, o, ha, hb, hc⟩ := h.recs k e he
  exact ⟨e, b, o, he, ha, hb, hc 0 _ rfl, hc 1 _ rfl⟩
/-- A rank of the call's own. -/
def OwnR (w : World) (B U : Nat) (R : RankE) : Prop := OwnF encB 2 89 w B U R.a R.n R.c R.es
theorem OwnR.reads {w : World} {B U : Nat} {R : RankE} (h : OwnR w B U R) : RankR w R := ⟨OwnF.reads encB_len (by decide) h, OwnF.length encB_len (by decide) h⟩
theorem OwnR.old {w w' : World} {B U : Nat} {R : RankE} (h : OwnR w B U R) (hb : Below w.heap.size w w') : OwnR w' B U R := OwnF.old h hb
theorem OwnR.keeps {S : Nat → Prop} {w w' : World} {B U : Nat} {R : RankE} (h : OwnR w B U R) (hk : Keeps S w w') (hs : ∀ b, B ≤ b → b < U → ¬ S b) : OwnR w' B U R := OwnF.keeps h hk hs
theorem OwnF.mono {α : Type} {f : α → List Value} {k : Nat} {T : TypeId} {w : World} {B B' U : Nat} {a : Option Addr} {n c : Nat} {xs : List α} (h : OwnF f k T w B U a n c xs) (hB : B' ≤ B) : OwnF f k T w B' U a n c xs := by
  refine ⟨h.le, ⟨h.row.1, ?_⟩, h.hi⟩
  rcases h.row.2 with hv | ⟨g, cap, cur, hv, hg, rest⟩
  · exact .inl hv
  · exact .inr ⟨g, cap, cur, hv, by omega, rest⟩
theorem OwnR.mono {w : World} {B B' U : Nat} {R : RankE} (h : OwnR w B U R) (hB : B' ≤ B) : OwnR w B' U R := OwnF.mono h hB

/-- An event: its time, its command. -/
structure Ev where
  t : Int
  c : Cmd
def encE (x : Ev) : List Value := [.int .i64 x.t, .int .i64 x.c.k, .int .i64 x.c.b, .int .i64 x.c.r, .int .i64 x.c.c]
theorem encE_len (x : Ev) : (encE x).length = 5 := rfl
structure EvsR (w : World) (a : Option Addr) (n : Nat) (es : List Ev) : Prop where
  recs : RecR encE 5 w a es
  len : n = es.length
theorem EvsR.old {w w' : World} {a : Option Addr} {n : Nat} {es : List Ev} (h : EvsR w a n es) (hb : Below w.heap.size w w') : EvsR w' a n es := ⟨h.recs.old hb, h.len⟩
theorem EvsR.at_ {w : World} {a : Option Addr} {n : Nat} {es : List Ev} {k : Nat} (h : EvsR w a n es) (hk : k < n) :
    ∃ e b o, es[k]? = some e ∧ a = some ⟨b, o, none⟩ ∧ b < w.heap.size ∧ w.cell? ⟨b, o + k * 5, none⟩ = some (.int .i64 e.t) ∧ w.cell? ⟨b, o + k * 5 + 1, none⟩ = some (.int .i64 e.c.k) ∧ w.cell? ⟨b, o + k * 5 + 2, none⟩ = some (.int .i64 e.c.b) ∧ w.cell? ⟨b, o + k * 5 + 3, none⟩ = some (.int .i64 e.c.r) ∧ w.cell? ⟨b, o + k * 5 + 4, none⟩ = some (.int .i64 e.c.c) := by
  obtain ⟨e, he⟩ := some_at h.len hk
  obtain ⟨b, o, ha, hb, hc⟩ := h.recs k e he
  exact ⟨e, b, o, he, ha, hb, hc 0 _ rfl, hc 1 _ rfl, hc 2 _ rfl, hc 3 _ rfl, hc 4 _ rfl⟩
end Go.Proofs.YtggjheapjklhgaaDoor
