/- A summary changed by an event: the place of a command, the reference's change. -/
import Derived.Test.YtggjheapjklhgaaDoorRyC
import Derived.Test.YtggjheapjklhgaaDoorApp
import Derived.Test.YtggjheapjklhgaaDoorInv
import Derived.Test.YtggjheapjklhgaaDoorRdyP
import Derived.Test.YtggjheapjklhgaaDoorGapG
import Derived.StillTail
namespace Go.Proofs.YtggjheapjklhgaaDoor
open Go.RowKit
theorem wp_append_rec_at {α : Type} {f : α → List Value} {k : Nat} {t T : TypeId} {z : Value} {bytes : Nat} (R : RecT f k t T z bytes) {o : Oper} {ac : Act} {K : Act → World → Prop} {Q : Exit → Act → World → Prop} (s x : Operand)
    (ho : o.op = .call { callee := .builtin .append, args := #[s, x], argTypes := #[t, t] })
    (W : World) (B U h : Nat) (a : Option Addr) (n c : Nat) (xs : List α) (hown : OwnF f k T W B U a n c xs) (hs : ac.eval s = .slice a n c) (y : α) (hy : ∀ j u, (f y)[j]? = some u → W.cell? ((⟨h, 0, none⟩ : Addr).add j) = some u) (hx : ac.eval x = .slice (some ⟨h, 0, none⟩) 1 1) (hB : B ≤ W.heap.size) (hn : n ≤ 1099511627776)
    (hk : ∀ a' c' w', OwnF f k T w' B w'.heap.size a' (n + 1) c' (xs ++ [y]) → Keeps (fun b => (Value.slice a n c).ownBlock = some b) W w' → K (ac.put o.dst (.slice a' (n + 1) c')) w') : o.wp Tryd.prog ac W K Q := by
  obtain ⟨a', c', w', hr, h2, h3⟩ := run_append_rec_at R o.type W B U h a n c xs hown y hy hB hn
  unfold Oper.wp execOp
  simp only [ho, resolve, invoke, builtin, Sem.run_bind, Sem.run_pure, Result.andThen_ok, List.map_toArray, List.map_cons, List.map_nil, hs, hx, hr]
  exact hk _ _ _ h2 h3
theorem one_cell {w : World} {h : Nat} {y : Int} (hc : w.cell? ⟨h, 0, none⟩ = some (.int .i64 y)) : ∀ j u, (encN y)[j]? = some u → w.cell? ((⟨h, 0, none⟩ : Addr).add j) = some u := by
  intro j u hu
  match j, hu with
  | 0, hu =>
    simp only [encN, List.getElem?_cons_zero, Option.some.injEq] at hu
    subst hu
    exact hc
  | j + 1, hu => simp [encN] at hu
/-- The place of a command's last time. -/
def plB (G : Geo) (C : Cmd) : Int := if usesB C.k = true then C.b else bankN G
def lastPl (G : Geo) (C : Cmd) : Int := 9 * plB G C + C.k - 1
theorem plB_bd {G : Geo} {C : Cmd} (h : bkOk G C) : 0 ≤ plB G C ∧ plB G C ≤ bankN G := by
  have hb := bankN_bd G
  unfold plB
  split
  · rename_i hu
    have := h.2 hu
    omega
  · omega
theorem lastPl_bd {G : Geo} {C : Cmd} (h : bkOk G C) : 0 ≤ lastPl G C ∧ lastPl G C < readyLen G := by
  have := plB_bd h
  have := (readyLen_bd G).2
  have := h.1
  unfold lastPl
  omega
def last4 (xs : List Int) : List Int := xs.drop (xs.length - 4)
def doY (G : Geo) (D : RdyD) (V : Ev) : RdyD := ⟨D.last.set (lastPl G V.c).toNat V.t, if (V.c.k == 1) = true then last4 (D.acts ++ [V.t]) else D.acts⟩
def RyB (Y : RdyE) : List Value := [.slice Y.s0.a Y.s0.n Y.s0.c, .slice Y.s1.a Y.s1.n Y.s1.c]
end Go.Proofs.YtggjheapjklhgaaDoor
