/- Plain law on traces: the first fault; loads and slices that the walks of TraceFault need. -/
import Derived.Test.YtggjheapjklhgaaDoorErl
import Derived.Test.YtggjheapjklhgaaDoorRkA
import Derived.Test.YtggjheapjklhgaaDoorRyD
namespace Go.Proofs.YtggjheapjklhgaaDoor
open Go.RowKit
def orderB (pre : List Ev) (e : Ev) : Bool := match pre.getLast? with
  | none => true
  | some x => decide (x.t < e.t)
def formB (G : Geo) (pre : List Ev) (e : Ev) : Bool := cmdOk G e.c && (inB e.t 0 1000000 && orderB pre e)
def chk (G : Geo) (T : Tim) (pre : List Ev) (D : RkD) (e : Ev) : Int :=
  if formB G pre e = false then 1 else if may D e.c = false then 2 else if decide (e.t < earl G T pre e.c) = true then 3 else if (e.c.k == 1 && decide (e.t < fawT T pre)) = true then 4 else 0
def faultFrom (G : Geo) (T : Tim) (pre : List Ev) (D : RkD) : List Ev → Int × Int
  | [] => (0, -1)
  | e :: es => if chk G T pre D e = 0 then faultFrom G T (pre ++ [e]) (doR D e.c) es else (chk G T pre D e, pre.length)
def traceFault (G : Geo) (T : Tim) (es : List Ev) : Int × Int := if (gOk G && timOk T && decide (es.length ≤ 2000)) = true then faultFrom G T [] (rankNew G) es else (1, -1)
theorem traceFault_yes {G : Geo} {T : Tim} {es : List Ev} (h1 : gOk G = true) (h2 : timOk T = true) (h3 : es.length ≤ 2000) : traceFault G T es = faultFrom G T [] (rankNew G) es := by unfold traceFault; rw [if_pos (by simp [h1, h2, h3])]
theorem traceFault_geo {G : Geo} {T : Tim} {es : List Ev} (h1 : gOk G = false) : traceFault G T es = (1, -1) := by unfold traceFault; rw [if_neg (by simp [h1])]
theorem traceFault_tim {G : Geo} {T : Tim} {es : List Ev} (h1 : timOk T = false) : traceFault G T es = (1, -1) := by unfold traceFault; rw [if_neg (by simp [h1])]
theorem traceFault_len {G : Geo} {T : Tim} {es : List Ev} (h1 : ¬ es.length ≤ 2000) : traceFault G T es = (1, -1) := by unfold traceFault; rw [if_neg (by simp [h1])]
/-- The state and what is behind, ahead of event k. -/
structure FltI (G : Geo) (T : Tim) (es : List Ev) (k : Nat) (D : RkD) : Prop where
  flt : faultFrom G T (es.take k) D (es.drop k) = faultFrom G T [] (rankNew G) es
  ok : rankOk G D = true
  times : timesOk (es.take k)
  cmds : ∀ e ∈ es.take k, cmdOk G e.c = true
theorem FltI.start {G : Geo} {T : Tim} {es : List Ev} (hg : gOk G = true) : FltI G T es 0 (rankNew G) := ⟨rfl, rankNew_ok hg, fun e he => by simp at he, fun e he => by simp at he⟩
theorem FltI.stop {G : Geo} {T : Tim} {es : List Ev} {k : Nat} {D : RkD} {e : Ev} {c : Int} (h : FltI G T es k D) (he : es[k]? = some e) (hc : chk G T (es.take k) D e = c) (h0 : c ≠ 0) : faultFrom G T [] (rankNew G) es = (c, (k : Int)) := by
  obtain ⟨hl, hx⟩ := List.getElem?_eq_some_iff.1 he
  rw [← h.flt, List.drop_eq_getElem_cons hl, hx]
  unfold faultFrom
  rw [if_neg (by rw [hc]; exact h0), hc, List.length_take, Nat.min_eq_left (Nat.le_of_lt hl)]
theorem FltI.step {G : Geo} {T : Tim} {es : List Ev} {k : Nat} {D : RkD} {e : Ev} (h : FltI G T es k D) (he : es[k]? = some e) (hf : formB G (es.take k) e = true) (hm : may D e.c = true) (hc : chk G T (es.take k) D e = 0) : FltI G T es (k + 1) (doR D e.c) := by
  obtain ⟨hl, hx⟩ := List.getElem?_eq_some_iff.1 he
  unfold formB at hf
  simp only [Bool.and_eq_true] at hf
  obtain ⟨f1, f2, _⟩ := hf
  refine ⟨?_, doR_ok h.ok f1 hm, fun x hx => ?_, fun x hx => ?_⟩
  · rw [← h.flt, take_snoc he]
    conv => rhs; rw [List.drop_eq_getElem_cons hl, hx]; unfold faultFrom
    rw [if_pos hc]
  · rw [take_snoc he] at hx
    rcases List.mem_append.1 hx with h1 | h1
    · exact h.times x h1
    · simp only [List.mem_singleton] at h1; subst h1; exact inB_iff.1 f2
  · rw [take_snoc he] at hx
    rcases List.mem_append.1 hx with h1 | h1
    · exact h.cmds x h1
    · simp only [List.mem_singleton] at h1; subst h1; exact f1
theorem FltI.done {G : Geo} {T : Tim} {es : List Ev} {D : RkD} (h : FltI G T es es.length D) : faultFrom G T [] (rankNew G) es = (0, -1) := by
  rw [← h.flt, List.drop_length]; rfl
theorem chk_form {G : Geo} {T : Tim} {pre : List Ev} {D : RkD} {e : Ev} (h : formB G pre e = false) : chk G T pre D e = 1 := by unfold chk; rw [if_pos h]
theorem chk_may {G : Geo} {T : Tim} {pre : List Ev} {D : RkD} {e : Ev} (h : formB G pre e = true) (h2 : may D e.c = false) : chk G T pre D e = 2 := by unfold chk; rw [if_neg (by simp [h]), if_pos h2]
theorem chk_gap {G : Geo} {T : Tim} {pre : List Ev} {D : RkD} {e : Ev} (h : formB G pre e = true) (h2 : may D e.c = true) (h3 : decide (e.t < earl G T pre e.c) = true) : chk G T pre D e = 3 := by unfold chk; rw [if_neg (by simp [h]), if_neg (by simp [h2]), if_pos h3]
theorem chk_faw {G : Geo} {T : Tim} {pre : List Ev} {D : RkD} {e : Ev} (h : formB G pre e = true) (h2 : may D e.c = true) (h3 : decide (e.t < earl G T pre e.c) = false) (h4 : (e.c.k == 1 && decide (e.t < fawT T pre)) = true) : chk G T pre D e = 4 := by unfold chk; rw [if_neg (by simp [h]), if_neg (by simp [h2]), if_neg (by rw [h3]; decide), if_pos h4]
theorem chk_ok {G : Geo} {T : Tim} {pre : List Ev} {D : RkD} {e : Ev} (h : formB G pre e = true) (h2 : may D e.c = true) (h3 : decide (e.t < earl G T pre e.c) = false) (h4 : (e.c.k == 1 && decide (e.t < fawT T pre)) = false) : chk G T pre D e = 0 := by unfold chk; rw [if_neg (by simp [h]), if_neg (by simp [h2]), if_neg (by rw [h3]; decide), if_neg (by rw [h4]; decide)]
theorem orderB_zero (es : List Ev) (e : Ev) : orderB (es.take 0) e = true := rfl
theorem orderB_at {es : List Ev} {j : Nat} {x e : Ev} (h : es[j]? = some x) : orderB (es.take (j + 1)) e = decide (x.t < e.t) := by
  rw [take_snoc h]; unfold orderB; simp
theorem allowed_may {G : Geo} {D : RkD} {C : Cmd} (h1 : rankOk G D = true) (h2 : cmdOk G C = true) : allowed G D C = may D C := by unfold allowed; rw [h1, h2]; rfl
theorem fawT_few {T : Tim} {es : List Ev} (h : (actsOf es).length < 4) : fawT T es = 0 := by unfold fawT; rw [if_pos h]
theorem RecR.take {α : Type} {f : α → List Value} {k : Nat} {w : World} {a : Option Addr} {xs : List α} (h : RecR f k w a xs) (j : Nat) : RecR f k w a (xs.take j) := by
  intro i x hx
  rw [List.getElem?_take] at hx
  split at hx
  · exact h i x hx
  · cases hx
theorem EvsRd.take {w : World} {E : EvsE} (h : EvsRd w E) {k : Nat} (hk : k ≤ E.n) : EvsRd w ⟨E.a, k, E.c, E.es.take k⟩ :=
  ⟨h.recs.take k, by have := EvsRd.len h; show k = (E.es.take k).length; rw [List.length_take]; omega⟩
/-- A boxed timing is loaded behind a guard. -/
theorem wpList_load_timW {w : World} {g : Nat} {T : Tim} (h : BoxT w g T) {ops : Array Oper} {rest : List Oper} {o : Oper} {ac : Act} {Q : Exit → Act → World → Prop} (x : Operand) (ho : o.op = .load 34 x)
    (hw : Region.wanted o (yielded ops ac.tmps) = true) (hx : ac.eval x = .pointer (some ⟨g, 0, none⟩)) (hk : wpList Tryd.prog ops Q rest (ac.put o.dst (.agg #[.int .i64 T.t0, .int .i64 T.t1, .int .i64 T.t2, .int .i64 T.t3, .int .i64 T.t4, .int .i64 T.t5, .int .i64 T.t6, .int .i64 T.t7, .int .i64 T.t8, .int .i64 T.t9, .int .i64 T.t10, .int .i64 T.t11, .int .i64 T.t12, .int .i64 T.t13, .int .i64 T.t14, .int .i64 T.t15, .int .i64 T.t16])) w) : wpList Tryd.prog ops Q (o :: rest) ac w :=
  wpList_step fun _ hK => by rw [if_pos hw]; exact wp_load_tim h x ho hx (hK _ _ hk)
theorem wpQuiet_load_timW {C : World → Prop} {g : Nat} {T : Tim} (h : ∀ w, C w → BoxT w g T) {ops : Array Oper} {rest : List Oper} {o : Oper} {ac : Act} {Q : Act → Prop} (x : Operand) (ho : o.op = .load 34 x)
    (hw : Region.wanted o (yielded ops ac.tmps) = true) (hx : ac.eval x = .pointer (some ⟨g, 0, none⟩)) (hk : wpQuiet Tryd.prog ops C Q rest (ac.put o.dst (.agg #[.int .i64 T.t0, .int .i64 T.t1, .int .i64 T.t2, .int .i64 T.t3, .int .i64 T.t4, .int .i64 T.t5, .int .i64 T.t6, .int .i64 T.t7, .int .i64 T.t8, .int .i64 T.t9, .int .i64 T.t10, .int .i64 T.t11, .int .i64 T.t12, .int .i64 T.t13, .int .i64 T.t14, .int .i64 T.t15, .int .i64 T.t16]))) : wpQuiet Tryd.prog ops C Q (o :: rest) ac := by
  refine wpQuiet_step (fun K hK => ?_)
  rw [if_pos hw]
  refine ⟨.agg #[.int .i64 T.t0, .int .i64 T.t1, .int .i64 T.t2, .int .i64 T.t3, .int .i64 T.t4, .int .i64 T.t5, .int .i64 T.t6, .int .i64 T.t7, .int .i64 T.t8, .int .i64 T.t9, .int .i64 T.t10, .int .i64 T.t11, .int .i64 T.t12, .int .i64 T.t13, .int .i64 T.t14, .int .i64 T.t15, .int .i64 T.t16], fun w hw => ?_, hK _ hk⟩
  unfold Oper.quietAt execOp
  have := run_loadVar_mid (P := Tryd.prog) w g 0 34 (timV T) _ (rangeT (h w hw)) Tryd.underlying34 rfl (by kernel_rfl)
  simp only [ho, hx, Instr.loadAt, Instr.sureAddr, Sem.run_bind, Sem.run_pure, Result.andThen_ok, this]
  exact ⟨rfl, rfl⟩
end Go.Proofs.YtggjheapjklhgaaDoor
