/- Timings and distances: what the program's and the reference's functions return. -/
import Derived.Test.YtggjheapjklhgaaDoorTimP
import Derived.Test.YtggjheapjklhgaaDoorRec
import Derived.Deep.MidRow
namespace Go.Proofs.YtggjheapjklhgaaDoor
open Go.RowKit

theorem timR_take {T : Tim} {k : Nat} {x : Int} (hx : (timL T)[k]? = some x) (h : ((timL T).take k).all (fun n => inB n 1 64) = true) (h1 : inB x 1 64 = true) : ((timL T).take (k + 1)).all (fun n => inB n 1 64) = true := by
  rw [take_snoc hx, List.all_append, h]; simp [h1]
theorem timOk_no {T : Tim} {k : Nat} {x : Int} (hx : (timL T)[k]? = some x) (h1 : inB x 1 64 = false) : timOk T = false := by
  have : timR T = false := by
    unfold timR
    rw [List.all_eq_false]
    exact ⟨x, List.mem_of_getElem? hx, by simp [h1]⟩
  unfold timOk; rw [this]; rfl
theorem timOk_of {T : Tim} (h : timR T = true) : timOk T = timO T := by unfold timOk; rw [h]; rfl
/-- The cells of a boxed timing. -/
def timV (T : Tim) : List Value := (timL T).map (Value.int .i64)
structure BoxT (w : World) (g : Nat) (T : Tim) : Prop where
  lt : g < w.heap.size
  cs : ∀ (j : Nat) (v : Value), (timV T)[j]? = some v → w.cell? ⟨g, j, none⟩ = some v
theorem BoxT.new_ (w : World) (t : TypeId) (T : Tim) {g : Nat} (h : w.heap.size = g) : BoxT (w.alloc (.cells #[.int .i64 T.t0, .int .i64 T.t1, .int .i64 T.t2, .int .i64 T.t3, .int .i64 T.t4, .int .i64 T.t5, .int .i64 T.t6, .int .i64 T.t7, .int .i64 T.t8, .int .i64 T.t9, .int .i64 T.t10, .int .i64 T.t11, .int .i64 T.t12, .int .i64 T.t13, .int .i64 T.t14, .int .i64 T.t15, .int .i64 T.t16] t)) g T := by
  subst h
  exact ⟨by simp, fun j v hv => by rw [← hv]; exact box_at w (timV T) t j⟩
theorem BoxT.old {w w' : World} {g : Nat} {T : Tim} (h : BoxT w g T) (hb : Below w.heap.size w w') : BoxT w' g T :=
  ⟨Nat.lt_of_lt_of_le h.lt hb.size, fun j v hv => (hb.cell (p := ⟨g, j, none⟩) h.lt).trans (h.cs j v hv)⟩

theorem rangeT {w : World} {g : Nat} {T : Tim} (h : BoxT w g T) : w.rangeAt g 0 (timV T) := fun j v hv => by rw [Nat.zero_add]; exact h.cs j v hv
/-- A boxed timing is loaded, at a plain region's list. -/
theorem wpList_load_tim {w : World} {g : Nat} {T : Tim} (h : BoxT w g T) {ops : Array Oper} {rest : List Oper} {o : Oper} {ac : Act} {Q : Exit → Act → World → Prop} (hgd : o.guard = none) (x : Operand) (ho : o.op = .load 34 x)
    (hx : ac.eval x = .pointer (some ⟨g, 0, none⟩)) (hk : wpList Tryd.prog ops Q rest (ac.put o.dst (.agg #[.int .i64 T.t0, .int .i64 T.t1, .int .i64 T.t2, .int .i64 T.t3, .int .i64 T.t4, .int .i64 T.t5, .int .i64 T.t6, .int .i64 T.t7, .int .i64 T.t8, .int .i64 T.t9, .int .i64 T.t10, .int .i64 T.t11, .int .i64 T.t12, .int .i64 T.t13, .int .i64 T.t14, .int .i64 T.t15, .int .i64 T.t16])) w) : wpList Tryd.prog ops Q (o :: rest) ac w :=
  wpList_load_mid hgd _ x ho g 0 hx (timV T) _ (rangeT h) Tryd.underlying34 rfl (by kernel_rfl) hk
/-- .. in a region that draws its order. -/
theorem wpQuiet_load_tim {C : World → Prop} {g : Nat} {T : Tim} (h : ∀ w, C w → BoxT w g T) {ops : Array Oper} {rest : List Oper} {o : Oper} {ac : Act} {Q : Act → Prop} (hgd : o.guard = none) (x : Operand) (ho : o.op = .load 34 x)
    (hx : ac.eval x = .pointer (some ⟨g, 0, none⟩)) (hk : wpQuiet Tryd.prog ops C Q rest (ac.put o.dst (.agg #[.int .i64 T.t0, .int .i64 T.t1, .int .i64 T.t2, .int .i64 T.t3, .int .i64 T.t4, .int .i64 T.t5, .int .i64 T.t6, .int .i64 T.t7, .int .i64 T.t8, .int .i64 T.t9, .int .i64 T.t10, .int .i64 T.t11, .int .i64 T.t12, .int .i64 T.t13, .int .i64 T.t14, .int .i64 T.t15, .int .i64 T.t16]))) : wpQuiet Tryd.prog ops C Q (o :: rest) ac := by
  refine wpQuiet_step (fun K hK => ?_)
  rw [if_pos (by simp [Region.wanted, hgd])]
  refine ⟨.agg #[.int .i64 T.t0, .int .i64 T.t1, .int .i64 T.t2, .int .i64 T.t3, .int .i64 T.t4, .int .i64 T.t5, .int .i64 T.t6, .int .i64 T.t7, .int .i64 T.t8, .int .i64 T.t9, .int .i64 T.t10, .int .i64 T.t11, .int .i64 T.t12, .int .i64 T.t13, .int .i64 T.t14, .int .i64 T.t15, .int .i64 T.t16], fun w hw => ?_, hK _ hk⟩
  unfold Oper.quietAt execOp
  have := run_loadVar_mid (P := Tryd.prog) w g 0 34 (timV T) _ (rangeT (h w hw)) Tryd.underlying34 rfl (by kernel_rfl)
  simp only [ho, hx, Instr.loadAt, Instr.sureAddr, Sem.run_bind, Sem.run_pure, Result.andThen_ok, this]
  exact ⟨rfl, rfl⟩
theorem timRow (w : World) (T : Tim) : IntsR (w.alloc (.cells #[.int .i64 T.t0, .int .i64 T.t1, .int .i64 T.t2, .int .i64 T.t3, .int .i64 T.t4, .int .i64 T.t5, .int .i64 T.t6, .int .i64 T.t7, .int .i64 T.t8, .int .i64 T.t9, .int .i64 T.t10, .int .i64 T.t11, .int .i64 T.t12, .int .i64 T.t13, .int .i64 T.t14, .int .i64 T.t15, .int .i64 T.t16] 3)) (some ⟨w.heap.size, 0, none⟩) (timL T) := by
  have := World.ownsRow_lit (base := w.heap.size) (e := 3) (size := 1) w ((timL T).map (Value.int .i64)).toArray 17 (Nat.le_refl _) (by unfold maxLen; omega) (by simp [timL])
  have h : IRow (w.alloc (.cells #[.int .i64 T.t0, .int .i64 T.t1, .int .i64 T.t2, .int .i64 T.t3, .int .i64 T.t4, .int .i64 T.t5, .int .i64 T.t6, .int .i64 T.t7, .int .i64 T.t8, .int .i64 T.t9, .int .i64 T.t10, .int .i64 T.t11, .int .i64 T.t12, .int .i64 T.t13, .int .i64 T.t14, .int .i64 T.t15, .int .i64 T.t16] 3)) w.heap.size 17 17 (timL T) := by simpa [IRow, timL] using this
  exact h.reads
theorem specTimL_any (T : Tim) (w : World) :
    Calls Tryd.prog 75 #[.agg #[.int .i64 T.t0, .int .i64 T.t1, .int .i64 T.t2, .int .i64 T.t3, .int .i64 T.t4, .int .i64 T.t5, .int .i64 T.t6, .int .i64 T.t7, .int .i64 T.t8, .int .i64 T.t9, .int .i64 T.t10, .int .i64 T.t11, .int .i64 T.t12, .int .i64 T.t13, .int .i64 T.t14, .int .i64 T.t15, .int .i64 T.t16]] w fun e w' => e = .returned (.slice (some ⟨w.heap.size + 1, 0, none⟩) 17 17) ∧ IntsR w' (some ⟨w.heap.size + 1, 0, none⟩) (timL T) ∧ Below w.heap.size w w' := by
  go_enter Tryd.func75, Tryd.ntmps75
  go_wp2
  go_ret
  have := timRow (w.alloc (.cells #[.int .i64 T.t0, .int .i64 T.t1, .int .i64 T.t2, .int .i64 T.t3, .int .i64 T.t4, .int .i64 T.t5, .int .i64 T.t6, .int .i64 T.t7, .int .i64 T.t8, .int .i64 T.t9, .int .i64 T.t10, .int .i64 T.t11, .int .i64 T.t12, .int .i64 T.t13, .int .i64 T.t14, .int .i64 T.t15, .int .i64 T.t16] 34)) T
  simp only [World.size_alloc] at this
  exact ⟨rfl, this, below_alloc2 _ _ _⟩
set_option maxHeartbeats 1000000 in
set_option maxRecDepth 100000 in
theorem specTimingOk_any (T : Tim) (w : World) :
    Calls Tryd.prog 63 #[.agg #[.int .i64 T.t0, .int .i64 T.t1, .int .i64 T.t2, .int .i64 T.t3, .int .i64 T.t4, .int .i64 T.t5, .int .i64 T.t6, .int .i64 T.t7, .int .i64 T.t8, .int .i64 T.t9, .int .i64 T.t10, .int .i64 T.t11, .int .i64 T.t12, .int .i64 T.t13, .int .i64 T.t14, .int .i64 T.t15, .int .i64 T.t16]] w fun e w' => e = .returned (.bool (timOk T)) ∧ Below w.heap.size w w' := by
  have HX0 := hid (BoxT.new_ w 34 T rfl)
  go_enter Tryd.func63, Tryd.ntmps63
  go_wp2_with (refine wpList_load_tim HX0.out rfl _ (by rfl) (by rfl) ?_)
  refine (specTimL_any T _).mono ?_
  rintro e W ⟨rfl, R, B⟩
  have HR := hid R
  have HB := hid (below_step (below_alloc _ _) B (Nat.le_refl _))
  have HX := hid ((BoxT.new_ w 34 T rfl).old B)
  simp only [World.size_alloc] at HR ⊢
  clear R B
  go_wp2
  go_loop [4] (fun i => ∃ k : Nat, k ≤ 17 ∧ i = .int .i64 k ∧ Hid (((timL T).take k).all (fun n => inB n 1 64) = true)) (fun i => 17 - (intOf i).toNat)
  case atStart => exact ⟨0, Nat.zero_le _, rfl, rfl⟩
  case round =>
    obtain ⟨k, hk, rfl, HK⟩ := hrel
    by_cases hlt : k < 17
    · obtain ⟨x, hx⟩ := some_at (xs := timL T) (n := 17) (k := k) rfl hlt
      obtain ⟨b1, o1, ha1, _, hc1⟩ := HR.out k x hx
      simp only [Option.some.injEq, Addr.mk.injEq, and_true] at ha1
      obtain ⟨rfl, rfl⟩ := ha1
      rw [Nat.zero_add] at hc1
      have HE := hid hx
      clear hx
      cases hb : inB x 1 64 with
      | true =>
        have HK' := hid (timR_take HE.out HK.out hb)
        clear HK
        go_wp2_with (go_at_call 37; with_reducible refine (l01In_of hb).mono ?_; rintro e w' ⟨rfl, rfl⟩)
        go_round
        case rel => exact ⟨k + 1, by omega, by go_num, HK'⟩
        case measure => simp [intOf]; omega
      | false =>
        have HF := hid (timOk_no HE.out hb)
        go_wp2_with (go_at_call 37; with_reducible refine (l01In_of hb).mono ?_; rintro e w' ⟨rfl, rfl⟩)
        go_ret
        exact ⟨by rw [HF.out]; rfl, HB.out⟩
    · have hk17 : k = 17 := by omega
      subst hk17
      have HF := hid (timOk_of (T := T) HK.out)
      have c0 := HX.out.cs 0 _ rfl
      have c2 := HX.out.cs 2 _ rfl
      have c3 := HX.out.cs 3 _ rfl
      have c4 := HX.out.cs 4 _ rfl
      have c6 := HX.out.cs 6 _ rfl
      have c7 := HX.out.cs 7 _ rfl
      have c10 := HX.out.cs 10 _ rfl
      have c11 := HX.out.cs 11 _ rfl
      clear HK HR hlt hk
      cases k0 : decide (T.t0 ≤ T.t2) <;> cases k1 : decide (T.t3 ≤ T.t4) <;> cases k2 : decide (T.t6 ≤ T.t7) <;> cases k3 : decide (T.t10 ≤ T.t11)
      all_goals
        go_wp2
        go_ret
        exact ⟨by rw [HF.out]; unfold timO; rw [k0, k1, k2, k3]; rfl, HB.out⟩
end Go.Proofs.YtggjheapjklhgaaDoor
