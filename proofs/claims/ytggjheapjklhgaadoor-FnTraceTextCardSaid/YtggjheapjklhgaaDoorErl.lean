/- Earliest times: what the program's and the reference's helpers return. -/
import Derived.Test.YtggjheapjklhgaaDoorLwR
import Derived.Test.YtggjheapjklhgaaDoorGapG
import Derived.Test.YtggjheapjklhgaaDoorEvtF
import Derived.Deep.Cut
namespace Go.Proofs.YtggjheapjklhgaaDoor
open Go.RowKit
theorem calls_int {P : Program} {f : FuncId} {args : Array Value} {w : World} {b c : Int} (h : b = c) (k : Calls P f args w fun e w' => e = .returned (.int .i64 b) ∧ Below w.heap.size w w') : Calls P f args w fun e w' => e = .returned (.int .i64 c) ∧ Below w.heap.size w w' := h ▸ k
theorem calls_boo2 {P : Program} {f : FuncId} {args : Array Value} {w : World} {b c : Bool} (h : b = c) (k : Calls P f args w fun e w' => e = .returned (.bool b) ∧ Below w.heap.size w w') : Calls P f args w fun e w' => e = .returned (.bool c) ∧ Below w.heap.size w w' := h ▸ k
/-- The least time by the distances. -/
def earlF (G : Geo) (T : Tim) (C : Cmd) (a : Int) (es : List Ev) : Int := es.foldl (fun x e => mx x (e.t + gapF G T e.c C)) a
def earl (G : Geo) (T : Tim) (es : List Ev) (C : Cmd) : Int := earlF G T C 0 es
/-- The least time by the rule for four activations. -/
def fawT (T : Tim) (es : List Ev) : Int := if (actsOf es).length < 4 then 0 else (actsOf es).getD ((actsOf es).length - 4) 0 + T.t5
theorem actsOf_times : ∀ {es : List Ev}, (∀ e ∈ es, 0 ≤ e.t ∧ e.t ≤ 1000000) → ∀ x ∈ actsOf es, 0 ≤ x ∧ x ≤ 1000000
  | [], _, x, hx => by simp [actsOf] at hx
  | e :: es, h, x, hx => by
    have ih := actsOf_times (es := es) (fun y hy => h y (by simp [hy]))
    unfold actsOf at hx
    split at hx
    · rcases List.mem_cons.1 hx with h1 | h1
      · rw [h1]; exact h e (by simp)
      · exact ih x h1
    · exact ih x hx
def closeB (G : Geo) (T : Tim) (es : List Ev) (V : Ev) : Bool := es.any fun x => decide (V.t - x.t < gapF G T x.c V.c)
def timesOk (es : List Ev) : Prop := ∀ e ∈ es, 0 ≤ e.t ∧ e.t ≤ 1000000
theorem earl_step {G : Geo} {T : Tim} {C : Cmd} {es : List Ev} {k : Nat} {e : Ev} (he : es[k]? = some e) : earl G T (es.take (k + 1)) C = mx (earl G T (es.take k) C) (e.t + gapF G T e.c C) := by
  unfold earl earlF
  rw [take_snoc he, List.foldl_append]; rfl
theorem earlF_bd {G : Geo} {T : Tim} {C : Cmd} (ht : timOk T = true) : ∀ (es : List Ev) (a : Int), timesOk es → 0 ≤ a → a ≤ 1000128 → 0 ≤ earlF G T C a es ∧ earlF G T C a es ≤ 1000128
  | [], a, _, h0, h1 => ⟨h0, h1⟩
  | e :: es, a, h, h0, h1 => by
    have h2 := h e (by simp)
    have h3 := gapF_bd ht G e.c C
    have h4 := mx_le a (e.t + gapF G T e.c C)
    have h5 := mx_eq a (e.t + gapF G T e.c C)
    exact earlF_bd ht es (mx a (e.t + gapF G T e.c C)) (fun x hx => h x (by simp [hx])) (by omega) (by omega)
theorem earl_bd {G : Geo} {T : Tim} {C : Cmd} {es : List Ev} (ht : timOk T = true) (h : timesOk es) : 0 ≤ earl G T es C ∧ earl G T es C ≤ 1000128 := earlF_bd ht es 0 h (by omega) (by omega)
theorem timesOk_take {es : List Ev} (h : timesOk es) (k : Nat) : timesOk (es.take k) := fun e he => h e (List.mem_of_mem_take he)
theorem earlF_lt {G : Geo} {T : Tim} {C : Cmd} (v : Int) : ∀ (es : List Ev) (a : Int), v < earlF G T C a es ↔ v < a ∨ ∃ e ∈ es, v < e.t + gapF G T e.c C
  | [], a => by simp [earlF]
  | e :: es, a => by
    have ih := earlF_lt (G := G) (T := T) (C := C) v es (mx a (e.t + gapF G T e.c C))
    show v < earlF G T C (mx a (e.t + gapF G T e.c C)) es ↔ _
    rw [ih]
    have h4 := mx_le a (e.t + gapF G T e.c C)
    have h5 := mx_eq a (e.t + gapF G T e.c C)
    simp only [List.mem_cons, exists_eq_or_imp]
    constructor
    · rintro (h | h)
      · rcases h5 with h5 | h5
        · exact .inl (by omega)
        · exact .inr (.inl (by omega))
      · exact .inr (.inr h)
    · rintro (h | h | h)
      · exact .inl (by omega)
      · exact .inl (by omega)
      · exact .inr h
theorem close_earl {G : Geo} {T : Tim} {es : List Ev} {V : Ev} (h : 0 ≤ V.t) : closeB G T es V = decide (V.t < earl G T es V.c) := by
  rw [Bool.eq_iff_iff]
  unfold closeB
  rw [List.any_eq_true, decide_eq_true_iff]
  unfold earl
  rw [earlF_lt]
  constructor
  · rintro ⟨e, he, hd⟩
    exact .inr ⟨e, he, by simp at hd; omega⟩
  · rintro (h1 | ⟨e, he, hd⟩)
    · omega
    · exact ⟨e, he, by simp; omega⟩
theorem closeB_step {G : Geo} {T : Tim} {es : List Ev} {V x : Ev} {k : Nat} (he : es[k]? = some x) (h : closeB G T (es.take k) V = false) (h1 : decide (V.t - x.t < gapF G T x.c V.c) = false) : closeB G T (es.take (k + 1)) V = false := by
  unfold closeB at *
  rw [take_snoc he, List.any_append, h]; simp only [List.any_cons, List.any_nil, Bool.or_false, Bool.false_or]; exact h1
theorem closeB_yes {G : Geo} {T : Tim} {es : List Ev} {V x : Ev} {k : Nat} (he : es[k]? = some x) (h1 : decide (V.t - x.t < gapF G T x.c V.c) = true) : closeB G T es V = true := by
  unfold closeB
  rw [List.any_eq_true]
  exact ⟨x, List.mem_of_getElem? he, h1⟩
set_option maxHeartbeats 4000000 in
set_option maxRecDepth 100000 in
theorem l09Close_any (G : Geo) (T : Tim) (E : EvsE) (V : Ev) (w : World) (hE : EvsRd w E) (hn : E.n ≤ 1048576) (ht : timOk T = true) (hg : gOk G = true) (hb : timesOk E.es) (hk : ∀ e ∈ E.es, bkOk G e.c) (hV : bkOk G V.c) (hVt : 0 ≤ V.t ∧ V.t ≤ 1000000) :
    Calls Tryd.prog 65 #[.agg #[.int .i64 G.a, .int .i64 G.b, .int .i64 G.r, .int .i64 G.c], .agg #[.int .i64 T.t0, .int .i64 T.t1, .int .i64 T.t2, .int .i64 T.t3, .int .i64 T.t4, .int .i64 T.t5, .int .i64 T.t6, .int .i64 T.t7, .int .i64 T.t8, .int .i64 T.t9, .int .i64 T.t10, .int .i64 T.t11, .int .i64 T.t12, .int .i64 T.t13, .int .i64 T.t14, .int .i64 T.t15, .int .i64 T.t16], .slice E.a E.n E.c, .agg #[.int .i64 V.t, .int .i64 V.c.k, .int .i64 V.c.b, .int .i64 V.c.r, .int .i64 V.c.c]] w fun e w' => e = .returned (.bool (closeB G T E.es V)) ∧ Below w.heap.size w w' := by
  have HX := hid hE
  have HL := hid hE.len
  have HTO := hid ht
  have HGO := hid hg
  have HTB := hid hb
  have HKB := hid hk
  have HVB := hid hV
  clear hE ht hb hg hk hV
  have HG0 := hid (((BoxG.new_ w 32 G rfl).old (below_alloc _ (.cells #[.int .i64 T.t0, .int .i64 T.t1, .int .i64 T.t2, .int .i64 T.t3, .int .i64 T.t4, .int .i64 T.t5, .int .i64 T.t6, .int .i64 T.t7, .int .i64 T.t8, .int .i64 T.t9, .int .i64 T.t10, .int .i64 T.t11, .int .i64 T.t12, .int .i64 T.t13, .int .i64 T.t14, .int .i64 T.t15, .int .i64 T.t16] 34))).old (below_alloc _ (.cells #[.int .i64 V.t, .int .i64 V.c.k, .int .i64 V.c.b, .int .i64 V.c.r, .int .i64 V.c.c] 42)))
  have HT0 := hid ((BoxT.new_ (w.alloc (.cells #[.int .i64 G.a, .int .i64 G.b, .int .i64 G.r, .int .i64 G.c] 32)) 34 T (show _ = w.heap.size + 1 by simp)).old (below_alloc _ (.cells #[.int .i64 V.t, .int .i64 V.c.k, .int .i64 V.c.b, .int .i64 V.c.r, .int .i64 V.c.c] 42)))
  have HC0 := hid (BoxEv.new_ ((w.alloc (.cells #[.int .i64 G.a, .int .i64 G.b, .int .i64 G.r, .int .i64 G.c] 32)).alloc (.cells #[.int .i64 T.t0, .int .i64 T.t1, .int .i64 T.t2, .int .i64 T.t3, .int .i64 T.t4, .int .i64 T.t5, .int .i64 T.t6, .int .i64 T.t7, .int .i64 T.t8, .int .i64 T.t9, .int .i64 T.t10, .int .i64 T.t11, .int .i64 T.t12, .int .i64 T.t13, .int .i64 T.t14, .int .i64 T.t15, .int .i64 T.t16] 34)) 42 V (show _ = w.heap.size + 1 + 1 by simp))
  have HBB := hid (below_alloc3 w (.cells #[.int .i64 G.a, .int .i64 G.b, .int .i64 G.r, .int .i64 G.c] 32) (.cells #[.int .i64 T.t0, .int .i64 T.t1, .int .i64 T.t2, .int .i64 T.t3, .int .i64 T.t4, .int .i64 T.t5, .int .i64 T.t6, .int .i64 T.t7, .int .i64 T.t8, .int .i64 T.t9, .int .i64 T.t10, .int .i64 T.t11, .int .i64 T.t12, .int .i64 T.t13, .int .i64 T.t14, .int .i64 T.t15, .int .i64 T.t16] 34) (.cells #[.int .i64 V.t, .int .i64 V.c.k, .int .i64 V.c.b, .int .i64 V.c.r, .int .i64 V.c.c] 42))
  go_enter Tryd.func65, Tryd.ntmps65
  go_upto_region 2 with (fail)
  refine wp_world (fun W hw => ?_)
  have HG : Hid (BoxG W w.heap.size G) := by rw [hw.out]; exact HG0
  have HT : Hid (BoxT W (w.heap.size + 1) T) := by rw [hw.out]; exact HT0
  have HC : Hid (BoxEv W (w.heap.size + 1 + 1) V) := by rw [hw.out]; exact HC0
  have HB : Hid (Below w.heap.size w W) := by rw [hw.out]; exact HBB
  have HX := hid (EvsRd.old HX.out HB.out)
  clear hw HG0 HT0 HC0 HBB
  go_loopw [9] (fun i wr => ∃ (k : Nat), k ≤ E.n ∧ i = .int .i64 k ∧ Hid (closeB G T (E.es.take k) V = false) ∧ Hid (Below W.heap.size W wr)) (fun i _ => E.n - (intOf i).toNat)
  case atStart => exact ⟨0, Nat.zero_le _, rfl, hid rfl, hid (Below.refl _ _)⟩
  case round =>
    obtain ⟨k, hk, rfl, HM, HBr⟩ := hrel
    by_cases hlt : k < E.n
    · obtain ⟨e, b1, o1, he, ha, hb1, hc0, hc1, hc2, hc3, hc4⟩ := (EvsR.old HX.out HBr.out).at_ hlt
      have hte := HTB.out e (List.mem_of_getElem? he)
      have HKE := hid (HKB.out e (List.mem_of_getElem? he))
      obtain ⟨gv, hgv⟩ : ∃ v, gapF G T e.c V.c = v := ⟨_, rfl⟩
      have HE := hid he
      have HGV := hid hgv
      have sw : IntKind.i64.wrap (V.t - e.t) = V.t - e.t := IntWalk.i64_in _ (by omega)
      have hki : (0 : Int) ≤ (k : Int) := by omega
      have hki2 : (k : Int) < (E.n : Int) := by omega
      clear he hgv
      rw [ha]
      clear ha
      go_upto_region 4 with (fail)
      obtain ⟨hlg, g0, g1, g2, g3⟩ := HG.out.old HBr.out
      obtain ⟨hlc, k0, k1, k2, k3, k4⟩ := HC.out.old HBr.out
      have HT3 := hid (HT.out.old HBr.out)
      have hov := over_cell wr
      refine wp_region_over (by kernel_rfl) (by kernel_rfl) ?_
      repeat (first | (refine wpQuiet_load_tim (by rintro _ ⟨t, rfl⟩; exact HT3.out.old t.below) rfl _ (by rfl) (by rfl) ?_; simp only [Act.put, List.setIfInBounds_toArray, List.set_cons_succ, List.set_cons_zero]) | go_big_quiet_step ((go_at_call 56; exact calls_over (calls_int HGV.out (l07Gap_any G T e.c V.c _ HTO.out HGO.out HKE.out HVB.out)))))
      refine wpQuiet_nil ?_
      intro w4 B
      have HB4 := hid (below_step HBr.out B (Nat.le_refl _))
      clear hov g0 g1 g2 g3 k0 k1 k2 k3 k4 hlg hlc B sw hte hc0 hc1 hc2 hc3 hc4 hb1
      cases hd : decide (V.t - e.t < gv) with
      | true =>
        have HV := hid (closeB_yes (G := G) (T := T) (V := V) HE.out (by rw [HGV.out]; exact hd))
        go_wp2_with fail
        go_ret
        exact ⟨by rw [HV.out]; rfl, HB.out.trans (HB4.out.mono HB.out.size)⟩
      | false =>
        have HV := hid (closeB_step (G := G) (T := T) (V := V) HE.out HM.out (by rw [HGV.out]; exact hd))
        go_wp2_with fail
        go_roundw
        case rel => exact ⟨k + 1, by omega, by go_num, HV, HB4⟩
        case measure => simp [intOf]; omega
    · have hkn : k = E.n := by omega
      have hv : closeB G T E.es V = false := by
        have h := HM.out
        rw [List.take_of_length_le (by rw [← HL.out]; omega)] at h
        exact h
      have HV := hid hv
      clear hkn hv
      go_wp2_with fail
      go_ret
      exact ⟨by rw [HV.out]; rfl, HB.out.trans (HBr.out.mono HB.out.size)⟩
end Go.Proofs.YtggjheapjklhgaaDoor
