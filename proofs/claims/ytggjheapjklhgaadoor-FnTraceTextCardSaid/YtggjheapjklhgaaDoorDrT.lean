/- The reference's draws of a timing. -/
import Derived.Test.YtggjheapjklhgaaDoorDrwG
import Derived.Test.YtggjheapjklhgaaDoorFast
namespace Go.Proofs.YtggjheapjklhgaaDoor
open Go.RowKit
theorem BoxT.of_blk {w : World} {g : Nat} {e : TypeId} {T : Tim} (h : Blk w g e (timV T)) : BoxT w g T := ⟨h.lt, fun _ _ hv => h.cell hv⟩
theorem Blk.there {w : World} {g : Nat} {e : TypeId} {T : Tim} (h : Blk w g e (timV T)) : w.there g 0 17 := by
  intro j hj
  rw [Nat.zero_add]
  have hl : j < (timV T).length := by simpa [timV, timL] using hj
  rw [h.cell (List.getElem?_eq_getElem hl)]
  exact ⟨rfl, h.frozen j⟩
def putL (cs : List Value) (o : Nat) : List Value → List Value
  | [] => cs
  | v :: vs => putL (cs.set o v) (o + 1) vs
theorem Blk.sets {g : Nat} {e : TypeId} : ∀ (vs cs : List Value) (o : Nat) (w : World), Blk w g e cs → Blk (w.setCells g o vs) g e (putL cs o vs)
  | [], _, _, _, h => h
  | v :: vs, cs, o, w, h => by
    rw [World.setCells]
    exact Blk.sets vs (cs.set o v) (o + 1) _ (h.set o v).1
theorem putL_all : ∀ (vs cs pre : List Value), vs.length = cs.length → putL (pre ++ cs) pre.length vs = pre ++ vs
  | [], [], _, _ => rfl
  | [], _ :: _, _, h => by cases h
  | _ :: _, [], _, h => by cases h
  | v :: vs, c :: cs, pre, h => by
    unfold putL
    have h1 : (pre ++ c :: cs).set pre.length v = (pre ++ [v]) ++ cs := by simp
    have h2 : (pre ++ [v]).length = pre.length + 1 := by simp
    rw [h1, ← h2, putL_all vs cs (pre ++ [v]) (by simpa using h), List.append_assoc, List.singleton_append]
theorem len_timV (T : Tim) : (timV T).length = 17 := by simp [timV, timL]
theorem Blk.tim {w : World} {g : Nat} {e : TypeId} {T0 : Tim} (h : Blk w g e (timV T0)) (T : Tim) : Blk (w.setCells g 0 (timV T)) g e (timV T) := by
  have h1 := Blk.sets (timV T) (timV T0) 0 w h
  have h2 := putL_all (timV T) (timV T0) [] (by rw [len_timV, len_timV])
  rw [List.nil_append, List.nil_append, List.length_nil] at h2
  exact Eq.subst (motive := fun l => Blk (w.setCells g 0 (timV T)) g e l) h2 h1
/-- .. with the operation's form asked first: at another store it fails at once. -/
theorem wpList_store_tim2 {w : World} {g : Nat} {T : Tim} {ops : Array Oper} {rest : List Oper} {o : Oper} {ac : Act} {Q : Exit → Act → World → Prop} (hgd : o.guard = none) (x y : Operand) (ho : o.op = .store 34 x y)
    (hx : ac.eval x = .pointer (some ⟨g, 0, none⟩)) (hy : ac.eval y = .agg #[.int .i64 T.t0, .int .i64 T.t1, .int .i64 T.t2, .int .i64 T.t3, .int .i64 T.t4, .int .i64 T.t5, .int .i64 T.t6, .int .i64 T.t7, .int .i64 T.t8, .int .i64 T.t9, .int .i64 T.t10, .int .i64 T.t11, .int .i64 T.t12, .int .i64 T.t13, .int .i64 T.t14, .int .i64 T.t15, .int .i64 T.t16]) (ht : w.there g 0 17) (hk : wpList Tryd.prog ops Q rest (ac.put o.dst undef) (w.setCells g 0 (timV T))) : wpList Tryd.prog ops Q (o :: rest) ac w := wpList_store_tim ht hgd x y ho hx hy hk
def zeroT : Tim := ⟨0, 0, 0, 0, 0, 0, 0, 0, 0, 0, 0, 0, 0, 0, 0, 0, 0⟩
theorem Blk.zeroT (w : World) (e : TypeId) : Blk (w.alloc (.cells #[.int .i64 0, .int .i64 0, .int .i64 0, .int .i64 0, .int .i64 0, .int .i64 0, .int .i64 0, .int .i64 0, .int .i64 0, .int .i64 0, .int .i64 0, .int .i64 0, .int .i64 0, .int .i64 0, .int .i64 0, .int .i64 0, .int .i64 0] e)) w.heap.size e (timV zeroT) := Blk.new w e (timV Go.Proofs.YtggjheapjklhgaaDoor.zeroT)
theorem l01Once_any (g n c : Nat) (a : Option Addr) (k : Int) (w : World) (hc : Cur w g a n c) (hk : k ≤ 4294967296) :
    Calls Tryd.prog 42 #[.pointer (some ⟨g, 0, none⟩), .int .i64 k] w fun e w' => ∃ b : Bool, e = .returned (.bool b) ∧ Cur w' g a n c ∧ Keeps (· = g) w w' := by
  go_enter Tryd.func42, Tryd.ntmps42
  go_wp2_with fail
  refine (l01Below_any _ _ _ _ _ _ hc hk).mono ?_
  rintro e w1 ⟨r, rfl, _, _, C, K⟩
  go_wp2_with fail
  go_ret
  exact ⟨_, rfl, C, K⟩
set_option maxHeartbeats 8000000 in
set_option maxRecDepth 100000 in
theorem l07Time_any (g n c : Nat) (a : Option Addr) (w : World) (hc : Cur w g a n c) :
    Calls Tryd.prog 34 #[.pointer (some ⟨g, 0, none⟩)] w fun e w' => ∃ T : Tim, e = .returned (.agg #[.int .i64 T.t0, .int .i64 T.t1, .int .i64 T.t2, .int .i64 T.t3, .int .i64 T.t4, .int .i64 T.t5, .int .i64 T.t6, .int .i64 T.t7, .int .i64 T.t8, .int .i64 T.t9, .int .i64 T.t10, .int .i64 T.t11, .int .i64 T.t12, .int .i64 T.t13, .int .i64 T.t14, .int .i64 T.t15, .int .i64 T.t16]) ∧ timOk T = true ∧ Cur w' g a n c ∧ Keeps (· = g) w w' := by
  have HA := hid hc.reads.where_
  have HG := hid hc.lt
  have HC := hid hc
  clear hc
  go_enter Tryd.func34, Tryd.ntmps34
  go_upto_region 1 with (fail)
  refine wp_world (fun w1 hw => ?_)
  have HC := hid (show Cur w1 g a n c by rw [hw.out]; exact HC.out.old (below_alloc _ _))
  have HU := hid (show Blk w1 w.heap.size 34 (timV zeroT) by rw [hw.out]; exact Blk.zeroT _ _)
  have HK := hid (show Keeps (· = g) w w1 by rw [hw.out]; exact Keeps.of_below (below_alloc _ _))
  clear hw
  go_wp2_with fail
  refine (specFastTiming_any _).mono ?_
  rintro e w2 ⟨rfl, B⟩
  have HC := hid (HC.out.old B)
  have HU := hid (HU.out.old B)
  have HK := hid (HK.out.trans (Keeps.of_below B))
  clear B
  have l2 := HU.out.lt
  have HT := hid (Blk.zeroT w2 34)
  have HTT := hid HT.out.there
  go_upto_region 2 with (refine wpList_store_tim (T := fastT) HTT.out (by rfl) _ _ (by rfl) (by rfl) (by rfl) ?_)
  refine wp_world (fun w3 hw => ?_)
  have HX := hid (show Blk w3 w2.heap.size 34 (timV fastT) by rw [hw.out]; exact HT.out.tim fastT)
  have B : Below w2.heap.size w2 w3 := by rw [hw.out]; exact (below_alloc _ _).trans ((setCells_keeps w2.heap.size (timV fastT) 0 _).below (by simp) (fun k hk e => by omega))
  have HC := hid (HC.out.old B)
  have HU := hid (HU.out.old B)
  have HK := hid (HK.out.trans (Keeps.of_below B))
  have S2 := hid (HK.out.size)
  clear hw B HT HTT
  generalize w2.heap.size = p at *
  go_wp2_with fail
  refine (l01Once_any _ _ _ _ _ _ HC.out (by omega)).mono ?_
  rintro e w4 ⟨b, rfl, C, K⟩
  have HC := hid C
  have HU := hid (HU.out.keeps K (by have := HG.out; omega))
  have HX := hid (HX.out.keeps K (by have := HG.out; omega))
  have HK := hid (HK.out.trans K)
  clear C K
  cases b with
  | false =>
    have HOK := hid (show timOk fastT = true by decide)
    go_wp2_with (first | (refine wpList_load_tim (BoxT.of_blk HX.out) (by rfl) _ (by rfl) (by rfl) ?_) | (refine wpList_store_tim HU.out.there (by rfl) _ _ (by rfl) (by rfl) (by rfl) ?_))
    have XU := (HU.out.tim fastT)
    have KU := setCells_keeps w.heap.size (timV fastT) 0 w4
    have hload := run_loadVar_mid (P := Tryd.prog) (w4.setCells w.heap.size 0 (timV fastT)) w.heap.size 0 34 (timV fastT) _ (rangeT (BoxT.of_blk XU)) Tryd.underlying34 rfl (by kernel_rfl)
    have HC9 := hid (HC.out.keeps KU (by have := HG.out; omega) (fun b o ha h0 => by have := HA.out b o ha h0; omega))
    have HK9 := hid (HK.out.hide KU (Nat.le_refl _))
    clear XU KU
    generalize w4.setCells w.heap.size 0 (timV fastT) = W9 at *
    exact bodyPost_ret (v := .agg #[.int .i64 fastT.t0, .int .i64 fastT.t1, .int .i64 fastT.t2, .int .i64 fastT.t3, .int .i64 fastT.t4, .int .i64 fastT.t5, .int .i64 fastT.t6, .int .i64 fastT.t7, .int .i64 fastT.t8, .int .i64 fastT.t9, .int .i64 fastT.t10, .int .i64 fastT.t11, .int .i64 fastT.t12, .int .i64 fastT.t13, .int .i64 fastT.t14, .int .i64 fastT.t15, .int .i64 fastT.t16]) (results_cell (ad := ⟨w.heap.size, 0, none⟩) (by exact Tryd.results34) (by rfl) hload) rfl ⟨fastT, rfl, HOK.out, HC9.out, HK9.out⟩
  | true =>
    go_wp2_with fail
    refine (l01Below_any _ _ _ _ _ _ HC.out (by omega)).mono ?_
    rintro e w5 ⟨r1, rfl, pr1, qr1, C, K⟩
    have qr1 := qr1 (by omega)
    have sr1 : IntKind.i64.wrap (1 + r1) = 1 + r1 := IntWalk.i64_in _ (by omega)
    have HC := hid C
    have HU := hid (HU.out.keeps K (by have := HG.out; omega))
    have HX := hid (HX.out.keeps K (by have := HG.out; omega))
    have HK := hid (HK.out.trans K)
    clear C K
    have x := HX.out.cell (j := 1) rfl
    have f := HX.out.frozen 1
    go_upto_region 4 with (fail)
    refine wp_world (fun w6 hw => ?_)
    have K := (HX.out.set 1 (.int .i64 (1 + r1))).2
    have HX := hid (show Blk w6 p 34 (timV ⟨3, 1 + r1, 7, 2, 3, 10, 2, 3, 3, 6, 4, 5, 4, 12, 3, 4, 16⟩) by rw [hw.out]; exact (HX.out.set 1 (.int .i64 (1 + r1))).1)
    rw [← hw.out] at K
    have HC := hid (HC.out.keeps K (by have := HG.out; omega) (fun b o ha h0 => by have := HA.out b o ha h0; omega))
    have HU := hid (HU.out.keeps K (by omega))
    have HK := hid (HK.out.hide K (by omega))
    clear hw K x f sr1
    go_wp2_with fail
    refine (l01Below_any _ _ _ _ _ _ HC.out (by omega)).mono ?_
    rintro e w7 ⟨r2, rfl, pr2, qr2, C, K⟩
    have qr2 := qr2 (by omega)
    have sr2 : IntKind.i64.wrap (4 + r2) = 4 + r2 := IntWalk.i64_in _ (by omega)
    have HC := hid C
    have HU := hid (HU.out.keeps K (by have := HG.out; omega))
    have HX := hid (HX.out.keeps K (by have := HG.out; omega))
    have HK := hid (HK.out.trans K)
    clear C K
    have x := HX.out.cell (j := 13) rfl
    have f := HX.out.frozen 13
    go_upto_region 5 with (fail)
    refine wp_world (fun w8 hw => ?_)
    have K := (HX.out.set 13 (.int .i64 (4 + r2))).2
    have HX := hid (show Blk w8 p 34 (timV ⟨3, 1 + r1, 7, 2, 3, 10, 2, 3, 3, 6, 4, 5, 4, 4 + r2, 3, 4, 16⟩) by rw [hw.out]; exact (HX.out.set 13 (.int .i64 (4 + r2))).1)
    rw [← hw.out] at K
    have HC := hid (HC.out.keeps K (by have := HG.out; omega) (fun b o ha h0 => by have := HA.out b o ha h0; omega))
    have HU := hid (HU.out.keeps K (by omega))
    have HK := hid (HK.out.hide K (by omega))
    clear hw K x f sr2
    go_wp2_with fail
    refine (l01Below_any _ _ _ _ _ _ HC.out (by omega)).mono ?_
    rintro e w9 ⟨r3, rfl, pr3, qr3, C, K⟩
    have qr3 := qr3 (by omega)
    have sr3 : IntKind.i64.wrap (1 + r3) = 1 + r3 := IntWalk.i64_in _ (by omega)
    have HC := hid C
    have HU := hid (HU.out.keeps K (by have := HG.out; omega))
    have HX := hid (HX.out.keeps K (by have := HG.out; omega))
    have HK := hid (HK.out.trans K)
    clear C K
    have x := HX.out.cell (j := 9) rfl
    have f := HX.out.frozen 9
    go_upto_region 6 with (fail)
    refine wp_world (fun w10 hw => ?_)
    have K := (HX.out.set 9 (.int .i64 (1 + r3))).2
    have HX := hid (show Blk w10 p 34 (timV ⟨3, 1 + r1, 7, 2, 3, 10, 2, 3, 3, 1 + r3, 4, 5, 4, 4 + r2, 3, 4, 16⟩) by rw [hw.out]; exact (HX.out.set 9 (.int .i64 (1 + r3))).1)
    rw [← hw.out] at K
    have HC := hid (HC.out.keeps K (by have := HG.out; omega) (fun b o ha h0 => by have := HA.out b o ha h0; omega))
    have HU := hid (HU.out.keeps K (by omega))
    have HK := hid (HK.out.hide K (by omega))
    clear hw K x f sr3
    go_wp2_with fail
    refine (l01Below_any _ _ _ _ _ _ HC.out (by omega)).mono ?_
    rintro e w11 ⟨r4, rfl, pr4, qr4, C, K⟩
    have qr4 := qr4 (by omega)
    have sr4 : IntKind.i64.wrap (4 + r4) = 4 + r4 := IntWalk.i64_in _ (by omega)
    have HC := hid C
    have HU := hid (HU.out.keeps K (by have := HG.out; omega))
    have HX := hid (HX.out.keeps K (by have := HG.out; omega))
    have HK := hid (HK.out.trans K)
    clear C K
    have x := HX.out.cell (j := 5) rfl
    have f := HX.out.frozen 5
    go_upto_region 7 with (fail)
    refine wp_world (fun w12 hw => ?_)
    have K := (HX.out.set 5 (.int .i64 (4 + r4))).2
    have HX := hid (show Blk w12 p 34 (timV ⟨3, 1 + r1, 7, 2, 3, 4 + r4, 2, 3, 3, 1 + r3, 4, 5, 4, 4 + r2, 3, 4, 16⟩) by rw [hw.out]; exact (HX.out.set 5 (.int .i64 (4 + r4))).1)
    rw [← hw.out] at K
    have HC := hid (HC.out.keeps K (by have := HG.out; omega) (fun b o ha h0 => by have := HA.out b o ha h0; omega))
    have HU := hid (HU.out.keeps K (by omega))
    have HK := hid (HK.out.hide K (by omega))
    clear hw K x f sr4
    go_wp2_with fail
    refine (l01Below_any _ _ _ _ _ _ HC.out (by omega)).mono ?_
    rintro e w13 ⟨r5, rfl, pr5, qr5, C, K⟩
    have qr5 := qr5 (by omega)
    have sr5 : IntKind.i64.wrap (1 + r5) = 1 + r5 := IntWalk.i64_in _ (by omega)
    have HC := hid C
    have HU := hid (HU.out.keeps K (by have := HG.out; omega))
    have HX := hid (HX.out.keeps K (by have := HG.out; omega))
    have HK := hid (HK.out.trans K)
    clear C K
    have x := HX.out.cell (j := 12) rfl
    have f := HX.out.frozen 12
    go_upto_region 8 with (fail)
    refine wp_world (fun w14 hw => ?_)
    have K := (HX.out.set 12 (.int .i64 (1 + r5))).2
    have HX := hid (show Blk w14 p 34 (timV ⟨3, 1 + r1, 7, 2, 3, 4 + r4, 2, 3, 3, 1 + r3, 4, 5, 1 + r5, 4 + r2, 3, 4, 16⟩) by rw [hw.out]; exact (HX.out.set 12 (.int .i64 (1 + r5))).1)
    rw [← hw.out] at K
    have HC := hid (HC.out.keeps K (by have := HG.out; omega) (fun b o ha h0 => by have := HA.out b o ha h0; omega))
    have HU := hid (HU.out.keeps K (by omega))
    have HK := hid (HK.out.hide K (by omega))
    clear hw K x f sr5
    have HOK := hid (show timOk ⟨3, 1 + r1, 7, 2, 3, 4 + r4, 2, 3, 3, 1 + r3, 4, 5, 1 + r5, 4 + r2, 3, 4, 16⟩ = true by simp [timOk, timR, timO, timL, inB]; omega)
    obtain ⟨T9, hT9⟩ : ∃ T9 : Tim, (⟨3, 1 + r1, 7, 2, 3, 4 + r4, 2, 3, 3, 1 + r3, 4, 5, 1 + r5, 4 + r2, 3, 4, 16⟩ : Tim) = T9 := ⟨_, rfl⟩
    rw [hT9] at HX HOK
    clear hT9
    go_wp2_with (first | (refine wpList_load_tim (BoxT.of_blk HX.out) (by rfl) _ (by rfl) (by rfl) ?_) | (refine wpList_store_tim HU.out.there (by rfl) _ _ (by rfl) (by rfl) (by rfl) ?_))
    have XU := (HU.out.tim T9)
    have KU := setCells_keeps w.heap.size (timV T9) 0 w14
    have hload := run_loadVar_mid (P := Tryd.prog) (w14.setCells w.heap.size 0 (timV T9)) w.heap.size 0 34 (timV T9) _ (rangeT (BoxT.of_blk XU)) Tryd.underlying34 rfl (by kernel_rfl)
    have HC9 := hid (HC.out.keeps KU (by have := HG.out; omega) (fun b o ha h0 => by have := HA.out b o ha h0; omega))
    have HK9 := hid (HK.out.hide KU (Nat.le_refl _))
    clear XU KU
    generalize w14.setCells w.heap.size 0 (timV T9) = W9 at *
    exact bodyPost_ret (v := .agg #[.int .i64 T9.t0, .int .i64 T9.t1, .int .i64 T9.t2, .int .i64 T9.t3, .int .i64 T9.t4, .int .i64 T9.t5, .int .i64 T9.t6, .int .i64 T9.t7, .int .i64 T9.t8, .int .i64 T9.t9, .int .i64 T9.t10, .int .i64 T9.t11, .int .i64 T9.t12, .int .i64 T9.t13, .int .i64 T9.t14, .int .i64 T9.t15, .int .i64 T9.t16]) (results_cell (ad := ⟨w.heap.size, 0, none⟩) (by exact Tryd.results34) (by rfl) hload) rfl ⟨T9, rfl, HOK.out, HC9.out, HK9.out⟩
end Go.Proofs.YtggjheapjklhgaaDoor

/- The reference's draws of a timing that need not be valid. -/
namespace Go.Proofs.YtggjheapjklhgaaDoor
open Go.RowKit
end Go.Proofs.YtggjheapjklhgaaDoor
