/- Lists of events: the laws' helpers, ActTimes. -/
import Derived.Test.YtggjheapjklhgaaDoorEvtW
namespace Go.Proofs.YtggjheapjklhgaaDoor
open Go.RowKit

/-- A slice of events. -/
structure EvsE where
  a : Option Addr
  n : Nat
  c : Nat
  es : List Ev
def EvsE.d (E : EvsE) : List Ev := E.es
def EvsRd (w : World) (E : EvsE) : Prop := EvsR w E.a E.n E.es
theorem EvsRd.old {w w' : World} {E : EvsE} (h : EvsRd w E) (hb : Below w.heap.size w w') : EvsRd w' E := EvsR.old h hb
theorem EvsRd.len {w : World} {E : EvsE} (h : EvsRd w E) : E.n = E.es.length := EvsR.len h
def OwnEv (w : World) (B U : Nat) (E : EvsE) : Prop := OwnF encE 5 42 w B U E.a E.n E.c E.es
theorem OwnEv.reads {w : World} {B U : Nat} {E : EvsE} (h : OwnEv w B U E) : EvsRd w E := ⟨OwnF.reads encE_len (by decide) h, OwnF.length encE_len (by decide) h⟩
theorem OwnEv.old {w w' : World} {B U : Nat} {E : EvsE} (h : OwnEv w B U E) (hb : Below w.heap.size w w') : OwnEv w' B U E := OwnF.old h hb
theorem OwnEv.keeps {S : Nat → Prop} {w w' : World} {B U : Nat} {E : EvsE} (h : OwnEv w B U E) (hk : Keeps S w w') (hs : ∀ b, B ≤ b → b < U → ¬ S b) : OwnEv w' B U E := OwnF.keeps h hk hs
theorem OwnEv.mono {w : World} {B B' U : Nat} {E : EvsE} (h : OwnEv w B U E) (hB : B' ≤ B) : OwnEv w B' U E := OwnF.mono h hB
def blkE (E : EvsE) (b : Nat) : Prop := E.n ≠ 0 ∧ E.a = some ⟨b, 0, none⟩
theorem OwnEv.in_ {w : World} {B U : Nat} {E : EvsE} (h : OwnEv w B U E) {b : Nat} (hb : blkE E b) : B ≤ b ∧ b < U := by
  obtain ⟨g, ha, h1, h2⟩ := OwnF.form h (by have := hb.1; omega)
  have := hb.2
  rw [ha] at this
  simp only [Option.some.injEq, Addr.mk.injEq, and_true] at this
  omega
theorem toEventSE_any (E : EvsE) (w : World) (hE : EvsRd w E) (hs : E.es.length ≤ 1048576) :
    Calls Tryd.prog 7 #[.slice E.a E.n E.c] w fun e w' => ∃ E' : EvsE, e = .returned (.slice E'.a E'.n E'.c) ∧ OwnEv w' w.heap.size w'.heap.size E' ∧ E'.d = E.d ∧ E'.n = E.n ∧ Below w.heap.size w w' := by
  refine (toEventS_any E.a E.n E.c E.es w hE (by rw [hE.len]; exact hs)).mono ?_
  rintro e w' ⟨a', c', rfl, O, B⟩
  exact ⟨⟨a', E.n, c', E.es⟩, rfl, O, rfl, rfl, B⟩
theorem eqEventSE_same (X Y : EvsE) (w : World) (hX : EvsRd w X) (hY : EvsRd w Y) (he : X.d = Y.d) (hl : X.es.length ≤ 1048576) :
    Calls Tryd.prog 9 #[.slice X.a X.n X.c, .slice Y.a Y.n Y.c] w fun e w' => e = .returned (.bool true) ∧ Below w.heap.size w w' := by
  have e1 : Y.es = X.es := he.symm
  have hY' : EvsR w Y.a Y.n X.es := by have h : EvsR w Y.a Y.n Y.es := hY; rw [e1] at h; exact h
  exact eqEventS_same X.a Y.a X.n Y.n X.c Y.c X.es w hX hY' (by rw [hX.len]; exact hl)
theorem szEventS_any (E : EvsE) (left : Int) (w : World) (hn : E.n ≤ maxLen) (h0 : 0 ≤ left) (h1 : left ≤ 1048576) :
    Calls Tryd.prog 5 #[.slice E.a E.n E.c, .int .i64 left] w fun e w' => e = .returned (.int .i64 (szT left E.n)) ∧ Below w.heap.size w w' := by
  unfold maxLen at hn
  by_cases h : (E.n : Int) ≤ left
  · have HS := hid (szT_yes h)
    have hd : decide (left - (E.n : Int) < 0) = false := by simp; omega
    go_enter Tryd.func5, Tryd.ntmps5
    go_wp2
    go_ret
    exact ⟨by rw [HS.out]; rfl, Below.refl _ _⟩
  · have HS := hid (szT_no (t := E.n) (left := left) (by omega))
    have hd : decide (left - (E.n : Int) < 0) = true := by simp; omega
    go_enter Tryd.func5, Tryd.ntmps5
    go_wp2
    go_ret
    exact ⟨by rw [HS.out]; rfl, Below.refl _ _⟩
/-- The marks that markEventS writes. -/
def mkE (k : Int) : Nat → List Ev
  | 0 => []
  | n + 1 => ⟨k, ⟨k + 1, k + 2, k + 3, k + 4⟩⟩ :: mkE (k + 5) n
theorem length_mkE (k : Int) (n : Nat) : (mkE k n).length = n := by
  induction n generalizing k with
  | zero => rfl
  | succ n ih => simp [mkE, ih]
theorem mkE_at (k : Int) (n i : Nat) (h : i < n) : (mkE k n)[i]? = some ⟨k + 5 * i, ⟨k + 5 * i + 1, k + 5 * i + 2, k + 5 * i + 3, k + 5 * i + 4⟩⟩ := by
  induction n generalizing k i with
  | zero => omega
  | succ n ih =>
    cases i with
    | zero => simp [mkE]
    | succ i =>
      simp only [mkE, List.getElem?_cons_succ]
      rw [ih (k + 5) i (by omega)]
      have e : k + 5 + 5 * (i : Int) = k + 5 * ((i + 1 : Nat) : Int) := by omega
      rw [e]
/-- The times of the activations. -/
def actsOf : List Ev → List Int
  | [] => []
  | x :: xs => if (x.c.k == 1) = true then x.t :: actsOf xs else actsOf xs
theorem actsOf_append (xs ys : List Ev) : actsOf (xs ++ ys) = actsOf xs ++ actsOf ys := by
  induction xs with
  | nil => rfl
  | cons x xs ih => simp only [List.cons_append, actsOf, ih]; split <;> simp
theorem actsOf_len (es : List Ev) : (actsOf es).length ≤ es.length := by
  induction es with
  | nil => simp [actsOf]
  | cons x xs ih => simp only [actsOf]; split <;> simp <;> omega
theorem actsOf_at {es : List Ev} {k : Nat} {x : Ev} (h : es[k]? = some x) : actsOf (es.take (k + 1)) = actsOf (es.take k) ++ (if (x.c.k == 1) = true then [x.t] else []) := by
  rw [take_snoc h, actsOf_append]; rfl
theorem implActTimes_any (E : EvsE) (w : World) (hE : EvsRd w E) (hn : E.n ≤ 1048576) :
    Calls Tryd.prog 12 #[.slice E.a E.n E.c] w fun e w' => ∃ a m c, e = .returned (.slice a m c) ∧ OwnS w' w.heap.size a m c (actsOf E.es) ∧ Below w.heap.size w w' := by
  have HX := hid hE
  have HL := hid hE.len
  clear hE
  go_enter Tryd.func12, Tryd.ntmps12
  go_wp2
  refine wp_world (fun W hw => ?_)
  have HE : Hid (IRow W w.heap.size 0 0 []) := by rw [hw.out]; exact hid (IRow.empty w)
  have HB : Hid (Below w.heap.size w W) := by rw [hw.out]; exact hid (below_alloc _ _)
  clear hw
  go_loopw [3, 9] (fun v i wr => ∃ (k m cap g : Nat) (xs : List Int), k ≤ E.n ∧ i = .int .i64 k ∧ v = .slice (some ⟨g, 0, none⟩) m cap ∧ w.heap.size ≤ g ∧ m ≤ k ∧ Hid (xs = actsOf (E.es.take k)) ∧ Hid (IRow wr g m cap xs) ∧ Hid (Below w.heap.size w wr)) (fun _ i _ => E.n - (intOf i).toNat)
  case atStart => exact ⟨0, 0, 0, w.heap.size, [], Nat.zero_le _, rfl, rfl, by omega, Nat.le_refl _, hid rfl, HE, HB⟩
  case round =>
    clear HE HB
    obtain ⟨k, m, cap, g, xs, hk, rfl, rfl, hg, hm, HXS, HO, HB⟩ := hrel
    by_cases hlt : k < E.n
    · obtain ⟨e, b1, o1, he, ha, hb1, hc0, hc1, hc2, hc3, hc4⟩ := (EvsR.old HX.out HB.out).at_ hlt
      have HS := hid (actsOf_at he)
      clear he
      rw [ha]
      clear ha
      have HB1 := hid (below_step HB.out (below_alloc wr (.cells #[.int .i64 e.t, .int .i64 e.c.k, .int .i64 e.c.b, .int .i64 e.c.r, .int .i64 e.c.c] 42)) (Nat.le_refl _))
      have HO1 := hid (HO.out.old (below_alloc wr (.cells #[.int .i64 e.t, .int .i64 e.c.k, .int .i64 e.c.b, .int .i64 e.c.r, .int .i64 e.c.c] 42)))
      clear HO HB
      cases hk1 : (e.c.k == 1) with
      | false =>
        rw [hk1] at HS
        go_wp2
        go_roundw
        case rel => exact ⟨k + 1, m, cap, g, xs, by omega, by go_num, rfl, hg, by omega, hid (by rw [HS.out, HXS.out]; simp), HO1, HB1⟩
        case measure => simp [intOf]; omega
      | true =>
        rw [hk1] at HS
        go_wp2_with (at_builtin; refine wpList_append_int rfl _ _ rfl _ w.heap.size m _ xs (HO1.out.rebase hg) rfl e.t (by rw [World.size_alloc]; rfl) HB1.out.size (by omega) ?_; intro g' cap' w3 hg' hrow hbel)
        have HO3 := hid hrow
        have HB3 := hid (HB1.out.trans hbel)
        clear hrow hbel HO1 HB1
        go_roundw
        case rel => exact ⟨k + 1, m + 1, cap', g', _, by omega, by go_num, rfl, hg', by omega, hid (by rw [HS.out, HXS.out]; simp), HO3, HB3⟩
        case measure => simp [intOf]; omega
    · have hkn : k = E.n := by omega
      have hv : xs = actsOf E.es := by rw [HXS.out, List.take_of_length_le (by rw [← HL.out]; omega)]
      have HV := hid hv
      clear hkn hv
      go_wp2
      go_ret
      exact ⟨_, _, _, rfl, by rw [← HV.out]; exact OwnS.of_row HO.out hg, HB.out⟩
theorem specActTimes_any (E : EvsE) (w : World) (hE : EvsRd w E) (hn : E.n ≤ 1048576) :
    Calls Tryd.prog 57 #[.slice E.a E.n E.c] w fun e w' => ∃ a m c, e = .returned (.slice a m c) ∧ OwnS w' w.heap.size a m c (actsOf E.es) ∧ Below w.heap.size w w' := by
  have HX := hid hE
  have HL := hid hE.len
  clear hE
  go_enter Tryd.func57, Tryd.ntmps57
  go_wp2
  refine wp_world (fun W hw => ?_)
  have HE : Hid (IRow W w.heap.size 0 0 []) := by rw [hw.out]; exact hid (IRow.empty w)
  have HB : Hid (Below w.heap.size w W) := by rw [hw.out]; exact hid (below_alloc _ _)
  clear hw
  go_loopw [3, 4] (fun v i wr => ∃ (k m cap g : Nat) (xs : List Int), k ≤ E.n ∧ i = .int .i64 k ∧ v = .slice (some ⟨g, 0, none⟩) m cap ∧ w.heap.size ≤ g ∧ m ≤ k ∧ Hid (xs = actsOf (E.es.take k)) ∧ Hid (IRow wr g m cap xs) ∧ Hid (Below w.heap.size w wr)) (fun _ i _ => E.n - (intOf i).toNat)
  case atStart => exact ⟨0, 0, 0, w.heap.size, [], Nat.zero_le _, rfl, rfl, by omega, Nat.le_refl _, hid rfl, HE, HB⟩
  case round =>
    clear HE HB
    obtain ⟨k, m, cap, g, xs, hk, rfl, rfl, hg, hm, HXS, HO, HB⟩ := hrel
    by_cases hlt : k < E.n
    · obtain ⟨e, b1, o1, he, ha, hb1, hc0, hc1, hc2, hc3, hc4⟩ := (EvsR.old HX.out HB.out).at_ hlt
      have HS := hid (actsOf_at he)
      clear he
      rw [ha]
      clear ha
      cases hk1 : (e.c.k == 1) with
      | false =>
        rw [hk1] at HS
        go_wp2
        go_roundw
        case rel => exact ⟨k + 1, m, cap, g, xs, by omega, by go_num, rfl, hg, by omega, hid (by rw [HS.out, HXS.out]; simp), HO, HB⟩
        case measure => simp [intOf]; omega
      | true =>
        rw [hk1] at HS
        go_wp2_with (at_builtin; refine wpList_append_int rfl _ _ rfl _ w.heap.size m _ xs (HO.out.rebase hg) rfl e.t rfl HB.out.size (by omega) ?_; intro g' cap' w3 hg' hrow hbel)
        have HO3 := hid hrow
        have HB3 := hid (HB.out.trans hbel)
        clear hrow hbel HO HB
        go_roundw
        case rel => exact ⟨k + 1, m + 1, cap', g', _, by omega, by go_num, rfl, hg', by omega, hid (by rw [HS.out, HXS.out]; simp), HO3, HB3⟩
        case measure => simp [intOf]; omega
    · have hkn : k = E.n := by omega
      have hv : xs = actsOf E.es := by rw [HXS.out, List.take_of_length_le (by rw [← HL.out]; omega)]
      have HV := hid hv
      clear hkn hv
      go_wp2
      go_ret
      exact ⟨_, _, _, rfl, by rw [← HV.out]; exact OwnS.of_row HO.out hg, HB.out⟩
end Go.Proofs.YtggjheapjklhgaaDoor
