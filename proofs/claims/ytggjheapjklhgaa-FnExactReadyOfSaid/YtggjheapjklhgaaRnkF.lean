/- Ranks: what the program's and the reference's functions return. -/
import Derived.Test.YtggjheapjklhgaaRankW
namespace Go.Proofs.Ytggjheapjklhgaa
open Go.RowKit

/-- The cells of a boxed rank. -/
structure BoxK2 (w : World) (g : Nat) (R : RankE) : Prop where
  lt : g < w.heap.size
  c0 : w.cell? ⟨g, 0, none⟩ = some (.slice R.a R.n R.c)
  c1 : w.cell? ⟨g, 1, none⟩ = some (.int .i64 R.p)
theorem BoxK2.new_ (w : World) (t : TypeId) (R : RankE) {g : Nat} (h : w.heap.size = g) : BoxK2 (w.alloc (.cells #[.slice R.a R.n R.c, .int .i64 R.p] t)) g R := by
  subst h
  have h := box_at w [.slice R.a R.n R.c, .int .i64 R.p] t
  exact ⟨by simp, h 0, h 1⟩
theorem BoxK2.below {w w' : World} {B g : Nat} {R : RankE} (h : BoxK2 w g R) (hb : Below B w w') (hg : g < B) : BoxK2 w' g R :=
  ⟨Nat.lt_of_lt_of_le h.lt hb.size, (hb.cell (p := ⟨g, 0, none⟩) hg).trans h.c0, (hb.cell (p := ⟨g, 1, none⟩) hg).trans h.c1⟩
theorem BoxK2.old {w w' : World} {g : Nat} {R : RankE} (h : BoxK2 w g R) (hb : Below w.heap.size w w') : BoxK2 w' g R := h.below hb h.lt
theorem BoxK2.keeps {S : Nat → Prop} {w w' : World} {g : Nat} {R : RankE} (h : BoxK2 w g R) (hk : Keeps S w w') (hs : ¬ S g) : BoxK2 w' g R :=
  ⟨Nat.lt_of_lt_of_le h.lt hk.size, (hk.cell h.lt hs 0).trans h.c0, (hk.cell h.lt hs 1).trans h.c1⟩
/-- The row of an open bank. -/
def rowOf (D : RkD) (b : Int) : Int := if inB b 0 (D.banks.length - 1) = true then (match D.banks[b.toNat]? with | some x => if x.1 = true then x.2 else -1 | none => -1) else -1
theorem rowOf_out {D : RkD} {b : Int} (h : inB b 0 (D.banks.length - 1) = false) : rowOf D b = -1 := by unfold rowOf; rw [if_neg (by simp [h])]
theorem rowOf_in {D : RkD} {k : Nat} {x : Bool × Int} (h : D.banks[k]? = some x) : rowOf D k = if x.1 = true then x.2 else -1 := by
  have hk := (List.getElem?_eq_some_iff.1 h).1
  unfold rowOf
  rw [if_pos (inB_iff.2 (by omega)), Int.toNat_natCast, h]
theorem implRowOf_any (R : RankE) (b : Int) (w : World) (hR : RankR w R) (hn : R.n ≤ 1048576) :
    Calls Try.prog 39 #[.agg #[.slice R.a R.n R.c, .int .i64 R.p], .int .i64 b] w fun e w' => e = .returned (.int .i64 (rowOf R.d b)) ∧ Below w.heap.size w w' := by
  have HL := hid hR.len
  have e1 : IntKind.i64.wrap ((R.n : Int) - 1) = (R.n : Int) - 1 := IntWalk.i64_in _ (by omega)
  cases hb : inB b 0 ((R.n : Int) - 1) with
  | false =>
    have HV := hid (rowOf_out (D := R.d) (b := b) (by show inB b 0 ((R.es.length : Int) - 1) = false; rw [← HL.out]; exact hb))
    clear hR
    go_enter Try.func39, Try.ntmps39
    go_wp2_with (go_at_call 81; with_reducible refine (between_of hb).mono ?_; rintro e w' ⟨rfl, rfl⟩)
    go_ret
    exact ⟨by rw [HV.out]; rfl, below_alloc _ _⟩
  | true =>
    obtain ⟨h0, h1⟩ := inB_iff.1 hb
    obtain ⟨k, rfl⟩ := Int.eq_ofNat_of_zero_le h0
    obtain ⟨e, b1, o1, he, ha, hb1, hc0, hc1⟩ := hR.at_ (k := k) (by omega)
    have HV := hid (rowOf_in (D := R.d) he)
    have hk : k < R.n := by omega
    obtain ⟨eo, er⟩ := e
    clear hR he
    rw [ha]
    clear ha
    cases eo with
    | false =>
      go_enter Try.func39, Try.ntmps39
      go_wp2_with (go_at_call 81; with_reducible refine (between_of hb).mono ?_; rintro e w' ⟨rfl, rfl⟩)
      go_ret
      exact ⟨by rw [HV.out]; rfl, below_alloc _ _⟩
    | true =>
      go_enter Try.func39, Try.ntmps39
      go_wp2_with (go_at_call 81; with_reducible refine (between_of hb).mono ?_; rintro e w' ⟨rfl, rfl⟩)
      go_ret
      exact ⟨by rw [HV.out]; rfl, below_alloc _ _⟩
/-- The numbers of the open banks, counted from i on. -/
def openFrom (i : Int) : List (Bool × Int) → List Int
  | [] => []
  | x :: xs => if x.1 = true then i :: openFrom (i + 1) xs else openFrom (i + 1) xs
def openB (es : List (Bool × Int)) : List Int := openFrom 0 es
theorem openFrom_snoc (es : List (Bool × Int)) (x : Bool × Int) (i : Int) : openFrom i (es ++ [x]) = openFrom i es ++ (if x.1 = true then [i + es.length] else []) := by
  induction es generalizing i with
  | nil => simp [openFrom]
  | cons y ys ih =>
    simp only [List.cons_append, openFrom, ih]
    have e : i + 1 + (ys.length : Int) = i + (((y :: ys).length : Nat) : Int) := by simp; omega
    rw [e]
    split <;> simp
theorem openFrom_len (es : List (Bool × Int)) (i : Int) : (openFrom i es).length ≤ es.length := by
  induction es generalizing i with
  | nil => simp [openFrom]
  | cons y ys ih =>
    simp only [openFrom]
    have := ih (i + 1)
    split <;> simp <;> omega
theorem openB_at {es : List (Bool × Int)} {k : Nat} {x : Bool × Int} (h : es[k]? = some x) : openB (es.take (k + 1)) = openB (es.take k) ++ (if x.1 = true then [(k : Int)] else []) := by
  have hk := (List.getElem?_eq_some_iff.1 h).1
  unfold openB
  rw [take_snoc h, openFrom_snoc, length_take_of (by omega)]
  simp
theorem OwnS.ofEmpty {w : World} {B g : Nat} (h : IRow w g 0 0 []) (hB : B ≤ g) : OwnS w B (some ⟨g, 0, none⟩) 0 0 [] := OwnS.of_row h hB
theorem implOpenBanks_any (R : RankE) (w : World) (hR : RankR w R) (hn : R.n ≤ 1048576) :
    Calls Try.prog 99 #[.agg #[.slice R.a R.n R.c, .int .i64 R.p]] w fun e w' => ∃ a m c, e = .returned (.slice a m c) ∧ OwnS w' w.heap.size a m c (openB R.es) ∧ Below w.heap.size w w' := by
  have HX := hid hR
  have HL := hid hR.len
  clear hR
  go_enter Try.func99, Try.ntmps99
  go_wp2
  refine wp_world (fun W hw => ?_)
  have HE : Hid (IRow W (w.heap.size + 1) 0 0 []) := by rw [hw.out]; have := IRow.empty (w.alloc (.cells #[.slice R.a R.n R.c, .int .i64 R.p] 41)); simp only [World.size_alloc] at this; exact hid this
  have HB : Hid (Below w.heap.size w W) := by rw [hw.out]; exact hid (below_alloc2 _ _ _)
  clear hw
  go_loopw [3, 10] (fun v i wr => ∃ (k m cap g : Nat) (xs : List Int), k ≤ R.n ∧ i = .int .i64 k ∧ v = .slice (some ⟨g, 0, none⟩) m cap ∧ w.heap.size ≤ g ∧ m ≤ k ∧ Hid (xs = openB (R.es.take k)) ∧ Hid (IRow wr g m cap xs) ∧ Hid (Below w.heap.size w wr)) (fun _ i _ => R.n - (intOf i).toNat)
  case atStart => exact ⟨0, 0, 0, w.heap.size + 1, [], Nat.zero_le _, rfl, rfl, by omega, Nat.le_refl _, hid rfl, HE, HB⟩
  case round =>
    clear HE HB
    obtain ⟨k, m, cap, g, xs, hk, rfl, rfl, hg, hm, HXS, HO, HB⟩ := hrel
    by_cases hlt : k < R.n
    · obtain ⟨e, b1, o1, he, ha, hb1, hc0, hc1⟩ := (HX.out.old HB.out).at_ hlt
      have HS := hid (openB_at he)
      obtain ⟨eo, er⟩ := e
      clear he
      rw [ha]
      clear ha
      have HB1 := hid (below_step HB.out (below_alloc wr (.cells #[.bool eo, .int .i64 er] 69)) (Nat.le_refl _))
      have HO1 := hid (HO.out.old (below_alloc wr (.cells #[.bool eo, .int .i64 er] 69)))
      clear HO HB
      cases eo with
      | false =>
        go_wp2
        go_roundw
        case rel => exact ⟨k + 1, m, cap, g, xs, by omega, by go_num, rfl, hg, by omega, hid (by rw [HS.out, HXS.out]; simp), HO1, HB1⟩
        case measure => simp [intOf]; omega
      | true =>
        go_wp2_with (at_builtin; refine wpList_append_int rfl _ _ rfl _ w.heap.size m _ xs (HO1.out.rebase hg) rfl (k : Int) (by rw [World.size_alloc]; rfl) HB1.out.size (by omega) ?_; intro g' cap' w3 hg' hrow hbel)
        have HO3 := hid hrow
        have HB3 := hid (HB1.out.trans hbel)
        clear hrow hbel HO1 HB1
        go_roundw
        case rel => exact ⟨k + 1, m + 1, cap', g', _, by omega, by go_num, rfl, hg', by omega, hid (by rw [HS.out, HXS.out]; simp), HO3, HB3⟩
        case measure => simp [intOf]; omega
    · have hkn : k = R.n := by omega
      have hv : xs = openB R.es := by rw [HXS.out, List.take_of_length_le (by rw [← HL.out]; omega)]
      have HV := hid hv
      clear hkn hv
      go_wp2
      go_ret
      exact ⟨_, _, _, rfl, by rw [← HV.out]; exact OwnS.of_row HO.out hg, HB.out⟩
theorem specOpenBanks_any (R : RankE) (w : World) (hR : RankR w R) (hn : R.n ≤ 1048576) :
    Calls Try.prog 126 #[.agg #[.slice R.a R.n R.c, .int .i64 R.p]] w fun e w' => ∃ a m c, e = .returned (.slice a m c) ∧ OwnS w' w.heap.size a m c (openB R.es) ∧ Below w.heap.size w w' := by
  have HX := hid hR
  have HL := hid hR.len
  clear hR
  go_enter Try.func126, Try.ntmps126
  go_wp2
  refine wp_world (fun W hw => ?_)
  have HE : Hid (IRow W (w.heap.size + 1) 0 0 []) := by rw [hw.out]; have := IRow.empty (w.alloc (.cells #[.slice R.a R.n R.c, .int .i64 R.p] 41)); simp only [World.size_alloc] at this; exact hid this
  have HB : Hid (Below w.heap.size w W) := by rw [hw.out]; exact hid (below_alloc2 _ _ _)
  have HK : Hid (BoxK2 W w.heap.size R) := by rw [hw.out]; exact hid ((BoxK2.new_ w 41 R rfl).old (below_alloc _ _))
  clear hw
  go_loopw [3, 4] (fun v i wr => ∃ (k m cap g : Nat) (xs : List Int), k ≤ R.n ∧ i = .int .i64 k ∧ v = .slice (some ⟨g, 0, none⟩) m cap ∧ w.heap.size < g ∧ m ≤ k ∧ Hid (xs = openB (R.es.take k)) ∧ Hid (IRow wr g m cap xs) ∧ Hid (Below w.heap.size w wr) ∧ Hid (BoxK2 wr w.heap.size R)) (fun _ i _ => R.n - (intOf i).toNat)
  case atStart => exact ⟨0, 0, 0, w.heap.size + 1, [], Nat.zero_le _, rfl, rfl, by omega, Nat.le_refl _, hid rfl, HE, HB, HK⟩
  case round =>
    clear HE HB HK
    obtain ⟨k, m, cap, g, xs, hk, rfl, rfl, hg, hm, HXS, HO, HB, HK⟩ := hrel
    obtain ⟨x0, x1, x2⟩ := HK.out
    by_cases hlt : k < R.n
    · obtain ⟨e, b1, o1, he, ha, hb1, hc0, hc1⟩ := (HX.out.old HB.out).at_ hlt
      have HS := hid (openB_at he)
      obtain ⟨eo, er⟩ := e
      rw [ha] at x1
      clear he ha
      cases eo with
      | false =>
        go_wp2
        go_roundw
        case rel => exact ⟨k + 1, m, cap, g, xs, by omega, by go_num, rfl, hg, by omega, hid (by rw [HS.out, HXS.out]; simp), HO, HB, HK⟩
        case measure => simp [intOf]; omega
      | true =>
        go_wp2_with (at_builtin; refine wpList_append_int rfl _ _ rfl _ (w.heap.size + 1) m _ xs (HO.out.rebase hg) rfl (k : Int) rfl (by omega) (by omega) ?_; intro g' cap' w3 hg' hrow hbel)
        have HO3 := hid hrow
        have HB3 := hid (HB.out.trans (hbel.mono (by omega)))
        have HK3 := hid (HK.out.below hbel (by omega))
        clear hrow hbel HO HB HK
        go_roundw
        case rel => exact ⟨k + 1, m + 1, cap', g', _, by omega, by go_num, rfl, hg', by omega, hid (by rw [HS.out, HXS.out]; simp), HO3, HB3, HK3⟩
        case measure => simp [intOf]; omega
    · have hkn : k = R.n := by omega
      have hv : xs = openB R.es := by rw [HXS.out, List.take_of_length_le (by rw [← HL.out]; omega)]
      have HV := hid hv
      clear hkn hv
      go_wp2
      go_ret
      exact ⟨_, _, _, rfl, by rw [← HV.out]; exact OwnS.of_row HO.out (by omega), HB.out⟩
end Go.Proofs.Ytggjheapjklhgaa
