/- The text of a trace: FormatTrace, the program's and the reference's. -/
import Derived.Test.YtggjheapjklhgaaDoorTxQ
namespace Go.Proofs.YtggjheapjklhgaaDoor
open Go.RowKit
def evText (e : Ev) : List UInt8 := Lib.itoa e.t ++ (32 :: (cmdText e.c ++ [10]))
def trText (es : List Ev) : List UInt8 := es.flatMap evText
/-- The times of the events are numbers of the program's. -/
def TimesIn (es : List Ev) : Prop := ∀ e ∈ es, -9223372036854775808 ≤ e.t ∧ e.t ≤ 9223372036854775807
theorem cmdText_len (C : Cmd) : (cmdText C).length ≤ 71 := by
  cases h : formC C with
  | false => rw [cmdText_bad h]; simp
  | true =>
    have hp := formC_parts h
    have h0 := wordL_len C.k
    have h1 := itoa_len (n := C.b) rfl (by omega) (by omega)
    have h2 := itoa_len (n := C.r) rfl (by omega) (by omega)
    have h3 := itoa_len (n := C.c) rfl (by omega) (by omega)
    rw [cmdText_good h rfl rfl rfl rfl rfl rfl rfl]
    simp only [List.length_append]
    have d1 : (if usesB C.k = true then (32 : UInt8) :: Lib.itoa C.b else []).length ≤ 22 := by split <;> simp <;> omega
    have d2 : (if usesR C.k = true then (32 : UInt8) :: Lib.itoa C.r else []).length ≤ 22 := by split <;> simp <;> omega
    have d3 : (if usesC C.k = true then (32 : UInt8) :: Lib.itoa C.c else []).length ≤ 22 := by split <;> simp <;> omega
    omega
theorem evText_len {e : Ev} (h : -9223372036854775808 ≤ e.t ∧ e.t ≤ 9223372036854775807) : (evText e).length ≤ 94 := by
  have h1 := itoa_len (n := e.t) rfl h.1 h.2
  have h2 := cmdText_len e.c
  unfold evText
  simp only [List.length_append, List.length_cons, List.length_nil]
  omega
theorem trText_len {es : List Ev} (h : TimesIn es) : (trText es).length ≤ 94 * es.length := by
  induction es with
  | nil => simp [trText]
  | cons e es ih =>
    have h1 := ih (fun x hx => h x (List.mem_cons_of_mem _ hx))
    have h2 := evText_len (h e (List.mem_cons_self ..))
    unfold trText at h1 ⊢
    rw [List.flatMap_cons, List.length_append, List.length_cons]
    omega
theorem TimesIn.take {es : List Ev} (h : TimesIn es) (k : Nat) : TimesIn (es.take k) := fun x hx => h x (List.mem_of_mem_take hx)
theorem trText_at {es : List Ev} {k : Nat} {e : Ev} (h : es[k]? = some e) : trText (es.take (k + 1)) = trText (es.take k) ++ evText e := by
  unfold trText; rw [take_snoc h, List.flatMap_append]; simp
theorem BRow.old {w w' : World} {g n cap : Nat} {xs : List UInt8} (h : BRow w g n cap xs) (hb : Below w.heap.size w w') : BRow w' g n cap xs := by
  refine ⟨h.1, ?_⟩
  rcases h.2 with h0 | ⟨g', cap', cur, hv, hg, hh, rest⟩
  · exact .inl h0
  · refine .inr ⟨g', cap', cur, hv, hg, ?_, rest⟩
    have hlt : g' < w.heap.size := by
      rcases Nat.lt_or_ge g' w.heap.size with h' | h'
      · exact h'
      · rw [Array.getElem?_eq_none h'] at hh; cases hh
    rw [hb.block g' hlt]; exact hh
theorem strCells_mk (l : List UInt8) : Lib.strCells ⟨l.toArray⟩ = l.map byteV := by simp [Lib.strCells, byteV]
/-- append of a string to a row of bytes of the call's own. -/
theorem wpTail_append_str {ops : Array Oper} {rest : List Oper} {o : Oper} {a : Act} {Q : Exit → Act → World → Prop} (hgd : o.guard = none) (s x : Operand)
    (ho : o.op = .call { callee := .builtin .append, args := #[s, x], argTypes := #[29, 9] })
    (W : World) (B g n cap : Nat) (xs : List UInt8) (hrow : BRow W g n cap xs) (hg : B ≤ g) (hs : a.eval s = .slice (some ⟨g, 0, none⟩) n cap) (l : List UInt8) (hx : a.eval x = .string ⟨l.toArray⟩) (hB : B ≤ W.heap.size) (hn : n + l.length ≤ 1099511627776)
    (h : ∀ g' cap' w', B ≤ g' → BRow w' g' (n + l.length) cap' (xs ++ l) → Below B W w' → wpTail Tryd.prog ops Q rest (a.put o.dst (.slice (some ⟨g', 0, none⟩) (n + l.length) cap')) w') :
    wpTail Tryd.prog ops Q (o :: rest) a W := by
  obtain ⟨i0, hi, hz0, hz1, hz2⟩ := info_parts infoU8
  have hown := hrow.rebase hg
  have hlt := hown.lt
  have hsz : (⟨l.toArray⟩ : ByteArray).size = l.length := rfl
  obtain ⟨v', w', hr, h2, h3, h4⟩ := Lib.run_append_own_string (P := Tryd.prog) W B 29 9 o.type 5 i0 Tryd.underlying29 Tryd.underlying9 hi hz0 hz1 hz2 _ n (xs.map byteV) hown ⟨l.toArray⟩ (by rw [hsz]; unfold maxLen; omega) (by rw [hsz]; omega) hB
  rw [hsz, strCells_mk, ← List.map_append] at h2
  obtain ⟨g', cap', rfl, hg', hrow'⟩ := BRow.of_owns h2 (by
    intro hv
    have := (h4.1 hv).1
    cases this)
  refine wpTail_plain hgd fun K hK => ?_
  unfold Oper.wp execOp
  simp only [ho, resolve, invoke, builtin, Sem.run_bind, Sem.run_pure, Result.andThen_ok, List.map_toArray, List.map_cons, List.map_nil, hs, hx, hr]
  exact hK _ _ (h g' cap' w' hg' hrow' ((Below.refl B W).grown h3 (by omega) fun k hk => (hlt k (by simpa using hk)).1))
theorem specFormatCommand_of {C : Cmd} {l : List UInt8} {w : World} (h : cmdText C = l) :
    Calls Tryd.prog 14 #[.agg #[.int .i64 C.k, .int .i64 C.b, .int .i64 C.r, .int .i64 C.c]] w fun e w' => e = .returned (.string ⟨l.toArray⟩) ∧ Below w.heap.size w w' := by subst h; exact specFormatCommand_any C w
theorem implFormatCommand_of {C : Cmd} {l : List UInt8} {w : World} (h : cmdText C = l) (ht : Tab w) :
    Calls Tryd.prog 17 #[.agg #[.int .i64 C.k, .int .i64 C.b, .int .i64 C.r, .int .i64 C.c]] w fun e w' => e = .returned (.string ⟨l.toArray⟩) ∧ Below w.heap.size w w' := by subst h; exact implFormatCommand_any C w ht

set_option maxHeartbeats 2000000 in
set_option maxRecDepth 100000 in
theorem specFormatTrace_any (E : EvsE) (w : World) (hE : EvsRd w E) (hn : E.n ≤ 1048576) (hb : TimesIn E.es) :
    Calls Tryd.prog 6 #[.slice E.a E.n E.c] w fun e w' => e = .returned (.string ⟨(trText E.es).toArray⟩) ∧ Below w.heap.size w w' := by
  have HX := hid hE
  have HL := hid hE.len
  have HTI := hid hb
  clear hE hb
  go_enter Tryd.func6, Tryd.ntmps6
  go_wp2_with fail
  refine wp_world (fun W hw => ?_)
  have HE : Hid (BRow W w.heap.size 0 0 []) := by rw [hw.out]; exact hid (BRow.empty w)
  have HB : Hid (Below w.heap.size w W) := by rw [hw.out]; exact hid (below_alloc _ _)
  clear hw
  go_loopw [3, 4] (fun v i wr => ∃ (k m cap g : Nat) (xs : List UInt8), k ≤ E.n ∧ i = .int .i64 k ∧ v = .slice (some ⟨g, 0, none⟩) m cap ∧ w.heap.size ≤ g ∧ Hid (xs = trText (E.es.take k)) ∧ Hid (BRow wr g m cap xs) ∧ Hid (Below w.heap.size w wr)) (fun _ i _ => E.n - (intOf i).toNat)
  case atStart => exact ⟨0, 0, 0, w.heap.size, [], Nat.zero_le _, rfl, rfl, by omega, hid rfl, HE, HB⟩
  case round =>
    clear HE HB
    obtain ⟨k, m, cap, g, xs, hk, rfl, rfl, hg, HXS, HO, HB⟩ := hrel
    by_cases hlt : k < E.n
    · obtain ⟨e, b1, o1, he, ha, hb1, hc0, hc1, hc2, hc3, hc4⟩ := (EvsR.old HX.out HB.out).at_ hlt
      have HS := hid (trText_at he)
      have HTE := hid (HTI.out e (List.mem_of_getElem? he))
      have hxl : xs.length ≤ 94 * k := by
        rw [HXS.out]
        have h1 := trText_len (HTI.out.take k)
        have h2 : (E.es.take k).length ≤ k := by rw [List.length_take]; omega
        omega
      have hml := HO.out.length
      have HM := hid (show m ≤ 98566144 by omega)
      have HC0 := hid hc0
      have HC1 := hid hc1
      have HC2 := hid hc2
      have HC3 := hid hc3
      have HC4 := hid hc4
      obtain ⟨lt, hlt2⟩ : ∃ l, Lib.itoa e.t = l := ⟨_, rfl⟩
      obtain ⟨lc, hlc⟩ : ∃ l, cmdText e.c = l := ⟨_, rfl⟩
      have HLT := hid hlt2
      have HLC := hid hlc
      have hl1 : lt.length ≤ 21 := itoa_len hlt2 HTE.out.1 HTE.out.2
      have hl2 : lc.length ≤ 71 := by rw [← hlc]; exact cmdText_len _
      have z1 : ¬ 9223372036854775807 < lt.length + 1 := by omega
      have z2 : ¬ 9223372036854775807 < lt.length + 1 + lc.length := by omega
      have z3 : ¬ 9223372036854775807 < lt.length + (lc.length + 1) + 1 := by omega
      have HL1 := hid hl1
      have HL2 := hid hl2
      have HV := hid (show evText e = lt ++ (32 :: (lc ++ [10])) by unfold evText; rw [hlt2, hlc])
      clear he hc0 hc1 hc2 hc3 hc4 hlt2 hlc hxl hml hl1 hl2
      have k0 : (0 : Int) ≤ (k : Int) := by omega
      have k1 : (k : Int) < E.n := by omega
      rw [ha]
      clear ha
      go_upto_region 5 with (fail)
      refine growR_of 16 (fr := ?fr1)
        (fun i v w' => match i with
            | 0 => v = .slice (some ⟨g, 0, none⟩) m cap
            | 1 => v = .slice (some ⟨b1, o1, none⟩) E.n E.c
            | 2 => v = .int .i64 k
            | 3 => v = .pointer (some ⟨b1, o1 + k * 5, none⟩)
            | 4 => v = .pointer (some ⟨b1, o1 + k * 5, none⟩)
            | 5 => v = .int .i64 e.t
            | 6 => v = .string ⟨(lt).toArray⟩
            | 7 => v = .string ⟨(lt ++ [32]).toArray⟩
            | 8 => v = .slice (some ⟨b1, o1, none⟩) E.n E.c
            | 9 => v = .int .i64 k
            | 10 => v = .pointer (some ⟨b1, o1 + k * 5, none⟩)
            | 11 => v = .pointer (some ⟨b1, o1 + k * 5 + 1, none⟩)
            | 12 => v = .agg #[.int .i64 e.c.k, .int .i64 e.c.b, .int .i64 e.c.r, .int .i64 e.c.c]
            | 13 => v = .string ⟨(lc).toArray⟩
            | 14 => v = .string ⟨(lt ++ [32] ++ lc).toArray⟩
            | _ => v = .string ⟨(lt ++ [32] ++ lc ++ [10]).toArray⟩
          ) (by kernel_rfl) (by kernel_rfl) (by decide) (by kernel_rfl) ?hfr1 ⟨fun i => [u12, u13, u14, u15, u16, u17, u18, u19, u20, u21, u22, u23, u24, u25, u26, u27].getD i undef, ?h01⟩ ?hF1 ?hstep1 ?hend1
      case hfr1 => intro vs; simp only [frOf, List.take_succ_cons, List.take_zero]; go_simp; exact rfl
      case h01 => rfl
      case hF1 =>
        intro i v w' w'' h hb
        match i, h with
        | 0, h => exact h
        | 1, h => exact h
        | 2, h => exact h
        | 3, h => exact h
        | 4, h => exact h
        | 5, h => exact h
        | 6, h => exact h
        | 7, h => exact h
        | 8, h => exact h
        | 9, h => exact h
        | 10, h => exact h
        | 11, h => exact h
        | 12, h => exact h
        | 13, h => exact h
        | 14, h => exact h
        | n + 15, h => exact h
      case hstep1 =>
        intro vs w' i o hin ho hb hd
        match i, ho, hin with
        | 0, ho, _ =>
          simp only [List.getElem?_cons_zero, Option.some.injEq] at ho
          subst ho
          refine ⟨wanted_none rfl, ?_⟩
          generalize hK : (fun (a' : Act) (w'' : World) => ∃ v : Value, _ ∧ _ ∧ _) = K
          go_simp
          rw [← hK]
          exact ⟨_, rfl, rfl, Below.refl _ _⟩
        | 1, ho, _ =>
          simp only [List.getElem?_cons_succ, List.getElem?_cons_zero, Option.some.injEq] at ho
          subst ho
          refine ⟨wanted_none rfl, ?_⟩
          generalize hK : (fun (a' : Act) (w'' : World) => ∃ v : Value, _ ∧ _ ∧ _) = K
          go_simp
          rw [← hK]
          exact ⟨_, rfl, rfl, Below.refl _ _⟩
        | 2, ho, _ =>
          simp only [List.getElem?_cons_succ, List.getElem?_cons_zero, Option.some.injEq] at ho
          subst ho
          refine ⟨wanted_none rfl, ?_⟩
          generalize hK : (fun (a' : Act) (w'' : World) => ∃ v : Value, _ ∧ _ ∧ _) = K
          go_simp
          rw [← hK]
          exact ⟨_, rfl, rfl, Below.refl _ _⟩
        | 3, ho, _ =>
          simp only [List.getElem?_cons_succ, List.getElem?_cons_zero, Option.some.injEq] at ho
          subst ho
          refine ⟨wanted_none rfl, ?_⟩
          have x1 : vs 1 = .slice (some ⟨b1, o1, none⟩) E.n E.c := hd 1 (by kernel_rfl)
          have x2 : vs 2 = .int .i64 k := hd 2 (by kernel_rfl)
          generalize hK : (fun (a' : Act) (w'' : World) => ∃ v : Value, _ ∧ _ ∧ _) = K
          generalize hu1 : vs 1 = u1 at x1 ⊢
          subst x1
          generalize hu2 : vs 2 = u2 at x2 ⊢
          subst x2
          go_simp
          rw [← hK]
          exact ⟨_, by simp [upd, hu1, hu2], rfl, Below.refl _ _⟩
        | 4, ho, _ =>
          simp only [List.getElem?_cons_succ, List.getElem?_cons_zero, Option.some.injEq] at ho
          subst ho
          refine ⟨wanted_none rfl, ?_⟩
          have x3 : vs 3 = .pointer (some ⟨b1, o1 + k * 5, none⟩) := hd 3 (by kernel_rfl)
          generalize hK : (fun (a' : Act) (w'' : World) => ∃ v : Value, _ ∧ _ ∧ _) = K
          generalize hu3 : vs 3 = u3 at x3 ⊢
          subst x3
          go_simp
          rw [← hK]
          exact ⟨_, by simp [upd, hu3], rfl, Below.refl _ _⟩
        | 5, ho, _ =>
          simp only [List.getElem?_cons_succ, List.getElem?_cons_zero, Option.some.injEq] at ho
          subst ho
          refine ⟨wanted_none rfl, ?_⟩
          have x4 : vs 4 = .pointer (some ⟨b1, o1 + k * 5, none⟩) := hd 4 (by kernel_rfl)
          have q0 := (hb.cell (p := ⟨b1, o1 + k * 5, none⟩) hb1).trans HC0.out
          generalize hK : (fun (a' : Act) (w'' : World) => ∃ v : Value, _ ∧ _ ∧ _) = K
          generalize hu4 : vs 4 = u4 at x4 ⊢
          subst x4
          go_simp
          rw [← hK]
          exact ⟨_, by simp [upd, hu4], rfl, Below.refl _ _⟩
        | 6, ho, _ =>
          simp only [List.getElem?_cons_succ, List.getElem?_cons_zero, Option.some.injEq] at ho
          subst ho
          refine ⟨wanted_none rfl, ?_⟩
          have x5 : vs 5 = .int .i64 e.t := hd 5 (by kernel_rfl)
          generalize hK : (fun (a' : Act) (w'' : World) => ∃ v : Value, _ ∧ _ ∧ _) = K
          generalize hu5 : vs 5 = u5 at x5 ⊢
          subst x5
          go_simp
          refine (specFormatInt_of HLT.out HTE.out.1 HTE.out.2).mono ?_
          rintro e2 w2 ⟨rfl, B⟩
          rw [← hK]
          exact ⟨_, by simp [upd, hu5], rfl, B⟩
        | 7, ho, _ =>
          simp only [List.getElem?_cons_succ, List.getElem?_cons_zero, Option.some.injEq] at ho
          subst ho
          refine ⟨wanted_none rfl, ?_⟩
          have x6 : vs 6 = .string ⟨(lt).toArray⟩ := hd 6 (by kernel_rfl)
          generalize hK : (fun (a' : Act) (w'' : World) => ∃ v : Value, _ ∧ _ ∧ _) = K
          generalize hu6 : vs 6 = u6 at x6 ⊢
          subst x6
          go_simp
          rw [← hK]
          exact ⟨.string (⟨(lt).toArray⟩ ++ ⟨([32]).toArray⟩), by simp [upd, hu6], (congrArg Value.string (str_app _ _)), Below.refl _ _⟩
        | 8, ho, _ =>
          simp only [List.getElem?_cons_succ, List.getElem?_cons_zero, Option.some.injEq] at ho
          subst ho
          refine ⟨wanted_none rfl, ?_⟩
          generalize hK : (fun (a' : Act) (w'' : World) => ∃ v : Value, _ ∧ _ ∧ _) = K
          go_simp
          rw [← hK]
          exact ⟨_, rfl, rfl, Below.refl _ _⟩
        | 9, ho, _ =>
          simp only [List.getElem?_cons_succ, List.getElem?_cons_zero, Option.some.injEq] at ho
          subst ho
          refine ⟨wanted_none rfl, ?_⟩
          generalize hK : (fun (a' : Act) (w'' : World) => ∃ v : Value, _ ∧ _ ∧ _) = K
          go_simp
          rw [← hK]
          exact ⟨_, rfl, rfl, Below.refl _ _⟩
        | 10, ho, _ =>
          simp only [List.getElem?_cons_succ, List.getElem?_cons_zero, Option.some.injEq] at ho
          subst ho
          refine ⟨wanted_none rfl, ?_⟩
          have x8 : vs 8 = .slice (some ⟨b1, o1, none⟩) E.n E.c := hd 8 (by kernel_rfl)
          have x9 : vs 9 = .int .i64 k := hd 9 (by kernel_rfl)
          generalize hK : (fun (a' : Act) (w'' : World) => ∃ v : Value, _ ∧ _ ∧ _) = K
          generalize hu8 : vs 8 = u8 at x8 ⊢
          subst x8
          generalize hu9 : vs 9 = u9 at x9 ⊢
          subst x9
          go_simp
          rw [← hK]
          exact ⟨_, by simp [upd, hu8, hu9], rfl, Below.refl _ _⟩
        | 11, ho, _ =>
          simp only [List.getElem?_cons_succ, List.getElem?_cons_zero, Option.some.injEq] at ho
          subst ho
          refine ⟨wanted_none rfl, ?_⟩
          have x10 : vs 10 = .pointer (some ⟨b1, o1 + k * 5, none⟩) := hd 10 (by kernel_rfl)
          generalize hK : (fun (a' : Act) (w'' : World) => ∃ v : Value, _ ∧ _ ∧ _) = K
          generalize hu10 : vs 10 = u10 at x10 ⊢
          subst x10
          go_simp
          rw [← hK]
          exact ⟨_, by simp [upd, hu10], rfl, Below.refl _ _⟩
        | 12, ho, _ =>
          simp only [List.getElem?_cons_succ, List.getElem?_cons_zero, Option.some.injEq] at ho
          subst ho
          refine ⟨wanted_none rfl, ?_⟩
          have x11 : vs 11 = .pointer (some ⟨b1, o1 + k * 5 + 1, none⟩) := hd 11 (by kernel_rfl)
          have q1 := (hb.cell (p := ⟨b1, o1 + k * 5 + 1, none⟩) hb1).trans HC1.out
          have q2 := (hb.cell (p := ⟨b1, o1 + k * 5 + 2, none⟩) hb1).trans HC2.out
          have q3 := (hb.cell (p := ⟨b1, o1 + k * 5 + 3, none⟩) hb1).trans HC3.out
          have q4 := (hb.cell (p := ⟨b1, o1 + k * 5 + 4, none⟩) hb1).trans HC4.out
          generalize hK : (fun (a' : Act) (w'' : World) => ∃ v : Value, _ ∧ _ ∧ _) = K
          generalize hu11 : vs 11 = u11 at x11 ⊢
          subst x11
          go_simp
          rw [← hK]
          exact ⟨_, by simp [upd, hu11], rfl, Below.refl _ _⟩
        | 13, ho, _ =>
          simp only [List.getElem?_cons_succ, List.getElem?_cons_zero, Option.some.injEq] at ho
          subst ho
          refine ⟨wanted_none rfl, ?_⟩
          have x12 : vs 12 = .agg #[.int .i64 e.c.k, .int .i64 e.c.b, .int .i64 e.c.r, .int .i64 e.c.c] := hd 12 (by kernel_rfl)
          generalize hK : (fun (a' : Act) (w'' : World) => ∃ v : Value, _ ∧ _ ∧ _) = K
          generalize hu12 : vs 12 = u12 at x12 ⊢
          subst x12
          go_simp
          refine (specFormatCommand_of HLC.out).mono ?_
          rintro e2 w2 ⟨rfl, B⟩
          rw [← hK]
          exact ⟨_, by simp [upd, hu12], rfl, B⟩
        | 14, ho, _ =>
          simp only [List.getElem?_cons_succ, List.getElem?_cons_zero, Option.some.injEq] at ho
          subst ho
          refine ⟨wanted_none rfl, ?_⟩
          have x7 : vs 7 = .string ⟨(lt ++ [32]).toArray⟩ := hd 7 (by kernel_rfl)
          have x13 : vs 13 = .string ⟨(lc).toArray⟩ := hd 13 (by kernel_rfl)
          generalize hK : (fun (a' : Act) (w'' : World) => ∃ v : Value, _ ∧ _ ∧ _) = K
          generalize hu7 : vs 7 = u7 at x7 ⊢
          subst x7
          generalize hu13 : vs 13 = u13 at x13 ⊢
          subst x13
          go_simp
          rw [← hK]
          exact ⟨.string (⟨(lt ++ [32]).toArray⟩ ++ ⟨(lc).toArray⟩), by simp [upd, hu7, hu13], (congrArg Value.string (str_app _ _)), Below.refl _ _⟩
        | 15, ho, _ =>
          simp only [List.getElem?_cons_succ, List.getElem?_cons_zero, Option.some.injEq] at ho
          subst ho
          refine ⟨wanted_none rfl, ?_⟩
          have x14 : vs 14 = .string ⟨(lt ++ [32] ++ lc).toArray⟩ := hd 14 (by kernel_rfl)
          generalize hK : (fun (a' : Act) (w'' : World) => ∃ v : Value, _ ∧ _ ∧ _) = K
          generalize hu14 : vs 14 = u14 at x14 ⊢
          subst x14
          go_simp
          rw [← hK]
          exact ⟨.string (⟨(lt ++ [32] ++ lc).toArray⟩ ++ ⟨([10]).toArray⟩), by simp [upd, hu14], (congrArg Value.string (str_app _ _)), Below.refl _ _⟩
        | n + 16, _, hin => exact absurd hin (by omega)
      case hend1 =>
        intro vs w2 hb hf
        have e0 : vs 0 = .slice (some ⟨g, 0, none⟩) m cap := hf 0 (by decide)
        have e15 : vs 15 = .string ⟨(lt ++ [32] ++ lc ++ [10]).toArray⟩ := hf 15 (by decide)
        have HO2 := hid (HO.out.old hb)
        have HB2 := hid (below_step HB.out hb (Nat.le_refl _))
        clear hb hf
        generalize vs 0 = u0 at e0 ⊢
        subst e0
        generalize vs 15 = u15 at e15 ⊢
        subst e15
        simp only [List.drop_succ_cons, List.drop_zero]
        refine wpTail_append_str rfl _ _ rfl w2 w.heap.size g m cap xs HO2.out hg rfl _ rfl HB2.out.size (by have := HM.out; have := HL1.out; have := HL2.out; simp only [List.length_append, List.length_cons, List.length_nil]; omega) ?_
        intro g' cap' w3 hg' hrow hbel
        have hlen : (lt ++ [32] ++ lc ++ [10]).length = lt.length + (lc.length + 1 + 1) := by simp
        rw [hlen] at hrow
        have HO3 := hid hrow
        have HB3 := hid (HB2.out.trans hbel)
        clear hrow hbel hlen HO2 HB2
        refine wpTail_plain rfl fun K hK => ?_
        go_simp
        refine hK _ _ (wpTail_nil ?_)
        go_wp2_with fail
        go_roundw
        case rel => exact ⟨k + 1, _, cap', g', xs ++ (lt ++ [32] ++ lc ++ [10]), by omega, by go_num, rfl, hg', hid (by rw [HS.out, HXS.out, HV.out]; simp), HO3, HB3⟩
        case measure => simp [intOf]; omega
    · have hkn : k = E.n := by omega
      have hv : xs = trText E.es := by rw [HXS.out, List.take_of_length_le (by rw [← HL.out]; omega)]
      have HV := hid hv
      have HR := run_string_row HO.out
      clear hkn hv
      go_wp2_with fail
      go_ret
      exact ⟨by rw [← HV.out]; rfl, HB.out⟩
theorem old_box {w w' : World} {g : Nat} {l : List Value} {t : TypeId} (hw : w.heap.size = g) (h : Below (w.alloc (.cells l.toArray t)).heap.size (w.alloc (.cells l.toArray t)) w') (j : Nat) : w'.cell? ⟨g, j, none⟩ = l[j]? := by
  subst hw
  rw [h.cell (p := ⟨w.heap.size, j, none⟩) (by simp)]
  exact box_at w l t j
set_option maxHeartbeats 2000000 in
set_option maxRecDepth 100000 in
theorem implFormatTrace_any (E : EvsE) (w : World) (hE : EvsRd w E) (hn : E.n ≤ 1048576) (hb : TimesIn E.es) (ht : Tab w) :
    Calls Tryd.prog 8 #[.slice E.a E.n E.c] w fun e w' => e = .returned (.string ⟨(trText E.es).toArray⟩) ∧ Below w.heap.size w w' := by
  have HX := hid hE
  have HL := hid hE.len
  have HTI := hid hb
  have HT := hid ht
  clear hE hb ht
  go_enter Tryd.func8, Tryd.ntmps8
  go_wp2_with fail
  go_loopw [3, 8] (fun v i wr => ∃ (k : Nat) (xs : List UInt8), k ≤ E.n ∧ i = .int .i64 k ∧ v = .string ⟨xs.toArray⟩ ∧ Hid (xs = trText (E.es.take k)) ∧ Hid (Below w.heap.size w wr)) (fun _ i _ => E.n - (intOf i).toNat)
  case atStart => exact ⟨0, [], Nat.zero_le _, rfl, rfl, hid rfl, hid (Below.refl _ _)⟩
  case round =>
    obtain ⟨k, xs, hk, rfl, rfl, HXS, HB⟩ := hrel
    by_cases hlt : k < E.n
    · obtain ⟨e, b1, o1, he, ha, hb1, hc0, hc1, hc2, hc3, hc4⟩ := (EvsR.old HX.out HB.out).at_ hlt
      have HS := hid (trText_at he)
      have HTE := hid (HTI.out e (List.mem_of_getElem? he))
      have hxl : xs.length ≤ 94 * k := by
        rw [HXS.out]
        have h1 := trText_len (HTI.out.take k)
        have h2 : (E.es.take k).length ≤ k := by rw [List.length_take]; omega
        omega
      obtain ⟨lt, hlt2⟩ : ∃ l, Lib.itoa e.t = l := ⟨_, rfl⟩
      obtain ⟨lc, hlc⟩ : ∃ l, cmdText e.c = l := ⟨_, rfl⟩
      have HLT := hid hlt2
      have HLC := hid hlc
      have hl1 : lt.length ≤ 21 := itoa_len hlt2 HTE.out.1 HTE.out.2
      have hl2 : lc.length ≤ 71 := by rw [← hlc]; exact cmdText_len _
      have z1 : ¬ 9223372036854775807 < lt.length + 1 := by omega
      have z2 : ¬ 9223372036854775807 < lt.length + 1 + lc.length := by omega
      have z3 : ¬ 9223372036854775807 < lt.length + (lc.length + 1) + 1 := by omega
      have z4 : ¬ 9223372036854775807 < xs.length + (lt.length + (lc.length + 1 + 1)) := by omega
      have HV := hid (show evText e = lt ++ (32 :: (lc ++ [10])) by unfold evText; rw [hlt2, hlc])
      clear he hlt2 hlc hxl hl1 hl2
      have k0 : (0 : Int) ≤ (k : Int) := by omega
      have k1 : (k : Int) < E.n := by omega
      rw [ha]
      clear ha
      have HA := hid (below_alloc wr (.cells #[.int .i64 e.t, .int .i64 e.c.k, .int .i64 e.c.b, .int .i64 e.c.r, .int .i64 e.c.c] 42))
      go_upto_region 5 with (fail)
      clear hc0 hc1 hc2 hc3 hc4
      refine wp_world (fun W hw => ?_)
      have HBX : Hid (∀ j, W.cell? ⟨wr.heap.size, j, none⟩ = ([.int .i64 e.t, .int .i64 e.c.k, .int .i64 e.c.b, .int .i64 e.c.r, .int .i64 e.c.c] : List Value)[j]?) := by rw [hw.out]; exact hid (box_at wr [.int .i64 e.t, .int .i64 e.c.k, .int .i64 e.c.b, .int .i64 e.c.r, .int .i64 e.c.c] _)
      have HLW : Hid (wr.heap.size < W.heap.size) := by rw [hw.out]; exact hid (by simp)
      have HBW : Hid (Below w.heap.size w W) := by rw [hw.out]; exact hid (below_step HB.out HA.out (Nat.le_refl _))
      have HTW := hid (tab_below HT.out HBW.out)
      clear hw HA HB
      refine growR_of 11 (fr := ?fr2)
        (fun i v w' => match i with
            | 0 => v = .string ⟨(xs).toArray⟩
            | 1 => v = .pointer (some ⟨wr.heap.size, 0, none⟩)
            | 2 => v = .int .i64 e.t
            | 3 => v = .string ⟨(lt).toArray⟩
            | 4 => v = .string ⟨(lt ++ [32]).toArray⟩
            | 5 => v = .pointer (some ⟨wr.heap.size, 1, none⟩)
            | 6 => v = .agg #[.int .i64 e.c.k, .int .i64 e.c.b, .int .i64 e.c.r, .int .i64 e.c.c]
            | 7 => v = .string ⟨(lc).toArray⟩
            | 8 => v = .string ⟨(lt ++ [32] ++ lc).toArray⟩
            | 9 => v = .string ⟨(lt ++ [32] ++ lc ++ [10]).toArray⟩
            | _ => v = .string ⟨(xs ++ (lt ++ [32] ++ lc ++ [10])).toArray⟩
          ) (by kernel_rfl) (by kernel_rfl) (by decide) (by kernel_rfl) ?hfr2 ⟨fun i => [u12, u13, u14, u15, u16, u17, u18, u19, u20, u21, u22].getD i undef, ?h02⟩ ?hF2 ?hstep2 ?hend2
      case hfr2 => intro vs; simp only [frOf, List.take_succ_cons, List.take_zero]; go_simp; exact rfl
      case h02 => rfl
      case hF2 =>
        intro i v w' w'' h hb
        match i, h with
        | 0, h => exact h
        | 1, h => exact h
        | 2, h => exact h
        | 3, h => exact h
        | 4, h => exact h
        | 5, h => exact h
        | 6, h => exact h
        | 7, h => exact h
        | 8, h => exact h
        | 9, h => exact h
        | n + 10, h => exact h
      case hstep2 =>
        intro vs w' i o hin ho hb hd
        match i, ho, hin with
        | 0, ho, _ =>
          simp only [List.getElem?_cons_zero, Option.some.injEq] at ho
          subst ho
          refine ⟨wanted_none rfl, ?_⟩
          generalize hK : (fun (a' : Act) (w'' : World) => ∃ v : Value, _ ∧ _ ∧ _) = K
          go_simp
          rw [← hK]
          exact ⟨_, rfl, rfl, Below.refl _ _⟩
        | 1, ho, _ =>
          simp only [List.getElem?_cons_succ, List.getElem?_cons_zero, Option.some.injEq] at ho
          subst ho
          refine ⟨wanted_none rfl, ?_⟩
          generalize hK : (fun (a' : Act) (w'' : World) => ∃ v : Value, _ ∧ _ ∧ _) = K
          go_simp
          rw [← hK]
          exact ⟨_, rfl, rfl, Below.refl _ _⟩
        | 2, ho, _ =>
          simp only [List.getElem?_cons_succ, List.getElem?_cons_zero, Option.some.injEq] at ho
          subst ho
          refine ⟨wanted_none rfl, ?_⟩
          have x1 : vs 1 = .pointer (some ⟨wr.heap.size, 0, none⟩) := hd 1 (by kernel_rfl)
          have q0 := (hb.cell (p := ⟨wr.heap.size, 0, none⟩) HLW.out).trans (HBX.out 0)
          simp only [List.getElem?_cons_zero] at q0
          generalize hK : (fun (a' : Act) (w'' : World) => ∃ v : Value, _ ∧ _ ∧ _) = K
          generalize hu1 : vs 1 = u1 at x1 ⊢
          subst x1
          go_simp
          rw [← hK]
          exact ⟨_, by simp [upd, hu1], rfl, Below.refl _ _⟩
        | 3, ho, _ =>
          simp only [List.getElem?_cons_succ, List.getElem?_cons_zero, Option.some.injEq] at ho
          subst ho
          refine ⟨wanted_none rfl, ?_⟩
          have x2 : vs 2 = .int .i64 e.t := hd 2 (by kernel_rfl)
          generalize hK : (fun (a' : Act) (w'' : World) => ∃ v : Value, _ ∧ _ ∧ _) = K
          generalize hu2 : vs 2 = u2 at x2 ⊢
          subst x2
          go_simp
          refine (implFormatInt_of HLT.out HTE.out.1 HTE.out.2 (tab_below HTW.out hb)).mono ?_
          rintro e2 w2 ⟨rfl, B⟩
          rw [← hK]
          exact ⟨_, by simp [upd, hu2], rfl, B⟩
        | 4, ho, _ =>
          simp only [List.getElem?_cons_succ, List.getElem?_cons_zero, Option.some.injEq] at ho
          subst ho
          refine ⟨wanted_none rfl, ?_⟩
          have x3 : vs 3 = .string ⟨(lt).toArray⟩ := hd 3 (by kernel_rfl)
          generalize hK : (fun (a' : Act) (w'' : World) => ∃ v : Value, _ ∧ _ ∧ _) = K
          generalize hu3 : vs 3 = u3 at x3 ⊢
          subst x3
          go_simp
          rw [← hK]
          exact ⟨.string (⟨(lt).toArray⟩ ++ ⟨([32]).toArray⟩), by simp [upd, hu3], (congrArg Value.string (str_app _ _)), Below.refl _ _⟩
        | 5, ho, _ =>
          simp only [List.getElem?_cons_succ, List.getElem?_cons_zero, Option.some.injEq] at ho
          subst ho
          refine ⟨wanted_none rfl, ?_⟩
          generalize hK : (fun (a' : Act) (w'' : World) => ∃ v : Value, _ ∧ _ ∧ _) = K
          go_simp
          rw [← hK]
          exact ⟨_, rfl, rfl, Below.refl _ _⟩
        | 6, ho, _ =>
          simp only [List.getElem?_cons_succ, List.getElem?_cons_zero, Option.some.injEq] at ho
          subst ho
          refine ⟨wanted_none rfl, ?_⟩
          have x5 : vs 5 = .pointer (some ⟨wr.heap.size, 1, none⟩) := hd 5 (by kernel_rfl)
          have q1 := (hb.cell (p := ⟨wr.heap.size, 1, none⟩) HLW.out).trans (HBX.out 1)
          have q2 := (hb.cell (p := ⟨wr.heap.size, 2, none⟩) HLW.out).trans (HBX.out 2)
          have q3 := (hb.cell (p := ⟨wr.heap.size, 3, none⟩) HLW.out).trans (HBX.out 3)
          have q4 := (hb.cell (p := ⟨wr.heap.size, 4, none⟩) HLW.out).trans (HBX.out 4)
          simp only [List.getElem?_cons_zero, List.getElem?_cons_succ] at q1 q2 q3 q4
          generalize hK : (fun (a' : Act) (w'' : World) => ∃ v : Value, _ ∧ _ ∧ _) = K
          generalize hu5 : vs 5 = u5 at x5 ⊢
          subst x5
          go_simp
          rw [← hK]
          exact ⟨_, by simp [upd, hu5], rfl, Below.refl _ _⟩
        | 7, ho, _ =>
          simp only [List.getElem?_cons_succ, List.getElem?_cons_zero, Option.some.injEq] at ho
          subst ho
          refine ⟨wanted_none rfl, ?_⟩
          have x6 : vs 6 = .agg #[.int .i64 e.c.k, .int .i64 e.c.b, .int .i64 e.c.r, .int .i64 e.c.c] := hd 6 (by kernel_rfl)
          generalize hK : (fun (a' : Act) (w'' : World) => ∃ v : Value, _ ∧ _ ∧ _) = K
          generalize hu6 : vs 6 = u6 at x6 ⊢
          subst x6
          go_simp
          refine (implFormatCommand_of HLC.out (tab_below HTW.out hb)).mono ?_
          rintro e2 w2 ⟨rfl, B⟩
          rw [← hK]
          exact ⟨_, by simp [upd, hu6], rfl, B⟩
        | 8, ho, _ =>
          simp only [List.getElem?_cons_succ, List.getElem?_cons_zero, Option.some.injEq] at ho
          subst ho
          refine ⟨wanted_none rfl, ?_⟩
          have x4 : vs 4 = .string ⟨(lt ++ [32]).toArray⟩ := hd 4 (by kernel_rfl)
          have x7 : vs 7 = .string ⟨(lc).toArray⟩ := hd 7 (by kernel_rfl)
          generalize hK : (fun (a' : Act) (w'' : World) => ∃ v : Value, _ ∧ _ ∧ _) = K
          generalize hu4 : vs 4 = u4 at x4 ⊢
          subst x4
          generalize hu7 : vs 7 = u7 at x7 ⊢
          subst x7
          go_simp
          rw [← hK]
          exact ⟨.string (⟨(lt ++ [32]).toArray⟩ ++ ⟨(lc).toArray⟩), by simp [upd, hu4, hu7], (congrArg Value.string (str_app _ _)), Below.refl _ _⟩
        | 9, ho, _ =>
          simp only [List.getElem?_cons_succ, List.getElem?_cons_zero, Option.some.injEq] at ho
          subst ho
          refine ⟨wanted_none rfl, ?_⟩
          have x8 : vs 8 = .string ⟨(lt ++ [32] ++ lc).toArray⟩ := hd 8 (by kernel_rfl)
          generalize hK : (fun (a' : Act) (w'' : World) => ∃ v : Value, _ ∧ _ ∧ _) = K
          generalize hu8 : vs 8 = u8 at x8 ⊢
          subst x8
          go_simp
          rw [← hK]
          exact ⟨.string (⟨(lt ++ [32] ++ lc).toArray⟩ ++ ⟨([10]).toArray⟩), by simp [upd, hu8], (congrArg Value.string (str_app _ _)), Below.refl _ _⟩
        | 10, ho, _ =>
          simp only [List.getElem?_cons_succ, List.getElem?_cons_zero, Option.some.injEq] at ho
          subst ho
          refine ⟨wanted_none rfl, ?_⟩
          have x0 : vs 0 = .string ⟨(xs).toArray⟩ := hd 0 (by kernel_rfl)
          have x9 : vs 9 = .string ⟨(lt ++ [32] ++ lc ++ [10]).toArray⟩ := hd 9 (by kernel_rfl)
          generalize hK : (fun (a' : Act) (w'' : World) => ∃ v : Value, _ ∧ _ ∧ _) = K
          generalize hu0 : vs 0 = u0 at x0 ⊢
          subst x0
          generalize hu9 : vs 9 = u9 at x9 ⊢
          subst x9
          go_simp
          rw [← hK]
          exact ⟨.string (⟨(xs).toArray⟩ ++ ⟨(lt ++ [32] ++ lc ++ [10]).toArray⟩), by simp [upd, hu0, hu9], (congrArg Value.string (str_app _ _)), Below.refl _ _⟩
        | n + 11, _, hin => exact absurd hin (by omega)
      case hend2 =>
        intro vs w2 hb hf
        have er : vs 10 = .string ⟨(xs ++ (lt ++ [32] ++ lc ++ [10])).toArray⟩ := hf 10 (by decide)
        have HB2 := hid (below_step HBW.out hb (Nat.le_refl _))
        clear hb hf
        generalize vs 10 = ur at er ⊢
        subst er
        simp only [List.drop_succ_cons, List.drop_zero]
        refine wpTail_plain rfl fun K hK => ?_
        go_simp
        refine hK _ _ (wpTail_nil ?_)
        go_wp2_with fail
        go_roundw
        case rel => exact ⟨k + 1, _, by omega, by go_num, rfl, hid (by rw [HS.out, HXS.out, HV.out]), HB2⟩
        case measure => simp [intOf]; omega
    · have hkn : k = E.n := by omega
      have hv : xs = trText E.es := by rw [HXS.out, List.take_of_length_le (by rw [← HL.out]; omega)]
      have HV := hid hv
      clear hkn hv
      go_wp2_with fail
      go_ret
      exact ⟨by rw [← HV.out]; rfl, HB.out⟩
end Go.Proofs.YtggjheapjklhgaaDoor
