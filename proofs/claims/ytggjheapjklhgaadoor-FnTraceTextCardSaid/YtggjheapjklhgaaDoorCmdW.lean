/- Commands: what the program's and the reference's functions return. -/
import Derived.Test.YtggjheapjklhgaaDoorTimP
import Derived.Test.YtggjheapjklhgaaDoorInv
namespace Go.Proofs.YtggjheapjklhgaaDoor
open Go.RowKit

/-- The cells of a boxed command. -/
structure BoxC (w : World) (g : Nat) (C : Cmd) : Prop where
  lt : g < w.heap.size
  c0 : w.cell? ⟨g, 0, none⟩ = some (.int .i64 C.k)
  c1 : w.cell? ⟨g, 1, none⟩ = some (.int .i64 C.b)
  c2 : w.cell? ⟨g, 2, none⟩ = some (.int .i64 C.r)
  c3 : w.cell? ⟨g, 3, none⟩ = some (.int .i64 C.c)
theorem BoxC.new_ (w : World) (t : TypeId) (C : Cmd) {g : Nat} (h : w.heap.size = g) : BoxC (w.alloc (.cells #[.int .i64 C.k, .int .i64 C.b, .int .i64 C.r, .int .i64 C.c] t)) g C := by
  subst h
  have h := box_at w [.int .i64 C.k, .int .i64 C.b, .int .i64 C.r, .int .i64 C.c] t
  exact ⟨by simp, h 0, h 1, h 2, h 3⟩
theorem BoxC.below {w w' : World} {B g : Nat} {C : Cmd} (h : BoxC w g C) (hb : Below B w w') (hg : g < B) : BoxC w' g C :=
  ⟨Nat.lt_of_lt_of_le h.lt hb.size, (hb.cell (p := ⟨g, 0, none⟩) hg).trans h.c0, (hb.cell (p := ⟨g, 1, none⟩) hg).trans h.c1, (hb.cell (p := ⟨g, 2, none⟩) hg).trans h.c2, (hb.cell (p := ⟨g, 3, none⟩) hg).trans h.c3⟩
theorem BoxC.old {w w' : World} {g : Nat} {C : Cmd} (h : BoxC w g C) (hb : Below w.heap.size w w') : BoxC w' g C := h.below hb h.lt
theorem BoxG.new_ (w : World) (t : TypeId) (G : Geo) {g : Nat} (h : w.heap.size = g) : BoxG (w.alloc (.cells #[.int .i64 G.a, .int .i64 G.b, .int .i64 G.r, .int .i64 G.c] t)) g G := by subst h; exact BoxG.new w t G

theorem usesBank_any (k : Int) (w : World) :
    Calls Tryd.prog 29 #[.int .i64 k] w fun e w' => e = .returned (.bool (usesB k)) ∧ w = w' := by
  go_enter Tryd.func29, Tryd.ntmps29
  go_wp2_with (go_at_call 39; refine (between_any _ _ _ _).mono ?_; rintro e w' ⟨rfl, rfl⟩)
  go_ret
  exact ⟨rfl, rfl⟩
theorem usesRow_any (k : Int) (w : World) :
    Calls Tryd.prog 30 #[.int .i64 k] w fun e w' => e = .returned (.bool (usesR k)) ∧ w = w' := by
  go_enter Tryd.func30, Tryd.ntmps30
  go_wp2
  go_ret
  exact ⟨rfl, rfl⟩
theorem usesCol_any (k : Int) (w : World) :
    Calls Tryd.prog 31 #[.int .i64 k] w fun e w' => e = .returned (.bool (usesC k)) ∧ w = w' := by
  have HV := hid (show usesC k = (k == 2 || k == 3) from rfl)
  cases h2 : (k == 2) <;> cases h3 : (k == 3)
  all_goals
    go_enter Tryd.func31, Tryd.ntmps31
    go_wp2
    go_ret
    exact ⟨by rw [HV.out, h2, h3]; rfl, rfl⟩
theorem fieldOk_of {n lim : Int} {u r : Bool} {w : World} (h : fOk n u lim = r) (h0 : -1000 ≤ lim) (h1 : lim ≤ 1000) :
    Calls Tryd.prog 40 #[.int .i64 n, .bool u, .int .i64 lim] w fun e w' => e = .returned (.bool r) ∧ w = w' := by
  subst h
  have e1 : IntKind.i64.wrap (lim - 1) = lim - 1 := IntWalk.i64_in _ (by omega)
  cases u
  all_goals
    go_enter Tryd.func40, Tryd.ntmps40
    go_wp2_with (go_at_call 39; refine (between_any _ _ _ _).mono ?_; rintro e w' ⟨rfl, rfl⟩)
    go_ret
    exact ⟨rfl, rfl⟩
theorem usesBank_of {k : Int} {u : Bool} {w : World} (h : usesB k = u) : Calls Tryd.prog 29 #[.int .i64 k] w fun e w' => e = .returned (.bool u) ∧ w = w' := by subst h; exact usesBank_any _ _
theorem usesRow_of {k : Int} {u : Bool} {w : World} (h : usesR k = u) : Calls Tryd.prog 30 #[.int .i64 k] w fun e w' => e = .returned (.bool u) ∧ w = w' := by subst h; exact usesRow_any _ _
theorem usesCol_of {k : Int} {u : Bool} {w : World} (h : usesC k = u) : Calls Tryd.prog 31 #[.int .i64 k] w fun e w' => e = .returned (.bool u) ∧ w = w' := by subst h; exact usesCol_any _ _
set_option maxHeartbeats 1000000 in
set_option maxRecDepth 100000 in
theorem wellFormed_any (C : Cmd) (nb nr nc : Int) (w : World) (hb0 : -1000 ≤ nb) (hb1 : nb ≤ 1000) (hr0 : -1000 ≤ nr) (hr1 : nr ≤ 1000) (hc0 : -1000 ≤ nc) (hc1 : nc ≤ 1000) :
    Calls Tryd.prog 27 #[.agg #[.int .i64 C.k, .int .i64 C.b, .int .i64 C.r, .int .i64 C.c], .int .i64 nb, .int .i64 nr, .int .i64 nc] w fun e w' => e = .returned (.bool (wellF C nb nr nc)) ∧ Below w.heap.size w w' := by
  have HW := hid (show wellF C nb nr nc = (inB C.k 1 9 && fOk C.b (usesB C.k) nb && fOk C.r (usesR C.k) nr && fOk C.c (usesC C.k) nc) from rfl)
  have HX0 := hid (BoxC.new_ w 40 C rfl)
  obtain ⟨ub, hub⟩ : ∃ u, usesB C.k = u := ⟨_, rfl⟩
  obtain ⟨ur, hur⟩ : ∃ u, usesR C.k = u := ⟨_, rfl⟩
  obtain ⟨uc, huc⟩ : ∃ u, usesC C.k = u := ⟨_, rfl⟩
  rw [hub, hur, huc] at HW
  have HUB := hid hub
  have HUR := hid hur
  have HUC := hid huc
  clear hub hur huc
  have go : ∀ (k1 k2 k3 k4 : Bool), Hid (inB C.k 1 9 = k1) → Hid (fOk C.b ub nb = k2) → Hid (fOk C.r ur nr = k3) → Hid (fOk C.c uc nc = k4) →
      Calls Tryd.prog 27 #[.agg #[.int .i64 C.k, .int .i64 C.b, .int .i64 C.r, .int .i64 C.c], .int .i64 nb, .int .i64 nr, .int .i64 nc] w fun e w' => e = .returned (.bool (k1 && k2 && k3 && k4)) ∧ Below w.heap.size w w' := by
    intro k1 k2 k3 k4 H1 H2 H3 H4
    cases k1 <;> cases k2 <;> cases k3 <;> cases k4
    all_goals
      go_enter Tryd.func27, Tryd.ntmps27
      go_wp2_with fail
      refine wp_world (fun W hw => ?_)
      have X : BoxC W w.heap.size C := by rw [hw.out]; exact HX0.out
      have B : Below w.heap.size w W := by rw [hw.out]; exact below_alloc _ _
      obtain ⟨hlt, c0, c1, c2, c3⟩ := X
      have hov := over_cell W
      clear hw
      refine wp_region_over (by kernel_rfl) (by kernel_rfl) ?_
      repeat (go_big_quiet_step ((first | (go_at_call 39; with_reducible exact calls_over_same (between_of H1.out)) | (go_at_call 29; with_reducible exact calls_over_same (usesBank_of HUB.out)) | (go_at_call 30; with_reducible exact calls_over_same (usesRow_of HUR.out)) | (go_at_call 31; with_reducible exact calls_over_same (usesCol_of HUC.out)) | (go_at_call 40; with_reducible exact calls_over_same (fieldOk_of H2.out hb0 hb1)) | (go_at_call 40; with_reducible exact calls_over_same (fieldOk_of H3.out hr0 hr1)) | (go_at_call 40; with_reducible exact calls_over_same (fieldOk_of H4.out hc0 hc1)))))
      refine wpQuiet_nil ?_
      intro W2 B2
      go_wp2_with fail
      go_ret
      exact ⟨rfl, below_step B B2 (Nat.le_refl _)⟩
  rw [HW.out]
  exact go _ _ _ _ (hid rfl) (hid rfl) (hid rfl) (hid rfl)

theorem l06Uses_any (k : Int) (w : World) :
    Calls Tryd.prog 24 #[.int .i64 k] w fun e w' => e = .returned (.tuple #[.bool (usesB k), .bool (usesR k), .bool (usesC k)]) ∧ w = w' := by
  have HV := hid (show usesC k = (k == 2 || k == 3) from rfl)
  cases h2 : (k == 2) <;> cases h3 : (k == 3)
  all_goals
    go_enter Tryd.func24, Tryd.ntmps24
    go_wp2_with (go_at_call 37; refine (l01In_any _ _ _ _).mono ?_; rintro e w' ⟨rfl, rfl⟩)
    go_ret3
    exact ⟨by rw [HV.out, h2, h3]; rfl, rfl⟩
set_option maxHeartbeats 2000000 in
set_option maxRecDepth 100000 in
theorem l06Form_any (C : Cmd) (w : World) :
    Calls Tryd.prog 22 #[.agg #[.int .i64 C.k, .int .i64 C.b, .int .i64 C.r, .int .i64 C.c]] w fun e w' => e = .returned (.bool (formC C)) ∧ Below w.heap.size w w' := by
  have HW := hid (show formC C = ((usesB C.k || !(C.b != 0)) && (usesR C.k || !(C.r != 0)) && (usesC C.k || !(C.c != 0)) && (inB C.k 1 9 && inB C.b 0 7 && inB C.r 0 15 && inB C.c 0 7)) by simp [formC, bne])
  go_enter Tryd.func22, Tryd.ntmps22
  go_wp2_with fail
  refine (l06Uses_any _ _).mono ?_
  rintro e w1 ⟨rfl, rfl⟩
  generalize usesB C.k = ub at HW ⊢
  generalize usesR C.k = ur at HW ⊢
  generalize usesC C.k = uc at HW ⊢
  cases ub with
  | true =>
    cases ur with
    | true =>
      cases uc with
      | true =>
        have HF := hid (show formC C = (inB C.k 1 9 && inB C.b 0 7 && inB C.r 0 15 && inB C.c 0 7) by rw [HW.out]; simp [*])
        clear HW
        cases k1 : inB C.k 1 9 with
        | false =>
          go_wp2_with (go_at_call 37; first | (with_reducible refine (l01In_of k1).mono ?_; rintro e w' ⟨rfl, rfl⟩))
          go_ret
          exact ⟨by rw [HF.out, k1]; rfl, below_alloc _ _⟩
        | true =>
          cases k2 : inB C.b 0 7 with
          | false =>
            go_wp2_with (go_at_call 37; first | (with_reducible refine (l01In_of k1).mono ?_; rintro e w' ⟨rfl, rfl⟩) | (with_reducible refine (l01In_of k2).mono ?_; rintro e w' ⟨rfl, rfl⟩))
            go_ret
            exact ⟨by rw [HF.out, k1, k2]; rfl, below_alloc _ _⟩
          | true =>
            cases k3 : inB C.r 0 15 with
            | false =>
              go_wp2_with (go_at_call 37; first | (with_reducible refine (l01In_of k1).mono ?_; rintro e w' ⟨rfl, rfl⟩) | (with_reducible refine (l01In_of k2).mono ?_; rintro e w' ⟨rfl, rfl⟩) | (with_reducible refine (l01In_of k3).mono ?_; rintro e w' ⟨rfl, rfl⟩))
              go_ret
              exact ⟨by rw [HF.out, k1, k2, k3]; rfl, below_alloc _ _⟩
            | true =>
              cases k4 : inB C.c 0 7 with
              | false =>
                go_wp2_with (go_at_call 37; first | (with_reducible refine (l01In_of k1).mono ?_; rintro e w' ⟨rfl, rfl⟩) | (with_reducible refine (l01In_of k2).mono ?_; rintro e w' ⟨rfl, rfl⟩) | (with_reducible refine (l01In_of k3).mono ?_; rintro e w' ⟨rfl, rfl⟩) | (with_reducible refine (l01In_of k4).mono ?_; rintro e w' ⟨rfl, rfl⟩))
                go_ret
                exact ⟨by rw [HF.out, k1, k2, k3, k4]; rfl, below_alloc _ _⟩
              | true =>
                go_wp2_with (go_at_call 37; first | (with_reducible refine (l01In_of k1).mono ?_; rintro e w' ⟨rfl, rfl⟩) | (with_reducible refine (l01In_of k2).mono ?_; rintro e w' ⟨rfl, rfl⟩) | (with_reducible refine (l01In_of k3).mono ?_; rintro e w' ⟨rfl, rfl⟩) | (with_reducible refine (l01In_of k4).mono ?_; rintro e w' ⟨rfl, rfl⟩))
                go_ret
                exact ⟨by rw [HF.out, k1, k2, k3, k4]; rfl, below_alloc _ _⟩
      | false =>
        cases h2 : (C.c != 0) with
        | true =>
          have HF := hid (show formC C = false by rw [HW.out]; simp [*])
          clear HW
          go_wp2_with fail
          go_ret
          exact ⟨by rw [HF.out]; rfl, below_alloc _ _⟩
        | false =>
          have HF := hid (show formC C = (inB C.k 1 9 && inB C.b 0 7 && inB C.r 0 15 && inB C.c 0 7) by rw [HW.out]; simp [*])
          clear HW
          cases k1 : inB C.k 1 9 with
          | false =>
            go_wp2_with (go_at_call 37; first | (with_reducible refine (l01In_of k1).mono ?_; rintro e w' ⟨rfl, rfl⟩))
            go_ret
            exact ⟨by rw [HF.out, k1]; rfl, below_alloc _ _⟩
          | true =>
            cases k2 : inB C.b 0 7 with
            | false =>
              go_wp2_with (go_at_call 37; first | (with_reducible refine (l01In_of k1).mono ?_; rintro e w' ⟨rfl, rfl⟩) | (with_reducible refine (l01In_of k2).mono ?_; rintro e w' ⟨rfl, rfl⟩))
              go_ret
              exact ⟨by rw [HF.out, k1, k2]; rfl, below_alloc _ _⟩
            | true =>
              cases k3 : inB C.r 0 15 with
              | false =>
                go_wp2_with (go_at_call 37; first | (with_reducible refine (l01In_of k1).mono ?_; rintro e w' ⟨rfl, rfl⟩) | (with_reducible refine (l01In_of k2).mono ?_; rintro e w' ⟨rfl, rfl⟩) | (with_reducible refine (l01In_of k3).mono ?_; rintro e w' ⟨rfl, rfl⟩))
                go_ret
                exact ⟨by rw [HF.out, k1, k2, k3]; rfl, below_alloc _ _⟩
              | true =>
                cases k4 : inB C.c 0 7 with
                | false =>
                  go_wp2_with (go_at_call 37; first | (with_reducible refine (l01In_of k1).mono ?_; rintro e w' ⟨rfl, rfl⟩) | (with_reducible refine (l01In_of k2).mono ?_; rintro e w' ⟨rfl, rfl⟩) | (with_reducible refine (l01In_of k3).mono ?_; rintro e w' ⟨rfl, rfl⟩) | (with_reducible refine (l01In_of k4).mono ?_; rintro e w' ⟨rfl, rfl⟩))
                  go_ret
                  exact ⟨by rw [HF.out, k1, k2, k3, k4]; rfl, below_alloc _ _⟩
                | true =>
                  go_wp2_with (go_at_call 37; first | (with_reducible refine (l01In_of k1).mono ?_; rintro e w' ⟨rfl, rfl⟩) | (with_reducible refine (l01In_of k2).mono ?_; rintro e w' ⟨rfl, rfl⟩) | (with_reducible refine (l01In_of k3).mono ?_; rintro e w' ⟨rfl, rfl⟩) | (with_reducible refine (l01In_of k4).mono ?_; rintro e w' ⟨rfl, rfl⟩))
                  go_ret
                  exact ⟨by rw [HF.out, k1, k2, k3, k4]; rfl, below_alloc _ _⟩
    | false =>
      cases h1 : (C.r != 0) with
      | true =>
        have HF := hid (show formC C = false by rw [HW.out]; simp [*])
        clear HW
        go_wp2_with fail
        go_ret
        exact ⟨by rw [HF.out]; rfl, below_alloc _ _⟩
      | false =>
        cases uc with
        | true =>
          have HF := hid (show formC C = (inB C.k 1 9 && inB C.b 0 7 && inB C.r 0 15 && inB C.c 0 7) by rw [HW.out]; simp [*])
          clear HW
          cases k1 : inB C.k 1 9 with
          | false =>
            go_wp2_with (go_at_call 37; first | (with_reducible refine (l01In_of k1).mono ?_; rintro e w' ⟨rfl, rfl⟩))
            go_ret
            exact ⟨by rw [HF.out, k1]; rfl, below_alloc _ _⟩
          | true =>
            cases k2 : inB C.b 0 7 with
            | false =>
              go_wp2_with (go_at_call 37; first | (with_reducible refine (l01In_of k1).mono ?_; rintro e w' ⟨rfl, rfl⟩) | (with_reducible refine (l01In_of k2).mono ?_; rintro e w' ⟨rfl, rfl⟩))
              go_ret
              exact ⟨by rw [HF.out, k1, k2]; rfl, below_alloc _ _⟩
            | true =>
              cases k3 : inB C.r 0 15 with
              | false =>
                go_wp2_with (go_at_call 37; first | (with_reducible refine (l01In_of k1).mono ?_; rintro e w' ⟨rfl, rfl⟩) | (with_reducible refine (l01In_of k2).mono ?_; rintro e w' ⟨rfl, rfl⟩) | (with_reducible refine (l01In_of k3).mono ?_; rintro e w' ⟨rfl, rfl⟩))
                go_ret
                exact ⟨by rw [HF.out, k1, k2, k3]; rfl, below_alloc _ _⟩
              | true =>
                cases k4 : inB C.c 0 7 with
                | false =>
                  go_wp2_with (go_at_call 37; first | (with_reducible refine (l01In_of k1).mono ?_; rintro e w' ⟨rfl, rfl⟩) | (with_reducible refine (l01In_of k2).mono ?_; rintro e w' ⟨rfl, rfl⟩) | (with_reducible refine (l01In_of k3).mono ?_; rintro e w' ⟨rfl, rfl⟩) | (with_reducible refine (l01In_of k4).mono ?_; rintro e w' ⟨rfl, rfl⟩))
                  go_ret
                  exact ⟨by rw [HF.out, k1, k2, k3, k4]; rfl, below_alloc _ _⟩
                | true =>
                  go_wp2_with (go_at_call 37; first | (with_reducible refine (l01In_of k1).mono ?_; rintro e w' ⟨rfl, rfl⟩) | (with_reducible refine (l01In_of k2).mono ?_; rintro e w' ⟨rfl, rfl⟩) | (with_reducible refine (l01In_of k3).mono ?_; rintro e w' ⟨rfl, rfl⟩) | (with_reducible refine (l01In_of k4).mono ?_; rintro e w' ⟨rfl, rfl⟩))
                  go_ret
                  exact ⟨by rw [HF.out, k1, k2, k3, k4]; rfl, below_alloc _ _⟩
        | false =>
          cases h2 : (C.c != 0) with
          | true =>
            have HF := hid (show formC C = false by rw [HW.out]; simp [*])
            clear HW
            go_wp2_with fail
            go_ret
            exact ⟨by rw [HF.out]; rfl, below_alloc _ _⟩
          | false =>
            have HF := hid (show formC C = (inB C.k 1 9 && inB C.b 0 7 && inB C.r 0 15 && inB C.c 0 7) by rw [HW.out]; simp [*])
            clear HW
            cases k1 : inB C.k 1 9 with
            | false =>
              go_wp2_with (go_at_call 37; first | (with_reducible refine (l01In_of k1).mono ?_; rintro e w' ⟨rfl, rfl⟩))
              go_ret
              exact ⟨by rw [HF.out, k1]; rfl, below_alloc _ _⟩
            | true =>
              cases k2 : inB C.b 0 7 with
              | false =>
                go_wp2_with (go_at_call 37; first | (with_reducible refine (l01In_of k1).mono ?_; rintro e w' ⟨rfl, rfl⟩) | (with_reducible refine (l01In_of k2).mono ?_; rintro e w' ⟨rfl, rfl⟩))
                go_ret
                exact ⟨by rw [HF.out, k1, k2]; rfl, below_alloc _ _⟩
              | true =>
                cases k3 : inB C.r 0 15 with
                | false =>
                  go_wp2_with (go_at_call 37; first | (with_reducible refine (l01In_of k1).mono ?_; rintro e w' ⟨rfl, rfl⟩) | (with_reducible refine (l01In_of k2).mono ?_; rintro e w' ⟨rfl, rfl⟩) | (with_reducible refine (l01In_of k3).mono ?_; rintro e w' ⟨rfl, rfl⟩))
                  go_ret
                  exact ⟨by rw [HF.out, k1, k2, k3]; rfl, below_alloc _ _⟩
                | true =>
                  cases k4 : inB C.c 0 7 with
                  | false =>
                    go_wp2_with (go_at_call 37; first | (with_reducible refine (l01In_of k1).mono ?_; rintro e w' ⟨rfl, rfl⟩) | (with_reducible refine (l01In_of k2).mono ?_; rintro e w' ⟨rfl, rfl⟩) | (with_reducible refine (l01In_of k3).mono ?_; rintro e w' ⟨rfl, rfl⟩) | (with_reducible refine (l01In_of k4).mono ?_; rintro e w' ⟨rfl, rfl⟩))
                    go_ret
                    exact ⟨by rw [HF.out, k1, k2, k3, k4]; rfl, below_alloc _ _⟩
                  | true =>
                    go_wp2_with (go_at_call 37; first | (with_reducible refine (l01In_of k1).mono ?_; rintro e w' ⟨rfl, rfl⟩) | (with_reducible refine (l01In_of k2).mono ?_; rintro e w' ⟨rfl, rfl⟩) | (with_reducible refine (l01In_of k3).mono ?_; rintro e w' ⟨rfl, rfl⟩) | (with_reducible refine (l01In_of k4).mono ?_; rintro e w' ⟨rfl, rfl⟩))
                    go_ret
                    exact ⟨by rw [HF.out, k1, k2, k3, k4]; rfl, below_alloc _ _⟩
  | false =>
    cases h0 : (C.b != 0) with
    | true =>
      have HF := hid (show formC C = false by rw [HW.out]; simp [*])
      clear HW
      go_wp2_with fail
      go_ret
      exact ⟨by rw [HF.out]; rfl, below_alloc _ _⟩
    | false =>
      cases ur with
      | true =>
        cases uc with
        | true =>
          have HF := hid (show formC C = (inB C.k 1 9 && inB C.b 0 7 && inB C.r 0 15 && inB C.c 0 7) by rw [HW.out]; simp [*])
          clear HW
          cases k1 : inB C.k 1 9 with
          | false =>
            go_wp2_with (go_at_call 37; first | (with_reducible refine (l01In_of k1).mono ?_; rintro e w' ⟨rfl, rfl⟩))
            go_ret
            exact ⟨by rw [HF.out, k1]; rfl, below_alloc _ _⟩
          | true =>
            cases k2 : inB C.b 0 7 with
            | false =>
              go_wp2_with (go_at_call 37; first | (with_reducible refine (l01In_of k1).mono ?_; rintro e w' ⟨rfl, rfl⟩) | (with_reducible refine (l01In_of k2).mono ?_; rintro e w' ⟨rfl, rfl⟩))
              go_ret
              exact ⟨by rw [HF.out, k1, k2]; rfl, below_alloc _ _⟩
            | true =>
              cases k3 : inB C.r 0 15 with
              | false =>
                go_wp2_with (go_at_call 37; first | (with_reducible refine (l01In_of k1).mono ?_; rintro e w' ⟨rfl, rfl⟩) | (with_reducible refine (l01In_of k2).mono ?_; rintro e w' ⟨rfl, rfl⟩) | (with_reducible refine (l01In_of k3).mono ?_; rintro e w' ⟨rfl, rfl⟩))
                go_ret
                exact ⟨by rw [HF.out, k1, k2, k3]; rfl, below_alloc _ _⟩
              | true =>
                cases k4 : inB C.c 0 7 with
                | false =>
                  go_wp2_with (go_at_call 37; first | (with_reducible refine (l01In_of k1).mono ?_; rintro e w' ⟨rfl, rfl⟩) | (with_reducible refine (l01In_of k2).mono ?_; rintro e w' ⟨rfl, rfl⟩) | (with_reducible refine (l01In_of k3).mono ?_; rintro e w' ⟨rfl, rfl⟩) | (with_reducible refine (l01In_of k4).mono ?_; rintro e w' ⟨rfl, rfl⟩))
                  go_ret
                  exact ⟨by rw [HF.out, k1, k2, k3, k4]; rfl, below_alloc _ _⟩
                | true =>
                  go_wp2_with (go_at_call 37; first | (with_reducible refine (l01In_of k1).mono ?_; rintro e w' ⟨rfl, rfl⟩) | (with_reducible refine (l01In_of k2).mono ?_; rintro e w' ⟨rfl, rfl⟩) | (with_reducible refine (l01In_of k3).mono ?_; rintro e w' ⟨rfl, rfl⟩) | (with_reducible refine (l01In_of k4).mono ?_; rintro e w' ⟨rfl, rfl⟩))
                  go_ret
                  exact ⟨by rw [HF.out, k1, k2, k3, k4]; rfl, below_alloc _ _⟩
        | false =>
          cases h2 : (C.c != 0) with
          | true =>
            have HF := hid (show formC C = false by rw [HW.out]; simp [*])
            clear HW
            go_wp2_with fail
            go_ret
            exact ⟨by rw [HF.out]; rfl, below_alloc _ _⟩
          | false =>
            have HF := hid (show formC C = (inB C.k 1 9 && inB C.b 0 7 && inB C.r 0 15 && inB C.c 0 7) by rw [HW.out]; simp [*])
            clear HW
            cases k1 : inB C.k 1 9 with
            | false =>
              go_wp2_with (go_at_call 37; first | (with_reducible refine (l01In_of k1).mono ?_; rintro e w' ⟨rfl, rfl⟩))
              go_ret
              exact ⟨by rw [HF.out, k1]; rfl, below_alloc _ _⟩
            | true =>
              cases k2 : inB C.b 0 7 with
              | false =>
                go_wp2_with (go_at_call 37; first | (with_reducible refine (l01In_of k1).mono ?_; rintro e w' ⟨rfl, rfl⟩) | (with_reducible refine (l01In_of k2).mono ?_; rintro e w' ⟨rfl, rfl⟩))
                go_ret
                exact ⟨by rw [HF.out, k1, k2]; rfl, below_alloc _ _⟩
              | true =>
                cases k3 : inB C.r 0 15 with
                | false =>
                  go_wp2_with (go_at_call 37; first | (with_reducible refine (l01In_of k1).mono ?_; rintro e w' ⟨rfl, rfl⟩) | (with_reducible refine (l01In_of k2).mono ?_; rintro e w' ⟨rfl, rfl⟩) | (with_reducible refine (l01In_of k3).mono ?_; rintro e w' ⟨rfl, rfl⟩))
                  go_ret
                  exact ⟨by rw [HF.out, k1, k2, k3]; rfl, below_alloc _ _⟩
                | true =>
                  cases k4 : inB C.c 0 7 with
                  | false =>
                    go_wp2_with (go_at_call 37; first | (with_reducible refine (l01In_of k1).mono ?_; rintro e w' ⟨rfl, rfl⟩) | (with_reducible refine (l01In_of k2).mono ?_; rintro e w' ⟨rfl, rfl⟩) | (with_reducible refine (l01In_of k3).mono ?_; rintro e w' ⟨rfl, rfl⟩) | (with_reducible refine (l01In_of k4).mono ?_; rintro e w' ⟨rfl, rfl⟩))
                    go_ret
                    exact ⟨by rw [HF.out, k1, k2, k3, k4]; rfl, below_alloc _ _⟩
                  | true =>
                    go_wp2_with (go_at_call 37; first | (with_reducible refine (l01In_of k1).mono ?_; rintro e w' ⟨rfl, rfl⟩) | (with_reducible refine (l01In_of k2).mono ?_; rintro e w' ⟨rfl, rfl⟩) | (with_reducible refine (l01In_of k3).mono ?_; rintro e w' ⟨rfl, rfl⟩) | (with_reducible refine (l01In_of k4).mono ?_; rintro e w' ⟨rfl, rfl⟩))
                    go_ret
                    exact ⟨by rw [HF.out, k1, k2, k3, k4]; rfl, below_alloc _ _⟩
      | false =>
        cases h1 : (C.r != 0) with
        | true =>
          have HF := hid (show formC C = false by rw [HW.out]; simp [*])
          clear HW
          go_wp2_with fail
          go_ret
          exact ⟨by rw [HF.out]; rfl, below_alloc _ _⟩
        | false =>
          cases uc with
          | true =>
            have HF := hid (show formC C = (inB C.k 1 9 && inB C.b 0 7 && inB C.r 0 15 && inB C.c 0 7) by rw [HW.out]; simp [*])
            clear HW
            cases k1 : inB C.k 1 9 with
            | false =>
              go_wp2_with (go_at_call 37; first | (with_reducible refine (l01In_of k1).mono ?_; rintro e w' ⟨rfl, rfl⟩))
              go_ret
              exact ⟨by rw [HF.out, k1]; rfl, below_alloc _ _⟩
            | true =>
              cases k2 : inB C.b 0 7 with
              | false =>
                go_wp2_with (go_at_call 37; first | (with_reducible refine (l01In_of k1).mono ?_; rintro e w' ⟨rfl, rfl⟩) | (with_reducible refine (l01In_of k2).mono ?_; rintro e w' ⟨rfl, rfl⟩))
                go_ret
                exact ⟨by rw [HF.out, k1, k2]; rfl, below_alloc _ _⟩
              | true =>
                cases k3 : inB C.r 0 15 with
                | false =>
                  go_wp2_with (go_at_call 37; first | (with_reducible refine (l01In_of k1).mono ?_; rintro e w' ⟨rfl, rfl⟩) | (with_reducible refine (l01In_of k2).mono ?_; rintro e w' ⟨rfl, rfl⟩) | (with_reducible refine (l01In_of k3).mono ?_; rintro e w' ⟨rfl, rfl⟩))
                  go_ret
                  exact ⟨by rw [HF.out, k1, k2, k3]; rfl, below_alloc _ _⟩
                | true =>
                  cases k4 : inB C.c 0 7 with
                  | false =>
                    go_wp2_with (go_at_call 37; first | (with_reducible refine (l01In_of k1).mono ?_; rintro e w' ⟨rfl, rfl⟩) | (with_reducible refine (l01In_of k2).mono ?_; rintro e w' ⟨rfl, rfl⟩) | (with_reducible refine (l01In_of k3).mono ?_; rintro e w' ⟨rfl, rfl⟩) | (with_reducible refine (l01In_of k4).mono ?_; rintro e w' ⟨rfl, rfl⟩))
                    go_ret
                    exact ⟨by rw [HF.out, k1, k2, k3, k4]; rfl, below_alloc _ _⟩
                  | true =>
                    go_wp2_with (go_at_call 37; first | (with_reducible refine (l01In_of k1).mono ?_; rintro e w' ⟨rfl, rfl⟩) | (with_reducible refine (l01In_of k2).mono ?_; rintro e w' ⟨rfl, rfl⟩) | (with_reducible refine (l01In_of k3).mono ?_; rintro e w' ⟨rfl, rfl⟩) | (with_reducible refine (l01In_of k4).mono ?_; rintro e w' ⟨rfl, rfl⟩))
                    go_ret
                    exact ⟨by rw [HF.out, k1, k2, k3, k4]; rfl, below_alloc _ _⟩
          | false =>
            cases h2 : (C.c != 0) with
            | true =>
              have HF := hid (show formC C = false by rw [HW.out]; simp [*])
              clear HW
              go_wp2_with fail
              go_ret
              exact ⟨by rw [HF.out]; rfl, below_alloc _ _⟩
            | false =>
              have HF := hid (show formC C = (inB C.k 1 9 && inB C.b 0 7 && inB C.r 0 15 && inB C.c 0 7) by rw [HW.out]; simp [*])
              clear HW
              cases k1 : inB C.k 1 9 with
              | false =>
                go_wp2_with (go_at_call 37; first | (with_reducible refine (l01In_of k1).mono ?_; rintro e w' ⟨rfl, rfl⟩))
                go_ret
                exact ⟨by rw [HF.out, k1]; rfl, below_alloc _ _⟩
              | true =>
                cases k2 : inB C.b 0 7 with
                | false =>
                  go_wp2_with (go_at_call 37; first | (with_reducible refine (l01In_of k1).mono ?_; rintro e w' ⟨rfl, rfl⟩) | (with_reducible refine (l01In_of k2).mono ?_; rintro e w' ⟨rfl, rfl⟩))
                  go_ret
                  exact ⟨by rw [HF.out, k1, k2]; rfl, below_alloc _ _⟩
                | true =>
                  cases k3 : inB C.r 0 15 with
                  | false =>
                    go_wp2_with (go_at_call 37; first | (with_reducible refine (l01In_of k1).mono ?_; rintro e w' ⟨rfl, rfl⟩) | (with_reducible refine (l01In_of k2).mono ?_; rintro e w' ⟨rfl, rfl⟩) | (with_reducible refine (l01In_of k3).mono ?_; rintro e w' ⟨rfl, rfl⟩))
                    go_ret
                    exact ⟨by rw [HF.out, k1, k2, k3]; rfl, below_alloc _ _⟩
                  | true =>
                    cases k4 : inB C.c 0 7 with
                    | false =>
                      go_wp2_with (go_at_call 37; first | (with_reducible refine (l01In_of k1).mono ?_; rintro e w' ⟨rfl, rfl⟩) | (with_reducible refine (l01In_of k2).mono ?_; rintro e w' ⟨rfl, rfl⟩) | (with_reducible refine (l01In_of k3).mono ?_; rintro e w' ⟨rfl, rfl⟩) | (with_reducible refine (l01In_of k4).mono ?_; rintro e w' ⟨rfl, rfl⟩))
                      go_ret
                      exact ⟨by rw [HF.out, k1, k2, k3, k4]; rfl, below_alloc _ _⟩
                    | true =>
                      go_wp2_with (go_at_call 37; first | (with_reducible refine (l01In_of k1).mono ?_; rintro e w' ⟨rfl, rfl⟩) | (with_reducible refine (l01In_of k2).mono ?_; rintro e w' ⟨rfl, rfl⟩) | (with_reducible refine (l01In_of k3).mono ?_; rintro e w' ⟨rfl, rfl⟩) | (with_reducible refine (l01In_of k4).mono ?_; rintro e w' ⟨rfl, rfl⟩))
                      go_ret
                      exact ⟨by rw [HF.out, k1, k2, k3, k4]; rfl, below_alloc _ _⟩
end Go.Proofs.YtggjheapjklhgaaDoor
