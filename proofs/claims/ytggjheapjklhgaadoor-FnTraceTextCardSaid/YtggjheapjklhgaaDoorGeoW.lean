/- Geometries and addresses: what the program's and the reference's functions return. -/
import Derived.Test.YtggjheapjklhgaaDoorGfW
import Derived.Test.YtggjheapjklhgaaDoorMem
namespace Go.Proofs.YtggjheapjklhgaaDoor
open Go.RowKit

/-- A geometry's four numbers. -/
structure Geo where
  a : Int
  b : Int
  r : Int
  c : Int
def gOk (G : Geo) : Bool := inB G.a 1 2 && inB G.b 1 4 && inB G.r 2 16 && inB G.c 1 8
theorem gOk_iff {G : Geo} : gOk G = true ↔ (1 ≤ G.a ∧ G.a ≤ 2) ∧ (1 ≤ G.b ∧ G.b ≤ 4) ∧ (2 ≤ G.r ∧ G.r ≤ 16) ∧ (1 ≤ G.c ∧ G.c ≤ 8) := by
  unfold gOk
  simp only [Bool.and_eq_true, inB_iff, and_assoc]
def bankN (G : Geo) : Int := if gOk G then G.a * G.b else 0
theorem bankN_yes {G : Geo} (h : gOk G = true) : bankN G = G.a * G.b := by rw [bankN, if_pos h]
theorem bankN_no {G : Geo} (h : gOk G = false) : bankN G = 0 := by rw [bankN, if_neg (by simp [h])]
theorem bankN_bd (G : Geo) : 0 ≤ bankN G ∧ bankN G ≤ 8 := by
  unfold bankN
  split
  · rename_i h
    obtain ⟨⟨a0, a1⟩, ⟨b0, b1⟩, _⟩ := gOk_iff.1 h
    obtain ha | ha : G.a = 1 ∨ G.a = 2 := by omega
    all_goals rw [ha]; omega
  · omega
theorem bankN_pos {G : Geo} (h : gOk G = true) : 1 ≤ bankN G := by
  rw [bankN_yes h]
  obtain ⟨⟨a0, a1⟩, ⟨b0, b1⟩, _⟩ := gOk_iff.1 h
  obtain ha | ha : G.a = 1 ∨ G.a = 2 := by omega
  all_goals rw [ha]; omega
theorem gOk_of_bank {G : Geo} (h : 1 ≤ bankN G) : gOk G = true := by
  cases hg : gOk G with
  | true => rfl
  | false => rw [bankN_no hg] at h; omega

theorem wrapG {G : Geo} (hg : gOk G = true) : wrap64 (G.a * G.b) = bankN G ∧ IntKind.i64.wrap (G.a * G.b) = bankN G := by
  have h := bankN_bd G
  rw [bankN_yes hg] at h ⊢
  exact ⟨IntWalk.wrap64_in _ (by omega), IntWalk.i64_in _ (by omega)⟩
/-- How many lines there are. -/
def rowsN (G : Geo) : Int := if gOk G then bankN G * G.r else 0
def lineN (G : Geo) : Int := if gOk G then bankN G * G.r * G.c else 0
theorem mul_le_of {x y a b : Int} (h0 : 0 ≤ x) (h1 : x ≤ a) (h2 : 0 ≤ y) (h3 : y ≤ b) : 0 ≤ x * y ∧ x * y ≤ a * b :=
  ⟨Int.mul_nonneg h0 h2, Int.mul_le_mul h1 h3 h2 (by omega)⟩
theorem rowsN_yes {G : Geo} (h : gOk G = true) : rowsN G = bankN G * G.r := by rw [rowsN, if_pos h]
theorem rowsN_bd (G : Geo) : 0 ≤ rowsN G ∧ rowsN G ≤ 128 := by
  unfold rowsN
  split
  · rename_i h
    obtain ⟨_, _, ⟨r0, r1⟩, _⟩ := gOk_iff.1 h
    have := mul_le_of (bankN_bd G).1 (bankN_bd G).2 (show 0 ≤ G.r by omega) r1
    omega
  · omega
theorem lineN_yes {G : Geo} (h : gOk G = true) : lineN G = bankN G * G.r * G.c := by rw [lineN, if_pos h]
theorem lineN_no {G : Geo} (h : gOk G = false) : lineN G = 0 := by rw [lineN, if_neg (by simp [h])]
theorem rowsN_no {G : Geo} (h : gOk G = false) : rowsN G = 0 := by rw [rowsN, if_neg (by simp [h])]
theorem lineN_bd (G : Geo) : 0 ≤ lineN G ∧ lineN G ≤ 1024 := by
  unfold lineN
  split
  · rename_i h
    obtain ⟨_, _, ⟨r0, r1⟩, ⟨c0, c1⟩⟩ := gOk_iff.1 h
    have h1 := rowsN_bd G
    rw [rowsN_yes h] at h1
    have := mul_le_of h1.1 h1.2 (show 0 ≤ G.c by omega) c1
    omega
  · omega
theorem wrapR (G : Geo) (hg : gOk G = true) : wrap64 (bankN G * G.r) = rowsN G ∧ IntKind.i64.wrap (bankN G * G.r) = rowsN G := by
  have h := rowsN_bd G
  rw [rowsN_yes hg] at h ⊢
  exact ⟨IntWalk.wrap64_in _ (by omega), IntWalk.i64_in _ (by omega)⟩
theorem wrapL (G : Geo) (hg : gOk G = true) : wrap64 (rowsN G * G.c) = lineN G ∧ IntKind.i64.wrap (rowsN G * G.c) = lineN G := by
  have h := lineN_bd G
  rw [lineN_yes hg, ← rowsN_yes hg] at h ⊢
  exact ⟨IntWalk.wrap64_in _ (by omega), IntWalk.i64_in _ (by omega)⟩
/-- A new block that holds some cells. -/
theorem box_cell (w : World) (l : List Value) (t : TypeId) (j : Nat) : (w.alloc (.cells l.toArray t)).cell? ⟨w.heap.size, j, none⟩ = l[j]? := by
  rw [cell_of_row _ w.heap.size j l.toArray t (0, 0) (heap_alloc_new w _)]; simp
/-- The cells of a boxed geometry. -/
structure BoxG (w : World) (g : Nat) (G : Geo) : Prop where
  lt : g < w.heap.size
  c0 : w.cell? ⟨g, 0, none⟩ = some (.int .i64 G.a)
  c1 : w.cell? ⟨g, 1, none⟩ = some (.int .i64 G.b)
  c2 : w.cell? ⟨g, 2, none⟩ = some (.int .i64 G.r)
  c3 : w.cell? ⟨g, 3, none⟩ = some (.int .i64 G.c)
theorem BoxG.new (w : World) (t : TypeId) (G : Geo) : BoxG (w.alloc (.cells #[.int .i64 G.a, .int .i64 G.b, .int .i64 G.r, .int .i64 G.c] t)) w.heap.size G :=
  have h := box_cell w [.int .i64 G.a, .int .i64 G.b, .int .i64 G.r, .int .i64 G.c] t
  ⟨by simp, h 0, h 1, h 2, h 3⟩
theorem BoxG.old {w w' : World} {g : Nat} {G : Geo} (h : BoxG w g G) (hb : Below w.heap.size w w') : BoxG w' g G :=
  ⟨Nat.lt_of_lt_of_le h.lt hb.size, (hb.cell (p := ⟨g, 0, none⟩) h.lt).trans h.c0, (hb.cell (p := ⟨g, 1, none⟩) h.lt).trans h.c1, (hb.cell (p := ⟨g, 2, none⟩) h.lt).trans h.c2, (hb.cell (p := ⟨g, 3, none⟩) h.lt).trans h.c3⟩

theorem specGeometryOk_any (G : Geo) (w : World) :
    Calls Tryd.prog 62 #[.agg #[.int .i64 G.a, .int .i64 G.b, .int .i64 G.r, .int .i64 G.c]] w fun e w' => e = .returned (.bool (gOk G)) ∧ Below w.heap.size w w' := by
  have hg : gOk G = (inB G.a 1 2 && inB G.b 1 4 && inB G.r 2 16 && inB G.c 1 8) := rfl
  have HG := hid hg
  clear hg
  generalize hA : inB G.a 1 2 = A at *
  generalize hB : inB G.b 1 4 = B at *
  generalize hR : inB G.r 2 16 = R at *
  generalize hC : inB G.c 1 8 = C at *
  cases A <;> cases B <;> cases R <;> cases C
  all_goals
    go_enter Tryd.func62, Tryd.ntmps62
    go_wp2_with (go_at_call 37; refine (l01In_any _ _ _ _).mono ?_; rintro e w' ⟨rfl, rfl⟩)
    go_ret
    exact ⟨by rw [HG.out]; rfl, (Below.refl _ _).alloc (Nat.le_refl _) _⟩

theorem specBankCount_any (G : Geo) (w : World) :
    Calls Tryd.prog 50 #[.agg #[.int .i64 G.a, .int .i64 G.b, .int .i64 G.r, .int .i64 G.c]] w fun e w' => e = .returned (.int .i64 (bankN G)) ∧ Below w.heap.size w w' := by
  cases hg : gOk G with
  | true =>
    have hm := hid (wrapG hg).1
    go_enter Tryd.func50, Tryd.ntmps50
    go_wp2_with fail
    refine (specGeometryOk_any _ _).mono ?_
    rintro e w1 ⟨rfl, B⟩
    rw [hg]
    obtain ⟨hc, hf⟩ := bcell B
    have hsz := B.size
    simp only [World.size_alloc] at hsz
    go_wp2_with fail
    go_ret
    exact ⟨by rw [← hm.out]; rfl, below_step ((Below.refl _ _).alloc (Nat.le_refl _) _) B (Nat.le_refl _)⟩
  | false =>
    have HN := hid (bankN_no hg)
    go_enter Tryd.func50, Tryd.ntmps50
    go_wp2_with fail
    refine (specGeometryOk_any _ _).mono ?_
    rintro e w1 ⟨rfl, B⟩
    rw [hg]
    go_wp2_with fail
    go_ret
    exact ⟨by rw [HN.out]; rfl, below_step ((Below.refl _ _).alloc (Nat.le_refl _) _) B (Nat.le_refl _)⟩

/-- An address. -/
structure Adr where
  b : Int
  r : Int
  c : Int
def adrOk (G : Geo) (A : Adr) : Bool := inB A.b 0 (bankN G - 1) && inB A.r 0 (G.r - 1) && inB A.c 0 (G.c - 1)
theorem adrOk_geo {G : Geo} {A : Adr} (h : inB A.b 0 (bankN G - 1) = true) : gOk G = true := gOk_of_bank (by have := inB_iff.1 h; omega)
theorem adrOk_no {G : Geo} (A : Adr) (h : gOk G = false) : inB A.b 0 (bankN G - 1) = false := by
  cases hb : inB A.b 0 (bankN G - 1) with
  | false => rfl
  | true => rw [adrOk_geo hb] at h; cases h
/-- The cells of a boxed address. -/
structure BoxA (w : World) (g : Nat) (A : Adr) : Prop where
  lt : g < w.heap.size
  c0 : w.cell? ⟨g, 0, none⟩ = some (.int .i64 A.b)
  c1 : w.cell? ⟨g, 1, none⟩ = some (.int .i64 A.r)
  c2 : w.cell? ⟨g, 2, none⟩ = some (.int .i64 A.c)
theorem BoxA.new (w : World) (t : TypeId) (A : Adr) : BoxA (w.alloc (.cells #[.int .i64 A.b, .int .i64 A.r, .int .i64 A.c] t)) w.heap.size A :=
  have h := box_cell w [.int .i64 A.b, .int .i64 A.r, .int .i64 A.c] t
  ⟨by simp, h 0, h 1, h 2⟩
theorem BoxA.new_ (w : World) (t : TypeId) (A : Adr) {g : Nat} (h : w.heap.size = g) : BoxA (w.alloc (.cells #[.int .i64 A.b, .int .i64 A.r, .int .i64 A.c] t)) g A := by subst h; exact BoxA.new w t A
theorem BoxA.old {w w' : World} {g : Nat} {A : Adr} (h : BoxA w g A) (hb : Below w.heap.size w w') : BoxA w' g A :=
  ⟨Nat.lt_of_lt_of_le h.lt hb.size, (hb.cell (p := ⟨g, 0, none⟩) h.lt).trans h.c0, (hb.cell (p := ⟨g, 1, none⟩) h.lt).trans h.c1, (hb.cell (p := ⟨g, 2, none⟩) h.lt).trans h.c2⟩


theorem l01In_of {n lo hi : Int} {w : World} {b : Bool} (h : inB n lo hi = b) : Calls Tryd.prog 37 #[.int .i64 n, .int .i64 lo, .int .i64 hi] w fun e w' => e = .returned (.bool b) ∧ w = w' := by subst h; exact l01In_any _ _ _ _
theorem between_of {n lo hi : Int} {w : World} {b : Bool} (h : inB n lo hi = b) : Calls Tryd.prog 39 #[.int .i64 n, .int .i64 lo, .int .i64 hi] w fun e w' => e = .returned (.bool b) ∧ w = w' := by subst h; exact between_any _ _ _ _
theorem specGeometryOk_of {G : Geo} {w : World} {b : Bool} (h : gOk G = b) : Calls Tryd.prog 62 #[.agg #[.int .i64 G.a, .int .i64 G.b, .int .i64 G.r, .int .i64 G.c]] w fun e w' => e = .returned (.bool b) ∧ Below w.heap.size w w' := by subst h; exact specGeometryOk_any _ _
theorem specAddrOk_any (G : Geo) (A : Adr) (w : World) :
    Calls Tryd.prog 76 #[.agg #[.int .i64 G.a, .int .i64 G.b, .int .i64 G.r, .int .i64 G.c], .agg #[.int .i64 A.b, .int .i64 A.r, .int .i64 A.c]] w fun e w' => e = .returned (.bool (adrOk G A)) ∧ Below w.heap.size w w' := by
  have hb := bankN_bd G
  have e1 : IntKind.i64.wrap (bankN G - 1) = bankN G - 1 := IntWalk.i64_in _ (by omega)
  have hA : adrOk G A = (inB A.b 0 (bankN G - 1) && inB A.r 0 (G.r - 1) && inB A.c 0 (G.c - 1)) := rfl
  cases k1 : inB A.b 0 (bankN G - 1) with
  | false =>
    rw [k1] at hA
    have HA := hid hA
    clear hA
    go_enter Tryd.func76, Tryd.ntmps76
    go_wp2_with fail
    refine wp_world (fun w1 hw => ?_)
    have X : BoxG w1 w.heap.size G := by rw [hw.out]; exact (BoxG.new _ _ _).old (below_alloc _ _)
    have Y : BoxA w1 (w.heap.size + 1) A := by rw [hw.out]; exact BoxA.new_ (w.alloc _) _ _ (by simp)
    have B : Below w.heap.size w w1 := by rw [hw.out]; exact below_step (below_alloc _ _) (below_alloc _ _) (Nat.le_refl _)
    obtain ⟨hlt, c0, c1, c2, c3⟩ := X
    obtain ⟨hlt', d0, d1, d2⟩ := Y
    have hov := over_cell w1
    clear hb
    refine wp_region_over (by kernel_rfl) (by kernel_rfl) ?_
    repeat (go_big_quiet_step ((first | (go_at_call 50; exact calls_over (specBankCount_any _ _)) | (go_at_call 37; with_reducible exact calls_over_same (l01In_of k1)))))
    refine wpQuiet_nil ?_
    intro w2 B2
    go_wp2_with fail
    go_ret
    exact ⟨by rw [HA.out]; rfl, below_step B B2 (Nat.le_refl _)⟩
  | true =>
    have kg := adrOk_geo k1
    obtain ⟨_, _, ⟨r0, r1⟩, ⟨q0, q1⟩⟩ := gOk_iff.1 kg
    have e2 : IntKind.i64.wrap (G.r - 1) = G.r - 1 := IntWalk.i64_in _ (by omega)
    have e3 : IntKind.i64.wrap (G.c - 1) = G.c - 1 := IntWalk.i64_in _ (by omega)
    clear r0 r1 q0 q1
    rw [k1] at hA
    cases k2 : inB A.r 0 (G.r - 1) with
    | false =>
      rw [k2] at hA
      have HA := hid hA
      clear hA
      go_enter Tryd.func76, Tryd.ntmps76
      go_wp2_with fail
      refine wp_world (fun w1 hw => ?_)
      have X : BoxG w1 w.heap.size G := by rw [hw.out]; exact (BoxG.new _ _ _).old (below_alloc _ _)
      have Y : BoxA w1 (w.heap.size + 1) A := by rw [hw.out]; exact BoxA.new_ (w.alloc _) _ _ (by simp)
      have B : Below w.heap.size w w1 := by rw [hw.out]; exact below_step (below_alloc _ _) (below_alloc _ _) (Nat.le_refl _)
      obtain ⟨hlt, c0, c1, c2, c3⟩ := X
      obtain ⟨hlt', d0, d1, d2⟩ := Y
      have hov := over_cell w1
      clear hb
      refine wp_region_over (by kernel_rfl) (by kernel_rfl) ?_
      repeat (go_big_quiet_step ((first | (go_at_call 50; exact calls_over (specBankCount_any _ _)) | (go_at_call 37; with_reducible exact calls_over_same (l01In_of k1)) | (go_at_call 37; with_reducible exact calls_over_same (l01In_of k2)))))
      refine wpQuiet_nil ?_
      intro w2 B2
      go_wp2_with fail
      go_ret
      exact ⟨by rw [HA.out]; rfl, below_step B B2 (Nat.le_refl _)⟩
    | true =>
      cases k3 : inB A.c 0 (G.c - 1)
      all_goals
        rw [k2, k3] at hA
        have HA := hid hA
        clear hA
        go_enter Tryd.func76, Tryd.ntmps76
        go_wp2_with fail
        refine wp_world (fun w1 hw => ?_)
        have X : BoxG w1 w.heap.size G := by rw [hw.out]; exact (BoxG.new _ _ _).old (below_alloc _ _)
        have Y : BoxA w1 (w.heap.size + 1) A := by rw [hw.out]; exact BoxA.new_ (w.alloc _) _ _ (by simp)
        have B : Below w.heap.size w w1 := by rw [hw.out]; exact below_step (below_alloc _ _) (below_alloc _ _) (Nat.le_refl _)
        obtain ⟨hlt, c0, c1, c2, c3⟩ := X
        obtain ⟨hlt', d0, d1, d2⟩ := Y
        have hov := over_cell w1
        clear hb
        refine wp_region_over (by kernel_rfl) (by kernel_rfl) ?_
        repeat (go_big_quiet_step ((first | (go_at_call 50; exact calls_over (specBankCount_any _ _)) | (go_at_call 37; with_reducible exact calls_over_same (l01In_of k1)) | (go_at_call 37; with_reducible exact calls_over_same (l01In_of k2)) | (go_at_call 37; with_reducible exact calls_over_same (l01In_of k3)))))
        refine wpQuiet_nil ?_
        intro w2 B2
        go_wp2_with fail
        go_ret
        exact ⟨by rw [HA.out]; rfl, below_step B B2 (Nat.le_refl _)⟩
end Go.Proofs.YtggjheapjklhgaaDoor
