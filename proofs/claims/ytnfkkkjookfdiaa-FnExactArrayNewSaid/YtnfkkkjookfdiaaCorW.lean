/- Syndromes, WordOk, DataOf, EncodeSymbols, CorrectWord: what the program's and the reference's calls return, for every slice. -/
import Derived.Test.YtnfkkkjookfdiaaEncW
import Derived.Test.YtnfkkkjookfdiaaCorP
import Derived.Test.YtnfkkkjookfdiaaLin
namespace Go.Proofs.Ytnfkkkjookfdiaa
open Go.RowKit

/-- The syndromes; none of what is no word. -/
def synR (xs : List Int) : List Int := if symOk xs 11 then syn xs else []
theorem symOk_len {xs : List Int} {n : Nat} (h : symOk xs n = true) : xs.length = n := by
  simp only [symOk, Bool.and_eq_true, beq_iff_eq] at h; omega
theorem symOk_el {xs : List Int} {n : Int} (h : symOk xs n = true) : xs.all (fun x => inB x 0 15) = true := by
  simp only [symOk, Bool.and_eq_true] at h; exact h.1
theorem length_synR (xs : List Int) : (synR xs).length ≤ 3 := by unfold synR; split <;> simp [syn]

theorem implSyndromes_any (a : Option Addr) (m c : Nat) (xs : List Int) (w : World) (hx : IntsR w a xs) (hm : m = xs.length) (hl : xs.length ≤ 1048576) :
    Calls Try.prog 57 #[.slice a m c] w fun e w' => ∃ a' n' c', e = .returned (.slice a' n' c') ∧ OwnS w' w.heap.size a' n' c' (synR xs) ∧ Below w.heap.size w w' := by
  by_cases hok : symOk xs 11 = true
  · have h11 := symOk_len (n := 11) hok
    rw [h11] at hm
    subst hm
    refine (implSyndromes_yes a c xs w hx h11 hok).mono ?_
    rintro e w' ⟨g, he, hg, hr, hb⟩
    exact ⟨_, _, _, he, by rw [synR, if_pos hok]; exact OwnS.of_row hr hg, hb⟩
  · refine (implSyndromes_no a m c xs w hx hm hl (by simpa using hok)).mono ?_
    rintro e w' ⟨he, q, rfl⟩
    exact ⟨_, _, _, he, by rw [synR, if_neg hok]; exact OwnS.empty _ _ _ _, below_ofDrewN _ _ _⟩
/-- The codeword; none of what is no data. -/
def encR (xs : List Int) : List Int := if symOk xs 8 then encI xs else []
theorem length_encR (xs : List Int) : (encR xs).length ≤ 11 := by
  unfold encR; split
  · rename_i h; have := symOk_len (n := 8) h; simp [encI, this]
  · simp
theorem implEncodeSymbols_any (a : Option Addr) (m c : Nat) (xs : List Int) (w : World) (hx : IntsR w a xs) (hm : m = xs.length) (hl : xs.length ≤ 1048576) :
    Calls Try.prog 20 #[.slice a m c] w fun e w' => ∃ a' n' c', e = .returned (.slice a' n' c') ∧ OwnS w' w.heap.size a' n' c' (encR xs) ∧ Below w.heap.size w w' := by
  by_cases hok : symOk xs 8 = true
  · have h8 := symOk_len (n := 8) hok
    rw [h8] at hm
    subst hm
    refine (implEncodeSymbols_yes a c xs w hx h8 hok).mono ?_
    rintro e w' ⟨g, cap, he, hg, hr, hb⟩
    exact ⟨_, _, _, he, by rw [encR, if_pos hok]; exact OwnS.of_row hr hg, hb⟩
  · have hok' : symOk xs 8 = false := by simpa using hok
    have HX := hid hx
    have HM := hid hm
    clear hx hm
    go_enter Try.func20, Try.ntmps20
    go_wp2_with (go_at_call 53; refine (implSymbolsOk_any _ _ _ _ _ _ HX.out HM.out hl).mono ?_; rintro e w' ⟨rfl, q, rfl⟩)
    go_ret
    exact ⟨_, _, _, rfl, by rw [encR, if_neg (by simp [hok'])]; exact OwnS.empty _ _ _ _, below_ofDrewN _ _ _⟩
/-- The data of a word. -/
def dataR (xs : List Int) : List Int := if symOk xs 11 then xs.drop 3 else []
theorem length_dataR (xs : List Int) : (dataR xs).length ≤ 8 := by
  unfold dataR; split
  · rename_i h; have := symOk_len (n := 11) h; simp [this]
  · simp
theorem implDataOf_any (a : Option Addr) (m c : Nat) (xs : List Int) (w : World) (hx : IntsR w a xs) (hm : m = xs.length) (hc : m ≤ c) (hl : xs.length ≤ 1048576) :
    Calls Try.prog 77 #[.slice a m c] w fun e w' => ∃ a' n' c', e = .returned (.slice a' n' c') ∧ OwnS w' w.heap.size a' n' c' (dataR xs) ∧ Below w.heap.size w w' := by
  have HX := hid hx
  have HM := hid hm
  clear hx hm
  by_cases hok : symOk xs 11 = true
  · have h11 := symOk_len (n := 11) hok
    have hm11 : m = 11 := by rw [HM.out, h11]
    subst hm11
    obtain ⟨x0, hx0⟩ := some_at (xs := xs) (k := 0) HM.out (by omega)
    obtain ⟨b, o, rfl, hb, _⟩ := HX.out 0 x0 hx0
    have H11 := hid h11
    clear hx0 h11
    go_enter Try.func77, Try.ntmps77
    go_wp2_with (first
      | (go_at_call 53; refine (implSymbolsOk_any _ _ _ _ _ _ HX.out HM.out hl).mono ?_; rintro e w' ⟨rfl, q, rfl⟩)
      | (at_builtin; refine wpList_append_ints rfl _ _ rfl _ w.heap.size w.heap.size 0 0 [] (IRow.empty (w.drewN q)) (Nat.le_refl _) rfl _ 8 (c - 3) (xs.drop 3) (((HX.out.drop 3).drewN q).old ((Below.refl _ _).alloc (by simp) _)) (by simp [H11.out]) rfl 8 rfl (by omega) (by simp) ?_; intro g cap w1 hg hrow hbel))
    go_ret
    exact ⟨_, _, _, rfl, by rw [dataR, if_pos hok]; exact OwnS.of_row hrow hg, ((below_ofDrewN _ _ _).alloc (by simp) _).trans hbel⟩
  · have hok' : symOk xs 11 = false := by simpa using hok
    go_enter Try.func77, Try.ntmps77
    go_wp2_with (go_at_call 53; refine (implSymbolsOk_any _ _ _ _ _ _ HX.out HM.out hl).mono ?_; rintro e w' ⟨rfl, q, rfl⟩)
    go_ret
    exact ⟨_, _, _, rfl, by rw [dataR, if_neg hok]; exact OwnS.empty _ _ _ _, below_ofDrewN _ _ _⟩

/-- Whether it is a codeword. -/
def wordOkB (xs : List Int) : Bool := symOk xs 11 && zeroB (synN xs 0 11) (synN xs 1 11) (synN xs 2 11)

set_option maxRecDepth 100000 in
theorem implWordOk_any (a : Option Addr) (m c : Nat) (xs : List Int) (w : World) (hx : IntsR w a xs) (hm : m = xs.length) (hl : xs.length ≤ 1048576) :
    Calls Try.prog 100 #[.slice a m c] w fun e w' => e = .returned (.bool (wordOkB xs)) ∧ Below w.heap.size w w' := by
  have hnil := fun w a n c => Go.run_neq_slice_nil_any (P := Try.prog) w 22 3 a n c 0 0 Try.underlying22
  by_cases hok : symOk xs 11 = true
  · have h11 := symOk_len (n := 11) hok
    have hm11 : m = 11 := by rw [hm, h11]
    subst hm11
    have HX := hid hx
    clear hx hm
    have HB : Hid (wordOkB xs = zeroB (synN xs 0 11) (synN xs 1 11) (synN xs 2 11)) := by show _ = _; rw [wordOkB, hok, Bool.true_and]
    have H11 := hid h11
    clear h11
    go_enter Try.func100, Try.ntmps100
    go_wp2_with fail
    refine (implSyndromes_yes _ _ _ _ HX.out H11.out hok).mono ?_
    rintro e w1 ⟨g, rfl, hg, R, B⟩
    unfold syn at R
    have c0 := R.cell (i := 0) rfl
    have c1 := R.cell (i := 1) rfl
    have c2 := R.cell (i := 2) rfl
    generalize synN xs 0 11 = s0 at *
    generalize synN xs 1 11 = s1 at *
    generalize synN xs 2 11 = s2 at *
    clear R
    go_wp2
    all_goals go_ret
    all_goals exact ⟨by rw [HB.out]; simp [zeroB, *], B⟩
  · have hok' : symOk xs 11 = false := by simpa using hok
    have HB : Hid (wordOkB xs = false) := by show _ = _; rw [wordOkB, hok', Bool.false_and]
    have HX := hid hx
    have HM := hid hm
    clear hx hm
    go_enter Try.func100, Try.ntmps100
    go_wp2_with fail
    refine (implSyndromes_no _ _ _ _ _ HX.out HM.out hl hok').mono ?_
    rintro e w1 ⟨rfl, q, rfl⟩
    have hn2 := fun w => hnil w none 0 0
    simp only [Option.isNone_none, Bool.not_true] at hn2
    clear hnil
    go_wp2
    go_ret
    exact ⟨by rw [HB.out]; rfl, below_ofDrewN _ _ _⟩

/-- The syndromes of a word are elements. -/
theorem syn_el {xs : List Int} (h : symOk xs 11 = true) (j : Nat) (hj : j < 3) : inB (synN xs j 11) 0 15 = true := by
  obtain ⟨ys, rfl⟩ := list_tI xs (symOk_el h)
  rw [synN_tI ys j 11 (Nat.le_refl _) hj]
  exact tI_elem _
/-- What CorrectWord returns. -/
def corR (xs : List Int) : List Int × Int × Int := if symOk xs 11 then corS xs (synN xs 0 11) (synN xs 1 11) (synN xs 2 11) else ([], 2, -1)

set_option maxRecDepth 100000 in
theorem implCorrectWord_yes (a : Option Addr) (c : Nat) (xs : List Int) (s0 s1 s2 : Int) (w : World) (hx : IntsR w a xs) (hm : xs.length = 11) (hok : symOk xs 11 = true) (e0 : synN xs 0 11 = s0) (e1 : synN xs 1 11 = s1) (e2 : synN xs 2 11 = s2)
    (i0 : inB s0 0 15 = true) (i1 : inB s1 0 15 = true) (cl : List Int) (cc ca : Int) (hcor : corS xs s0 s1 s2 = (cl, cc, ca)) :
    Calls Try.prog 75 #[.slice a 11 c] w fun e w' => ∃ g cap, e = .returned (.tuple #[.slice (some ⟨g, 0, none⟩) 11 cap, .int .i64 cc, .int .i64 ca]) ∧ w.heap.size ≤ g ∧ IRow w' g 11 cap cl ∧ Below w.heap.size w w' := by
  have hnil := fun w a n c => Go.Lib.run_eql_slice_nil (P := Try.prog) w 22 3 a n c 0 0 Try.underlying22
  have HX := hid hx
  have HM := hid hm
  have HW : Hid (wordOkB xs = zeroB s0 s1 s2) := by show _ = _; rw [wordOkB, hok, Bool.true_and, e0, e1, e2]
  have HS : Hid (syn xs = [s0, s1, s2]) := by show _ = _; rw [syn, e0, e1, e2]
  have HC := hid hcor
  clear hx hm e0 e1 e2 hcor
  go_enter Try.func75, Try.ntmps75
  go_wp2_with fail
  refine (implSyndromes_yes _ _ _ _ HX.out HM.out hok).mono ?_
  rintro e w1 ⟨gs, rfl, hgs, S, B1⟩
  rw [HS.out] at S
  have hlt := S.lt
  have hE := IRow.empty w1
  have XA := (HX.out.old B1).old ((Below.refl w1.heap.size w1).alloc (Nat.le_refl _) (.cells #[] 3))
  have HXA := hid XA
  have HE := hid hE
  clear XA hE
  go_wp2_with (at_builtin; refine wpList_append_ints rfl _ _ rfl _ w1.heap.size w1.heap.size 0 0 [] HE.out (Nat.le_refl _) rfl _ 11 c xs HXA.out HM.out.symm rfl 11 rfl (by omega) (by simp) ?_; intro g cap w2 hg hrow hbel)
  have hlg := hrow.lt
  have hgw : w.heap.size ≤ g := by have := B1.size; omega
  have B12 : Below w1.heap.size w1 w2 := ((Below.refl _ _).alloc (Nat.le_refl _) (.cells #[] 3)).trans hbel
  have S2 := S.old B12
  have XW := (HX.out.old B1).old B12
  have HXW := hid XW
  have HS2 := hid S2
  have HR2 : Hid (IRow w2 g 11 cap xs) := hrow
  have HB2 := hid (below_step B1 B12 (Nat.le_refl _))
  have hsz := HB2.out.size
  clear S XW S2 hrow hbel B12 B1 HE HXA hlt hnil
  go_wp2_with fail
  refine (implWordOk_any _ _ _ _ _ HXW.out HM.out.symm (by rw [HM.out]; omega)).mono ?_
  rintro e w3 ⟨rfl, B3⟩
  rw [HW.out]
  have S3 := HS2.out.old B3
  have R3 := HR2.out.old B3
  have c0 := S3.cell (i := 0) rfl
  have c1 := S3.cell (i := 1) rfl
  have c2 := S3.cell (i := 2) rfl
  have HB3 := hid (below_step HB2.out B3 (Nat.le_refl _))
  have HR3 := hid R3
  clear S3 R3 HR2 HS2 HXW HB2 B3
  by_cases hz : zeroB s0 s1 s2 = true
  · have hc := HC.out
    rw [corS_clean xs hz] at hc
    simp only [Prod.mk.injEq] at hc
    obtain ⟨rfl, rfl, rfl⟩ := hc
    go_wp2_with fail
    go_ret3
    exact ⟨g, cap, rfl, hgw, HR3.out, HB3.out⟩
  have hz' : zeroB s0 s1 s2 = false := by simpa using hz
  by_cases h0 : s0 = 0
  · have hc := HC.out
    rw [corS_lost xs hz' (locI_zero0 h0)] at hc
    simp only [Prod.mk.injEq] at hc
    obtain ⟨rfl, rfl, rfl⟩ := hc
    have hb : (s0 != 0) = false := by simp [h0]
    clear h0
    go_wp2_with fail
    go_ret3
    exact ⟨g, cap, rfl, hgw, HR3.out, HB3.out⟩
  by_cases h1 : s1 = 0
  · have hc := HC.out
    rw [corS_lost xs hz' (locI_zero1 h1)] at hc
    simp only [Prod.mk.injEq] at hc
    obtain ⟨rfl, rfl, rfl⟩ := hc
    have hb : (s0 != 0) = true := by simp [h0]
    have hb1 : (s1 != 0) = false := by simp [h1]
    clear h0 h1
    go_wp2_with fail
    go_ret3
    exact ⟨g, cap, rfl, hgw, HR3.out, HB3.out⟩
  have hb : (s0 != 0) = true := by simp [h0]
  have hb1 : (s1 != 0) = true := by simp [h1]
  have hlog := log_nonneg i0 i1 h0 h1
  have hno := locI_no (s2 := s2) h0 h1
  have hyes := locI_yes (s2 := s2) h0 h1
  generalize hxe : gfMul s1 (gfInv s0) = x at *
  generalize hLe : gfLog x = L at *
  have HXE := hid hxe
  have HLE := hid hLe
  clear hxe hLe h0 h1
  obtain ⟨k, rfl⟩ := Int.eq_ofNat_of_zero_le hlog
  go_wp2_with fail
  go_quiet ((first | (go_at_call 58; exact quietS (implGfInv_any _ _)) | (go_at_call 59; exact quietS (implGfMul_any _ _ _))))
  rw [HXE.out]
  replace c0 : (w3.drewN nq).cell? ⟨gs, 0, none⟩ = some (.int .i64 s0) := c0
  replace c1 : (w3.drewN nq).cell? ⟨gs, 1, none⟩ = some (.int .i64 s1) := c1
  replace c2 : (w3.drewN nq).cell? ⟨gs, 2, none⟩ = some (.int .i64 s2) := c2
  replace HR3 : Hid (IRow (w3.drewN nq) g 11 cap xs) := HR3
  replace HB3 := hid (below_drewN HB3.out nq)
  generalize w3.drewN nq = w5 at *
  go_wp2_with fail
  refine (implGfLog_any _ _).mono ?_
  rintro e w4 ⟨rfl, rfl⟩
  rw [HLE.out]
  go_wp2_with fail
  by_cases hL : k < 11
  · have hki : (k : Int) < 11 := by omega
    by_cases hm : gfMul s1 x = s2
    · obtain ⟨y, hy⟩ := some_at (xs := xs) (k := k) HM.out.symm hL
      have hc := HC.out
      rw [corS_fixed xs hz' (hyes ⟨by omega, hm⟩) hy] at hc
      simp only [Prod.mk.injEq] at hc
      obtain ⟨rfl, rfl, rfl⟩ := hc
      have HY := hid hy
      have hme : (gfMul s1 x == s2) = true := by simp [hm]
      clear hy hm hyes hno
      go_quiet ((go_at_call 59; exact quietS (implGfMul_any _ _ _)))
      go_wp2_with fail
      replace c0 : (w5.drewN nq).cell? ⟨gs, 0, none⟩ = some (.int .i64 s0) := c0
      replace HR3 : Hid (IRow (w5.drewN nq) g 11 cap xs) := HR3
      replace HB3 := hid (below_drewN HB3.out nq)
      generalize w5.drewN nq = w6 at *
      have r := HR3.out.cell HY.out
      have f := HR3.out.frozen k
      have HR4 := hid (HR3.out.set k (bits .xor .i64 y s0)).1
      have HB4 := hid (HB3.out.setCell (p := ⟨g, k, none⟩) hgw (.int .i64 (bits .xor .i64 y s0)))
      refine wp_region_still_tail 9 (by kernel_rfl) (by kernel_rfl) ?_
      simp only [List.take_succ_cons, List.take_zero, List.drop_succ_cons, List.drop_zero]
      repeat still_step
      refine wpStill_nil ?_
      go_wp2
      go_ret3
      exact ⟨g, cap, rfl, hgw, HR4.out, HB4.out.drew⟩
    · have hc := HC.out
      rw [corS_lost xs hz' (hno (by intro h; exact hm h.2))] at hc
      simp only [Prod.mk.injEq] at hc
      obtain ⟨rfl, rfl, rfl⟩ := hc
      have hme : (gfMul s1 x == s2) = false := by simp [hm]
      clear hm hyes hno
      go_quiet ((go_at_call 59; exact quietS (implGfMul_any _ _ _)))
      go_wp2_with fail
      go_ret3
      exact ⟨g, cap, rfl, hgw, HR3.out, below_drewN HB3.out nq⟩
  · have hc := HC.out
    rw [corS_lost xs hz' (hno (by intro h; have := h.1; omega))] at hc
    simp only [Prod.mk.injEq] at hc
    obtain ⟨rfl, rfl, rfl⟩ := hc
    have hki : decide ((k : Int) < 11) = false := by simp; omega
    clear hyes hno
    go_quiet ((go_at_call 59; exact quietS (implGfMul_any _ _ _)))
    go_wp2_with fail
    go_ret3
    exact ⟨g, cap, rfl, hgw, HR3.out, below_drewN HB3.out nq⟩

end Go.Proofs.Ytnfkkkjookfdiaa
