/- The text of a command: FormatCommand, the program's and the reference's. -/
import Derived.Test.YtggjheapjklhgaaDoorTxP
import Derived.Test.YtggjheapjklhgaaDoorInv
import Derived.StillTail
import Derived.Deep.Cut
namespace Go.Proofs.YtggjheapjklhgaaDoor
open Go.RowKit
def wordsL : List (List UInt8) := [[], [97, 99, 116], [114, 101, 97, 100], [119, 114, 105, 116, 101], [112, 114, 101], [114, 101, 102], [100, 111, 119, 110], [117, 112], [115, 108, 101, 101, 112], [119, 97, 107, 101]]
def wordL (k : Int) : List UInt8 := wordsL.getD k.toNat []
/-- The text of a command; of one that is not well formed, none. -/
def cmdText (C : Cmd) : List UInt8 :=
  if formC C = true then wordL C.k ++ ((if usesB C.k = true then 32 :: Lib.itoa C.b else []) ++ ((if usesR C.k = true then 32 :: Lib.itoa C.r else []) ++ (if usesC C.k = true then 32 :: Lib.itoa C.c else []))) else []
theorem wordL_len (k : Int) : (wordL k).length ≤ 5 := by
  unfold wordL
  rw [List.getD_eq_getElem?_getD]
  cases h : wordsL[k.toNat]? with
  | none => simp
  | some x =>
    have hm := List.mem_of_getElem? h
    have : ∀ x ∈ wordsL, x.length ≤ 5 := by decide
    exact this x hm
/-- Block g holds the words. -/
def Words (w : World) (g : Nat) : Prop := g < w.heap.size ∧ ∀ k : Nat, k < 10 → w.cell? ⟨g, k, none⟩ = some (.string ⟨(wordL (k : Int)).toArray⟩)
theorem Words.old {w w' : World} {g : Nat} (h : Words w g) (hb : Below w.heap.size w w') : Words w' g :=
  ⟨Nat.lt_of_lt_of_le h.1 hb.size, fun k hk => (hb.cell (p := ⟨g, k, none⟩) h.1).trans (h.2 k hk)⟩
theorem Words.new (w : World) (t : TypeId) : Words (w.alloc (.cells (wordsL.map fun l => Value.string ⟨l.toArray⟩).toArray t)) w.heap.size := by
  refine ⟨by simp, fun k hk => ?_⟩
  have h := box_at w (wordsL.map fun l => Value.string ⟨l.toArray⟩) t k
  rw [h, List.getElem?_map]
  unfold wordL
  rw [Int.toNat_natCast, List.getD_eq_getElem?_getD, List.getElem?_eq_getElem (show k < wordsL.length from hk)]
  rfl

theorem l06Words_any (w : World) :
    Calls Tryd.prog 23 #[] w fun e w' => ∃ g, e = .returned (.slice (some ⟨g, 0, none⟩) 10 10) ∧ Words w' g ∧ Below w.heap.size w w' := by
  have HW := hid (Words.new w 9)
  go_enter Tryd.func23, Tryd.ntmps23
  go_wp2_with fail
  go_ret
  exact ⟨_, rfl, HW.out, below_alloc _ _⟩
theorem commandWords_any (w : World) :
    Calls Tryd.prog 28 #[] w fun e w' => ∃ g, e = .returned (.slice (some ⟨g, 0, none⟩) 10 10) ∧ Words w' g ∧ Below w.heap.size w w' := by
  have HW := hid (Words.new w 9)
  go_enter Tryd.func28, Tryd.ntmps28
  go_wp2_with fail
  go_ret
  exact ⟨_, rfl, HW.out, below_alloc _ _⟩
theorem specFormatInt_of {n : Int} {l : List UInt8} {w : World} (h : Lib.itoa n = l) (h0 : -9223372036854775808 ≤ n) (h1 : n ≤ 9223372036854775807) :
    Calls Tryd.prog 13 #[.int .i64 n] w fun e w' => e = .returned (.string ⟨l.toArray⟩) ∧ Below w.heap.size w w' := by subst h; exact specFormatInt_any n w h0 h1
theorem implFormatInt_of {n : Int} {l : List UInt8} {w : World} (h : Lib.itoa n = l) (h0 : -9223372036854775808 ≤ n) (h1 : n ≤ 9223372036854775807) (ht : Tab w) :
    Calls Tryd.prog 16 #[.int .i64 n] w fun e w' => e = .returned (.string ⟨l.toArray⟩) ∧ Below w.heap.size w w' := by subst h; exact implFormatInt_any n w h0 h1 ht
theorem l06Uses_of {k : Int} {b r c : Bool} {w : World} (hb : usesB k = b) (hr : usesR k = r) (hc : usesC k = c) :
    Calls Tryd.prog 24 #[.int .i64 k] w fun e w' => e = .returned (.tuple #[.bool b, .bool r, .bool c]) ∧ w = w' := by subst hb hr hc; exact l06Uses_any k w
theorem l06Form_of {C : Cmd} {b : Bool} {w : World} (h : formC C = b) :
    Calls Tryd.prog 22 #[.agg #[.int .i64 C.k, .int .i64 C.b, .int .i64 C.r, .int .i64 C.c]] w fun e w' => e = .returned (.bool b) ∧ Below w.heap.size w w' := by subst h; exact l06Form_any C w
theorem wellFormed_of {C : Cmd} {b : Bool} {w : World} (h : formC C = b) :
    Calls Tryd.prog 27 #[.agg #[.int .i64 C.k, .int .i64 C.b, .int .i64 C.r, .int .i64 C.c], .int .i64 8, .int .i64 16, .int .i64 8] w fun e w' => e = .returned (.bool b) ∧ Below w.heap.size w w' := by
  subst h; rw [formC_eq]; exact wellFormed_any C 8 16 8 w (by decide) (by decide) (by decide) (by decide) (by decide) (by decide)
theorem cmdText_bad {C : Cmd} (h : formC C = false) : cmdText C = [] := by unfold cmdText; rw [h]; rfl
theorem cmdText_good {C : Cmd} {b r c : Bool} {l lb lr lc : List UInt8} (h : formC C = true) (hb : usesB C.k = b) (hr : usesR C.k = r) (hc : usesC C.k = c) (h0 : wordL C.k = l) (h1 : Lib.itoa C.b = lb) (h2 : Lib.itoa C.r = lr) (h3 : Lib.itoa C.c = lc) :
    cmdText C = l ++ ((if b = true then 32 :: lb else []) ++ ((if r = true then 32 :: lr else []) ++ (if c = true then 32 :: lc else []))) := by
  unfold cmdText; rw [if_pos h, hb, hr, hc, h0, h1, h2, h3]
theorem formC_parts {C : Cmd} (h : formC C = true) : (1 ≤ C.k ∧ C.k ≤ 9) ∧ (0 ≤ C.b ∧ C.b ≤ 7) ∧ (0 ≤ C.r ∧ C.r ≤ 15) ∧ (0 ≤ C.c ∧ C.c ≤ 7) := by
  unfold formC at h
  simp only [Bool.and_eq_true, inB_iff] at h
  exact ⟨h.2.1.1.1, h.2.1.1.2, h.2.1.2, h.2.2⟩
theorem uses_cases (k : Int) : (usesB k = false ∧ usesR k = false ∧ usesC k = false) ∨ (usesB k = true ∧ usesR k = false ∧ usesC k = false) ∨ (usesB k = true ∧ usesR k = true ∧ usesC k = false) ∨ (usesB k = true ∧ usesR k = false ∧ usesC k = true) := by
  unfold usesB usesR usesC inB
  by_cases h1 : k = 1
  · subst h1; decide
  by_cases h2 : k = 2
  · subst h2; decide
  by_cases h3 : k = 3
  · subst h3; decide
  have e1 : (k == 1) = false := by simp [h1]
  have e2 : (k == 2) = false := by simp [h2]
  have e3 : (k == 3) = false := by simp [h3]
  rw [e1, e2, e3]
  by_cases h : 1 ≤ k ∧ k ≤ 5
  · simp [h]
  · have : (decide (1 ≤ k) && decide (k ≤ 5)) = false := by rw [Bool.and_eq_false_iff]; simp; omega
    simp [this]
theorem itoa_len {n : Int} {l : List UInt8} (h : Lib.itoa n = l) (h0 : -9223372036854775808 ≤ n) (h1 : n ≤ 9223372036854775807) : l.length ≤ 21 := by subst h; exact Lib.itoa_length_le n h0 h1

theorem gPow : Tryd.prog.globalNamed "internal/strconv.uint64pow10" = some ((Tryd.prog.globalNamed "internal/strconv.uint64pow10").getD 0) := by kernel_rfl
theorem tab_below {w w' : World} (h : Tab w) (hb : Below w.heap.size w w') : Tab w' := by
  have hg := gPow
  generalize (Tryd.prog.globalNamed "internal/strconv.uint64pow10").getD 0 = g at hg
  unfold Tab Lib.TabIs World.var? at h ⊢
  rw [hg, Option.bind_some] at h ⊢
  by_cases hlt : g < w.heap.size
  · rw [hb.block g hlt]; exact h
  · rw [Array.getElem?_eq_none (Nat.le_of_not_lt hlt)] at h; cases h
set_option maxHeartbeats 2000000 in
set_option maxRecDepth 100000 in
theorem specFormatCommand_any (C : Cmd) (w : World) :
    Calls Tryd.prog 14 #[.agg #[.int .i64 C.k, .int .i64 C.b, .int .i64 C.r, .int .i64 C.c]] w fun e w' => e = .returned (.string ⟨(cmdText C).toArray⟩) ∧ Below w.heap.size w w' := by
  have HC0 := hid (BoxC.new_ w 40 C rfl)
  cases hf : formC C with
  | false =>
    have HX := hid (cmdText_bad hf)
    go_enter Tryd.func14, Tryd.ntmps14
    go_wp2_with fail
    refine (l06Form_of hf).mono ?_
    rintro e w1 ⟨rfl, B⟩
    go_wp2_with fail
    go_ret
    exact ⟨by rw [HX.out]; rfl, below_step (below_alloc _ _) B (Nat.le_refl _)⟩
  | true =>
    have HP := hid (formC_parts hf)
    obtain ⟨l, hl⟩ : ∃ l, wordL C.k = l := ⟨_, rfl⟩
    obtain ⟨lb, hlb⟩ : ∃ l, Lib.itoa C.b = l := ⟨_, rfl⟩
    obtain ⟨lr, hlr⟩ : ∃ l, Lib.itoa C.r = l := ⟨_, rfl⟩
    obtain ⟨lc, hlc⟩ : ∃ l, Lib.itoa C.c = l := ⟨_, rfl⟩
    have HF := hid hf
    have HL := hid hl
    have HLB := hid hlb
    have HLR := hid hlr
    have HLC := hid hlc
    have hl0 := hid (show l.length ≤ 5 by rw [← hl]; exact wordL_len _)
    have hl1 := hid (itoa_len hlb (by have := HP.out; omega) (by have := HP.out; omega))
    have hl2 := hid (itoa_len hlr (by have := HP.out; omega) (by have := HP.out; omega))
    have hl3 := hid (itoa_len hlc (by have := HP.out; omega) (by have := HP.out; omega))
    clear hl hlb hlr hlc
    go_enter Tryd.func14, Tryd.ntmps14
    go_wp2_with fail
    refine (l06Form_of hf).mono ?_
    rintro e w1 ⟨rfl, B⟩
    clear hf
    have HC := hid (HC0.out.old B)
    have HB := hid (below_step (below_alloc w (.cells #[.int .i64 C.k, .int .i64 C.b, .int .i64 C.r, .int .i64 C.c] 40)) B (Nat.le_refl _))
    clear B HC0
    go_upto_region 3 with (fail)
    refine growR_of 6 (fr := ?fr1)
      (fun i v w' => match i with
          | 0 => ∃ g, v = .slice (some ⟨g, 0, none⟩) 10 10 ∧ Words w' g
          | 1 => v = .pointer (some ⟨w.heap.size, 0, none⟩)
          | 2 => v = .int .i64 C.k
          | 3 => ∃ g, v = .pointer (some ⟨g, C.k.toNat, none⟩) ∧ Words w' g
          | 4 => v = .string ⟨l.toArray⟩
          | _ => v = .string ⟨l.toArray⟩
        ) (by kernel_rfl) (by kernel_rfl) (by decide) (by kernel_rfl) ?hfr1 ⟨fun _ => undef, ?h01⟩ ?hF1 ?hstep1 ?hend1
    case hfr1 => intro vs; simp only [frOf, List.take_succ_cons, List.take_zero]; go_simp; exact rfl
    case h01 => rfl
    case hF1 =>
      intro i v w' w'' h hb
      match i, h with
      | 0, h => obtain ⟨g, e, o⟩ := h; exact ⟨g, e, o.old hb⟩
      | 1, h => exact h
      | 2, h => exact h
      | 3, h => obtain ⟨g, e, o⟩ := h; exact ⟨g, e, o.old hb⟩
      | 4, h => exact h
      | n + 5, h => exact h
    case hstep1 =>
      intro vs w' i o hin ho hb hd
      match i, ho, hin with
      | 0, ho, _ =>
        simp only [List.getElem?_cons_zero, Option.some.injEq] at ho
        subst ho
        refine ⟨wanted_none rfl, ?_⟩
        generalize hK : (fun (a' : Act) (w'' : World) => ∃ v : Value, _ ∧ _ ∧ _) = K
        go_simp
        refine (l06Words_any _).mono ?_
        rintro e w2 ⟨g, rfl, O, B⟩
        rw [← hK]
        exact ⟨_, rfl, ⟨g, rfl, O⟩, B⟩
      | 1, ho, _ =>
        simp only [List.getElem?_cons_succ, List.getElem?_cons_zero, Option.some.injEq] at ho
        subst ho
        refine ⟨wanted_none rfl, ?_⟩
        generalize hK : (fun (a' : Act) (w'' : World) => ∃ v : Value, _ ∧ _ ∧ _) = K
        go_simp
        rw [← hK]
        exact ⟨_, rfl, rfl, Below.refl _ _⟩
      | 2, ho, _ =>
        simp only [List.getElem?_cons_succ, List.getElem?_cons_zero, Option.some.injEq] at ho
        subst ho
        refine ⟨wanted_none rfl, ?_⟩
        have e1 : vs 1 = .pointer (some ⟨w.heap.size, 0, none⟩) := hd 1 (by kernel_rfl)
        have q0 := (HC.out.old hb).c0
        generalize hK : (fun (a' : Act) (w'' : World) => ∃ v : Value, _ ∧ _ ∧ _) = K
        generalize hup : vs 1 = up at e1 ⊢
        subst e1
        go_simp
        rw [← hK]
        exact ⟨_, by simp [upd, hup], rfl, Below.refl _ _⟩
      | 3, ho, _ =>
        simp only [List.getElem?_cons_succ, List.getElem?_cons_zero, Option.some.injEq] at ho
        subst ho
        refine ⟨wanted_none rfl, ?_⟩
        obtain ⟨g, e0, O⟩ := hd 0 (by kernel_rfl)
        have e2 : vs 2 = .int .i64 C.k := hd 2 (by kernel_rfl)
        have HO := hid O
        clear O
        have k0 : 0 ≤ C.k := by have := HP.out.1; omega
        have k1 : C.k < 10 := by have := HP.out.1; omega
        generalize hK : (fun (a' : Act) (w'' : World) => ∃ v : Value, _ ∧ _ ∧ _) = K
        generalize hu0 : vs 0 = u0 at e0 ⊢
        subst e0
        generalize hu2 : vs 2 = u2 at e2 ⊢
        subst e2
        go_simp
        rw [← hK]
        exact ⟨_, by simp [upd, hu0, hu2], ⟨g, rfl, HO.out⟩, Below.refl _ _⟩
      | 4, ho, _ =>
        simp only [List.getElem?_cons_succ, List.getElem?_cons_zero, Option.some.injEq] at ho
        subst ho
        refine ⟨wanted_none rfl, ?_⟩
        obtain ⟨g, e3, O⟩ := hd 3 (by kernel_rfl)
        have q0 := O.2 C.k.toNat (by have := HP.out.1; omega)
        rw [Int.toNat_of_nonneg (by have := HP.out.1; omega), HL.out] at q0
        clear O
        generalize hK : (fun (a' : Act) (w'' : World) => ∃ v : Value, _ ∧ _ ∧ _) = K
        generalize hup : vs 3 = up at e3 ⊢
        subst e3
        go_simp
        rw [← hK]
        exact ⟨_, by simp [upd, hup], rfl, Below.refl _ _⟩
      | 5, ho, _ =>
        simp only [List.getElem?_cons_succ, List.getElem?_cons_zero, Option.some.injEq] at ho
        subst ho
        refine ⟨wanted_none rfl, ?_⟩
        have e4 : vs 4 = .string ⟨l.toArray⟩ := hd 4 (by kernel_rfl)
        generalize hK : (fun (a' : Act) (w'' : World) => ∃ v : Value, _ ∧ _ ∧ _) = K
        generalize hup : vs 4 = up at e4 ⊢
        subst e4
        go_simp
        rw [← hK]
        exact ⟨_, by simp [upd, hup], rfl, Below.refl _ _⟩
      | n + 6, _, hin => exact absurd hin (by omega)
    case hend1 =>
      intro vs w2 hb hf
      have er : vs 5 = .string ⟨l.toArray⟩ := hf 5 (by decide)
      have HC := hid (HC.out.old hb)
      have HB := hid (below_step HB.out hb (Nat.le_refl _))
      clear hb hf
      generalize vs 5 = ur at er ⊢
      subst er
      simp only [List.drop_succ_cons, List.drop_nil]
      refine wpTail_nil ?_
      rcases uses_cases C.k with ⟨hb, hr, hc⟩ | ⟨hb, hr, hc⟩ | ⟨hb, hr, hc⟩ | ⟨hb, hr, hc⟩
      · have HX := hid (cmdText_good HF.out hb hr hc HL.out HLB.out HLR.out HLC.out)
        obtain ⟨_, q0, q1, q2, q3⟩ := HC.out
        have z1 : ¬ 9223372036854775807 < l.length + 1 := by have := hl0.out; omega
        go_wp2_with ((go_at_call 24; refine (l06Uses_of hb hr hc).mono ?_; rintro e w' ⟨rfl, rfl⟩))
        go_ret
        refine ⟨?_, HB.out⟩
        rw [HX.out]
        simp
      · have HX := hid (cmdText_good HF.out hb hr hc HL.out HLB.out HLR.out HLC.out)
        obtain ⟨_, q0, q1, q2, q3⟩ := HC.out
        have z1 : ¬ 9223372036854775807 < l.length + 1 := by have := hl0.out; omega
        go_wp2_with ((go_at_call 24; refine (l06Uses_of hb hr hc).mono ?_; rintro e w' ⟨rfl, rfl⟩))
        clear q0 q1 q2 q3
        refine (specFormatInt_of HLB.out (by have := HP.out; omega) (by have := HP.out; omega)).mono ?_
        rintro e w3 ⟨rfl, Bk⟩
        have HC := hid (HC.out.old Bk)
        have HB := hid (below_step HB.out Bk (Nat.le_refl _))
        clear Bk
        obtain ⟨_, q0, q1, q2, q3⟩ := HC.out
        have za3 : ¬ 9223372036854775807 < l.length + 1 + lb.length := by have := hl0.out; have := hl1.out; have := hl2.out; have := hl3.out; omega
        have zb3 : ¬ 9223372036854775807 < l.length + 1 + lb.length + 1 := by have := hl0.out; have := hl1.out; have := hl2.out; have := hl3.out; omega
        go_wp2_with ((go_at_call 24; refine (l06Uses_of hb hr hc).mono ?_; rintro e w' ⟨rfl, rfl⟩))
        go_ret
        refine ⟨?_, HB.out⟩
        rw [HX.out]
        simp [str_app]
      · have HX := hid (cmdText_good HF.out hb hr hc HL.out HLB.out HLR.out HLC.out)
        obtain ⟨_, q0, q1, q2, q3⟩ := HC.out
        have z1 : ¬ 9223372036854775807 < l.length + 1 := by have := hl0.out; omega
        go_wp2_with ((go_at_call 24; refine (l06Uses_of hb hr hc).mono ?_; rintro e w' ⟨rfl, rfl⟩))
        clear q0 q1 q2 q3
        refine (specFormatInt_of HLB.out (by have := HP.out; omega) (by have := HP.out; omega)).mono ?_
        rintro e w3 ⟨rfl, Bk⟩
        have HC := hid (HC.out.old Bk)
        have HB := hid (below_step HB.out Bk (Nat.le_refl _))
        clear Bk
        obtain ⟨_, q0, q1, q2, q3⟩ := HC.out
        have za3 : ¬ 9223372036854775807 < l.length + 1 + lb.length := by have := hl0.out; have := hl1.out; have := hl2.out; have := hl3.out; omega
        have zb3 : ¬ 9223372036854775807 < l.length + 1 + lb.length + 1 := by have := hl0.out; have := hl1.out; have := hl2.out; have := hl3.out; omega
        go_wp2_with ((go_at_call 24; refine (l06Uses_of hb hr hc).mono ?_; rintro e w' ⟨rfl, rfl⟩))
        clear q0 q1 q2 q3
        refine (specFormatInt_of HLR.out (by have := HP.out; omega) (by have := HP.out; omega)).mono ?_
        rintro e w4 ⟨rfl, Bk⟩
        have HC := hid (HC.out.old Bk)
        have HB := hid (below_step HB.out Bk (Nat.le_refl _))
        clear Bk
        obtain ⟨_, q0, q1, q2, q3⟩ := HC.out
        have za4 : ¬ 9223372036854775807 < l.length + 1 + lb.length + 1 + lr.length := by have := hl0.out; have := hl1.out; have := hl2.out; have := hl3.out; omega
        have zb4 : ¬ 9223372036854775807 < l.length + 1 + lb.length + 1 + lr.length + 1 := by have := hl0.out; have := hl1.out; have := hl2.out; have := hl3.out; omega
        go_wp2_with ((go_at_call 24; refine (l06Uses_of hb hr hc).mono ?_; rintro e w' ⟨rfl, rfl⟩))
        go_ret
        refine ⟨?_, HB.out⟩
        rw [HX.out]
        simp [str_app]
      · have HX := hid (cmdText_good HF.out hb hr hc HL.out HLB.out HLR.out HLC.out)
        obtain ⟨_, q0, q1, q2, q3⟩ := HC.out
        have z1 : ¬ 9223372036854775807 < l.length + 1 := by have := hl0.out; omega
        go_wp2_with ((go_at_call 24; refine (l06Uses_of hb hr hc).mono ?_; rintro e w' ⟨rfl, rfl⟩))
        clear q0 q1 q2 q3
        refine (specFormatInt_of HLB.out (by have := HP.out; omega) (by have := HP.out; omega)).mono ?_
        rintro e w3 ⟨rfl, Bk⟩
        have HC := hid (HC.out.old Bk)
        have HB := hid (below_step HB.out Bk (Nat.le_refl _))
        clear Bk
        obtain ⟨_, q0, q1, q2, q3⟩ := HC.out
        have za3 : ¬ 9223372036854775807 < l.length + 1 + lb.length := by have := hl0.out; have := hl1.out; have := hl2.out; have := hl3.out; omega
        have zb3 : ¬ 9223372036854775807 < l.length + 1 + lb.length + 1 := by have := hl0.out; have := hl1.out; have := hl2.out; have := hl3.out; omega
        go_wp2_with ((go_at_call 24; refine (l06Uses_of hb hr hc).mono ?_; rintro e w' ⟨rfl, rfl⟩))
        clear q0 q1 q2 q3
        refine (specFormatInt_of HLC.out (by have := HP.out; omega) (by have := HP.out; omega)).mono ?_
        rintro e w4 ⟨rfl, Bk⟩
        have HC := hid (HC.out.old Bk)
        have HB := hid (below_step HB.out Bk (Nat.le_refl _))
        clear Bk
        obtain ⟨_, q0, q1, q2, q3⟩ := HC.out
        have za4 : ¬ 9223372036854775807 < l.length + 1 + lb.length + 1 + lc.length := by have := hl0.out; have := hl1.out; have := hl2.out; have := hl3.out; omega
        have zb4 : ¬ 9223372036854775807 < l.length + 1 + lb.length + 1 + lc.length + 1 := by have := hl0.out; have := hl1.out; have := hl2.out; have := hl3.out; omega
        go_wp2_with ((go_at_call 24; refine (l06Uses_of hb hr hc).mono ?_; rintro e w' ⟨rfl, rfl⟩))
        go_ret
        refine ⟨?_, HB.out⟩
        rw [HX.out]
        simp [str_app]
set_option maxHeartbeats 2000000 in
set_option maxRecDepth 100000 in
theorem implFormatCommand_any (C : Cmd) (w : World) (ht : Tab w) :
    Calls Tryd.prog 17 #[.agg #[.int .i64 C.k, .int .i64 C.b, .int .i64 C.r, .int .i64 C.c]] w fun e w' => e = .returned (.string ⟨(cmdText C).toArray⟩) ∧ Below w.heap.size w w' := by
  have HC0 := hid (BoxC.new_ w 40 C rfl)
  have HT := hid ht
  clear ht
  cases hf : formC C with
  | false =>
    have HX := hid (cmdText_bad hf)
    go_enter Tryd.func17, Tryd.ntmps17
    go_wp2_with fail
    refine (wellFormed_of hf).mono ?_
    rintro e w1 ⟨rfl, B⟩
    go_wp2_with fail
    go_ret
    exact ⟨by rw [HX.out]; rfl, below_step (below_alloc _ _) B (Nat.le_refl _)⟩
  | true =>
    have HP := hid (formC_parts hf)
    obtain ⟨l, hl⟩ : ∃ l, wordL C.k = l := ⟨_, rfl⟩
    obtain ⟨lb, hlb⟩ : ∃ l, Lib.itoa C.b = l := ⟨_, rfl⟩
    obtain ⟨lr, hlr⟩ : ∃ l, Lib.itoa C.r = l := ⟨_, rfl⟩
    obtain ⟨lc, hlc⟩ : ∃ l, Lib.itoa C.c = l := ⟨_, rfl⟩
    have HF := hid hf
    have HL := hid hl
    have HLB := hid hlb
    have HLR := hid hlr
    have HLC := hid hlc
    have hl0 := hid (show l.length ≤ 5 by rw [← hl]; exact wordL_len _)
    have hl1 := hid (itoa_len hlb (by have := HP.out; omega) (by have := HP.out; omega))
    have hl2 := hid (itoa_len hlr (by have := HP.out; omega) (by have := HP.out; omega))
    have hl3 := hid (itoa_len hlc (by have := HP.out; omega) (by have := HP.out; omega))
    clear hl hlb hlr hlc
    go_enter Tryd.func17, Tryd.ntmps17
    go_wp2_with fail
    refine (wellFormed_of hf).mono ?_
    rintro e w1 ⟨rfl, B⟩
    clear hf
    have HC := hid (HC0.out.old B)
    have HB := hid (below_step (below_alloc w (.cells #[.int .i64 C.k, .int .i64 C.b, .int .i64 C.r, .int .i64 C.c] 40)) B (Nat.le_refl _))
    clear B HC0
    go_upto_region 3 with (fail)
    refine growR_of 6 (fr := ?fr2)
      (fun i v w' => match i with
          | 0 => ∃ g, v = .slice (some ⟨g, 0, none⟩) 10 10 ∧ Words w' g
          | 1 => v = .pointer (some ⟨w.heap.size, 0, none⟩)
          | 2 => v = .int .i64 C.k
          | 3 => ∃ g, v = .pointer (some ⟨g, C.k.toNat, none⟩) ∧ Words w' g
          | 4 => v = .string ⟨l.toArray⟩
          | _ => v = .string ⟨l.toArray⟩
        ) (by kernel_rfl) (by kernel_rfl) (by decide) (by kernel_rfl) ?hfr2 ⟨fun _ => undef, ?h02⟩ ?hF2 ?hstep2 ?hend2
    case hfr2 => intro vs; simp only [frOf, List.take_succ_cons, List.take_zero]; go_simp; exact rfl
    case h02 => rfl
    case hF2 =>
      intro i v w' w'' h hb
      match i, h with
      | 0, h => obtain ⟨g, e, o⟩ := h; exact ⟨g, e, o.old hb⟩
      | 1, h => exact h
      | 2, h => exact h
      | 3, h => obtain ⟨g, e, o⟩ := h; exact ⟨g, e, o.old hb⟩
      | 4, h => exact h
      | n + 5, h => exact h
    case hstep2 =>
      intro vs w' i o hin ho hb hd
      match i, ho, hin with
      | 0, ho, _ =>
        simp only [List.getElem?_cons_zero, Option.some.injEq] at ho
        subst ho
        refine ⟨wanted_none rfl, ?_⟩
        generalize hK : (fun (a' : Act) (w'' : World) => ∃ v : Value, _ ∧ _ ∧ _) = K
        go_simp
        refine (commandWords_any _).mono ?_
        rintro e w2 ⟨g, rfl, O, B⟩
        rw [← hK]
        exact ⟨_, rfl, ⟨g, rfl, O⟩, B⟩
      | 1, ho, _ =>
        simp only [List.getElem?_cons_succ, List.getElem?_cons_zero, Option.some.injEq] at ho
        subst ho
        refine ⟨wanted_none rfl, ?_⟩
        generalize hK : (fun (a' : Act) (w'' : World) => ∃ v : Value, _ ∧ _ ∧ _) = K
        go_simp
        rw [← hK]
        exact ⟨_, rfl, rfl, Below.refl _ _⟩
      | 2, ho, _ =>
        simp only [List.getElem?_cons_succ, List.getElem?_cons_zero, Option.some.injEq] at ho
        subst ho
        refine ⟨wanted_none rfl, ?_⟩
        have e1 : vs 1 = .pointer (some ⟨w.heap.size, 0, none⟩) := hd 1 (by kernel_rfl)
        have q0 := (HC.out.old hb).c0
        generalize hK : (fun (a' : Act) (w'' : World) => ∃ v : Value, _ ∧ _ ∧ _) = K
        generalize hup : vs 1 = up at e1 ⊢
        subst e1
        go_simp
        rw [← hK]
        exact ⟨_, by simp [upd, hup], rfl, Below.refl _ _⟩
      | 3, ho, _ =>
        simp only [List.getElem?_cons_succ, List.getElem?_cons_zero, Option.some.injEq] at ho
        subst ho
        refine ⟨wanted_none rfl, ?_⟩
        obtain ⟨g, e0, O⟩ := hd 0 (by kernel_rfl)
        have e2 : vs 2 = .int .i64 C.k := hd 2 (by kernel_rfl)
        have HO := hid O
        clear O
        have k0 : 0 ≤ C.k := by have := HP.out.1; omega
        have k1 : C.k < 10 := by have := HP.out.1; omega
        generalize hK : (fun (a' : Act) (w'' : World) => ∃ v : Value, _ ∧ _ ∧ _) = K
        generalize hu0 : vs 0 = u0 at e0 ⊢
        subst e0
        generalize hu2 : vs 2 = u2 at e2 ⊢
        subst e2
        go_simp
        rw [← hK]
        exact ⟨_, by simp [upd, hu0, hu2], ⟨g, rfl, HO.out⟩, Below.refl _ _⟩
      | 4, ho, _ =>
        simp only [List.getElem?_cons_succ, List.getElem?_cons_zero, Option.some.injEq] at ho
        subst ho
        refine ⟨wanted_none rfl, ?_⟩
        obtain ⟨g, e3, O⟩ := hd 3 (by kernel_rfl)
        have q0 := O.2 C.k.toNat (by have := HP.out.1; omega)
        rw [Int.toNat_of_nonneg (by have := HP.out.1; omega), HL.out] at q0
        clear O
        generalize hK : (fun (a' : Act) (w'' : World) => ∃ v : Value, _ ∧ _ ∧ _) = K
        generalize hup : vs 3 = up at e3 ⊢
        subst e3
        go_simp
        rw [← hK]
        exact ⟨_, by simp [upd, hup], rfl, Below.refl _ _⟩
      | 5, ho, _ =>
        simp only [List.getElem?_cons_succ, List.getElem?_cons_zero, Option.some.injEq] at ho
        subst ho
        refine ⟨wanted_none rfl, ?_⟩
        have e4 : vs 4 = .string ⟨l.toArray⟩ := hd 4 (by kernel_rfl)
        generalize hK : (fun (a' : Act) (w'' : World) => ∃ v : Value, _ ∧ _ ∧ _) = K
        generalize hup : vs 4 = up at e4 ⊢
        subst e4
        go_simp
        rw [← hK]
        exact ⟨_, by simp [upd, hup], rfl, Below.refl _ _⟩
      | n + 6, _, hin => exact absurd hin (by omega)
    case hend2 =>
      intro vs w2 hb hf
      have er : vs 5 = .string ⟨l.toArray⟩ := hf 5 (by decide)
      have HC := hid (HC.out.old hb)
      have HB := hid (below_step HB.out hb (Nat.le_refl _))
      clear hb hf
      generalize vs 5 = ur at er ⊢
      subst er
      simp only [List.drop_succ_cons, List.drop_nil]
      refine wpTail_nil ?_
      have HT := hid (tab_below HT.out HB.out)
      rcases uses_cases C.k with ⟨hb, hr, hc⟩ | ⟨hb, hr, hc⟩ | ⟨hb, hr, hc⟩ | ⟨hb, hr, hc⟩
      · have HX := hid (cmdText_good HF.out hb hr hc HL.out HLB.out HLR.out HLC.out)
        obtain ⟨_, q0, q1, q2, q3⟩ := HC.out
        go_wp2_with (first | (go_at_call 29; refine (usesBank_of hb).mono ?_; rintro e w' ⟨rfl, rfl⟩) | (go_at_call 30; refine (usesRow_of hr).mono ?_; rintro e w' ⟨rfl, rfl⟩) | (go_at_call 31; refine (usesCol_of hc).mono ?_; rintro e w' ⟨rfl, rfl⟩))
        go_ret
        refine ⟨?_, HB.out⟩
        rw [HX.out]
        simp
      · have HX := hid (cmdText_good HF.out hb hr hc HL.out HLB.out HLR.out HLC.out)
        obtain ⟨_, q0, q1, q2, q3⟩ := HC.out
        go_wp2_with (first | (go_at_call 29; refine (usesBank_of hb).mono ?_; rintro e w' ⟨rfl, rfl⟩) | (go_at_call 30; refine (usesRow_of hr).mono ?_; rintro e w' ⟨rfl, rfl⟩) | (go_at_call 31; refine (usesCol_of hc).mono ?_; rintro e w' ⟨rfl, rfl⟩))
        clear q0 q1 q2 q3
        refine (implFormatInt_of HLB.out (by have := HP.out; omega) (by have := HP.out; omega) HT.out).mono ?_
        rintro e w3 ⟨rfl, Bk⟩
        have HC := hid (HC.out.old Bk)
        have HB := hid (below_step HB.out Bk (Nat.le_refl _))
        have HT := hid (tab_below HT.out Bk)
        clear Bk
        obtain ⟨_, q0, q1, q2, q3⟩ := HC.out
        have za3 : ¬ 9223372036854775807 < 1 + lb.length := by have := hl0.out; have := hl1.out; have := hl2.out; have := hl3.out; omega
        have zb3 : ¬ 9223372036854775807 < l.length + (1 + lb.length) := by have := hl0.out; have := hl1.out; have := hl2.out; have := hl3.out; omega
        go_wp2_with (first | (go_at_call 29; refine (usesBank_of hb).mono ?_; rintro e w' ⟨rfl, rfl⟩) | (go_at_call 30; refine (usesRow_of hr).mono ?_; rintro e w' ⟨rfl, rfl⟩) | (go_at_call 31; refine (usesCol_of hc).mono ?_; rintro e w' ⟨rfl, rfl⟩))
        go_ret
        refine ⟨?_, HB.out⟩
        rw [HX.out]
        simp [str_app]
      · have HX := hid (cmdText_good HF.out hb hr hc HL.out HLB.out HLR.out HLC.out)
        obtain ⟨_, q0, q1, q2, q3⟩ := HC.out
        go_wp2_with (first | (go_at_call 29; refine (usesBank_of hb).mono ?_; rintro e w' ⟨rfl, rfl⟩) | (go_at_call 30; refine (usesRow_of hr).mono ?_; rintro e w' ⟨rfl, rfl⟩) | (go_at_call 31; refine (usesCol_of hc).mono ?_; rintro e w' ⟨rfl, rfl⟩))
        clear q0 q1 q2 q3
        refine (implFormatInt_of HLB.out (by have := HP.out; omega) (by have := HP.out; omega) HT.out).mono ?_
        rintro e w3 ⟨rfl, Bk⟩
        have HC := hid (HC.out.old Bk)
        have HB := hid (below_step HB.out Bk (Nat.le_refl _))
        have HT := hid (tab_below HT.out Bk)
        clear Bk
        obtain ⟨_, q0, q1, q2, q3⟩ := HC.out
        have za3 : ¬ 9223372036854775807 < 1 + lb.length := by have := hl0.out; have := hl1.out; have := hl2.out; have := hl3.out; omega
        have zb3 : ¬ 9223372036854775807 < l.length + (1 + lb.length) := by have := hl0.out; have := hl1.out; have := hl2.out; have := hl3.out; omega
        go_wp2_with (first | (go_at_call 29; refine (usesBank_of hb).mono ?_; rintro e w' ⟨rfl, rfl⟩) | (go_at_call 30; refine (usesRow_of hr).mono ?_; rintro e w' ⟨rfl, rfl⟩) | (go_at_call 31; refine (usesCol_of hc).mono ?_; rintro e w' ⟨rfl, rfl⟩))
        clear q0 q1 q2 q3
        refine (implFormatInt_of HLR.out (by have := HP.out; omega) (by have := HP.out; omega) HT.out).mono ?_
        rintro e w4 ⟨rfl, Bk⟩
        have HC := hid (HC.out.old Bk)
        have HB := hid (below_step HB.out Bk (Nat.le_refl _))
        have HT := hid (tab_below HT.out Bk)
        clear Bk
        obtain ⟨_, q0, q1, q2, q3⟩ := HC.out
        have za4 : ¬ 9223372036854775807 < 1 + lr.length := by have := hl0.out; have := hl1.out; have := hl2.out; have := hl3.out; omega
        have zb4 : ¬ 9223372036854775807 < l.length + (1 + lb.length) + (1 + lr.length) := by have := hl0.out; have := hl1.out; have := hl2.out; have := hl3.out; omega
        go_wp2_with (first | (go_at_call 29; refine (usesBank_of hb).mono ?_; rintro e w' ⟨rfl, rfl⟩) | (go_at_call 30; refine (usesRow_of hr).mono ?_; rintro e w' ⟨rfl, rfl⟩) | (go_at_call 31; refine (usesCol_of hc).mono ?_; rintro e w' ⟨rfl, rfl⟩))
        go_ret
        refine ⟨?_, HB.out⟩
        rw [HX.out]
        simp [str_app]
      · have HX := hid (cmdText_good HF.out hb hr hc HL.out HLB.out HLR.out HLC.out)
        obtain ⟨_, q0, q1, q2, q3⟩ := HC.out
        go_wp2_with (first | (go_at_call 29; refine (usesBank_of hb).mono ?_; rintro e w' ⟨rfl, rfl⟩) | (go_at_call 30; refine (usesRow_of hr).mono ?_; rintro e w' ⟨rfl, rfl⟩) | (go_at_call 31; refine (usesCol_of hc).mono ?_; rintro e w' ⟨rfl, rfl⟩))
        clear q0 q1 q2 q3
        refine (implFormatInt_of HLB.out (by have := HP.out; omega) (by have := HP.out; omega) HT.out).mono ?_
        rintro e w3 ⟨rfl, Bk⟩
        have HC := hid (HC.out.old Bk)
        have HB := hid (below_step HB.out Bk (Nat.le_refl _))
        have HT := hid (tab_below HT.out Bk)
        clear Bk
        obtain ⟨_, q0, q1, q2, q3⟩ := HC.out
        have za3 : ¬ 9223372036854775807 < 1 + lb.length := by have := hl0.out; have := hl1.out; have := hl2.out; have := hl3.out; omega
        have zb3 : ¬ 9223372036854775807 < l.length + (1 + lb.length) := by have := hl0.out; have := hl1.out; have := hl2.out; have := hl3.out; omega
        go_wp2_with (first | (go_at_call 29; refine (usesBank_of hb).mono ?_; rintro e w' ⟨rfl, rfl⟩) | (go_at_call 30; refine (usesRow_of hr).mono ?_; rintro e w' ⟨rfl, rfl⟩) | (go_at_call 31; refine (usesCol_of hc).mono ?_; rintro e w' ⟨rfl, rfl⟩))
        clear q0 q1 q2 q3
        refine (implFormatInt_of HLC.out (by have := HP.out; omega) (by have := HP.out; omega) HT.out).mono ?_
        rintro e w4 ⟨rfl, Bk⟩
        have HC := hid (HC.out.old Bk)
        have HB := hid (below_step HB.out Bk (Nat.le_refl _))
        have HT := hid (tab_below HT.out Bk)
        clear Bk
        obtain ⟨_, q0, q1, q2, q3⟩ := HC.out
        have za4 : ¬ 9223372036854775807 < 1 + lc.length := by have := hl0.out; have := hl1.out; have := hl2.out; have := hl3.out; omega
        have zb4 : ¬ 9223372036854775807 < l.length + (1 + lb.length) + (1 + lc.length) := by have := hl0.out; have := hl1.out; have := hl2.out; have := hl3.out; omega
        go_wp2_with (first | (go_at_call 29; refine (usesBank_of hb).mono ?_; rintro e w' ⟨rfl, rfl⟩) | (go_at_call 30; refine (usesRow_of hr).mono ?_; rintro e w' ⟨rfl, rfl⟩) | (go_at_call 31; refine (usesCol_of hc).mono ?_; rintro e w' ⟨rfl, rfl⟩))
        go_ret
        refine ⟨?_, HB.out⟩
        rw [HX.out]
        simp [str_app]
end Go.Proofs.YtggjheapjklhgaaDoor
