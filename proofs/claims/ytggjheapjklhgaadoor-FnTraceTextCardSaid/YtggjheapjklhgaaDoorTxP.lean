/- The text of a number: plain laws, and what both sides' FormatInt return. -/
import Derived.Test.YtggjheapjklhgaaDoorEvtF
import Derived.Test.YtggjheapjklhgaaDoorFmtW
import Derived.Test.YtggjheapjklhgaaDoorCmdW
import Derived.Test.YtggjheapjklhgaaDoorShelf
import Derived.Lib.ItoaLen
import Derived.Lib.AppendStr
import Derived.Laws.IdiomStrings
import Derived.Test.YtggjheapjklhgaaDoorInv
import Derived.StillTail
import Derived.Deep.Cut
import Derived.Test.YtggjheapjklhgaaDoorRows
import Derived.Test.YtggjheapjklhgaaDoorOpen
import Derived.LaidMore
import Derived.LaidHandle
import Derived.Stop.Joined
import Derived.Stop.LaidErr
import Derived.Lib.LaidTab
namespace Go.Proofs.YtggjheapjklhgaaDoor
open Go.RowKit
theorem str_app (a b : List UInt8) : (⟨a.toArray⟩ : ByteArray) ++ ⟨b.toArray⟩ = ⟨(a ++ b).toArray⟩ := by
  apply ByteArray.ext
  apply Array.toList_inj.1
  simp
def digU (d : Nat) : UInt8 := UInt8.ofNat (48 + d)
theorem dec_step {u : Nat} (h : ¬ u < 10) : Lib.decDigits u = Lib.decDigits (u / 10) ++ [digU (u % 10)] := by rw [Lib.decDigits, dif_neg h]; rfl
theorem dec_one {u : Nat} (h : u < 10) : Lib.decDigits u = [digU u] := by rw [Lib.decDigits, dif_pos h]; rfl
/-- The number m is left of n's digits, s are gathered. -/
def leftD (n m : Nat) (s : List UInt8) : Prop := if m = 0 then Lib.decDigits n = s else Lib.decDigits n = Lib.decDigits m ++ s
theorem leftD.start {n : Nat} (h : n ≠ 0) : leftD n n [] := by unfold leftD; rw [if_neg h]; simp
theorem leftD.step {n m : Nat} {s : List UInt8} (hm : m ≠ 0) (h : leftD n m s) : leftD n (m / 10) (digU (m % 10) :: s) := by
  unfold leftD at h ⊢
  rw [if_neg hm] at h
  by_cases h10 : m < 10
  · rw [if_pos (by omega), h, dec_one h10, show m % 10 = m by omega]; rfl
  · rw [if_neg (by omega), h, dec_step h10, List.append_assoc, List.singleton_append]
theorem leftD.done {n : Nat} {s : List UInt8} (h : leftD n 0 s) : Lib.decDigits n = s := by unfold leftD at h; rw [if_pos rfl] at h; exact h
theorem itoa_zero : Lib.itoa 0 = [48] := by rw [show (0 : Int) = ((0 : Nat) : Int) from rfl, Lib.itoa_nonneg, dec_one (by decide)]; rfl
theorem itoa_pos {n : Int} (h : 0 ≤ n) : Lib.itoa n = Lib.decDigits n.natAbs := by
  obtain ⟨u, rfl⟩ := Int.eq_ofNat_of_zero_le h
  rw [Lib.itoa_nonneg]; rfl
theorem itoa_min {n : Int} (h : n < 0) : Lib.itoa n = 45 :: Lib.decDigits n.natAbs := by
  obtain ⟨u, rfl⟩ : ∃ u : Nat, n = -(u : Int) := ⟨n.natAbs, by omega⟩
  rw [Lib.itoa_neg u (by omega)]
  congr 2
  omega
/-- string(b) of one new byte. -/
theorem run_string_one (w : World) (b : UInt8) : (convert 29 9 (.slice (some ⟨w.heap.size, 0, none⟩) 1 1)).run Tryd.prog (w.alloc (.cells #[.int .u8 (b.toNat : Int)] 5)) = .ok (.string ⟨#[b]⟩) (w.alloc (.cells #[.int .u8 (b.toNat : Int)] 5)) := by
  refine run_convert_bytes_back (w.alloc (.cells #[.int .u8 (b.toNat : Int)] 5)) 29 9 5 ⟨w.heap.size, 0, none⟩ 1 [b] Tryd.underlying29 Tryd.underlying5 Tryd.underlying9 (fun j hj => ?_)
  have hj0 : j = 0 := by simpa using hj
  subst hj0
  exact box_at w [.int .u8 (b.toNat : Int)] 5 0
theorem leftD.len {n m : Nat} {s : List UInt8} (hn : n < 18446744073709551616) (h : leftD n m s) : s.length ≤ 20 := by
  have hl : (Lib.decDigits n).length ≤ 20 := by rw [Lib.decDigits_length]; exact Lib.nDigits_le20 n hn
  unfold leftD at h
  by_cases hm : m = 0
  · rw [if_pos hm] at h; rw [← h]; exact hl
  · rw [if_neg hm] at h; rw [h, List.length_append] at hl; omega
theorem figure_any (x : Int) (b : UInt8) (w : World) (h0 : 0 ≤ x) (h1 : x ≤ 9) (hb : digU x.toNat = b) :
    Calls Tryd.prog 21 #[.int .i64 x] w fun e w' => e = .returned (.int .u8 (b.toNat : Int)) ∧ w = w' := by
  have hf : (b.toNat : Int) = 48 + x := by rw [← hb]; unfold digU; simp; omega
  have HF := hid hf
  have hx : x < 10 := by omega
  clear hf hb
  go_enter Tryd.func21, Tryd.ntmps21
  go_wp2
  go_ret
  exact ⟨by rw [HF.out]; rfl, rfl⟩
/-- The library's table of powers of ten reads as its text lays it. -/
def Tab (w : World) : Prop := Lib.TabIs Tryd.prog w "internal/strconv.uint64pow10" .u64 Lib.pow10Tab
theorem below_grow {w : World} (k : Nat) (os : Array Obj) : Below w.heap.size w (Sort.grow (w.drewN k) os) :=
  ⟨rfl, rfl, rfl, by simp [Sort.grow], fun i hi => by
    show ((w.drewN k).heap ++ os)[i]? = _
    rw [Array.getElem?_append_left (by show i < w.heap.size; omega)]
    rfl⟩
theorem implFormatInt_any (n : Int) (w : World) (h0 : -9223372036854775808 ≤ n) (h1 : n ≤ 9223372036854775807) (ht : Tab w) :
    Calls Tryd.prog 16 #[.int .i64 n] w fun e w' => e = .returned (.string ⟨(Lib.itoa n).toArray⟩) ∧ Below w.heap.size w w' := by
  have HT := hid ht
  clear ht
  go_enter Tryd.func16, Tryd.ntmps16
  go_wp2_with fail
  refine (Tryd.strconv_Itoa n h0 h1 _ HT.out).mono ?_
  rintro e w' ⟨rfl, k, os, rfl⟩
  have HB := hid (below_grow (w := w) k os)
  generalize Sort.grow (w.drewN k) os = w2 at *
  go_wp2_with fail
  go_ret
  exact ⟨rfl, HB.out⟩
set_option maxRecDepth 100000 in
theorem specFormatInt_any (n : Int) (w : World) (h0 : -9223372036854775808 ≤ n) (h1 : n ≤ 9223372036854775807) :
    Calls Tryd.prog 13 #[.int .i64 n] w fun e w' => e = .returned (.string ⟨(Lib.itoa n).toArray⟩) ∧ Below w.heap.size w w' := by
  by_cases hz : n = 0
  · subst hz
    have HI := hid itoa_zero
    go_enter Tryd.func13, Tryd.ntmps13
    go_wp2_with fail
    go_ret
    exact ⟨by rw [HI.out]; rfl, Below.refl _ _⟩
  have hz' : (n == 0) = false := by simp [hz]
  have HZ := hid hz
  have HN := hid (And.intro h0 h1)
  clear hz
  cases hneg : decide (n < 0) with
  | true =>
    have HNEG := hid (show n < 0 by simpa using hneg)
    have HI := hid (itoa_min HNEG.out)
    clear h0 h1
    go_enter Tryd.func13, Tryd.ntmps13
    go_wp2_with fail
    go_loopw [0, 4] (fun x s wr => ∃ (u : Nat) (l : List UInt8), x = .int .i64 (-(u : Int)) ∧ s = .string ⟨l.toArray⟩ ∧ u ≤ 9223372036854775808 ∧ Hid (leftD n.natAbs u l) ∧ Hid (Below w.heap.size w wr)) (fun x _ _ => (intOf x).natAbs)
    case atStart => exact ⟨n.natAbs, [], by have h := HNEG.out; congr 1; omega, rfl, by have h := HN.out; omega, hid (leftD.start (by have h := HZ.out; omega)), hid (Below.refl _ _)⟩
    case round =>
      obtain ⟨u, l, rfl, rfl, hu, HL, HB⟩ := hrel
      by_cases hu0 : u = 0
      · obtain ⟨m, hm⟩ : ∃ m : Int, -(u : Int) = m := ⟨_, rfl⟩
        rw [hm]
        have hne : (m != 0) = false := by rw [← hm, hu0]; rfl
        rw [hu0] at HL
        have HD := hid HL.out.done
        have hlen : ¬ 9223372036854775807 < 1 + l.length := by have := HL.out.len (by have := HN.out; omega); omega
        clear hm HL hu0 hu
        go_wp2_with fail
        go_ret
        refine ⟨?_, HB.out⟩
        rw [HI.out, HD.out]
        show Ending.returned (.string (⟨[45].toArray⟩ ++ ⟨l.toArray⟩)) = _
        rw [str_app]; rfl
      · obtain ⟨d, hd⟩ : ∃ d : Nat, u % 10 = d := ⟨_, rfl⟩
        obtain ⟨q, hq⟩ : ∃ q : Nat, u / 10 = q := ⟨_, rfl⟩
        obtain ⟨b, hb⟩ : ∃ b : UInt8, digU d = b := ⟨_, rfl⟩
        obtain ⟨m, hm⟩ : ∃ m : Int, -(u : Int) = m := ⟨_, rfl⟩
        obtain ⟨r, hr⟩ : ∃ r : Int, -(d : Int) = r := ⟨_, rfl⟩
        obtain ⟨m2, hm2⟩ : ∃ m2 : Int, -(q : Int) = m2 := ⟨_, rfl⟩
        have HS := hid (HL.out.step hu0)
        rw [hd, hq, hb] at HS
        have hlen : ¬ 9223372036854775807 < 1 + l.length := by have := HL.out.len (by have := HN.out; omega); omega
        have HQ := hid (show m2.natAbs < m.natAbs by omega)
        have HU := hid (show q ≤ 9223372036854775808 by omega)
        rw [hm]
        have hne : (m != 0) = true := by simp; omega
        have HF := hid (run_string_one wr b)
        have e1 : m.tmod 10 = r := by rw [← hm, ← hr, Int.neg_tmod, Int.tmod_eq_emod_of_nonneg (by omega)]; omega
        have e2 : m.tdiv 10 = m2 := by rw [← hm, ← hm2, Int.neg_tdiv, Int.tdiv_eq_ediv_of_nonneg (by omega)]; omega
        have s1 : IntKind.i64.wrap r = r := IntWalk.i64_in _ (by omega)
        have s2 : IntKind.i64.wrap m2 = m2 := IntWalk.i64_in _ (by omega)
        have HM := hid hm2
        cases hdn : decide (r < 0) with
        | true =>
          have s3 : IntKind.i64.wrap (-r) = -r := IntWalk.i64_in _ (by omega)
          have HC := hid (figure_any (-r) b wr (by omega) (by omega) (by rw [show (-r).toNat = d by omega]; exact hb))
          clear hd hq hb hr hm hm2 hu0 hu HL
          go_wp2_with fail
          refine HC.out.mono ?_
          rintro e w' ⟨rfl, rfl⟩
          have HF' := HF.out
          go_wp2_with fail
          refine ⟨⟨q, b :: l, by rw [HM.out], ?_, HU.out, HS, hid (below_step HB.out (below_alloc _ _) (Nat.le_refl _))⟩, HQ.out⟩
          rw [show (⟨#[b]⟩ : ByteArray) = ⟨[b].toArray⟩ from rfl, str_app]; rfl
        | false =>
          have hd0 : ¬ r < 0 := by simpa using hdn
          have HC := hid (figure_any r b wr (by omega) (by omega) (by rw [show r.toNat = d by omega]; exact hb))
          clear hd hq hb hr hm hm2 hu0 hu HL hd0
          go_wp2_with fail
          refine HC.out.mono ?_
          rintro e w' ⟨rfl, rfl⟩
          have HF' := HF.out
          go_wp2_with fail
          refine ⟨⟨q, b :: l, by rw [HM.out], ?_, HU.out, HS, hid (below_step HB.out (below_alloc _ _) (Nat.le_refl _))⟩, HQ.out⟩
          rw [show (⟨#[b]⟩ : ByteArray) = ⟨[b].toArray⟩ from rfl, str_app]; rfl
  | false =>
    have HNEG := hid (show 0 ≤ n by have h : ¬ n < 0 := by simpa using hneg
                                    omega)
    have HI := hid (itoa_pos HNEG.out)
    clear h0 h1
    go_enter Tryd.func13, Tryd.ntmps13
    go_wp2_with fail
    go_loopw [0, 4] (fun x s wr => ∃ (u : Nat) (l : List UInt8), x = .int .i64 (u : Int) ∧ s = .string ⟨l.toArray⟩ ∧ u ≤ 9223372036854775807 ∧ Hid (leftD n.natAbs u l) ∧ Hid (Below w.heap.size w wr)) (fun x _ _ => (intOf x).natAbs)
    case atStart =>
      have h := HNEG.out
      have h2 := HN.out
      have h3 := HZ.out
      have h4 : n = (n.natAbs : Int) := by omega
      refine ⟨n.natAbs, [], congrArg (Value.int .i64) h4, rfl, by omega, hid (leftD.start (by omega)), hid (Below.refl _ _)⟩
    case round =>
      obtain ⟨u, l, rfl, rfl, hu, HL, HB⟩ := hrel
      by_cases hu0 : u = 0
      · obtain ⟨m, hm⟩ : ∃ m : Int, (u : Int) = m := ⟨_, rfl⟩
        rw [hm]
        have hne : (m != 0) = false := by rw [← hm, hu0]; rfl
        rw [hu0] at HL
        have HD := hid HL.out.done
        clear hm HL hu0 hu
        go_wp2_with fail
        go_ret
        refine ⟨?_, HB.out⟩
        rw [HI.out, HD.out]; rfl
      · obtain ⟨d, hd⟩ : ∃ d : Nat, u % 10 = d := ⟨_, rfl⟩
        obtain ⟨q, hq⟩ : ∃ q : Nat, u / 10 = q := ⟨_, rfl⟩
        obtain ⟨b, hb⟩ : ∃ b : UInt8, digU d = b := ⟨_, rfl⟩
        obtain ⟨m, hm⟩ : ∃ m : Int, (u : Int) = m := ⟨_, rfl⟩
        obtain ⟨r, hr⟩ : ∃ r : Int, (d : Int) = r := ⟨_, rfl⟩
        obtain ⟨m2, hm2⟩ : ∃ m2 : Int, (q : Int) = m2 := ⟨_, rfl⟩
        have HS := hid (HL.out.step hu0)
        rw [hd, hq, hb] at HS
        have hlen : ¬ 9223372036854775807 < 1 + l.length := by have := HL.out.len (by have := HN.out; omega); omega
        have HQ := hid (show m2.natAbs < m.natAbs by omega)
        have HU := hid (show q ≤ 9223372036854775807 by omega)
        rw [hm]
        have hne : (m != 0) = true := by simp; omega
        have HF := hid (run_string_one wr b)
        have e1 : m.tmod 10 = r := by rw [← hm, ← hr, Int.tmod_eq_emod_of_nonneg (by omega)]; omega
        have e2 : m.tdiv 10 = m2 := by rw [← hm, ← hm2, Int.tdiv_eq_ediv_of_nonneg (by omega)]; omega
        have s1 : IntKind.i64.wrap r = r := IntWalk.i64_in _ (by omega)
        have s2 : IntKind.i64.wrap m2 = m2 := IntWalk.i64_in _ (by omega)
        have HM := hid hm2
        have hdn : decide (r < 0) = false := by simp; omega
        have HC := hid (figure_any r b wr (by omega) (by omega) (by rw [show r.toNat = d by omega]; exact hb))
        clear hd hq hb hr hm hm2 hu0 hu HL
        go_wp2_with fail
        refine HC.out.mono ?_
        rintro e w' ⟨rfl, rfl⟩
        have HF' := HF.out
        go_wp2_with fail
        refine ⟨⟨q, b :: l, by rw [HM.out], ?_, HU.out, HS, hid (below_step HB.out (below_alloc _ _) (Nat.le_refl _))⟩, HQ.out⟩
        rw [show (⟨#[b]⟩ : ByteArray) = ⟨[b].toArray⟩ from rfl, str_app]; rfl
end Go.Proofs.YtggjheapjklhgaaDoor

/- The text of a command: FormatCommand, the program's and the reference's. -/
namespace Go.Proofs.YtggjheapjklhgaaDoor
open Go.RowKit
def wordsL : List (List UInt8) := [[], [97, 99, 116], [114, 101, 97, 100], [119, 114, 105, 116, 101], [112, 114, 101], [114, 101, 102], [100, 111, 119, 110], [117, 112], [115, 108, 101, 101, 112], [119, 97, 107, 101]]
def wordL (k : Int) : List UInt8 := wordsL.getD k.toNat []
/-- The text of a command; of one that is not well formed, none. -/
def cmdText (C : Cmd) : List UInt8 :=
  if formC C = true then wordL C.k ++ ((if usesB C.k = true then 32 :: Lib.itoa C.b else []) ++ ((if usesR C.k = true then 32 :: Lib.itoa C.r else []) ++ (if usesC C.k = true then 32 :: Lib.itoa C.c else []))) else []
theorem wordL_len (k : Int) : (wordL k).length ≤ 5 := by
  unfold wordL
  rw [List.getD_eq_getElem?_getD]
  cases h : wordsL[k.toNat]? with
  | none => simp
  | some x =>
    have hm := List.mem_of_getElem? h
    have : ∀ x ∈ wordsL, x.length ≤ 5 := by decide
    exact this x hm
/-- Block g holds the words. -/
def Words (w : World) (g : Nat) : Prop := g < w.heap.size ∧ ∀ k : Nat, k < 10 → w.cell? ⟨g, k, none⟩ = some (.string ⟨(wordL (k : Int)).toArray⟩)
theorem Words.old {w w' : World} {g : Nat} (h : Words w g) (hb : Below w.heap.size w w') : Words w' g :=
  ⟨Nat.lt_of_lt_of_le h.1 hb.size, fun k hk => (hb.cell (p := ⟨g, k, none⟩) h.1).trans (h.2 k hk)⟩
theorem Words.new (w : World) (t : TypeId) : Words (w.alloc (.cells (wordsL.map fun l => Value.string ⟨l.toArray⟩).toArray t)) w.heap.size := by
  refine ⟨by simp, fun k hk => ?_⟩
  have h := box_at w (wordsL.map fun l => Value.string ⟨l.toArray⟩) t k
  rw [h, List.getElem?_map]
  unfold wordL
  rw [Int.toNat_natCast, List.getD_eq_getElem?_getD, List.getElem?_eq_getElem (show k < wordsL.length from hk)]
  rfl

theorem l06Words_any (w : World) :
    Calls Tryd.prog 23 #[] w fun e w' => ∃ g, e = .returned (.slice (some ⟨g, 0, none⟩) 10 10) ∧ Words w' g ∧ Below w.heap.size w w' := by
  have HW := hid (Words.new w 9)
  go_enter Tryd.func23, Tryd.ntmps23
  go_wp2_with fail
  go_ret
  exact ⟨_, rfl, HW.out, below_alloc _ _⟩
theorem commandWords_any (w : World) :
    Calls Tryd.prog 28 #[] w fun e w' => ∃ g, e = .returned (.slice (some ⟨g, 0, none⟩) 10 10) ∧ Words w' g ∧ Below w.heap.size w w' := by
  have HW := hid (Words.new w 9)
  go_enter Tryd.func28, Tryd.ntmps28
  go_wp2_with fail
  go_ret
  exact ⟨_, rfl, HW.out, below_alloc _ _⟩
theorem specFormatInt_of {n : Int} {l : List UInt8} {w : World} (h : Lib.itoa n = l) (h0 : -9223372036854775808 ≤ n) (h1 : n ≤ 9223372036854775807) :
    Calls Tryd.prog 13 #[.int .i64 n] w fun e w' => e = .returned (.string ⟨l.toArray⟩) ∧ Below w.heap.size w w' := by subst h; exact specFormatInt_any n w h0 h1
theorem implFormatInt_of {n : Int} {l : List UInt8} {w : World} (h : Lib.itoa n = l) (h0 : -9223372036854775808 ≤ n) (h1 : n ≤ 9223372036854775807) (ht : Tab w) :
    Calls Tryd.prog 16 #[.int .i64 n] w fun e w' => e = .returned (.string ⟨l.toArray⟩) ∧ Below w.heap.size w w' := by subst h; exact implFormatInt_any n w h0 h1 ht
theorem l06Uses_of {k : Int} {b r c : Bool} {w : World} (hb : usesB k = b) (hr : usesR k = r) (hc : usesC k = c) :
    Calls Tryd.prog 24 #[.int .i64 k] w fun e w' => e = .returned (.tuple #[.bool b, .bool r, .bool c]) ∧ w = w' := by subst hb hr hc; exact l06Uses_any k w
theorem l06Form_of {C : Cmd} {b : Bool} {w : World} (h : formC C = b) :
    Calls Tryd.prog 22 #[.agg #[.int .i64 C.k, .int .i64 C.b, .int .i64 C.r, .int .i64 C.c]] w fun e w' => e = .returned (.bool b) ∧ Below w.heap.size w w' := by subst h; exact l06Form_any C w
theorem wellFormed_of {C : Cmd} {b : Bool} {w : World} (h : formC C = b) :
    Calls Tryd.prog 27 #[.agg #[.int .i64 C.k, .int .i64 C.b, .int .i64 C.r, .int .i64 C.c], .int .i64 8, .int .i64 16, .int .i64 8] w fun e w' => e = .returned (.bool b) ∧ Below w.heap.size w w' := by
  subst h; rw [formC_eq]; exact wellFormed_any C 8 16 8 w (by decide) (by decide) (by decide) (by decide) (by decide) (by decide)
theorem cmdText_bad {C : Cmd} (h : formC C = false) : cmdText C = [] := by unfold cmdText; rw [h]; rfl
theorem cmdText_good {C : Cmd} {b r c : Bool} {l lb lr lc : List UInt8} (h : formC C = true) (hb : usesB C.k = b) (hr : usesR C.k = r) (hc : usesC C.k = c) (h0 : wordL C.k = l) (h1 : Lib.itoa C.b = lb) (h2 : Lib.itoa C.r = lr) (h3 : Lib.itoa C.c = lc) :
    cmdText C = l ++ ((if b = true then 32 :: lb else []) ++ ((if r = true then 32 :: lr else []) ++ (if c = true then 32 :: lc else []))) := by
  unfold cmdText; rw [if_pos h, hb, hr, hc, h0, h1, h2, h3]
theorem formC_parts {C : Cmd} (h : formC C = true) : (1 ≤ C.k ∧ C.k ≤ 9) ∧ (0 ≤ C.b ∧ C.b ≤ 7) ∧ (0 ≤ C.r ∧ C.r ≤ 15) ∧ (0 ≤ C.c ∧ C.c ≤ 7) := by
  unfold formC at h
  simp only [Bool.and_eq_true, inB_iff] at h
  exact ⟨h.2.1.1.1, h.2.1.1.2, h.2.1.2, h.2.2⟩
theorem uses_cases (k : Int) : (usesB k = false ∧ usesR k = false ∧ usesC k = false) ∨ (usesB k = true ∧ usesR k = false ∧ usesC k = false) ∨ (usesB k = true ∧ usesR k = true ∧ usesC k = false) ∨ (usesB k = true ∧ usesR k = false ∧ usesC k = true) := by
  unfold usesB usesR usesC inB
  by_cases h1 : k = 1
  · subst h1; decide
  by_cases h2 : k = 2
  · subst h2; decide
  by_cases h3 : k = 3
  · subst h3; decide
  have e1 : (k == 1) = false := by simp [h1]
  have e2 : (k == 2) = false := by simp [h2]
  have e3 : (k == 3) = false := by simp [h3]
  rw [e1, e2, e3]
  by_cases h : 1 ≤ k ∧ k ≤ 5
  · simp [h]
  · have : (decide (1 ≤ k) && decide (k ≤ 5)) = false := by rw [Bool.and_eq_false_iff]; simp; omega
    simp [this]
theorem itoa_len {n : Int} {l : List UInt8} (h : Lib.itoa n = l) (h0 : -9223372036854775808 ≤ n) (h1 : n ≤ 9223372036854775807) : l.length ≤ 21 := by subst h; exact Lib.itoa_length_le n h0 h1

theorem gPow : Tryd.prog.globalNamed "internal/strconv.uint64pow10" = some ((Tryd.prog.globalNamed "internal/strconv.uint64pow10").getD 0) := by kernel_rfl
theorem tab_below {w w' : World} (h : Tab w) (hb : Below w.heap.size w w') : Tab w' := by
  have hg := gPow
  generalize (Tryd.prog.globalNamed "internal/strconv.uint64pow10").getD 0 = g at hg
  unfold Tab Lib.TabIs World.var? at h ⊢
  rw [hg, Option.bind_some] at h ⊢
  by_cases hlt : g < w.heap.size
  · rw [hb.block g hlt]; exact h
  · rw [Array.getElem?_eq_none (Nat.le_of_not_lt hlt)] at h; cases h
set_option maxHeartbeats 2000000 in
set_option maxRecDepth 100000 in
theorem specFormatCommand_any (C : Cmd) (w : World) :
    Calls Tryd.prog 14 #[.agg #[.int .i64 C.k, .int .i64 C.b, .int .i64 C.r, .int .i64 C.c]] w fun e w' => e = .returned (.string ⟨(cmdText C).toArray⟩) ∧ Below w.heap.size w w' := by
  have HC0 := hid (BoxC.new_ w 40 C rfl)
  cases hf : formC C with
  | false =>
    have HX := hid (cmdText_bad hf)
    go_enter Tryd.func14, Tryd.ntmps14
    go_wp2_with fail
    refine (l06Form_of hf).mono ?_
    rintro e w1 ⟨rfl, B⟩
    go_wp2_with fail
    go_ret
    exact ⟨by rw [HX.out]; rfl, below_step (below_alloc _ _) B (Nat.le_refl _)⟩
  | true =>
    have HP := hid (formC_parts hf)
    obtain ⟨l, hl⟩ : ∃ l, wordL C.k = l := ⟨_, rfl⟩
    obtain ⟨lb, hlb⟩ : ∃ l, Lib.itoa C.b = l := ⟨_, rfl⟩
    obtain ⟨lr, hlr⟩ : ∃ l, Lib.itoa C.r = l := ⟨_, rfl⟩
    obtain ⟨lc, hlc⟩ : ∃ l, Lib.itoa C.c = l := ⟨_, rfl⟩
    have HF := hid hf
    have HL := hid hl
    have HLB := hid hlb
    have HLR := hid hlr
    have HLC := hid hlc
    have hl0 := hid (show l.length ≤ 5 by rw [← hl]; exact wordL_len _)
    have hl1 := hid (itoa_len hlb (by have := HP.out; omega) (by have := HP.out; omega))
    have hl2 := hid (itoa_len hlr (by have := HP.out; omega) (by have := HP.out; omega))
    have hl3 := hid (itoa_len hlc (by have := HP.out; omega) (by have := HP.out; omega))
    clear hl hlb hlr hlc
    go_enter Tryd.func14, Tryd.ntmps14
    go_wp2_with fail
    refine (l06Form_of hf).mono ?_
    rintro e w1 ⟨rfl, B⟩
    clear hf
    have HC := hid (HC0.out.old B)
    have HB := hid (below_step (below_alloc w (.cells #[.int .i64 C.k, .int .i64 C.b, .int .i64 C.r, .int .i64 C.c] 40)) B (Nat.le_refl _))
    clear B HC0
    go_upto_region 3 with (fail)
    refine growR_of 6 (fr := ?fr1)
      (fun i v w' => match i with
          | 0 => ∃ g, v = .slice (some ⟨g, 0, none⟩) 10 10 ∧ Words w' g
          | 1 => v = .pointer (some ⟨w.heap.size, 0, none⟩)
          | 2 => v = .int .i64 C.k
          | 3 => ∃ g, v = .pointer (some ⟨g, C.k.toNat, none⟩) ∧ Words w' g
          | 4 => v = .string ⟨l.toArray⟩
          | _ => v = .string ⟨l.toArray⟩
        ) (by kernel_rfl) (by kernel_rfl) (by decide) (by kernel_rfl) ?hfr1 ⟨fun _ => undef, ?h01⟩ ?hF1 ?hstep1 ?hend1
    case hfr1 => intro vs; simp only [frOf, List.take_succ_cons, List.take_zero]; go_simp; exact rfl
    case h01 => rfl
    case hF1 =>
      intro i v w' w'' h hb
      match i, h with
      | 0, h => obtain ⟨g, e, o⟩ := h; exact ⟨g, e, o.old hb⟩
      | 1, h => exact h
      | 2, h => exact h
      | 3, h => obtain ⟨g, e, o⟩ := h; exact ⟨g, e, o.old hb⟩
      | 4, h => exact h
      | n + 5, h => exact h
    case hstep1 =>
      intro vs w' i o hin ho hb hd
      match i, ho, hin with
      | 0, ho, _ =>
        simp only [List.getElem?_cons_zero, Option.some.injEq] at ho
        subst ho
        refine ⟨wanted_none rfl, ?_⟩
        generalize hK : (fun (a' : Act) (w'' : World) => ∃ v : Value, _ ∧ _ ∧ _) = K
        go_simp
        refine (l06Words_any _).mono ?_
        rintro e w2 ⟨g, rfl, O, B⟩
        rw [← hK]
        exact ⟨_, rfl, ⟨g, rfl, O⟩, B⟩
      | 1, ho, _ =>
        simp only [List.getElem?_cons_succ, List.getElem?_cons_zero, Option.some.injEq] at ho
        subst ho
        refine ⟨wanted_none rfl, ?_⟩
        generalize hK : (fun (a' : Act) (w'' : World) => ∃ v : Value, _ ∧ _ ∧ _) = K
        go_simp
        rw [← hK]
        exact ⟨_, rfl, rfl, Below.refl _ _⟩
      | 2, ho, _ =>
        simp only [List.getElem?_cons_succ, List.getElem?_cons_zero, Option.some.injEq] at ho
        subst ho
        refine ⟨wanted_none rfl, ?_⟩
        have e1 : vs 1 = .pointer (some ⟨w.heap.size, 0, none⟩) := hd 1 (by kernel_rfl)
        have q0 := (HC.out.old hb).c0
        generalize hK : (fun (a' : Act) (w'' : World) => ∃ v : Value, _ ∧ _ ∧ _) = K
        generalize hup : vs 1 = up at e1 ⊢
        subst e1
        go_simp
        rw [← hK]
        exact ⟨_, by simp [upd, hup], rfl, Below.refl _ _⟩
      | 3, ho, _ =>
        simp only [List.getElem?_cons_succ, List.getElem?_cons_zero, Option.some.injEq] at ho
        subst ho
        refine ⟨wanted_none rfl, ?_⟩
        obtain ⟨g, e0, O⟩ := hd 0 (by kernel_rfl)
        have e2 : vs 2 = .int .i64 C.k := hd 2 (by kernel_rfl)
        have HO := hid O
        clear O
        have k0 : 0 ≤ C.k := by have := HP.out.1; omega
        have k1 : C.k < 10 := by have := HP.out.1; omega
        generalize hK : (fun (a' : Act) (w'' : World) => ∃ v : Value, _ ∧ _ ∧ _) = K
        generalize hu0 : vs 0 = u0 at e0 ⊢
        subst e0
        generalize hu2 : vs 2 = u2 at e2 ⊢
        subst e2
        go_simp
        rw [← hK]
        exact ⟨_, by simp [upd, hu0, hu2], ⟨g, rfl, HO.out⟩, Below.refl _ _⟩
      | 4, ho, _ =>
        simp only [List.getElem?_cons_succ, List.getElem?_cons_zero, Option.some.injEq] at ho
        subst ho
        refine ⟨wanted_none rfl, ?_⟩
        obtain ⟨g, e3, O⟩ := hd 3 (by kernel_rfl)
        have q0 := O.2 C.k.toNat (by have := HP.out.1; omega)
        rw [Int.toNat_of_nonneg (by have := HP.out.1; omega), HL.out] at q0
        clear O
        generalize hK : (fun (a' : Act) (w'' : World) => ∃ v : Value, _ ∧ _ ∧ _) = K
        generalize hup : vs 3 = up at e3 ⊢
        subst e3
        go_simp
        rw [← hK]
        exact ⟨_, by simp [upd, hup], rfl, Below.refl _ _⟩
      | 5, ho, _ =>
        simp only [List.getElem?_cons_succ, List.getElem?_cons_zero, Option.some.injEq] at ho
        subst ho
        refine ⟨wanted_none rfl, ?_⟩
        have e4 : vs 4 = .string ⟨l.toArray⟩ := hd 4 (by kernel_rfl)
        generalize hK : (fun (a' : Act) (w'' : World) => ∃ v : Value, _ ∧ _ ∧ _) = K
        generalize hup : vs 4 = up at e4 ⊢
        subst e4
        go_simp
        rw [← hK]
        exact ⟨_, by simp [upd, hup], rfl, Below.refl _ _⟩
      | n + 6, _, hin => exact absurd hin (by omega)
    case hend1 =>
      intro vs w2 hb hf
      have er : vs 5 = .string ⟨l.toArray⟩ := hf 5 (by decide)
      have HC := hid (HC.out.old hb)
      have HB := hid (below_step HB.out hb (Nat.le_refl _))
      clear hb hf
      generalize vs 5 = ur at er ⊢
      subst er
      simp only [List.drop_succ_cons, List.drop_nil]
      refine wpTail_nil ?_
      rcases uses_cases C.k with ⟨hb, hr, hc⟩ | ⟨hb, hr, hc⟩ | ⟨hb, hr, hc⟩ | ⟨hb, hr, hc⟩
      · have HX := hid (cmdText_good HF.out hb hr hc HL.out HLB.out HLR.out HLC.out)
        obtain ⟨_, q0, q1, q2, q3⟩ := HC.out
        have z1 : ¬ 9223372036854775807 < l.length + 1 := by have := hl0.out; omega
        go_wp2_with ((go_at_call 24; refine (l06Uses_of hb hr hc).mono ?_; rintro e w' ⟨rfl, rfl⟩))
        go_ret
        refine ⟨?_, HB.out⟩
        rw [HX.out]
        simp
      · have HX := hid (cmdText_good HF.out hb hr hc HL.out HLB.out HLR.out HLC.out)
        obtain ⟨_, q0, q1, q2, q3⟩ := HC.out
        have z1 : ¬ 9223372036854775807 < l.length + 1 := by have := hl0.out; omega
        go_wp2_with ((go_at_call 24; refine (l06Uses_of hb hr hc).mono ?_; rintro e w' ⟨rfl, rfl⟩))
        clear q0 q1 q2 q3
        refine (specFormatInt_of HLB.out (by have := HP.out; omega) (by have := HP.out; omega)).mono ?_
        rintro e w3 ⟨rfl, Bk⟩
        have HC := hid (HC.out.old Bk)
        have HB := hid (below_step HB.out Bk (Nat.le_refl _))
        clear Bk
        obtain ⟨_, q0, q1, q2, q3⟩ := HC.out
        have za3 : ¬ 9223372036854775807 < l.length + 1 + lb.length := by have := hl0.out; have := hl1.out; have := hl2.out; have := hl3.out; omega
        have zb3 : ¬ 9223372036854775807 < l.length + 1 + lb.length + 1 := by have := hl0.out; have := hl1.out; have := hl2.out; have := hl3.out; omega
        go_wp2_with ((go_at_call 24; refine (l06Uses_of hb hr hc).mono ?_; rintro e w' ⟨rfl, rfl⟩))
        go_ret
        refine ⟨?_, HB.out⟩
        rw [HX.out]
        simp [str_app]
      · have HX := hid (cmdText_good HF.out hb hr hc HL.out HLB.out HLR.out HLC.out)
        obtain ⟨_, q0, q1, q2, q3⟩ := HC.out
        have z1 : ¬ 9223372036854775807 < l.length + 1 := by have := hl0.out; omega
        go_wp2_with ((go_at_call 24; refine (l06Uses_of hb hr hc).mono ?_; rintro e w' ⟨rfl, rfl⟩))
        clear q0 q1 q2 q3
        refine (specFormatInt_of HLB.out (by have := HP.out; omega) (by have := HP.out; omega)).mono ?_
        rintro e w3 ⟨rfl, Bk⟩
        have HC := hid (HC.out.old Bk)
        have HB := hid (below_step HB.out Bk (Nat.le_refl _))
        clear Bk
        obtain ⟨_, q0, q1, q2, q3⟩ := HC.out
        have za3 : ¬ 9223372036854775807 < l.length + 1 + lb.length := by have := hl0.out; have := hl1.out; have := hl2.out; have := hl3.out; omega
        have zb3 : ¬ 9223372036854775807 < l.length + 1 + lb.length + 1 := by have := hl0.out; have := hl1.out; have := hl2.out; have := hl3.out; omega
        go_wp2_with ((go_at_call 24; refine (l06Uses_of hb hr hc).mono ?_; rintro e w' ⟨rfl, rfl⟩))
        clear q0 q1 q2 q3
        refine (specFormatInt_of HLR.out (by have := HP.out; omega) (by have := HP.out; omega)).mono ?_
        rintro e w4 ⟨rfl, Bk⟩
        have HC := hid (HC.out.old Bk)
        have HB := hid (below_step HB.out Bk (Nat.le_refl _))
        clear Bk
        obtain ⟨_, q0, q1, q2, q3⟩ := HC.out
        have za4 : ¬ 9223372036854775807 < l.length + 1 + lb.length + 1 + lr.length := by have := hl0.out; have := hl1.out; have := hl2.out; have := hl3.out; omega
        have zb4 : ¬ 9223372036854775807 < l.length + 1 + lb.length + 1 + lr.length + 1 := by have := hl0.out; have := hl1.out; have := hl2.out; have := hl3.out; omega
        go_wp2_with ((go_at_call 24; refine (l06Uses_of hb hr hc).mono ?_; rintro e w' ⟨rfl, rfl⟩))
        go_ret
        refine ⟨?_, HB.out⟩
        rw [HX.out]
        simp [str_app]
      · have HX := hid (cmdText_good HF.out hb hr hc HL.out HLB.out HLR.out HLC.out)
        obtain ⟨_, q0, q1, q2, q3⟩ := HC.out
        have z1 : ¬ 9223372036854775807 < l.length + 1 := by have := hl0.out; omega
        go_wp2_with ((go_at_call 24; refine (l06Uses_of hb hr hc).mono ?_; rintro e w' ⟨rfl, rfl⟩))
        clear q0 q1 q2 q3
        refine (specFormatInt_of HLB.out (by have := HP.out; omega) (by have := HP.out; omega)).mono ?_
        rintro e w3 ⟨rfl, Bk⟩
        have HC := hid (HC.out.old Bk)
        have HB := hid (below_step HB.out Bk (Nat.le_refl _))
        clear Bk
        obtain ⟨_, q0, q1, q2, q3⟩ := HC.out
        have za3 : ¬ 9223372036854775807 < l.length + 1 + lb.length := by have := hl0.out; have := hl1.out; have := hl2.out; have := hl3.out; omega
        have zb3 : ¬ 9223372036854775807 < l.length + 1 + lb.length + 1 := by have := hl0.out; have := hl1.out; have := hl2.out; have := hl3.out; omega
        go_wp2_with ((go_at_call 24; refine (l06Uses_of hb hr hc).mono ?_; rintro e w' ⟨rfl, rfl⟩))
        clear q0 q1 q2 q3
        refine (specFormatInt_of HLC.out (by have := HP.out; omega) (by have := HP.out; omega)).mono ?_
        rintro e w4 ⟨rfl, Bk⟩
        have HC := hid (HC.out.old Bk)
        have HB := hid (below_step HB.out Bk (Nat.le_refl _))
        clear Bk
        obtain ⟨_, q0, q1, q2, q3⟩ := HC.out
        have za4 : ¬ 9223372036854775807 < l.length + 1 + lb.length + 1 + lc.length := by have := hl0.out; have := hl1.out; have := hl2.out; have := hl3.out; omega
        have zb4 : ¬ 9223372036854775807 < l.length + 1 + lb.length + 1 + lc.length + 1 := by have := hl0.out; have := hl1.out; have := hl2.out; have := hl3.out; omega
        go_wp2_with ((go_at_call 24; refine (l06Uses_of hb hr hc).mono ?_; rintro e w' ⟨rfl, rfl⟩))
        go_ret
        refine ⟨?_, HB.out⟩
        rw [HX.out]
        simp [str_app]
set_option maxHeartbeats 2000000 in
set_option maxRecDepth 100000 in
theorem implFormatCommand_any (C : Cmd) (w : World) (ht : Tab w) :
    Calls Tryd.prog 17 #[.agg #[.int .i64 C.k, .int .i64 C.b, .int .i64 C.r, .int .i64 C.c]] w fun e w' => e = .returned (.string ⟨(cmdText C).toArray⟩) ∧ Below w.heap.size w w' := by
  have HC0 := hid (BoxC.new_ w 40 C rfl)
  have HT := hid ht
  clear ht
  cases hf : formC C with
  | false =>
    have HX := hid (cmdText_bad hf)
    go_enter Tryd.func17, Tryd.ntmps17
    go_wp2_with fail
    refine (wellFormed_of hf).mono ?_
    rintro e w1 ⟨rfl, B⟩
    go_wp2_with fail
    go_ret
    exact ⟨by rw [HX.out]; rfl, below_step (below_alloc _ _) B (Nat.le_refl _)⟩
  | true =>
    have HP := hid (formC_parts hf)
    obtain ⟨l, hl⟩ : ∃ l, wordL C.k = l := ⟨_, rfl⟩
    obtain ⟨lb, hlb⟩ : ∃ l, Lib.itoa C.b = l := ⟨_, rfl⟩
    obtain ⟨lr, hlr⟩ : ∃ l, Lib.itoa C.r = l := ⟨_, rfl⟩
    obtain ⟨lc, hlc⟩ : ∃ l, Lib.itoa C.c = l := ⟨_, rfl⟩
    have HF := hid hf
    have HL := hid hl
    have HLB := hid hlb
    have HLR := hid hlr
    have HLC := hid hlc
    have hl0 := hid (show l.length ≤ 5 by rw [← hl]; exact wordL_len _)
    have hl1 := hid (itoa_len hlb (by have := HP.out; omega) (by have := HP.out; omega))
    have hl2 := hid (itoa_len hlr (by have := HP.out; omega) (by have := HP.out; omega))
    have hl3 := hid (itoa_len hlc (by have := HP.out; omega) (by have := HP.out; omega))
    clear hl hlb hlr hlc
    go_enter Tryd.func17, Tryd.ntmps17
    go_wp2_with fail
    refine (wellFormed_of hf).mono ?_
    rintro e w1 ⟨rfl, B⟩
    clear hf
    have HC := hid (HC0.out.old B)
    have HB := hid (below_step (below_alloc w (.cells #[.int .i64 C.k, .int .i64 C.b, .int .i64 C.r, .int .i64 C.c] 40)) B (Nat.le_refl _))
    clear B HC0
    go_upto_region 3 with (fail)
    refine growR_of 6 (fr := ?fr2)
      (fun i v w' => match i with
          | 0 => ∃ g, v = .slice (some ⟨g, 0, none⟩) 10 10 ∧ Words w' g
          | 1 => v = .pointer (some ⟨w.heap.size, 0, none⟩)
          | 2 => v = .int .i64 C.k
          | 3 => ∃ g, v = .pointer (some ⟨g, C.k.toNat, none⟩) ∧ Words w' g
          | 4 => v = .string ⟨l.toArray⟩
          | _ => v = .string ⟨l.toArray⟩
        ) (by kernel_rfl) (by kernel_rfl) (by decide) (by kernel_rfl) ?hfr2 ⟨fun _ => undef, ?h02⟩ ?hF2 ?hstep2 ?hend2
    case hfr2 => intro vs; simp only [frOf, List.take_succ_cons, List.take_zero]; go_simp; exact rfl
    case h02 => rfl
    case hF2 =>
      intro i v w' w'' h hb
      match i, h with
      | 0, h => obtain ⟨g, e, o⟩ := h; exact ⟨g, e, o.old hb⟩
      | 1, h => exact h
      | 2, h => exact h
      | 3, h => obtain ⟨g, e, o⟩ := h; exact ⟨g, e, o.old hb⟩
      | 4, h => exact h
      | n + 5, h => exact h
    case hstep2 =>
      intro vs w' i o hin ho hb hd
      match i, ho, hin with
      | 0, ho, _ =>
        simp only [List.getElem?_cons_zero, Option.some.injEq] at ho
        subst ho
        refine ⟨wanted_none rfl, ?_⟩
        generalize hK : (fun (a' : Act) (w'' : World) => ∃ v : Value, _ ∧ _ ∧ _) = K
        go_simp
        refine (commandWords_any _).mono ?_
        rintro e w2 ⟨g, rfl, O, B⟩
        rw [← hK]
        exact ⟨_, rfl, ⟨g, rfl, O⟩, B⟩
      | 1, ho, _ =>
        simp only [List.getElem?_cons_succ, List.getElem?_cons_zero, Option.some.injEq] at ho
        subst ho
        refine ⟨wanted_none rfl, ?_⟩
        generalize hK : (fun (a' : Act) (w'' : World) => ∃ v : Value, _ ∧ _ ∧ _) = K
        go_simp
        rw [← hK]
        exact ⟨_, rfl, rfl, Below.refl _ _⟩
      | 2, ho, _ =>
        simp only [List.getElem?_cons_succ, List.getElem?_cons_zero, Option.some.injEq] at ho
        subst ho
        refine ⟨wanted_none rfl, ?_⟩
        have e1 : vs 1 = .pointer (some ⟨w.heap.size, 0, none⟩) := hd 1 (by kernel_rfl)
        have q0 := (HC.out.old hb).c0
        generalize hK : (fun (a' : Act) (w'' : World) => ∃ v : Value, _ ∧ _ ∧ _) = K
        generalize hup : vs 1 = up at e1 ⊢
        subst e1
        go_simp
        rw [← hK]
        exact ⟨_, by simp [upd, hup], rfl, Below.refl _ _⟩
      | 3, ho, _ =>
        simp only [List.getElem?_cons_succ, List.getElem?_cons_zero, Option.some.injEq] at ho
        subst ho
        refine ⟨wanted_none rfl, ?_⟩
        obtain ⟨g, e0, O⟩ := hd 0 (by kernel_rfl)
        have e2 : vs 2 = .int .i64 C.k := hd 2 (by kernel_rfl)
        have HO := hid O
        clear O
        have k0 : 0 ≤ C.k := by have := HP.out.1; omega
        have k1 : C.k < 10 := by have := HP.out.1; omega
        generalize hK : (fun (a' : Act) (w'' : World) => ∃ v : Value, _ ∧ _ ∧ _) = K
        generalize hu0 : vs 0 = u0 at e0 ⊢
        subst e0
        generalize hu2 : vs 2 = u2 at e2 ⊢
        subst e2
        go_simp
        rw [← hK]
        exact ⟨_, by simp [upd, hu0, hu2], ⟨g, rfl, HO.out⟩, Below.refl _ _⟩
      | 4, ho, _ =>
        simp only [List.getElem?_cons_succ, List.getElem?_cons_zero, Option.some.injEq] at ho
        subst ho
        refine ⟨wanted_none rfl, ?_⟩
        obtain ⟨g, e3, O⟩ := hd 3 (by kernel_rfl)
        have q0 := O.2 C.k.toNat (by have := HP.out.1; omega)
        rw [Int.toNat_of_nonneg (by have := HP.out.1; omega), HL.out] at q0
        clear O
        generalize hK : (fun (a' : Act) (w'' : World) => ∃ v : Value, _ ∧ _ ∧ _) = K
        generalize hup : vs 3 = up at e3 ⊢
        subst e3
        go_simp
        rw [← hK]
        exact ⟨_, by simp [upd, hup], rfl, Below.refl _ _⟩
      | 5, ho, _ =>
        simp only [List.getElem?_cons_succ, List.getElem?_cons_zero, Option.some.injEq] at ho
        subst ho
        refine ⟨wanted_none rfl, ?_⟩
        have e4 : vs 4 = .string ⟨l.toArray⟩ := hd 4 (by kernel_rfl)
        generalize hK : (fun (a' : Act) (w'' : World) => ∃ v : Value, _ ∧ _ ∧ _) = K
        generalize hup : vs 4 = up at e4 ⊢
        subst e4
        go_simp
        rw [← hK]
        exact ⟨_, by simp [upd, hup], rfl, Below.refl _ _⟩
      | n + 6, _, hin => exact absurd hin (by omega)
    case hend2 =>
      intro vs w2 hb hf
      have er : vs 5 = .string ⟨l.toArray⟩ := hf 5 (by decide)
      have HC := hid (HC.out.old hb)
      have HB := hid (below_step HB.out hb (Nat.le_refl _))
      clear hb hf
      generalize vs 5 = ur at er ⊢
      subst er
      simp only [List.drop_succ_cons, List.drop_nil]
      refine wpTail_nil ?_
      have HT := hid (tab_below HT.out HB.out)
      rcases uses_cases C.k with ⟨hb, hr, hc⟩ | ⟨hb, hr, hc⟩ | ⟨hb, hr, hc⟩ | ⟨hb, hr, hc⟩
      · have HX := hid (cmdText_good HF.out hb hr hc HL.out HLB.out HLR.out HLC.out)
        obtain ⟨_, q0, q1, q2, q3⟩ := HC.out
        go_wp2_with (first | (go_at_call 29; refine (usesBank_of hb).mono ?_; rintro e w' ⟨rfl, rfl⟩) | (go_at_call 30; refine (usesRow_of hr).mono ?_; rintro e w' ⟨rfl, rfl⟩) | (go_at_call 31; refine (usesCol_of hc).mono ?_; rintro e w' ⟨rfl, rfl⟩))
        go_ret
        refine ⟨?_, HB.out⟩
        rw [HX.out]
        simp
      · have HX := hid (cmdText_good HF.out hb hr hc HL.out HLB.out HLR.out HLC.out)
        obtain ⟨_, q0, q1, q2, q3⟩ := HC.out
        go_wp2_with (first | (go_at_call 29; refine (usesBank_of hb).mono ?_; rintro e w' ⟨rfl, rfl⟩) | (go_at_call 30; refine (usesRow_of hr).mono ?_; rintro e w' ⟨rfl, rfl⟩) | (go_at_call 31; refine (usesCol_of hc).mono ?_; rintro e w' ⟨rfl, rfl⟩))
        clear q0 q1 q2 q3
        refine (implFormatInt_of HLB.out (by have := HP.out; omega) (by have := HP.out; omega) HT.out).mono ?_
        rintro e w3 ⟨rfl, Bk⟩
        have HC := hid (HC.out.old Bk)
        have HB := hid (below_step HB.out Bk (Nat.le_refl _))
        have HT := hid (tab_below HT.out Bk)
        clear Bk
        obtain ⟨_, q0, q1, q2, q3⟩ := HC.out
        have za3 : ¬ 9223372036854775807 < 1 + lb.length := by have := hl0.out; have := hl1.out; have := hl2.out; have := hl3.out; omega
        have zb3 : ¬ 9223372036854775807 < l.length + (1 + lb.length) := by have := hl0.out; have := hl1.out; have := hl2.out; have := hl3.out; omega
        go_wp2_with (first | (go_at_call 29; refine (usesBank_of hb).mono ?_; rintro e w' ⟨rfl, rfl⟩) | (go_at_call 30; refine (usesRow_of hr).mono ?_; rintro e w' ⟨rfl, rfl⟩) | (go_at_call 31; refine (usesCol_of hc).mono ?_; rintro e w' ⟨rfl, rfl⟩))
        go_ret
        refine ⟨?_, HB.out⟩
        rw [HX.out]
        simp [str_app]
      · have HX := hid (cmdText_good HF.out hb hr hc HL.out HLB.out HLR.out HLC.out)
        obtain ⟨_, q0, q1, q2, q3⟩ := HC.out
        go_wp2_with (first | (go_at_call 29; refine (usesBank_of hb).mono ?_; rintro e w' ⟨rfl, rfl⟩) | (go_at_call 30; refine (usesRow_of hr).mono ?_; rintro e w' ⟨rfl, rfl⟩) | (go_at_call 31; refine (usesCol_of hc).mono ?_; rintro e w' ⟨rfl, rfl⟩))
        clear q0 q1 q2 q3
        refine (implFormatInt_of HLB.out (by have := HP.out; omega) (by have := HP.out; omega) HT.out).mono ?_
        rintro e w3 ⟨rfl, Bk⟩
        have HC := hid (HC.out.old Bk)
        have HB := hid (below_step HB.out Bk (Nat.le_refl _))
        have HT := hid (tab_below HT.out Bk)
        clear Bk
        obtain ⟨_, q0, q1, q2, q3⟩ := HC.out
        have za3 : ¬ 9223372036854775807 < 1 + lb.length := by have := hl0.out; have := hl1.out; have := hl2.out; have := hl3.out; omega
        have zb3 : ¬ 9223372036854775807 < l.length + (1 + lb.length) := by have := hl0.out; have := hl1.out; have := hl2.out; have := hl3.out; omega
        go_wp2_with (first | (go_at_call 29; refine (usesBank_of hb).mono ?_; rintro e w' ⟨rfl, rfl⟩) | (go_at_call 30; refine (usesRow_of hr).mono ?_; rintro e w' ⟨rfl, rfl⟩) | (go_at_call 31; refine (usesCol_of hc).mono ?_; rintro e w' ⟨rfl, rfl⟩))
        clear q0 q1 q2 q3
        refine (implFormatInt_of HLR.out (by have := HP.out; omega) (by have := HP.out; omega) HT.out).mono ?_
        rintro e w4 ⟨rfl, Bk⟩
        have HC := hid (HC.out.old Bk)
        have HB := hid (below_step HB.out Bk (Nat.le_refl _))
        have HT := hid (tab_below HT.out Bk)
        clear Bk
        obtain ⟨_, q0, q1, q2, q3⟩ := HC.out
        have za4 : ¬ 9223372036854775807 < 1 + lr.length := by have := hl0.out; have := hl1.out; have := hl2.out; have := hl3.out; omega
        have zb4 : ¬ 9223372036854775807 < l.length + (1 + lb.length) + (1 + lr.length) := by have := hl0.out; have := hl1.out; have := hl2.out; have := hl3.out; omega
        go_wp2_with (first | (go_at_call 29; refine (usesBank_of hb).mono ?_; rintro e w' ⟨rfl, rfl⟩) | (go_at_call 30; refine (usesRow_of hr).mono ?_; rintro e w' ⟨rfl, rfl⟩) | (go_at_call 31; refine (usesCol_of hc).mono ?_; rintro e w' ⟨rfl, rfl⟩))
        go_ret
        refine ⟨?_, HB.out⟩
        rw [HX.out]
        simp [str_app]
      · have HX := hid (cmdText_good HF.out hb hr hc HL.out HLB.out HLR.out HLC.out)
        obtain ⟨_, q0, q1, q2, q3⟩ := HC.out
        go_wp2_with (first | (go_at_call 29; refine (usesBank_of hb).mono ?_; rintro e w' ⟨rfl, rfl⟩) | (go_at_call 30; refine (usesRow_of hr).mono ?_; rintro e w' ⟨rfl, rfl⟩) | (go_at_call 31; refine (usesCol_of hc).mono ?_; rintro e w' ⟨rfl, rfl⟩))
        clear q0 q1 q2 q3
        refine (implFormatInt_of HLB.out (by have := HP.out; omega) (by have := HP.out; omega) HT.out).mono ?_
        rintro e w3 ⟨rfl, Bk⟩
        have HC := hid (HC.out.old Bk)
        have HB := hid (below_step HB.out Bk (Nat.le_refl _))
        have HT := hid (tab_below HT.out Bk)
        clear Bk
        obtain ⟨_, q0, q1, q2, q3⟩ := HC.out
        have za3 : ¬ 9223372036854775807 < 1 + lb.length := by have := hl0.out; have := hl1.out; have := hl2.out; have := hl3.out; omega
        have zb3 : ¬ 9223372036854775807 < l.length + (1 + lb.length) := by have := hl0.out; have := hl1.out; have := hl2.out; have := hl3.out; omega
        go_wp2_with (first | (go_at_call 29; refine (usesBank_of hb).mono ?_; rintro e w' ⟨rfl, rfl⟩) | (go_at_call 30; refine (usesRow_of hr).mono ?_; rintro e w' ⟨rfl, rfl⟩) | (go_at_call 31; refine (usesCol_of hc).mono ?_; rintro e w' ⟨rfl, rfl⟩))
        clear q0 q1 q2 q3
        refine (implFormatInt_of HLC.out (by have := HP.out; omega) (by have := HP.out; omega) HT.out).mono ?_
        rintro e w4 ⟨rfl, Bk⟩
        have HC := hid (HC.out.old Bk)
        have HB := hid (below_step HB.out Bk (Nat.le_refl _))
        have HT := hid (tab_below HT.out Bk)
        clear Bk
        obtain ⟨_, q0, q1, q2, q3⟩ := HC.out
        have za4 : ¬ 9223372036854775807 < 1 + lc.length := by have := hl0.out; have := hl1.out; have := hl2.out; have := hl3.out; omega
        have zb4 : ¬ 9223372036854775807 < l.length + (1 + lb.length) + (1 + lc.length) := by have := hl0.out; have := hl1.out; have := hl2.out; have := hl3.out; omega
        go_wp2_with (first | (go_at_call 29; refine (usesBank_of hb).mono ?_; rintro e w' ⟨rfl, rfl⟩) | (go_at_call 30; refine (usesRow_of hr).mono ?_; rintro e w' ⟨rfl, rfl⟩) | (go_at_call 31; refine (usesCol_of hc).mono ?_; rintro e w' ⟨rfl, rfl⟩))
        go_ret
        refine ⟨?_, HB.out⟩
        rw [HX.out]
        simp [str_app]
end Go.Proofs.YtggjheapjklhgaaDoor

/- The text of a trace: FormatTrace, the program's and the reference's. -/
namespace Go.Proofs.YtggjheapjklhgaaDoor
open Go.RowKit
def evText (e : Ev) : List UInt8 := Lib.itoa e.t ++ (32 :: (cmdText e.c ++ [10]))
def trText (es : List Ev) : List UInt8 := es.flatMap evText
/-- The times of the events are numbers of the program's. -/
def TimesIn (es : List Ev) : Prop := ∀ e ∈ es, -9223372036854775808 ≤ e.t ∧ e.t ≤ 9223372036854775807
theorem cmdText_len (C : Cmd) : (cmdText C).length ≤ 71 := by
  cases h : formC C with
  | false => rw [cmdText_bad h]; simp
  | true =>
    have hp := formC_parts h
    have h0 := wordL_len C.k
    have h1 := itoa_len (n := C.b) rfl (by omega) (by omega)
    have h2 := itoa_len (n := C.r) rfl (by omega) (by omega)
    have h3 := itoa_len (n := C.c) rfl (by omega) (by omega)
    rw [cmdText_good h rfl rfl rfl rfl rfl rfl rfl]
    simp only [List.length_append]
    have d1 : (if usesB C.k = true then (32 : UInt8) :: Lib.itoa C.b else []).length ≤ 22 := by split <;> simp <;> omega
    have d2 : (if usesR C.k = true then (32 : UInt8) :: Lib.itoa C.r else []).length ≤ 22 := by split <;> simp <;> omega
    have d3 : (if usesC C.k = true then (32 : UInt8) :: Lib.itoa C.c else []).length ≤ 22 := by split <;> simp <;> omega
    omega
theorem evText_len {e : Ev} (h : -9223372036854775808 ≤ e.t ∧ e.t ≤ 9223372036854775807) : (evText e).length ≤ 94 := by
  have h1 := itoa_len (n := e.t) rfl h.1 h.2
  have h2 := cmdText_len e.c
  unfold evText
  simp only [List.length_append, List.length_cons, List.length_nil]
  omega
theorem trText_len {es : List Ev} (h : TimesIn es) : (trText es).length ≤ 94 * es.length := by
  induction es with
  | nil => simp [trText]
  | cons e es ih =>
    have h1 := ih (fun x hx => h x (List.mem_cons_of_mem _ hx))
    have h2 := evText_len (h e (List.mem_cons_self ..))
    unfold trText at h1 ⊢
    rw [List.flatMap_cons, List.length_append, List.length_cons]
    omega
theorem TimesIn.take {es : List Ev} (h : TimesIn es) (k : Nat) : TimesIn (es.take k) := fun x hx => h x (List.mem_of_mem_take hx)
theorem trText_at {es : List Ev} {k : Nat} {e : Ev} (h : es[k]? = some e) : trText (es.take (k + 1)) = trText (es.take k) ++ evText e := by
  unfold trText; rw [take_snoc h, List.flatMap_append]; simp
theorem BRow.old {w w' : World} {g n cap : Nat} {xs : List UInt8} (h : BRow w g n cap xs) (hb : Below w.heap.size w w') : BRow w' g n cap xs := by
  refine ⟨h.1, ?_⟩
  rcases h.2 with h0 | ⟨g', cap', cur, hv, hg, hh, rest⟩
  · exact .inl h0
  · refine .inr ⟨g', cap', cur, hv, hg, ?_, rest⟩
    have hlt : g' < w.heap.size := by
      rcases Nat.lt_or_ge g' w.heap.size with h' | h'
      · exact h'
      · rw [Array.getElem?_eq_none h'] at hh; cases hh
    rw [hb.block g' hlt]; exact hh
theorem strCells_mk (l : List UInt8) : Lib.strCells ⟨l.toArray⟩ = l.map byteV := by simp [Lib.strCells, byteV]
/-- append of a string to a row of bytes of the call's own. -/
theorem wpTail_append_str {ops : Array Oper} {rest : List Oper} {o : Oper} {a : Act} {Q : Exit → Act → World → Prop} (hgd : o.guard = none) (s x : Operand)
    (ho : o.op = .call { callee := .builtin .append, args := #[s, x], argTypes := #[29, 9] })
    (W : World) (B g n cap : Nat) (xs : List UInt8) (hrow : BRow W g n cap xs) (hg : B ≤ g) (hs : a.eval s = .slice (some ⟨g, 0, none⟩) n cap) (l : List UInt8) (hx : a.eval x = .string ⟨l.toArray⟩) (hB : B ≤ W.heap.size) (hn : n + l.length ≤ 1099511627776)
    (h : ∀ g' cap' w', B ≤ g' → BRow w' g' (n + l.length) cap' (xs ++ l) → Below B W w' → wpTail Tryd.prog ops Q rest (a.put o.dst (.slice (some ⟨g', 0, none⟩) (n + l.length) cap')) w') :
    wpTail Tryd.prog ops Q (o :: rest) a W := by
  obtain ⟨i0, hi, hz0, hz1, hz2⟩ := info_parts infoU8
  have hown := hrow.rebase hg
  have hlt := hown.lt
  have hsz : (⟨l.toArray⟩ : ByteArray).size = l.length := rfl
  obtain ⟨v', w', hr, h2, h3, h4⟩ := Lib.run_append_own_string (P := Tryd.prog) W B 29 9 o.type 5 i0 Tryd.underlying29 Tryd.underlying9 hi hz0 hz1 hz2 _ n (xs.map byteV) hown ⟨l.toArray⟩ (by rw [hsz]; unfold maxLen; omega) (by rw [hsz]; omega) hB
  rw [hsz, strCells_mk, ← List.map_append] at h2
  obtain ⟨g', cap', rfl, hg', hrow'⟩ := BRow.of_owns h2 (by
    intro hv
    have := (h4.1 hv).1
    cases this)
  refine wpTail_plain hgd fun K hK => ?_
  unfold Oper.wp execOp
  simp only [ho, resolve, invoke, builtin, Sem.run_bind, Sem.run_pure, Result.andThen_ok, List.map_toArray, List.map_cons, List.map_nil, hs, hx, hr]
  exact hK _ _ (h g' cap' w' hg' hrow' ((Below.refl B W).grown h3 (by omega) fun k hk => (hlt k (by simpa using hk)).1))
theorem specFormatCommand_of {C : Cmd} {l : List UInt8} {w : World} (h : cmdText C = l) :
    Calls Tryd.prog 14 #[.agg #[.int .i64 C.k, .int .i64 C.b, .int .i64 C.r, .int .i64 C.c]] w fun e w' => e = .returned (.string ⟨l.toArray⟩) ∧ Below w.heap.size w w' := by subst h; exact specFormatCommand_any C w
theorem implFormatCommand_of {C : Cmd} {l : List UInt8} {w : World} (h : cmdText C = l) (ht : Tab w) :
    Calls Tryd.prog 17 #[.agg #[.int .i64 C.k, .int .i64 C.b, .int .i64 C.r, .int .i64 C.c]] w fun e w' => e = .returned (.string ⟨l.toArray⟩) ∧ Below w.heap.size w w' := by subst h; exact implFormatCommand_any C w ht

set_option maxHeartbeats 2000000 in
set_option maxRecDepth 100000 in
theorem specFormatTrace_any (E : EvsE) (w : World) (hE : EvsRd w E) (hn : E.n ≤ 1048576) (hb : TimesIn E.es) :
    Calls Tryd.prog 6 #[.slice E.a E.n E.c] w fun e w' => e = .returned (.string ⟨(trText E.es).toArray⟩) ∧ Below w.heap.size w w' := by
  have HX := hid hE
  have HL := hid hE.len
  have HTI := hid hb
  clear hE hb
  go_enter Tryd.func6, Tryd.ntmps6
  go_wp2_with fail
  refine wp_world (fun W hw => ?_)
  have HE : Hid (BRow W w.heap.size 0 0 []) := by rw [hw.out]; exact hid (BRow.empty w)
  have HB : Hid (Below w.heap.size w W) := by rw [hw.out]; exact hid (below_alloc _ _)
  clear hw
  go_loopw [3, 4] (fun v i wr => ∃ (k m cap g : Nat) (xs : List UInt8), k ≤ E.n ∧ i = .int .i64 k ∧ v = .slice (some ⟨g, 0, none⟩) m cap ∧ w.heap.size ≤ g ∧ Hid (xs = trText (E.es.take k)) ∧ Hid (BRow wr g m cap xs) ∧ Hid (Below w.heap.size w wr)) (fun _ i _ => E.n - (intOf i).toNat)
  case atStart => exact ⟨0, 0, 0, w.heap.size, [], Nat.zero_le _, rfl, rfl, by omega, hid rfl, HE, HB⟩
  case round =>
    clear HE HB
    obtain ⟨k, m, cap, g, xs, hk, rfl, rfl, hg, HXS, HO, HB⟩ := hrel
    by_cases hlt : k < E.n
    · obtain ⟨e, b1, o1, he, ha, hb1, hc0, hc1, hc2, hc3, hc4⟩ := (EvsR.old HX.out HB.out).at_ hlt
      have HS := hid (trText_at he)
      have HTE := hid (HTI.out e (List.mem_of_getElem? he))
      have hxl : xs.length ≤ 94 * k := by
        rw [HXS.out]
        have h1 := trText_len (HTI.out.take k)
        have h2 : (E.es.take k).length ≤ k := by rw [List.length_take]; omega
        omega
      have hml := HO.out.length
      have HM := hid (show m ≤ 98566144 by omega)
      have HC0 := hid hc0
      have HC1 := hid hc1
      have HC2 := hid hc2
      have HC3 := hid hc3
      have HC4 := hid hc4
      obtain ⟨lt, hlt2⟩ : ∃ l, Lib.itoa e.t = l := ⟨_, rfl⟩
      obtain ⟨lc, hlc⟩ : ∃ l, cmdText e.c = l := ⟨_, rfl⟩
      have HLT := hid hlt2
      have HLC := hid hlc
      have hl1 : lt.length ≤ 21 := itoa_len hlt2 HTE.out.1 HTE.out.2
      have hl2 : lc.length ≤ 71 := by rw [← hlc]; exact cmdText_len _
      have z1 : ¬ 9223372036854775807 < lt.length + 1 := by omega
      have z2 : ¬ 9223372036854775807 < lt.length + 1 + lc.length := by omega
      have z3 : ¬ 9223372036854775807 < lt.length + (lc.length + 1) + 1 := by omega
      have HL1 := hid hl1
      have HL2 := hid hl2
      have HV := hid (show evText e = lt ++ (32 :: (lc ++ [10])) by unfold evText; rw [hlt2, hlc])
      clear he hc0 hc1 hc2 hc3 hc4 hlt2 hlc hxl hml hl1 hl2
      have k0 : (0 : Int) ≤ (k : Int) := by omega
      have k1 : (k : Int) < E.n := by omega
      rw [ha]
      clear ha
      go_upto_region 5 with (fail)
      refine growR_of 16 (fr := ?fr1)
        (fun i v w' => match i with
            | 0 => v = .slice (some ⟨g, 0, none⟩) m cap
            | 1 => v = .slice (some ⟨b1, o1, none⟩) E.n E.c
            | 2 => v = .int .i64 k
            | 3 => v = .pointer (some ⟨b1, o1 + k * 5, none⟩)
            | 4 => v = .pointer (some ⟨b1, o1 + k * 5, none⟩)
            | 5 => v = .int .i64 e.t
            | 6 => v = .string ⟨(lt).toArray⟩
            | 7 => v = .string ⟨(lt ++ [32]).toArray⟩
            | 8 => v = .slice (some ⟨b1, o1, none⟩) E.n E.c
            | 9 => v = .int .i64 k
            | 10 => v = .pointer (some ⟨b1, o1 + k * 5, none⟩)
            | 11 => v = .pointer (some ⟨b1, o1 + k * 5 + 1, none⟩)
            | 12 => v = .agg #[.int .i64 e.c.k, .int .i64 e.c.b, .int .i64 e.c.r, .int .i64 e.c.c]
            | 13 => v = .string ⟨(lc).toArray⟩
            | 14 => v = .string ⟨(lt ++ [32] ++ lc).toArray⟩
            | _ => v = .string ⟨(lt ++ [32] ++ lc ++ [10]).toArray⟩
          ) (by kernel_rfl) (by kernel_rfl) (by decide) (by kernel_rfl) ?hfr1 ⟨fun i => [u12, u13, u14, u15, u16, u17, u18, u19, u20, u21, u22, u23, u24, u25, u26, u27].getD i undef, ?h01⟩ ?hF1 ?hstep1 ?hend1
      case hfr1 => intro vs; simp only [frOf, List.take_succ_cons, List.take_zero]; go_simp; exact rfl
      case h01 => rfl
      case hF1 =>
        intro i v w' w'' h hb
        match i, h with
        | 0, h => exact h
        | 1, h => exact h
        | 2, h => exact h
        | 3, h => exact h
        | 4, h => exact h
        | 5, h => exact h
        | 6, h => exact h
        | 7, h => exact h
        | 8, h => exact h
        | 9, h => exact h
        | 10, h => exact h
        | 11, h => exact h
        | 12, h => exact h
        | 13, h => exact h
        | 14, h => exact h
        | n + 15, h => exact h
      case hstep1 =>
        intro vs w' i o hin ho hb hd
        match i, ho, hin with
        | 0, ho, _ =>
          simp only [List.getElem?_cons_zero, Option.some.injEq] at ho
          subst ho
          refine ⟨wanted_none rfl, ?_⟩
          generalize hK : (fun (a' : Act) (w'' : World) => ∃ v : Value, _ ∧ _ ∧ _) = K
          go_simp
          rw [← hK]
          exact ⟨_, rfl, rfl, Below.refl _ _⟩
        | 1, ho, _ =>
          simp only [List.getElem?_cons_succ, List.getElem?_cons_zero, Option.some.injEq] at ho
          subst ho
          refine ⟨wanted_none rfl, ?_⟩
          generalize hK : (fun (a' : Act) (w'' : World) => ∃ v : Value, _ ∧ _ ∧ _) = K
          go_simp
          rw [← hK]
          exact ⟨_, rfl, rfl, Below.refl _ _⟩
        | 2, ho, _ =>
          simp only [List.getElem?_cons_succ, List.getElem?_cons_zero, Option.some.injEq] at ho
          subst ho
          refine ⟨wanted_none rfl, ?_⟩
          generalize hK : (fun (a' : Act) (w'' : World) => ∃ v : Value, _ ∧ _ ∧ _) = K
          go_simp
          rw [← hK]
          exact ⟨_, rfl, rfl, Below.refl _ _⟩
        | 3, ho, _ =>
          simp only [List.getElem?_cons_succ, List.getElem?_cons_zero, Option.some.injEq] at ho
          subst ho
          refine ⟨wanted_none rfl, ?_⟩
          have x1 : vs 1 = .slice (some ⟨b1, o1, none⟩) E.n E.c := hd 1 (by kernel_rfl)
          have x2 : vs 2 = .int .i64 k := hd 2 (by kernel_rfl)
          generalize hK : (fun (a' : Act) (w'' : World) => ∃ v : Value, _ ∧ _ ∧ _) = K
          generalize hu1 : vs 1 = u1 at x1 ⊢
          subst x1
          generalize hu2 : vs 2 = u2 at x2 ⊢
          subst x2
          go_simp
          rw [← hK]
          exact ⟨_, by simp [upd, hu1, hu2], rfl, Below.refl _ _⟩
        | 4, ho, _ =>
          simp only [List.getElem?_cons_succ, List.getElem?_cons_zero, Option.some.injEq] at ho
          subst ho
          refine ⟨wanted_none rfl, ?_⟩
          have x3 : vs 3 = .pointer (some ⟨b1, o1 + k * 5, none⟩) := hd 3 (by kernel_rfl)
          generalize hK : (fun (a' : Act) (w'' : World) => ∃ v : Value, _ ∧ _ ∧ _) = K
          generalize hu3 : vs 3 = u3 at x3 ⊢
          subst x3
          go_simp
          rw [← hK]
          exact ⟨_, by simp [upd, hu3], rfl, Below.refl _ _⟩
        | 5, ho, _ =>
          simp only [List.getElem?_cons_succ, List.getElem?_cons_zero, Option.some.injEq] at ho
          subst ho
          refine ⟨wanted_none rfl, ?_⟩
          have x4 : vs 4 = .pointer (some ⟨b1, o1 + k * 5, none⟩) := hd 4 (by kernel_rfl)
          have q0 := (hb.cell (p := ⟨b1, o1 + k * 5, none⟩) hb1).trans HC0.out
          generalize hK : (fun (a' : Act) (w'' : World) => ∃ v : Value, _ ∧ _ ∧ _) = K
          generalize hu4 : vs 4 = u4 at x4 ⊢
          subst x4
          go_simp
          rw [← hK]
          exact ⟨_, by simp [upd, hu4], rfl, Below.refl _ _⟩
        | 6, ho, _ =>
          simp only [List.getElem?_cons_succ, List.getElem?_cons_zero, Option.some.injEq] at ho
          subst ho
          refine ⟨wanted_none rfl, ?_⟩
          have x5 : vs 5 = .int .i64 e.t := hd 5 (by kernel_rfl)
          generalize hK : (fun (a' : Act) (w'' : World) => ∃ v : Value, _ ∧ _ ∧ _) = K
          generalize hu5 : vs 5 = u5 at x5 ⊢
          subst x5
          go_simp
          refine (specFormatInt_of HLT.out HTE.out.1 HTE.out.2).mono ?_
          rintro e2 w2 ⟨rfl, B⟩
          rw [← hK]
          exact ⟨_, by simp [upd, hu5], rfl, B⟩
        | 7, ho, _ =>
          simp only [List.getElem?_cons_succ, List.getElem?_cons_zero, Option.some.injEq] at ho
          subst ho
          refine ⟨wanted_none rfl, ?_⟩
          have x6 : vs 6 = .string ⟨(lt).toArray⟩ := hd 6 (by kernel_rfl)
          generalize hK : (fun (a' : Act) (w'' : World) => ∃ v : Value, _ ∧ _ ∧ _) = K
          generalize hu6 : vs 6 = u6 at x6 ⊢
          subst x6
          go_simp
          rw [← hK]
          exact ⟨.string (⟨(lt).toArray⟩ ++ ⟨([32]).toArray⟩), by simp [upd, hu6], (congrArg Value.string (str_app _ _)), Below.refl _ _⟩
        | 8, ho, _ =>
          simp only [List.getElem?_cons_succ, List.getElem?_cons_zero, Option.some.injEq] at ho
          subst ho
          refine ⟨wanted_none rfl, ?_⟩
          generalize hK : (fun (a' : Act) (w'' : World) => ∃ v : Value, _ ∧ _ ∧ _) = K
          go_simp
          rw [← hK]
          exact ⟨_, rfl, rfl, Below.refl _ _⟩
        | 9, ho, _ =>
          simp only [List.getElem?_cons_succ, List.getElem?_cons_zero, Option.some.injEq] at ho
          subst ho
          refine ⟨wanted_none rfl, ?_⟩
          generalize hK : (fun (a' : Act) (w'' : World) => ∃ v : Value, _ ∧ _ ∧ _) = K
          go_simp
          rw [← hK]
          exact ⟨_, rfl, rfl, Below.refl _ _⟩
        | 10, ho, _ =>
          simp only [List.getElem?_cons_succ, List.getElem?_cons_zero, Option.some.injEq] at ho
          subst ho
          refine ⟨wanted_none rfl, ?_⟩
          have x8 : vs 8 = .slice (some ⟨b1, o1, none⟩) E.n E.c := hd 8 (by kernel_rfl)
          have x9 : vs 9 = .int .i64 k := hd 9 (by kernel_rfl)
          generalize hK : (fun (a' : Act) (w'' : World) => ∃ v : Value, _ ∧ _ ∧ _) = K
          generalize hu8 : vs 8 = u8 at x8 ⊢
          subst x8
          generalize hu9 : vs 9 = u9 at x9 ⊢
          subst x9
          go_simp
          rw [← hK]
          exact ⟨_, by simp [upd, hu8, hu9], rfl, Below.refl _ _⟩
        | 11, ho, _ =>
          simp only [List.getElem?_cons_succ, List.getElem?_cons_zero, Option.some.injEq] at ho
          subst ho
          refine ⟨wanted_none rfl, ?_⟩
          have x10 : vs 10 = .pointer (some ⟨b1, o1 + k * 5, none⟩) := hd 10 (by kernel_rfl)
          generalize hK : (fun (a' : Act) (w'' : World) => ∃ v : Value, _ ∧ _ ∧ _) = K
          generalize hu10 : vs 10 = u10 at x10 ⊢
          subst x10
          go_simp
          rw [← hK]
          exact ⟨_, by simp [upd, hu10], rfl, Below.refl _ _⟩
        | 12, ho, _ =>
          simp only [List.getElem?_cons_succ, List.getElem?_cons_zero, Option.some.injEq] at ho
          subst ho
          refine ⟨wanted_none rfl, ?_⟩
          have x11 : vs 11 = .pointer (some ⟨b1, o1 + k * 5 + 1, none⟩) := hd 11 (by kernel_rfl)
          have q1 := (hb.cell (p := ⟨b1, o1 + k * 5 + 1, none⟩) hb1).trans HC1.out
          have q2 := (hb.cell (p := ⟨b1, o1 + k * 5 + 2, none⟩) hb1).trans HC2.out
          have q3 := (hb.cell (p := ⟨b1, o1 + k * 5 + 3, none⟩) hb1).trans HC3.out
          have q4 := (hb.cell (p := ⟨b1, o1 + k * 5 + 4, none⟩) hb1).trans HC4.out
          generalize hK : (fun (a' : Act) (w'' : World) => ∃ v : Value, _ ∧ _ ∧ _) = K
          generalize hu11 : vs 11 = u11 at x11 ⊢
          subst x11
          go_simp
          rw [← hK]
          exact ⟨_, by simp [upd, hu11], rfl, Below.refl _ _⟩
        | 13, ho, _ =>
          simp only [List.getElem?_cons_succ, List.getElem?_cons_zero, Option.some.injEq] at ho
          subst ho
          refine ⟨wanted_none rfl, ?_⟩
          have x12 : vs 12 = .agg #[.int .i64 e.c.k, .int .i64 e.c.b, .int .i64 e.c.r, .int .i64 e.c.c] := hd 12 (by kernel_rfl)
          generalize hK : (fun (a' : Act) (w'' : World) => ∃ v : Value, _ ∧ _ ∧ _) = K
          generalize hu12 : vs 12 = u12 at x12 ⊢
          subst x12
          go_simp
          refine (specFormatCommand_of HLC.out).mono ?_
          rintro e2 w2 ⟨rfl, B⟩
          rw [← hK]
          exact ⟨_, by simp [upd, hu12], rfl, B⟩
        | 14, ho, _ =>
          simp only [List.getElem?_cons_succ, List.getElem?_cons_zero, Option.some.injEq] at ho
          subst ho
          refine ⟨wanted_none rfl, ?_⟩
          have x7 : vs 7 = .string ⟨(lt ++ [32]).toArray⟩ := hd 7 (by kernel_rfl)
          have x13 : vs 13 = .string ⟨(lc).toArray⟩ := hd 13 (by kernel_rfl)
          generalize hK : (fun (a' : Act) (w'' : World) => ∃ v : Value, _ ∧ _ ∧ _) = K
          generalize hu7 : vs 7 = u7 at x7 ⊢
          subst x7
          generalize hu13 : vs 13 = u13 at x13 ⊢
          subst x13
          go_simp
          rw [← hK]
          exact ⟨.string (⟨(lt ++ [32]).toArray⟩ ++ ⟨(lc).toArray⟩), by simp [upd, hu7, hu13], (congrArg Value.string (str_app _ _)), Below.refl _ _⟩
        | 15, ho, _ =>
          simp only [List.getElem?_cons_succ, List.getElem?_cons_zero, Option.some.injEq] at ho
          subst ho
          refine ⟨wanted_none rfl, ?_⟩
          have x14 : vs 14 = .string ⟨(lt ++ [32] ++ lc).toArray⟩ := hd 14 (by kernel_rfl)
          generalize hK : (fun (a' : Act) (w'' : World) => ∃ v : Value, _ ∧ _ ∧ _) = K
          generalize hu14 : vs 14 = u14 at x14 ⊢
          subst x14
          go_simp
          rw [← hK]
          exact ⟨.string (⟨(lt ++ [32] ++ lc).toArray⟩ ++ ⟨([10]).toArray⟩), by simp [upd, hu14], (congrArg Value.string (str_app _ _)), Below.refl _ _⟩
        | n + 16, _, hin => exact absurd hin (by omega)
      case hend1 =>
        intro vs w2 hb hf
        have e0 : vs 0 = .slice (some ⟨g, 0, none⟩) m cap := hf 0 (by decide)
        have e15 : vs 15 = .string ⟨(lt ++ [32] ++ lc ++ [10]).toArray⟩ := hf 15 (by decide)
        have HO2 := hid (HO.out.old hb)
        have HB2 := hid (below_step HB.out hb (Nat.le_refl _))
        clear hb hf
        generalize vs 0 = u0 at e0 ⊢
        subst e0
        generalize vs 15 = u15 at e15 ⊢
        subst e15
        simp only [List.drop_succ_cons, List.drop_zero]
        refine wpTail_append_str rfl _ _ rfl w2 w.heap.size g m cap xs HO2.out hg rfl _ rfl HB2.out.size (by have := HM.out; have := HL1.out; have := HL2.out; simp only [List.length_append, List.length_cons, List.length_nil]; omega) ?_
        intro g' cap' w3 hg' hrow hbel
        have hlen : (lt ++ [32] ++ lc ++ [10]).length = lt.length + (lc.length + 1 + 1) := by simp
        rw [hlen] at hrow
        have HO3 := hid hrow
        have HB3 := hid (HB2.out.trans hbel)
        clear hrow hbel hlen HO2 HB2
        refine wpTail_plain rfl fun K hK => ?_
        go_simp
        refine hK _ _ (wpTail_nil ?_)
        go_wp2_with fail
        go_roundw
        case rel => exact ⟨k + 1, _, cap', g', xs ++ (lt ++ [32] ++ lc ++ [10]), by omega, by go_num, rfl, hg', hid (by rw [HS.out, HXS.out, HV.out]; simp), HO3, HB3⟩
        case measure => simp [intOf]; omega
    · have hkn : k = E.n := by omega
      have hv : xs = trText E.es := by rw [HXS.out, List.take_of_length_le (by rw [← HL.out]; omega)]
      have HV := hid hv
      have HR := run_string_row HO.out
      clear hkn hv
      go_wp2_with fail
      go_ret
      exact ⟨by rw [← HV.out]; rfl, HB.out⟩
theorem old_box {w w' : World} {g : Nat} {l : List Value} {t : TypeId} (hw : w.heap.size = g) (h : Below (w.alloc (.cells l.toArray t)).heap.size (w.alloc (.cells l.toArray t)) w') (j : Nat) : w'.cell? ⟨g, j, none⟩ = l[j]? := by
  subst hw
  rw [h.cell (p := ⟨w.heap.size, j, none⟩) (by simp)]
  exact box_at w l t j
set_option maxHeartbeats 2000000 in
set_option maxRecDepth 100000 in
theorem implFormatTrace_any (E : EvsE) (w : World) (hE : EvsRd w E) (hn : E.n ≤ 1048576) (hb : TimesIn E.es) (ht : Tab w) :
    Calls Tryd.prog 8 #[.slice E.a E.n E.c] w fun e w' => e = .returned (.string ⟨(trText E.es).toArray⟩) ∧ Below w.heap.size w w' := by
  have HX := hid hE
  have HL := hid hE.len
  have HTI := hid hb
  have HT := hid ht
  clear hE hb ht
  go_enter Tryd.func8, Tryd.ntmps8
  go_wp2_with fail
  go_loopw [3, 8] (fun v i wr => ∃ (k : Nat) (xs : List UInt8), k ≤ E.n ∧ i = .int .i64 k ∧ v = .string ⟨xs.toArray⟩ ∧ Hid (xs = trText (E.es.take k)) ∧ Hid (Below w.heap.size w wr)) (fun _ i _ => E.n - (intOf i).toNat)
  case atStart => exact ⟨0, [], Nat.zero_le _, rfl, rfl, hid rfl, hid (Below.refl _ _)⟩
  case round =>
    obtain ⟨k, xs, hk, rfl, rfl, HXS, HB⟩ := hrel
    by_cases hlt : k < E.n
    · obtain ⟨e, b1, o1, he, ha, hb1, hc0, hc1, hc2, hc3, hc4⟩ := (EvsR.old HX.out HB.out).at_ hlt
      have HS := hid (trText_at he)
      have HTE := hid (HTI.out e (List.mem_of_getElem? he))
      have hxl : xs.length ≤ 94 * k := by
        rw [HXS.out]
        have h1 := trText_len (HTI.out.take k)
        have h2 : (E.es.take k).length ≤ k := by rw [List.length_take]; omega
        omega
      obtain ⟨lt, hlt2⟩ : ∃ l, Lib.itoa e.t = l := ⟨_, rfl⟩
      obtain ⟨lc, hlc⟩ : ∃ l, cmdText e.c = l := ⟨_, rfl⟩
      have HLT := hid hlt2
      have HLC := hid hlc
      have hl1 : lt.length ≤ 21 := itoa_len hlt2 HTE.out.1 HTE.out.2
      have hl2 : lc.length ≤ 71 := by rw [← hlc]; exact cmdText_len _
      have z1 : ¬ 9223372036854775807 < lt.length + 1 := by omega
      have z2 : ¬ 9223372036854775807 < lt.length + 1 + lc.length := by omega
      have z3 : ¬ 9223372036854775807 < lt.length + (lc.length + 1) + 1 := by omega
      have z4 : ¬ 9223372036854775807 < xs.length + (lt.length + (lc.length + 1 + 1)) := by omega
      have HV := hid (show evText e = lt ++ (32 :: (lc ++ [10])) by unfold evText; rw [hlt2, hlc])
      clear he hlt2 hlc hxl hl1 hl2
      have k0 : (0 : Int) ≤ (k : Int) := by omega
      have k1 : (k : Int) < E.n := by omega
      rw [ha]
      clear ha
      have HA := hid (below_alloc wr (.cells #[.int .i64 e.t, .int .i64 e.c.k, .int .i64 e.c.b, .int .i64 e.c.r, .int .i64 e.c.c] 42))
      go_upto_region 5 with (fail)
      clear hc0 hc1 hc2 hc3 hc4
      refine wp_world (fun W hw => ?_)
      have HBX : Hid (∀ j, W.cell? ⟨wr.heap.size, j, none⟩ = ([.int .i64 e.t, .int .i64 e.c.k, .int .i64 e.c.b, .int .i64 e.c.r, .int .i64 e.c.c] : List Value)[j]?) := by rw [hw.out]; exact hid (box_at wr [.int .i64 e.t, .int .i64 e.c.k, .int .i64 e.c.b, .int .i64 e.c.r, .int .i64 e.c.c] _)
      have HLW : Hid (wr.heap.size < W.heap.size) := by rw [hw.out]; exact hid (by simp)
      have HBW : Hid (Below w.heap.size w W) := by rw [hw.out]; exact hid (below_step HB.out HA.out (Nat.le_refl _))
      have HTW := hid (tab_below HT.out HBW.out)
      clear hw HA HB
      refine growR_of 11 (fr := ?fr2)
        (fun i v w' => match i with
            | 0 => v = .string ⟨(xs).toArray⟩
            | 1 => v = .pointer (some ⟨wr.heap.size, 0, none⟩)
            | 2 => v = .int .i64 e.t
            | 3 => v = .string ⟨(lt).toArray⟩
            | 4 => v = .string ⟨(lt ++ [32]).toArray⟩
            | 5 => v = .pointer (some ⟨wr.heap.size, 1, none⟩)
            | 6 => v = .agg #[.int .i64 e.c.k, .int .i64 e.c.b, .int .i64 e.c.r, .int .i64 e.c.c]
            | 7 => v = .string ⟨(lc).toArray⟩
            | 8 => v = .string ⟨(lt ++ [32] ++ lc).toArray⟩
            | 9 => v = .string ⟨(lt ++ [32] ++ lc ++ [10]).toArray⟩
            | _ => v = .string ⟨(xs ++ (lt ++ [32] ++ lc ++ [10])).toArray⟩
          ) (by kernel_rfl) (by kernel_rfl) (by decide) (by kernel_rfl) ?hfr2 ⟨fun i => [u12, u13, u14, u15, u16, u17, u18, u19, u20, u21, u22].getD i undef, ?h02⟩ ?hF2 ?hstep2 ?hend2
      case hfr2 => intro vs; simp only [frOf, List.take_succ_cons, List.take_zero]; go_simp; exact rfl
      case h02 => rfl
      case hF2 =>
        intro i v w' w'' h hb
        match i, h with
        | 0, h => exact h
        | 1, h => exact h
        | 2, h => exact h
        | 3, h => exact h
        | 4, h => exact h
        | 5, h => exact h
        | 6, h => exact h
        | 7, h => exact h
        | 8, h => exact h
        | 9, h => exact h
        | n + 10, h => exact h
      case hstep2 =>
        intro vs w' i o hin ho hb hd
        match i, ho, hin with
        | 0, ho, _ =>
          simp only [List.getElem?_cons_zero, Option.some.injEq] at ho
          subst ho
          refine ⟨wanted_none rfl, ?_⟩
          generalize hK : (fun (a' : Act) (w'' : World) => ∃ v : Value, _ ∧ _ ∧ _) = K
          go_simp
          rw [← hK]
          exact ⟨_, rfl, rfl, Below.refl _ _⟩
        | 1, ho, _ =>
          simp only [List.getElem?_cons_succ, List.getElem?_cons_zero, Option.some.injEq] at ho
          subst ho
          refine ⟨wanted_none rfl, ?_⟩
          generalize hK : (fun (a' : Act) (w'' : World) => ∃ v : Value, _ ∧ _ ∧ _) = K
          go_simp
          rw [← hK]
          exact ⟨_, rfl, rfl, Below.refl _ _⟩
        | 2, ho, _ =>
          simp only [List.getElem?_cons_succ, List.getElem?_cons_zero, Option.some.injEq] at ho
          subst ho
          refine ⟨wanted_none rfl, ?_⟩
          have x1 : vs 1 = .pointer (some ⟨wr.heap.size, 0, none⟩) := hd 1 (by kernel_rfl)
          have q0 := (hb.cell (p := ⟨wr.heap.size, 0, none⟩) HLW.out).trans (HBX.out 0)
          simp only [List.getElem?_cons_zero] at q0
          generalize hK : (fun (a' : Act) (w'' : World) => ∃ v : Value, _ ∧ _ ∧ _) = K
          generalize hu1 : vs 1 = u1 at x1 ⊢
          subst x1
          go_simp
          rw [← hK]
          exact ⟨_, by simp [upd, hu1], rfl, Below.refl _ _⟩
        | 3, ho, _ =>
          simp only [List.getElem?_cons_succ, List.getElem?_cons_zero, Option.some.injEq] at ho
          subst ho
          refine ⟨wanted_none rfl, ?_⟩
          have x2 : vs 2 = .int .i64 e.t := hd 2 (by kernel_rfl)
          generalize hK : (fun (a' : Act) (w'' : World) => ∃ v : Value, _ ∧ _ ∧ _) = K
          generalize hu2 : vs 2 = u2 at x2 ⊢
          subst x2
          go_simp
          refine (implFormatInt_of HLT.out HTE.out.1 HTE.out.2 (tab_below HTW.out hb)).mono ?_
          rintro e2 w2 ⟨rfl, B⟩
          rw [← hK]
          exact ⟨_, by simp [upd, hu2], rfl, B⟩
        | 4, ho, _ =>
          simp only [List.getElem?_cons_succ, List.getElem?_cons_zero, Option.some.injEq] at ho
          subst ho
          refine ⟨wanted_none rfl, ?_⟩
          have x3 : vs 3 = .string ⟨(lt).toArray⟩ := hd 3 (by kernel_rfl)
          generalize hK : (fun (a' : Act) (w'' : World) => ∃ v : Value, _ ∧ _ ∧ _) = K
          generalize hu3 : vs 3 = u3 at x3 ⊢
          subst x3
          go_simp
          rw [← hK]
          exact ⟨.string (⟨(lt).toArray⟩ ++ ⟨([32]).toArray⟩), by simp [upd, hu3], (congrArg Value.string (str_app _ _)), Below.refl _ _⟩
        | 5, ho, _ =>
          simp only [List.getElem?_cons_succ, List.getElem?_cons_zero, Option.some.injEq] at ho
          subst ho
          refine ⟨wanted_none rfl, ?_⟩
          generalize hK : (fun (a' : Act) (w'' : World) => ∃ v : Value, _ ∧ _ ∧ _) = K
          go_simp
          rw [← hK]
          exact ⟨_, rfl, rfl, Below.refl _ _⟩
        | 6, ho, _ =>
          simp only [List.getElem?_cons_succ, List.getElem?_cons_zero, Option.some.injEq] at ho
          subst ho
          refine ⟨wanted_none rfl, ?_⟩
          have x5 : vs 5 = .pointer (some ⟨wr.heap.size, 1, none⟩) := hd 5 (by kernel_rfl)
          have q1 := (hb.cell (p := ⟨wr.heap.size, 1, none⟩) HLW.out).trans (HBX.out 1)
          have q2 := (hb.cell (p := ⟨wr.heap.size, 2, none⟩) HLW.out).trans (HBX.out 2)
          have q3 := (hb.cell (p := ⟨wr.heap.size, 3, none⟩) HLW.out).trans (HBX.out 3)
          have q4 := (hb.cell (p := ⟨wr.heap.size, 4, none⟩) HLW.out).trans (HBX.out 4)
          simp only [List.getElem?_cons_zero, List.getElem?_cons_succ] at q1 q2 q3 q4
          generalize hK : (fun (a' : Act) (w'' : World) => ∃ v : Value, _ ∧ _ ∧ _) = K
          generalize hu5 : vs 5 = u5 at x5 ⊢
          subst x5
          go_simp
          rw [← hK]
          exact ⟨_, by simp [upd, hu5], rfl, Below.refl _ _⟩
        | 7, ho, _ =>
          simp only [List.getElem?_cons_succ, List.getElem?_cons_zero, Option.some.injEq] at ho
          subst ho
          refine ⟨wanted_none rfl, ?_⟩
          have x6 : vs 6 = .agg #[.int .i64 e.c.k, .int .i64 e.c.b, .int .i64 e.c.r, .int .i64 e.c.c] := hd 6 (by kernel_rfl)
          generalize hK : (fun (a' : Act) (w'' : World) => ∃ v : Value, _ ∧ _ ∧ _) = K
          generalize hu6 : vs 6 = u6 at x6 ⊢
          subst x6
          go_simp
          refine (implFormatCommand_of HLC.out (tab_below HTW.out hb)).mono ?_
          rintro e2 w2 ⟨rfl, B⟩
          rw [← hK]
          exact ⟨_, by simp [upd, hu6], rfl, B⟩
        | 8, ho, _ =>
          simp only [List.getElem?_cons_succ, List.getElem?_cons_zero, Option.some.injEq] at ho
          subst ho
          refine ⟨wanted_none rfl, ?_⟩
          have x4 : vs 4 = .string ⟨(lt ++ [32]).toArray⟩ := hd 4 (by kernel_rfl)
          have x7 : vs 7 = .string ⟨(lc).toArray⟩ := hd 7 (by kernel_rfl)
          generalize hK : (fun (a' : Act) (w'' : World) => ∃ v : Value, _ ∧ _ ∧ _) = K
          generalize hu4 : vs 4 = u4 at x4 ⊢
          subst x4
          generalize hu7 : vs 7 = u7 at x7 ⊢
          subst x7
          go_simp
          rw [← hK]
          exact ⟨.string (⟨(lt ++ [32]).toArray⟩ ++ ⟨(lc).toArray⟩), by simp [upd, hu4, hu7], (congrArg Value.string (str_app _ _)), Below.refl _ _⟩
        | 9, ho, _ =>
          simp only [List.getElem?_cons_succ, List.getElem?_cons_zero, Option.some.injEq] at ho
          subst ho
          refine ⟨wanted_none rfl, ?_⟩
          have x8 : vs 8 = .string ⟨(lt ++ [32] ++ lc).toArray⟩ := hd 8 (by kernel_rfl)
          generalize hK : (fun (a' : Act) (w'' : World) => ∃ v : Value, _ ∧ _ ∧ _) = K
          generalize hu8 : vs 8 = u8 at x8 ⊢
          subst x8
          go_simp
          rw [← hK]
          exact ⟨.string (⟨(lt ++ [32] ++ lc).toArray⟩ ++ ⟨([10]).toArray⟩), by simp [upd, hu8], (congrArg Value.string (str_app _ _)), Below.refl _ _⟩
        | 10, ho, _ =>
          simp only [List.getElem?_cons_succ, List.getElem?_cons_zero, Option.some.injEq] at ho
          subst ho
          refine ⟨wanted_none rfl, ?_⟩
          have x0 : vs 0 = .string ⟨(xs).toArray⟩ := hd 0 (by kernel_rfl)
          have x9 : vs 9 = .string ⟨(lt ++ [32] ++ lc ++ [10]).toArray⟩ := hd 9 (by kernel_rfl)
          generalize hK : (fun (a' : Act) (w'' : World) => ∃ v : Value, _ ∧ _ ∧ _) = K
          generalize hu0 : vs 0 = u0 at x0 ⊢
          subst x0
          generalize hu9 : vs 9 = u9 at x9 ⊢
          subst x9
          go_simp
          rw [← hK]
          exact ⟨.string (⟨(xs).toArray⟩ ++ ⟨(lt ++ [32] ++ lc ++ [10]).toArray⟩), by simp [upd, hu0, hu9], (congrArg Value.string (str_app _ _)), Below.refl _ _⟩
        | n + 11, _, hin => exact absurd hin (by omega)
      case hend2 =>
        intro vs w2 hb hf
        have er : vs 10 = .string ⟨(xs ++ (lt ++ [32] ++ lc ++ [10])).toArray⟩ := hf 10 (by decide)
        have HB2 := hid (below_step HBW.out hb (Nat.le_refl _))
        clear hb hf
        generalize vs 10 = ur at er ⊢
        subst er
        simp only [List.drop_succ_cons, List.drop_zero]
        refine wpTail_plain rfl fun K hK => ?_
        go_simp
        refine hK _ _ (wpTail_nil ?_)
        go_wp2_with fail
        go_roundw
        case rel => exact ⟨k + 1, _, by omega, by go_num, rfl, hid (by rw [HS.out, HXS.out, HV.out]), HB2⟩
        case measure => simp [intOf]; omega
    · have hkn : k = E.n := by omega
      have hv : xs = trText E.es := by rw [HXS.out, List.take_of_length_le (by rw [← HL.out]; omega)]
      have HV := hid hv
      clear hkn hv
      go_wp2_with fail
      go_ret
      exact ⟨by rw [← HV.out]; rfl, HB.out⟩
end Go.Proofs.YtggjheapjklhgaaDoor

/- The door's condition: the listed tables; events that came in, with their times. -/
namespace Go.Proofs.YtggjheapjklhgaaDoor
open Go.ChangeShapes Go.WideShapes Go.ChangeAt Go.RowKit Go.Joins Go.Deep

/-- The tables that both rows list. -/
def laid3 : List (String × DataW Unit) := [("math/bits.deBruijn32tab", Rows.laid_math_bits_deBruijn32tab), ("math/bits.deBruijn64tab", Rows.laid_math_bits_deBruijn64tab), ("internal/strconv.uint64pow10", Rows.laid_internal_strconv_uint64pow10)]
theorem pow_data : (Rows.laid_internal_strconv_uint64pow10 : DataW Unit) = Lib.tabData .u64 Lib.pow10Tab := by
  simp [Rows.laid_internal_strconv_uint64pow10, Lib.tabData, Lib.pow10Tab, List.range, List.range.loop]
theorem tab_of_laid {W : World} (h : laidMetH Tryd.prog laid3 W) : Tab W := by
  rw [MakeChecks.laidMetH_plain _ _ _ (by kernel_rfl)] at h
  have h := h.tail.tail
  rw [pow_data] at h
  have hty : (Tryd.prog.globals[(Tryd.prog.globalNamed "internal/strconv.uint64pow10").getD 0]?).map (·.type) = some ((((Tryd.prog.globals[(Tryd.prog.globalNamed "internal/strconv.uint64pow10").getD 0]?).map (·.type))).getD 0) := by kernel_rfl
  refine Lib.tabIs_of_head (g := (Tryd.prog.globalNamed "internal/strconv.uint64pow10").getD 0) (e := 99) (n := 20) gPow hty (by kernel_rfl) (by kernel_rfl) (by kernel_rfl) (by kernel_rfl) h
/-- The door's own heap meets the condition. -/
theorem door_met (os : Os) (args : Array Value) : laidMetH Tryd.prog laid3 ((World.doorLaid Tryd.prog 400 os).forCall (fun _ _ => 0) ⟨#[], args, []⟩).memory :=
  laidMetH_of_parts3 (fuel := 8) (laidMet_of_run' 8 (by kernel_rfl) (by kernel_rfl)) (by kernel_rfl) (by kernel_rfl)

section
variable {H : Type} {enc : TypeId × Value → H} {w : World} {base : Nat} {spare : Nat → Bool} {held : Bool}
theorem trod_event_t {fuel : Nat} {e : Ev} {y : DataW H × List MemPlace} (h : DataW.trod enc Tryd.prog w base spare held fuel 48 (encE e) = some y) :
    -9223372036854775808 ≤ e.t ∧ e.t ≤ 9223372036854775807 := by
  obtain ⟨xs, n, _, _, hlen, hxl, hf⟩ := DataW.trod_struct Tryd.underlying48 h
  have h0 : DataW.trod enc Tryd.prog w base spare held n 3 (List.take (Tryd.prog.cellsOf 3) (List.drop 0 (encE e))) = xs[0]? := hf 0 _ rfl
  rw [show Tryd.prog.cellsOf 3 = 1 by kernel_rfl] at h0
  have hx : xs.length = 2 := hxl
  have e0 : xs[0]? = some (xs[0]'(by omega)) := List.getElem?_eq_getElem _
  rw [e0] at h0
  obtain ⟨m, hm, _, hw⟩ := DataW.trod_int Tryd.underlying3 h0
  have hm' : e.t = m := by simpa [encE] using hm
  subst hm'
  simp only [Lit.wf, Bool.and_eq_true, decide_eq_true_eq] at hw
  exact hw
set_option maxRecDepth 100000 in
theorem open_events_t {r : Reach} {b0 : Nat} {v : Value} {d : DataW H} {p : List MemPlace} (hv : Value.okWide Tryd.prog w r b0 22 v) (h : DataW.Trod enc Tryd.prog w base spare held 22 v d p) :
    ∃ E : EvsE, v = .slice E.a E.n E.c ∧ ArgEvs w E ∧ TimesIn E.es := by
  obtain ⟨E, rfl, hA⟩ := open_events hv h
  refine ⟨E, rfl, hA, fun e he => ?_⟩
  obtain ⟨i, hi⟩ := List.getElem?_of_mem he
  have hlt : i < E.es.length := (List.getElem?_eq_some_iff.1 hi).1
  have hlen := hA.reads.len
  obtain ⟨b, o, ha, _, hc⟩ := hA.reads.recs i e hi
  have hc0 := hc 0 _ rfl
  obtain ⟨fuel, hf⟩ := h
  have hf' : DataW.trod enc Tryd.prog w base spare held fuel 22 [.slice E.a E.n E.c] = some (d, p) := hf
  rcases open_slice Tryd.underlying22 hf' with ⟨hcs, _⟩ | ⟨a, len, cap, m, n, D, Pl, hcs, _, hl, hm, hmm, _, hi2⟩
  · simp only [List.cons.injEq, and_true, Value.slice.injEq] at hcs
    omega
  · simp only [List.cons.injEq, and_true, Value.slice.injEq] at hcs
    have hlm : len ≤ m := by rw [hmm]; split <;> omega
    obtain ⟨cs', hcc, ht⟩ := hi2 i (by omega)
    rw [cellsOf_lev] at hcc
    obtain ⟨e', he'⟩ := trod_event ht
    subst he'
    obtain ⟨_, _, hat⟩ := World.cells?_some hcc
    have h0 := hat 0 (by decide)
    have hab : a = ⟨b, o, none⟩ := by rw [ha] at hcs; exact (Option.some.inj hcs.1).symm
    subst hab
    have h1 : w.cell? ⟨b, o + i * 5, none⟩ = some (.int .i64 e'.t) := by rw [add_at, add_zero_] at h0; simpa [encE] using h0
    have h2 : w.cell? ⟨b, o + i * 5, none⟩ = some (.int .i64 e.t) := by simpa using hc0
    rw [h1] at h2
    simp only [Option.some.injEq, Value.int.injEq, true_and] at h2
    rw [← h2]
    exact trod_event_t ht
end
end Go.Proofs.YtggjheapjklhgaaDoor
