/- The text of a number: plain laws, and what both sides' FormatInt return. -/
import Derived.Test.YtggjheapjklhgaaDoorEvtF
import Derived.Test.YtggjheapjklhgaaDoorFmtW
import Derived.Test.YtggjheapjklhgaaDoorCmdW
import Derived.Test.YtggjheapjklhgaaDoorShelf
import Derived.Lib.ItoaLen
import Derived.Lib.AppendStr
import Derived.Laws.IdiomStrings
namespace Go.Proofs.YtggjheapjklhgaaDoor
open Go.RowKit
theorem str_app (a b : List UInt8) : (⟨a.toArray⟩ : ByteArray) ++ ⟨b.toArray⟩ = ⟨(a ++ b).toArray⟩ := by
  apply ByteArray.ext
  apply Array.toList_inj.1
  simp
def digU (d : Nat) : UInt8 := UInt8.ofNat (48 + d)
theorem dec_step {u : Nat} (h : ¬ u < 10) : Lib.decDigits u = Lib.decDigits (u / 10) ++ [digU (u % 10)] := by rw [Lib.decDigits, dif_neg h]; rfl
theorem dec_one {u : Nat} (h : u < 10) : Lib.decDigits u = [digU u] := by rw [Lib.decDigits, dif_pos h]; rfl
/-- The number m is left of n's digits, s are gathered. -/
def leftD (n m : Nat) (s : List UInt8) : Prop := if m = 0 then Lib.decDigits n = s else Lib.decDigits n = Lib.decDigits m ++ s
theorem leftD.start {n : Nat} (h : n ≠ 0) : leftD n n [] := by unfold leftD; rw [if_neg h]; simp
theorem leftD.step {n m : Nat} {s : List UInt8} (hm : m ≠ 0) (h : leftD n m s) : leftD n (m / 10) (digU (m % 10) :: s) := by
  unfold leftD at h ⊢
  rw [if_neg hm] at h
  by_cases h10 : m < 10
  · rw [if_pos (by omega), h, dec_one h10, show m % 10 = m by omega]; rfl
  · rw [if_neg (by omega), h, dec_step h10, List.append_assoc, List.singleton_append]
theorem leftD.done {n : Nat} {s : List UInt8} (h : leftD n 0 s) : Lib.decDigits n = s := by unfold leftD at h; rw [if_pos rfl] at h; exact h
theorem itoa_zero : Lib.itoa 0 = [48] := by rw [show (0 : Int) = ((0 : Nat) : Int) from rfl, Lib.itoa_nonneg, dec_one (by decide)]; rfl
theorem itoa_pos {n : Int} (h : 0 ≤ n) : Lib.itoa n = Lib.decDigits n.natAbs := by
  obtain ⟨u, rfl⟩ := Int.eq_ofNat_of_zero_le h
  rw [Lib.itoa_nonneg]; rfl
theorem itoa_min {n : Int} (h : n < 0) : Lib.itoa n = 45 :: Lib.decDigits n.natAbs := by
  obtain ⟨u, rfl⟩ : ∃ u : Nat, n = -(u : Int) := ⟨n.natAbs, by omega⟩
  rw [Lib.itoa_neg u (by omega)]
  congr 2
  omega
/-- string(b) of one new byte. -/
theorem run_string_one (w : World) (b : UInt8) : (convert 29 9 (.slice (some ⟨w.heap.size, 0, none⟩) 1 1)).run Tryd.prog (w.alloc (.cells #[.int .u8 (b.toNat : Int)] 5)) = .ok (.string ⟨#[b]⟩) (w.alloc (.cells #[.int .u8 (b.toNat : Int)] 5)) := by
  refine run_convert_bytes_back (w.alloc (.cells #[.int .u8 (b.toNat : Int)] 5)) 29 9 5 ⟨w.heap.size, 0, none⟩ 1 [b] Tryd.underlying29 Tryd.underlying5 Tryd.underlying9 (fun j hj => ?_)
  have hj0 : j = 0 := by simpa using hj
  subst hj0
  exact box_at w [.int .u8 (b.toNat : Int)] 5 0
theorem leftD.len {n m : Nat} {s : List UInt8} (hn : n < 18446744073709551616) (h : leftD n m s) : s.length ≤ 20 := by
  have hl : (Lib.decDigits n).length ≤ 20 := by rw [Lib.decDigits_length]; exact Lib.nDigits_le20 n hn
  unfold leftD at h
  by_cases hm : m = 0
  · rw [if_pos hm] at h; rw [← h]; exact hl
  · rw [if_neg hm] at h; rw [h, List.length_append] at hl; omega
theorem figure_any (x : Int) (b : UInt8) (w : World) (h0 : 0 ≤ x) (h1 : x ≤ 9) (hb : digU x.toNat = b) :
    Calls Tryd.prog 21 #[.int .i64 x] w fun e w' => e = .returned (.int .u8 (b.toNat : Int)) ∧ w = w' := by
  have hf : (b.toNat : Int) = 48 + x := by rw [← hb]; unfold digU; simp; omega
  have HF := hid hf
  have hx : x < 10 := by omega
  clear hf hb
  go_enter Tryd.func21, Tryd.ntmps21
  go_wp2
  go_ret
  exact ⟨by rw [HF.out]; rfl, rfl⟩
/-- The library's table of powers of ten reads as its text lays it. -/
def Tab (w : World) : Prop := Lib.TabIs Tryd.prog w "internal/strconv.uint64pow10" .u64 Lib.pow10Tab
theorem below_grow {w : World} (k : Nat) (os : Array Obj) : Below w.heap.size w (Sort.grow (w.drewN k) os) :=
  ⟨rfl, rfl, rfl, by simp [Sort.grow], fun i hi => by
    show ((w.drewN k).heap ++ os)[i]? = _
    rw [Array.getElem?_append_left (by show i < w.heap.size; omega)]
    rfl⟩
theorem implFormatInt_any (n : Int) (w : World) (h0 : -9223372036854775808 ≤ n) (h1 : n ≤ 9223372036854775807) (ht : Tab w) :
    Calls Tryd.prog 16 #[.int .i64 n] w fun e w' => e = .returned (.string ⟨(Lib.itoa n).toArray⟩) ∧ Below w.heap.size w w' := by
  have HT := hid ht
  clear ht
  go_enter Tryd.func16, Tryd.ntmps16
  go_wp2_with fail
  refine (Tryd.strconv_Itoa n h0 h1 _ HT.out).mono ?_
  rintro e w' ⟨rfl, k, os, rfl⟩
  have HB := hid (below_grow (w := w) k os)
  generalize Sort.grow (w.drewN k) os = w2 at *
  go_wp2_with fail
  go_ret
  exact ⟨rfl, HB.out⟩
set_option maxRecDepth 100000 in
theorem specFormatInt_any (n : Int) (w : World) (h0 : -9223372036854775808 ≤ n) (h1 : n ≤ 9223372036854775807) :
    Calls Tryd.prog 13 #[.int .i64 n] w fun e w' => e = .returned (.string ⟨(Lib.itoa n).toArray⟩) ∧ Below w.heap.size w w' := by
  by_cases hz : n = 0
  · subst hz
    have HI := hid itoa_zero
    go_enter Tryd.func13, Tryd.ntmps13
    go_wp2_with fail
    go_ret
    exact ⟨by rw [HI.out]; rfl, Below.refl _ _⟩
  have hz' : (n == 0) = false := by simp [hz]
  have HZ := hid hz
  have HN := hid (And.intro h0 h1)
  clear hz
  cases hneg : decide (n < 0) with
  | true =>
    have HNEG := hid (show n < 0 by simpa using hneg)
    have HI := hid (itoa_min HNEG.out)
    clear h0 h1
    go_enter Tryd.func13, Tryd.ntmps13
    go_wp2_with fail
    go_loopw [0, 4] (fun x s wr => ∃ (u : Nat) (l : List UInt8), x = .int .i64 (-(u : Int)) ∧ s = .string ⟨l.toArray⟩ ∧ u ≤ 9223372036854775808 ∧ Hid (leftD n.natAbs u l) ∧ Hid (Below w.heap.size w wr)) (fun x _ _ => (intOf x).natAbs)
    case atStart => exact ⟨n.natAbs, [], by have h := HNEG.out; congr 1; omega, rfl, by have h := HN.out; omega, hid (leftD.start (by have h := HZ.out; omega)), hid (Below.refl _ _)⟩
    case round =>
      obtain ⟨u, l, rfl, rfl, hu, HL, HB⟩ := hrel
      by_cases hu0 : u = 0
      · obtain ⟨m, hm⟩ : ∃ m : Int, -(u : Int) = m := ⟨_, rfl⟩
        rw [hm]
        have hne : (m != 0) = false := by rw [← hm, hu0]; rfl
        rw [hu0] at HL
        have HD := hid HL.out.done
        have hlen : ¬ 9223372036854775807 < 1 + l.length := by have := HL.out.len (by have := HN.out; omega); omega
        clear hm HL hu0 hu
        go_wp2_with fail
        go_ret
        refine ⟨?_, HB.out⟩
        rw [HI.out, HD.out]
        show Ending.returned (.string (⟨[45].toArray⟩ ++ ⟨l.toArray⟩)) = _
        rw [str_app]; rfl
      · obtain ⟨d, hd⟩ : ∃ d : Nat, u % 10 = d := ⟨_, rfl⟩
        obtain ⟨q, hq⟩ : ∃ q : Nat, u / 10 = q := ⟨_, rfl⟩
        obtain ⟨b, hb⟩ : ∃ b : UInt8, digU d = b := ⟨_, rfl⟩
        obtain ⟨m, hm⟩ : ∃ m : Int, -(u : Int) = m := ⟨_, rfl⟩
        obtain ⟨r, hr⟩ : ∃ r : Int, -(d : Int) = r := ⟨_, rfl⟩
        obtain ⟨m2, hm2⟩ : ∃ m2 : Int, -(q : Int) = m2 := ⟨_, rfl⟩
        have HS := hid (HL.out.step hu0)
        rw [hd, hq, hb] at HS
        have hlen : ¬ 9223372036854775807 < 1 + l.length := by have := HL.out.len (by have := HN.out; omega); omega
        have HQ := hid (show m2.natAbs < m.natAbs by omega)
        have HU := hid (show q ≤ 9223372036854775808 by omega)
        rw [hm]
        have hne : (m != 0) = true := by simp; omega
        have HF := hid (run_string_one wr b)
        have e1 : m.tmod 10 = r := by rw [← hm, ← hr, Int.neg_tmod, Int.tmod_eq_emod_of_nonneg (by omega)]; omega
        have e2 : m.tdiv 10 = m2 := by rw [← hm, ← hm2, Int.neg_tdiv, Int.tdiv_eq_ediv_of_nonneg (by omega)]; omega
        have s1 : IntKind.i64.wrap r = r := IntWalk.i64_in _ (by omega)
        have s2 : IntKind.i64.wrap m2 = m2 := IntWalk.i64_in _ (by omega)
        have HM := hid hm2
        cases hdn : decide (r < 0) with
        | true =>
          have s3 : IntKind.i64.wrap (-r) = -r := IntWalk.i64_in _ (by omega)
          have HC := hid (figure_any (-r) b wr (by omega) (by omega) (by rw [show (-r).toNat = d by omega]; exact hb))
          clear hd hq hb hr hm hm2 hu0 hu HL
          go_wp2_with fail
          refine HC.out.mono ?_
          rintro e w' ⟨rfl, rfl⟩
          have HF' := HF.out
          go_wp2_with fail
          refine ⟨⟨q, b :: l, by rw [HM.out], ?_, HU.out, HS, hid (below_step HB.out (below_alloc _ _) (Nat.le_refl _))⟩, HQ.out⟩
          rw [show (⟨#[b]⟩ : ByteArray) = ⟨[b].toArray⟩ from rfl, str_app]; rfl
        | false =>
          have hd0 : ¬ r < 0 := by simpa using hdn
          have HC := hid (figure_any r b wr (by omega) (by omega) (by rw [show r.toNat = d by omega]; exact hb))
          clear hd hq hb hr hm hm2 hu0 hu HL hd0
          go_wp2_with fail
          refine HC.out.mono ?_
          rintro e w' ⟨rfl, rfl⟩
          have HF' := HF.out
          go_wp2_with fail
          refine ⟨⟨q, b :: l, by rw [HM.out], ?_, HU.out, HS, hid (below_step HB.out (below_alloc _ _) (Nat.le_refl _))⟩, HQ.out⟩
          rw [show (⟨#[b]⟩ : ByteArray) = ⟨[b].toArray⟩ from rfl, str_app]; rfl
  | false =>
    have HNEG := hid (show 0 ≤ n by have h : ¬ n < 0 := by simpa using hneg
                                    omega)
    have HI := hid (itoa_pos HNEG.out)
    clear h0 h1
    go_enter Tryd.func13, Tryd.ntmps13
    go_wp2_with fail
    go_loopw [0, 4] (fun x s wr => ∃ (u : Nat) (l : List UInt8), x = .int .i64 (u : Int) ∧ s = .string ⟨l.toArray⟩ ∧ u ≤ 9223372036854775807 ∧ Hid (leftD n.natAbs u l) ∧ Hid (Below w.heap.size w wr)) (fun x _ _ => (intOf x).natAbs)
    case atStart =>
      have h := HNEG.out
      have h2 := HN.out
      have h3 := HZ.out
      have h4 : n = (n.natAbs : Int) := by omega
      refine ⟨n.natAbs, [], congrArg (Value.int .i64) h4, rfl, by omega, hid (leftD.start (by omega)), hid (Below.refl _ _)⟩
    case round =>
      obtain ⟨u, l, rfl, rfl, hu, HL, HB⟩ := hrel
      by_cases hu0 : u = 0
      · obtain ⟨m, hm⟩ : ∃ m : Int, (u : Int) = m := ⟨_, rfl⟩
        rw [hm]
        have hne : (m != 0) = false := by rw [← hm, hu0]; rfl
        rw [hu0] at HL
        have HD := hid HL.out.done
        clear hm HL hu0 hu
        go_wp2_with fail
        go_ret
        refine ⟨?_, HB.out⟩
        rw [HI.out, HD.out]; rfl
      · obtain ⟨d, hd⟩ : ∃ d : Nat, u % 10 = d := ⟨_, rfl⟩
        obtain ⟨q, hq⟩ : ∃ q : Nat, u / 10 = q := ⟨_, rfl⟩
        obtain ⟨b, hb⟩ : ∃ b : UInt8, digU d = b := ⟨_, rfl⟩
        obtain ⟨m, hm⟩ : ∃ m : Int, (u : Int) = m := ⟨_, rfl⟩
        obtain ⟨r, hr⟩ : ∃ r : Int, (d : Int) = r := ⟨_, rfl⟩
        obtain ⟨m2, hm2⟩ : ∃ m2 : Int, (q : Int) = m2 := ⟨_, rfl⟩
        have HS := hid (HL.out.step hu0)
        rw [hd, hq, hb] at HS
        have hlen : ¬ 9223372036854775807 < 1 + l.length := by have := HL.out.len (by have := HN.out; omega); omega
        have HQ := hid (show m2.natAbs < m.natAbs by omega)
        have HU := hid (show q ≤ 9223372036854775807 by omega)
        rw [hm]
        have hne : (m != 0) = true := by simp; omega
        have HF := hid (run_string_one wr b)
        have e1 : m.tmod 10 = r := by rw [← hm, ← hr, Int.tmod_eq_emod_of_nonneg (by omega)]; omega
        have e2 : m.tdiv 10 = m2 := by rw [← hm, ← hm2, Int.tdiv_eq_ediv_of_nonneg (by omega)]; omega
        have s1 : IntKind.i64.wrap r = r := IntWalk.i64_in _ (by omega)
        have s2 : IntKind.i64.wrap m2 = m2 := IntWalk.i64_in _ (by omega)
        have HM := hid hm2
        have hdn : decide (r < 0) = false := by simp; omega
        have HC := hid (figure_any r b wr (by omega) (by omega) (by rw [show r.toNat = d by omega]; exact hb))
        clear hd hq hb hr hm hm2 hu0 hu HL
        go_wp2_with fail
        refine HC.out.mono ?_
        rintro e w' ⟨rfl, rfl⟩
        have HF' := HF.out
        go_wp2_with fail
        refine ⟨⟨q, b :: l, by rw [HM.out], ?_, HU.out, HS, hid (below_step HB.out (below_alloc _ _) (Nat.le_refl _))⟩, HQ.out⟩
        rw [show (⟨#[b]⟩ : ByteArray) = ⟨[b].toArray⟩ from rfl, str_app]; rfl
end Go.Proofs.YtggjheapjklhgaaDoor
