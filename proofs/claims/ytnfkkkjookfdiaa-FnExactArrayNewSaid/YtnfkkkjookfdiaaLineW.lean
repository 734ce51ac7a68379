/- CorrectWord for every slice; words and their symbols; lines: what the program's and the reference's calls return. -/
import Derived.Test.YtnfkkkjookfdiaaCorW
namespace Go.Proofs.Ytnfkkkjookfdiaa
open Go.RowKit

theorem corR_good {xs : List Int} (h : symOk xs 11 = true) : corR xs = corS xs (synN xs 0 11) (synN xs 1 11) (synN xs 2 11) := by rw [corR, if_pos h]
theorem corR_bad {xs : List Int} (h : symOk xs 11 = false) : corR xs = ([], 2, -1) := by rw [corR, if_neg (by simp [h])]
theorem length_corR (xs : List Int) : (corR xs).1.length ≤ 11 := by
  cases h : symOk xs 11 with
  | true => rw [corR_good h, length_corS]; have := symOk_len (n := 11) h; omega
  | false => rw [corR_bad h]; simp
theorem implCorrectWord_any (a : Option Addr) (m c : Nat) (xs : List Int) (w : World) (hx : IntsR w a xs) (hm : m = xs.length) (hl : xs.length ≤ 1048576) :
    Calls Try.prog 75 #[.slice a m c] w fun e w' => ∃ a' n' c', e = .returned (.tuple #[.slice a' n' c', .int .i64 (corR xs).2.1, .int .i64 (corR xs).2.2]) ∧ OwnS w' w.heap.size a' n' c' (corR xs).1 ∧ Below w.heap.size w w' := by
  cases hok : symOk xs 11 with
  | true =>
    have h11 := symOk_len (n := 11) hok
    rw [h11] at hm
    subst hm
    rw [corR_good hok]
    refine (implCorrectWord_yes a c xs _ _ _ w hx h11 hok rfl rfl rfl (syn_el hok 0 (by omega)) (syn_el hok 1 (by omega)) _ _ _ rfl).mono ?_
    rintro e w' ⟨g, cap, he, hg, hr, hb⟩
    exact ⟨_, _, _, he, OwnS.of_row hr hg, hb⟩
  | false =>
    rw [corR_bad hok]
    have hnil := fun w a n c => Go.Lib.run_eql_slice_nil (P := Try.prog) w 22 3 a n c 0 0 Try.underlying22
    have HX := hid hx
    have HM := hid hm
    clear hx hm
    go_enter Try.func75, Try.ntmps75
    go_wp2_with fail
    refine (implSyndromes_no _ _ _ _ _ HX.out HM.out hl hok).mono ?_
    rintro e w1 ⟨rfl, q, rfl⟩
    have hn2 := fun w => hnil w none 0 0
    simp only [Option.isNone_none] at hn2
    clear hnil
    go_wp2_with fail
    go_ret3
    exact ⟨_, _, _, rfl, OwnS.empty _ _ _ _, below_ofDrewN _ _ _⟩

/-- The number of which these are the symbols. -/
def wordN (xs : List Int) : Nat → Int
  | 0 => 0
  | k + 1 => bits .or .i64 (wordN xs k) (wrap64 (xs[k]?.getD 0 * 2 ^ (4 * k)))
def wordR (xs : List Int) : Int := if symOk xs 8 then wordN xs 8 else 0

theorem implWordOfSymbols_any (a : Option Addr) (m c : Nat) (xs : List Int) (w : World) (hx : IntsR w a xs) (hm : m = xs.length) (hl : xs.length ≤ 1048576) :
    Calls Try.prog 76 #[.slice a m c] w fun e w' => e = .returned (.tuple #[.int .i64 (wordR xs), .bool (symOk xs 8)]) ∧ ∃ q, w' = w.drewN q := by
  have HX := hid hx
  have HM := hid hm
  clear hx hm
  cases hok : symOk xs 8 with
  | false =>
    go_enter Try.func76, Try.ntmps76
    go_wp2_with (go_at_call 53; refine (implSymbolsOk_any _ _ _ _ _ _ HX.out HM.out hl).mono ?_; rintro e w' ⟨rfl, q, rfl⟩)
    go_ret2
    exact ⟨by simp [wordR, hok], _, rfl⟩
  | true =>
    have h8 : m = 8 := by rw [HM.out]; exact symOk_len (n := 8) hok
    subst h8
    go_enter Try.func76, Try.ntmps76
    go_wp2_with (go_at_call 53; refine (implSymbolsOk_any _ _ _ _ _ _ HX.out HM.out hl).mono ?_; rintro e w' ⟨rfl, q, rfl⟩)
    go_loopw [4, 12] (fun x i wr => ∃ k q : Nat, k ≤ 8 ∧ i = .int .i64 k ∧ x = .int .i64 (wordN xs k) ∧ wr = w.drewN q) (fun _ i _ => 8 - (intOf i).toNat)
    case atStart => exact ⟨0, _, by omega, rfl, rfl, rfl⟩
    case round =>
      obtain ⟨k, q', hk, rfl, rfl, rfl⟩ := hrel
      by_cases hlk : k < 8
      · obtain ⟨x, hx⟩ := some_at HM.out hlk
        obtain ⟨b1, o1, ha1, _, hc1⟩ := HX.out k x hx
        subst ha1
        have HS : Hid (wordN xs (k + 1) = bits .or .i64 (wordN xs k) (wrap64 (x * 2 ^ (4 * k)))) := by show _ = _; rw [wordN, getD_of hx]
        clear hx
        go_wp2
        go_roundw
        case rel => exact ⟨k + 1, _, by omega, by go_num, by rw [HS.out], rfl⟩
        case measure => simp [intOf]; omega
      · have h8 : k = 8 := by omega
        subst h8
        go_wp2
        go_ret2
        exact ⟨by simp [wordR, hok], _, rfl⟩
/-- The codeword of a word. -/
def lineR (x : Int) : List Int := encR (symW x)
theorem length_lineR (x : Int) : (lineR x).length ≤ 11 := length_encR _
theorem implEncodeLine_any (x : Int) (w : World) :
    Calls Try.prog 28 #[.int .i64 x] w fun e w' => ∃ a n c, e = .returned (.slice a n c) ∧ OwnS w' w.heap.size a n c (lineR x) ∧ Below w.heap.size w w' := by
  by_cases hx : inB x 0 4294967295 = true
  · have hl := length_symW x
    go_enter Try.func28, Try.ntmps28
    go_wp2_with (go_at_call 73; refine (implIsWord_any _ _).mono ?_; rintro e w' ⟨rfl, rfl⟩)
    refine (implSymbolsOfWord_any _ _).mono ?_
    rintro e w1 ⟨a, n, c, rfl, R, B⟩
    go_wp2_with fail
    refine (implEncodeSymbols_any _ _ _ _ _ R.reads R.length (by omega)).mono ?_
    rintro e w2 ⟨a2, n2, c2, rfl, R2, B2⟩
    go_wp2_with fail
    go_ret
    exact ⟨_, _, _, rfl, R2.mono B.size, below_step B B2 (Nat.le_refl _)⟩
  · have hx' : inB x 0 4294967295 = false := by simpa using hx
    have he : lineR x = [] := by rw [lineR, symW, if_neg hx]; rfl
    go_enter Try.func28, Try.ntmps28
    go_wp2_with (go_at_call 73; refine (implIsWord_any _ _).mono ?_; rintro e w' ⟨rfl, rfl⟩)
    go_ret
    exact ⟨_, _, _, rfl, by rw [he]; exact OwnS.empty _ _ _ _, Below.refl _ _⟩

/-- What DecodeLine returns. -/
def decR (xs : List Int) : Int := if (corR xs).2.1 = 2 then 0 else wordR (dataR (corR xs).1)
theorem implDecodeLine_any (a : Option Addr) (m c : Nat) (xs : List Int) (w : World) (hx : IntsR w a xs) (hm : m = xs.length) (hl : xs.length ≤ 1048576) :
    Calls Try.prog 29 #[.slice a m c] w fun e w' => e = .returned (.tuple #[.int .i64 (decR xs), .int .i64 (corR xs).2.1, .int .i64 (corR xs).2.2]) ∧ Below w.heap.size w w' := by
  have HX := hid hx
  have HM := hid hm
  have hlc := length_corR xs
  have HD : Hid (decR xs = if (corR xs).2.1 = 2 then 0 else wordR (dataR (corR xs).1)) := hid rfl
  clear hx hm
  go_enter Try.func29, Try.ntmps29
  go_wp2_with fail
  refine (implCorrectWord_any _ _ _ _ _ HX.out HM.out hl).mono ?_
  rintro e w1 ⟨a1, n1, c1, rfl, R, B⟩
  generalize (corR xs).1 = cl at *
  generalize hcc : (corR xs).2.1 = cc at *
  generalize hca : (corR xs).2.2 = ca at *
  have HCC := hid hcc
  have HCA := hid hca
  clear hcc hca
  by_cases h2 : cc = 2
  · have hb : (cc == 2) = true := by simp [h2]
    have HD' : Hid (decR xs = 0) := by show _ = _; rw [HD.out, if_pos h2]
    clear h2
    go_wp2_with fail
    go_ret3
    exact ⟨by rw [HD'.out, HCC.out, HCA.out]; rfl, B⟩
  · have hb : (cc == 2) = false := by simp [h2]
    have HD' : Hid (decR xs = wordR (dataR cl)) := by show _ = _; rw [HD.out, if_neg h2]
    clear h2
    have hld := length_dataR cl
    go_wp2_with fail
    refine (implDataOf_any _ _ _ _ _ R.reads R.length R.cap (by omega)).mono ?_
    rintro e w2 ⟨a2, n2, c2, rfl, R2, B2⟩
    go_wp2_with fail
    refine (implWordOfSymbols_any _ _ _ _ _ R2.reads R2.length (by omega)).mono ?_
    rintro e w3 ⟨rfl, q, rfl⟩
    go_wp2_with fail
    go_ret3
    exact ⟨by rw [HD'.out, HCC.out, HCA.out]; rfl, below_drewN (below_step B B2 (Nat.le_refl _)) q⟩
end Go.Proofs.Ytnfkkkjookfdiaa
