/- The symbols of a word: what the program's and the reference's calls return. -/
import Derived.Test.YtnfkkkjookfdiaaGfW
import Derived.Test.YtnfkkkjookfdiaaMem
import Derived.Test.YtnfkkkjookfdiaaLists
namespace Go.Proofs.Ytnfkkkjookfdiaa
open Go.RowKit

/-- All are elements of the field. -/
def allEl (xs : List Int) : Bool := xs.all fun x => inB x 0 15
theorem allEl_snoc (xs : List Int) (x : Int) : allEl (xs ++ [x]) = (allEl xs && inB x 0 15) := by simp [allEl]
theorem allEl_of_take {xs : List Int} {k : Nat} {x : Int} (h : xs[k]? = some x) (hx : inB x 0 15 = false) : allEl xs = false := by
  unfold allEl
  rw [List.all_eq_false]
  exact ⟨x, List.mem_of_getElem? h, by simp [hx]⟩
/-- What SymbolsOk returns. -/
def symOk (xs : List Int) (n : Int) : Bool := allEl xs && ((xs.length : Int) == n)

theorem specSymbolsOk_any (a : Option Addr) (m c : Nat) (n : Int) (xs : List Int) (w : World) (hx : IntsR w a xs) (hm : m = xs.length) (hl : xs.length ≤ 1048576) :
    Calls Try.prog 51 #[.slice a m c, .int .i64 n] w fun e w' => e = .returned (.bool (symOk xs n)) ∧ ∃ q, w' = w.drewN q := by
  have HN := hid hm
  have HX := hid hx
  have hml : m ≤ 1048576 := by omega
  clear hx hm hl
  go_enter Try.func51, Try.ntmps51
  go_wp2
  go_loopw [5] (fun i wr => ∃ k q : Nat, k ≤ m ∧ i = .int .i64 k ∧ wr = w.drewN q ∧ Hid (allEl (xs.take k) = true)) (fun i _ => m - (intOf i).toNat)
  case atStart => exact ⟨0, 0, Nat.zero_le _, rfl, rfl, rfl⟩
  case round =>
    obtain ⟨k, q, hk, rfl, rfl, HA⟩ := hrel
    by_cases hlt : k < m
    · obtain ⟨x, hx⟩ := some_at HN.out hlt
      obtain ⟨b1, o1, ha1, _, hc1⟩ := HX.out k x hx
      subst ha1
      have HT := hid (take_snoc hx)
      by_cases hel : inB x 0 15 = true
      · have HA' := hid (show allEl (xs.take (k + 1)) = true by rw [HT.out, allEl_snoc, HA.out, hel]; rfl)
        clear hx
        go_wp2_with (go_at_call 95; refine (l11Is_any _ _).mono ?_; rintro e w' ⟨rfl, rfl⟩)
        go_roundw
        case rel => exact ⟨k + 1, _, by omega, by go_num, rfl, HA'⟩
        case measure => simp [intOf]; omega
      · have hel' : inB x 0 15 = false := by simpa using hel
        have HF := hid (allEl_of_take hx hel')
        clear hx
        go_wp2_with (go_at_call 95; refine (l11Is_any _ _).mono ?_; rintro e w' ⟨rfl, rfl⟩)
        go_ret
        exact ⟨by simp [symOk, HF.out], _, rfl⟩
    · go_wp2
      go_ret
      have HA' := HA.out
      rw [List.take_of_length_le (by have := HN.out; omega)] at HA'
      exact ⟨by simp [symOk, HA', ← HN.out], _, rfl⟩

theorem implSymbolsOk_any (a : Option Addr) (m c : Nat) (n : Int) (xs : List Int) (w : World) (hx : IntsR w a xs) (hm : m = xs.length) (hl : xs.length ≤ 1048576) :
    Calls Try.prog 53 #[.slice a m c, .int .i64 n] w fun e w' => e = .returned (.bool (symOk xs n)) ∧ ∃ q, w' = w.drewN q := by
  have HN := hid hm
  have HX := hid hx
  have hml : m ≤ 1048576 := by omega
  clear hx hm hl
  go_enter Try.func53, Try.ntmps53
  go_wp2
  go_loopw [9] (fun i wr => ∃ k q : Nat, k ≤ m ∧ i = .int .i64 k ∧ wr = w.drewN q ∧ Hid (allEl (xs.take k) = true)) (fun i _ => m - (intOf i).toNat)
  case atStart => exact ⟨0, 0, Nat.zero_le _, rfl, rfl, rfl⟩
  case round =>
    obtain ⟨k, q, hk, rfl, rfl, HA⟩ := hrel
    by_cases hlt : k < m
    · obtain ⟨x, hx⟩ := some_at HN.out hlt
      obtain ⟨b1, o1, ha1, _, hc1⟩ := HX.out k x hx
      subst ha1
      have HT := hid (take_snoc hx)
      by_cases hel : inB x 0 15 = true
      · have HA' := hid (show allEl (xs.take (k + 1)) = true by rw [HT.out, allEl_snoc, HA.out, hel]; rfl)
        clear hx
        go_wp2_with (go_at_call 96; refine (isElement_any _ _).mono ?_; rintro e w' ⟨rfl, rfl⟩)
        go_roundw
        case rel => exact ⟨k + 1, _, by omega, by go_num, rfl, HA'⟩
        case measure => simp [intOf]; omega
      · have hel' : inB x 0 15 = false := by simpa using hel
        have HF := hid (allEl_of_take hx hel')
        clear hx
        go_wp2_with (go_at_call 96; refine (isElement_any _ _).mono ?_; rintro e w' ⟨rfl, rfl⟩)
        go_ret
        exact ⟨by simp [symOk, HF.out], _, rfl⟩
    · go_wp2
      go_ret
      have HA' := HA.out
      rw [List.take_of_length_le (by have := HN.out; omega)] at HA'
      exact ⟨by simp [symOk, HA', ← HN.out], _, rfl⟩

theorem implIsWord_any (n : Int) (w : World) :
    Calls Try.prog 73 #[.int .i64 n] w fun e w' => e = .returned (.bool (inB n 0 4294967295)) ∧ w = w' := by
  go_enter Try.func73, Try.ntmps73
  go_wp2_with (go_at_call 70; refine (between_any _ _ _ _).mono ?_; rintro e w' ⟨rfl, rfl⟩)
  go_ret
  exact ⟨rfl, rfl⟩

/-- The symbols of a number, the lowest first. -/
def symN (x : Int) (k : Nat) : List Int := (List.range k).map fun i => bits .and .i64 (x / 2 ^ (4 * i)) 15
theorem symN_succ (x : Int) (k : Nat) : symN x (k + 1) = symN x k ++ [bits .and .i64 (x / 2 ^ (4 * k)) 15] := by simp [symN, List.range_succ]
theorem length_symN (x : Int) (k : Nat) : (symN x k).length = k := by simp [symN]

theorem implSymbolsOfWord_yes (x : Int) (w : World) (hx : inB x 0 4294967295 = true) :
    Calls Try.prog 74 #[.int .i64 x] w fun e w' => ∃ g cap, e = .returned (.slice (some ⟨g, 0, none⟩) 8 cap) ∧ w.heap.size ≤ g ∧ IRow w' g 8 cap (symN x 8) ∧ Below w.heap.size w w' := by
  have HB := inB_iff.1 hx
  have he := hid (IRow.empty w)
  go_enter Try.func74, Try.ntmps74
  go_wp2_with (go_at_call 73; refine (implIsWord_any _ _).mono ?_; rintro e w' ⟨rfl, rfl⟩)
  go_loopw [3, 4] (fun v i wr => ∃ k g cap : Nat, k ≤ 8 ∧ i = .int .i64 k ∧ v = .slice (some ⟨g, 0, none⟩) k cap ∧ w.heap.size ≤ g ∧ Hid (IRow wr g k cap (symN x k)) ∧ Hid (Below w.heap.size w wr)) (fun _ i _ => 8 - (intOf i).toNat)
  case atStart => exact ⟨0, w.heap.size, 0, by omega, rfl, rfl, Nat.le_refl _, he, (Below.refl _ _).alloc (Nat.le_refl _) _⟩
  case round =>
    obtain ⟨k, g, cap, hk, rfl, rfl, hg, HO, HB⟩ := hrel
    by_cases hlt : k < 8
    · have hsz := HB.out.size
      go_wp2_with (at_builtin; refine wpList_append_int rfl _ _ rfl wr w.heap.size k _ (symN x k) (HO.out.rebase hg) rfl _ rfl hsz (by omega) ?_; intro g' cap' w1 hg' hrow hbel)
      go_roundw
      case rel => exact ⟨k + 1, g', cap', by omega, by go_num, rfl, hg', by rw [symN_succ]; exact hrow, HB.out.trans (hbel.mono (Nat.le_refl _))⟩
      case measure => simp [intOf]; omega
    · have h8 : k = 8 := by omega
      subst h8
      go_wp2
      go_ret
      exact ⟨g, cap, rfl, hg, HO.out, HB.out⟩
theorem implSymbolsOfWord_no (x : Int) (w : World) (hx : inB x 0 4294967295 = false) :
    Calls Try.prog 74 #[.int .i64 x] w fun e w' => e = .returned (.slice none 0 0) ∧ w = w' := by
  go_enter Try.func74, Try.ntmps74
  go_wp2_with (go_at_call 73; refine (implIsWord_any _ _).mono ?_; rintro e w' ⟨rfl, rfl⟩)
  go_ret
  exact ⟨rfl, rfl⟩

/-- The symbols of a word; none of a number that is no word. -/
def symW (x : Int) : List Int := if inB x 0 4294967295 then symN x 8 else []
theorem length_symW (x : Int) : (symW x).length ≤ 8 := by unfold symW; split <;> simp [length_symN]
theorem implSymbolsOfWord_any (x : Int) (w : World) :
    Calls Try.prog 74 #[.int .i64 x] w fun e w' => ∃ a n c, e = .returned (.slice a n c) ∧ OwnS w' w.heap.size a n c (symW x) ∧ Below w.heap.size w w' := by
  by_cases hx : inB x 0 4294967295 = true
  · refine (implSymbolsOfWord_yes x w hx).mono ?_
    rintro e w' ⟨g, c, he, hg, hr, hb⟩
    exact ⟨_, _, _, he, by rw [symW, if_pos hx]; exact OwnS.of_row hr hg, hb⟩
  · refine (implSymbolsOfWord_no x w (by simpa using hx)).mono ?_
    rintro e w' ⟨he, rfl⟩
    exact ⟨_, _, _, he, by rw [symW, if_neg hx]; exact OwnS.empty _ _ _ _, Below.refl _ _⟩
end Go.Proofs.Ytnfkkkjookfdiaa
