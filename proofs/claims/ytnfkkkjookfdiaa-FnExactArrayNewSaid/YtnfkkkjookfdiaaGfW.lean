/- The field's functions of the program and of the reference: what each call returns (contracts on Calls). -/
import Derived.Test.YtnfkkkjookfdiaaChecked
import Derived.Test.YtnfkkkjookfdiaaPlain
import Derived.WalkKit
import Derived.WalkLawsBesides
import Derived.WalkSpells
import Derived.Outline
import Derived.Deep.QuietTactic
import Derived.BigQuiet
import Derived.Test.YtnfkkkjookfdiaaMem
namespace Go.Proofs.Ytnfkkkjookfdiaa
open Go.RowKit

theorem l01In_any (n lo hi : Int) (w : World) :
    Calls Try.prog 65 #[.int .i64 n, .int .i64 lo, .int .i64 hi] w fun e w' => e = .returned (.bool (inB n lo hi)) ∧ w = w' := by
  go_enter Try.func65, Try.ntmps65
  go_wp2
  all_goals go_ret
  all_goals exact ⟨by (simp [inB, *]; try omega), rfl⟩
theorem between_any (n lo hi : Int) (w : World) :
    Calls Try.prog 70 #[.int .i64 n, .int .i64 lo, .int .i64 hi] w fun e w' => e = .returned (.bool (inB n lo hi)) ∧ w = w' := by
  go_enter Try.func70, Try.ntmps70
  go_wp2
  all_goals go_ret
  all_goals exact ⟨by (simp [inB, *]; try omega), rfl⟩

theorem l11Is_any (n : Int) (w : World) :
    Calls Try.prog 95 #[.int .i64 n] w fun e w' => e = .returned (.bool (inB n 0 15)) ∧ w = w' := by
  go_enter Try.func95, Try.ntmps95
  go_wp2_with (go_at_call 65; refine (l01In_any _ _ _ _).mono ?_; rintro e w' ⟨rfl, rfl⟩)
  go_ret
  exact ⟨rfl, rfl⟩
theorem isElement_any (n : Int) (w : World) :
    Calls Try.prog 96 #[.int .i64 n] w fun e w' => e = .returned (.bool (inB n 0 15)) ∧ w = w' := by
  go_enter Try.func96, Try.ntmps96
  go_wp2_with (go_at_call 70; refine (between_any _ _ _ _).mono ?_; rintro e w' ⟨rfl, rfl⟩)
  go_ret
  exact ⟨rfl, rfl⟩

theorem implGfMul_any (a b : Int) (w : World) :
    Calls Try.prog 59 #[.int .i64 a, .int .i64 b] w fun e w' => e = .returned (.int .i64 (gfMul a b)) ∧ w = w' := by
  go_enter Try.func59, Try.ntmps59
  go_wp2_with (go_at_call 96; refine (isElement_any _ _).mono ?_; rintro e w' ⟨rfl, rfl⟩)
  all_goals try (go_ret; exact ⟨by simp_all [gfMul], rfl⟩)
  have ha := hid (show (inB a 0 15 && inB b 0 15) = true by simp_all)
  go_loop [0, 5, 6] (fun x p i => ∃ k : Nat, k ≤ 4 ∧ i = .int .i64 k ∧ x = .int .i64 (mulA a k) ∧ p = .int .i64 (mulP a b k)) (fun _ _ i => 4 - (intOf i).toNat)
  case atStart => exact ⟨0, Nat.zero_le _, rfl, rfl, rfl⟩
  case round =>
    obtain ⟨k, hk, rfl, rfl, rfl⟩ := hrel
    by_cases hlt : k < 4
    · go_wp2
      all_goals
        go_round
        case rel => exact ⟨k + 1, by omega, by go_num, by simp only [mulA]; split <;> simp_all <;> omega, by simp only [mulP]; split <;> simp_all⟩
        case measure => simp [intOf]; omega
    · go_wp2
      go_ret
      have : k = 4 := by omega
      subst this
      exact ⟨by simp [gfMul, ha.out], rfl⟩

theorem implGfInv_any (a : Int) (w : World) :
    Calls Try.prog 58 #[.int .i64 a] w fun e w' => e = .returned (.int .i64 (gfInv a)) ∧ w = w' := by
  go_enter Try.func58, Try.ntmps58
  go_wp2
  go_loop [3] (fun i => ∃ x : Nat, 1 ≤ x ∧ x ≤ 16 ∧ i = .int .i64 x ∧ Hid (gfInv a = invGo a (16 - x) x)) (fun i => 16 - (intOf i).toNat)
  case atStart => exact ⟨1, by omega, by omega, rfl, rfl⟩
  case round =>
    obtain ⟨x, hx, hx', rfl, H⟩ := hrel
    by_cases hlt : x < 16
    · have e := H.out
      rw [show 16 - x = (15 - x) + 1 by omega, invGo] at e
      have HE := hid e
      clear e H
      by_cases hm : (gfMul a x == 1) = true
      · go_wp2_with (go_at_call 59; refine (implGfMul_any _ _ _).mono ?_; rintro e w' ⟨rfl, rfl⟩)
        go_ret
        exact ⟨by rw [HE.out, if_pos hm]; rfl, rfl⟩
      · have hm' : (gfMul a x == 1) = false := by simpa using hm
        go_wp2_with (go_at_call 59; refine (implGfMul_any _ _ _).mono ?_; rintro e w' ⟨rfl, rfl⟩)
        go_round
        case rel => exact ⟨x + 1, by omega, by omega, by go_num, by show _ = _; rw [HE.out, if_neg hm, show 16 - (x + 1) = 15 - x by omega]⟩
        case measure => simp [intOf]; omega
    · have h16 : x = 16 := by omega
      subst h16
      go_wp2
      go_ret
      exact ⟨by rw [H.out]; rfl, rfl⟩

theorem implGfPow_any (a n : Int) (w : World) :
    Calls Try.prog 98 #[.int .i64 a, .int .i64 n] w fun e w' => e = .returned (.int .i64 (gfPow a n)) ∧ w = w' := by
  by_cases ha : inB a 0 15 = true
  case neg =>
    have ha' : inB a 0 15 = false := by simpa using ha
    go_enter Try.func98, Try.ntmps98
    go_wp2_with (first | (go_at_call 96; refine (isElement_any _ _).mono ?_; rintro e w' ⟨rfl, rfl⟩) | (go_at_call 70; refine (between_any _ _ _ _).mono ?_; rintro e w' ⟨rfl, rfl⟩))
    go_ret
    exact ⟨by simp [gfPow, ha'], rfl⟩
  by_cases hn : inB n 0 1000 = true
  case neg =>
    have hn' : inB n 0 1000 = false := by simpa using hn
    go_enter Try.func98, Try.ntmps98
    go_wp2_with (first | (go_at_call 96; refine (isElement_any _ _).mono ?_; rintro e w' ⟨rfl, rfl⟩) | (go_at_call 70; refine (between_any _ _ _ _).mono ?_; rintro e w' ⟨rfl, rfl⟩))
    go_ret
    exact ⟨by simp [gfPow, hn'], rfl⟩
  have hn2 := inB_iff.1 hn
  have HA := hid (show (inB a 0 15 && inB n 0 1000) = true by simp [ha, hn])
  obtain ⟨m, rfl⟩ := Int.eq_ofNat_of_zero_le hn2.1
  go_enter Try.func98, Try.ntmps98
  go_wp2_with (first | (go_at_call 96; refine (isElement_any _ _).mono ?_; rintro e w' ⟨rfl, rfl⟩) | (go_at_call 70; refine (between_any _ _ _ _).mono ?_; rintro e w' ⟨rfl, rfl⟩))
  go_loop [1, 5] (fun i p => ∃ k j : Nat, k ≤ 1000 ∧ Hid (k + j = m) ∧ i = .int .i64 k ∧ p = .int .i64 (powN a j)) (fun i _ => (intOf i).toNat)
  case atStart => exact ⟨m, 0, by omega, Nat.add_zero _, rfl, rfl⟩
  case round =>
    obtain ⟨k, j, hk, HJ, rfl, rfl⟩ := hrel
    by_cases hlt : 0 < k
    · go_wp2_with (go_at_call 59; refine (implGfMul_any _ _ _).mono ?_; rintro e w' ⟨rfl, rfl⟩)
      go_round
      case rel => exact ⟨k - 1, j + 1, by omega, by have := HJ.out; show _ = _; omega, by go_num, rfl⟩
      case measure => simp [intOf]; omega
    · have hj : j = m := by have := HJ.out; omega
      subst hj
      go_wp2
      go_ret
      exact ⟨by simp [gfPow, HA.out], rfl⟩

theorem implGfLog_any (a : Int) (w : World) :
    Calls Try.prog 101 #[.int .i64 a] w fun e w' => e = .returned (.int .i64 (gfLog a)) ∧ w = w' := by
  go_enter Try.func101, Try.ntmps101
  go_wp2
  go_loop [3] (fun i => ∃ x : Nat, x ≤ 15 ∧ i = .int .i64 x ∧ Hid (gfLog a = logGo a (15 - x) x)) (fun i => 15 - (intOf i).toNat)
  case atStart => exact ⟨0, by omega, rfl, rfl⟩
  case round =>
    obtain ⟨x, hx', rfl, H⟩ := hrel
    by_cases hlt : x < 15
    · have e := H.out
      rw [show 15 - x = (14 - x) + 1 by omega, logGo] at e
      have HE := hid e
      clear e H
      by_cases hm : (gfPow 2 x == a) = true
      · go_wp2_with (go_at_call 98; refine (implGfPow_any _ _ _).mono ?_; rintro e w' ⟨rfl, rfl⟩)
        go_ret
        exact ⟨by rw [HE.out, if_pos hm]; rfl, rfl⟩
      · have hm' : (gfPow 2 x == a) = false := by simpa using hm
        go_wp2_with (go_at_call 98; refine (implGfPow_any _ _ _).mono ?_; rintro e w' ⟨rfl, rfl⟩)
        go_round
        case rel => exact ⟨x + 1, by omega, by go_num, by show _ = _; rw [HE.out, if_neg hm, show 15 - (x + 1) = 14 - x by omega]⟩
        case measure => simp [intOf]; omega
    · have h16 : x = 15 := by omega
      subst h16
      go_wp2
      go_ret
      exact ⟨by rw [H.out]; rfl, rfl⟩

end Go.Proofs.Ytnfkkkjookfdiaa
