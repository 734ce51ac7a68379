/- The field's functions of the program and of the reference: what each call returns (contracts on Calls). -/
import Derived.Test.YtlmjnfpijdeaaaaChecked
import Derived.Test.YtlmjnfpijdeaaaaPlain
import Derived.WalkKit
import Derived.WalkLawsBesides
import Derived.WalkSpells
import Derived.Outline
import Derived.Deep.QuietTactic
import Derived.BigQuiet
import Derived.Test.YtlmjnfpijdeaaaaMem
namespace Go.Proofs.Ytlmjnfpijdeaaaa
open Go.RowKit

theorem l01In_any (n lo hi : Int) (w : World) :
    Calls Try.prog 29 #[.int .i64 n, .int .i64 lo, .int .i64 hi] w fun e w' => e = .returned (.bool (inB n lo hi)) ∧ w = w' := by
  go_enter Try.func29, Try.ntmps29
  go_wp2
  all_goals go_ret
  all_goals exact ⟨by (simp [inB, *]; try omega), rfl⟩
theorem between_any (n lo hi : Int) (w : World) :
    Calls Try.prog 30 #[.int .i64 n, .int .i64 lo, .int .i64 hi] w fun e w' => e = .returned (.bool (inB n lo hi)) ∧ w = w' := by
  go_enter Try.func30, Try.ntmps30
  go_wp2
  all_goals go_ret
  all_goals exact ⟨by (simp [inB, *]; try omega), rfl⟩

theorem l11Is_any (n : Int) (w : World) :
    Calls Try.prog 25 #[.int .i64 n] w fun e w' => e = .returned (.bool (inB n 0 15)) ∧ w = w' := by
  go_enter Try.func25, Try.ntmps25
  go_wp2_with (go_at_call 29; refine (l01In_any _ _ _ _).mono ?_; rintro e w' ⟨rfl, rfl⟩)
  go_ret
  exact ⟨rfl, rfl⟩
theorem isElement_any (n : Int) (w : World) :
    Calls Try.prog 26 #[.int .i64 n] w fun e w' => e = .returned (.bool (inB n 0 15)) ∧ w = w' := by
  go_enter Try.func26, Try.ntmps26
  go_wp2_with (go_at_call 30; refine (between_any _ _ _ _).mono ?_; rintro e w' ⟨rfl, rfl⟩)
  go_ret
  exact ⟨rfl, rfl⟩

theorem implGfAdd_any (a b : Int) (w : World) :
    Calls Try.prog 10 #[.int .i64 a, .int .i64 b] w fun e w' => e = .returned (.int .i64 (gfAdd a b)) ∧ w = w' := by
  go_enter Try.func10, Try.ntmps10
  go_wp2_with (go_at_call 26; refine (isElement_any _ _).mono ?_; rintro e w' ⟨rfl, rfl⟩)
  all_goals go_ret
  all_goals exact ⟨by simp_all [gfAdd], rfl⟩
theorem specGfAdd_any (a b : Int) (w : World) :
    Calls Try.prog 9 #[.int .i64 a, .int .i64 b] w fun e w' => e = .returned (.int .i64 (gfAdd a b)) ∧ w = w' := by
  go_enter Try.func9, Try.ntmps9
  go_wp2_with (go_at_call 25; refine (l11Is_any _ _).mono ?_; rintro e w' ⟨rfl, rfl⟩)
  all_goals go_ret
  all_goals exact ⟨by simp_all [gfAdd], rfl⟩

theorem implGfMul_any (a b : Int) (w : World) :
    Calls Try.prog 12 #[.int .i64 a, .int .i64 b] w fun e w' => e = .returned (.int .i64 (gfMul a b)) ∧ w = w' := by
  go_enter Try.func12, Try.ntmps12
  go_wp2_with (go_at_call 26; refine (isElement_any _ _).mono ?_; rintro e w' ⟨rfl, rfl⟩)
  all_goals try (go_ret; exact ⟨by simp_all [gfMul], rfl⟩)
  have ha := hid (show (inB a 0 15 && inB b 0 15) = true by simp_all)
  go_loop [0, 5, 6] (fun x p i => ∃ k : Nat, k ≤ 4 ∧ i = .int .i64 k ∧ x = .int .i64 (mulA a k) ∧ p = .int .i64 (mulP a b k)) (fun _ _ i => 4 - (intOf i).toNat)
  case atStart => exact ⟨0, Nat.zero_le _, rfl, rfl, rfl⟩
  case round =>
    obtain ⟨k, hk, rfl, rfl, rfl⟩ := hrel
    by_cases hlt : k < 4
    · go_wp2
      all_goals
        go_round
        case rel => exact ⟨k + 1, by omega, by go_num, by simp only [mulA]; split <;> simp_all <;> omega, by simp only [mulP]; split <;> simp_all⟩
        case measure => simp [intOf]; omega
    · go_wp2
      go_ret
      have : k = 4 := by omega
      subst this
      exact ⟨by simp [gfMul, ha.out], rfl⟩

theorem specGfMul_any (a b : Int) (w : World) :
    Calls Try.prog 11 #[.int .i64 a, .int .i64 b] w fun e w' => e = .returned (.int .i64 (gfMul a b)) ∧ w = w' := by
  rw [← specMul_eq]
  go_enter Try.func11, Try.ntmps11
  go_wp2_with (go_at_call 25; refine (l11Is_any _ _).mono ?_; rintro e w' ⟨rfl, rfl⟩)
  all_goals try (go_ret; exact ⟨by simp_all [specMul], rfl⟩)
  have ha := hid (show (inB a 0 15 && inB b 0 15) = true by simp_all)
  go_loop [5, 6] (fun p i => ∃ k : Nat, k ≤ 4 ∧ i = .int .i64 k ∧ p = .int .i64 (smP a b k)) (fun _ i => 4 - (intOf i).toNat)
  case atStart => exact ⟨0, Nat.zero_le _, rfl, rfl⟩
  case round =>
    obtain ⟨k, hk, rfl, rfl⟩ := hrel
    by_cases hlt : k < 4
    · go_wp2
      all_goals
        go_round
        case rel => exact ⟨k + 1, by omega, by go_num, by simp only [smP]; split <;> simp_all⟩
        case measure => simp [intOf]; omega
    · go_wp2
      have : k = 4 := by omega
      subst this
      go_loop [5, 7] (fun p i => ∃ t j : Nat, 3 ≤ j ∧ j ≤ 6 ∧ t ≤ 3 ∧ Hid (j = 6 - t) ∧ i = .int .i64 j ∧ p = .int .i64 (smR a b t)) (fun _ i => (intOf i - 3).toNat)
      case atStart => exact ⟨0, 6, by omega, by omega, by omega, rfl, rfl, rfl⟩
      case round =>
        obtain ⟨t, j, hj, hj6, ht, HJ, rfl, rfl⟩ := hrel
        by_cases hlt : 3 < j
        · go_wp2
          all_goals
            go_round
            case rel => exact ⟨t + 1, j - 1, by omega, by omega, by have := HJ.out; omega, by have := HJ.out; show _ = _; omega, by go_num, by have hj := HJ.out; subst hj; simp only [smR]; split <;> simp_all⟩
            case measure => simp [intOf]; omega
        · have h3 : t = 3 := by have := HJ.out; omega
          subst h3
          go_wp2
          go_ret
          exact ⟨by simp [specMul, ha.out], rfl⟩

theorem implGfInv_any (a : Int) (w : World) :
    Calls Try.prog 22 #[.int .i64 a] w fun e w' => e = .returned (.int .i64 (gfInv a)) ∧ w = w' := by
  go_enter Try.func22, Try.ntmps22
  go_wp2
  go_loop [3] (fun i => ∃ x : Nat, 1 ≤ x ∧ x ≤ 16 ∧ i = .int .i64 x ∧ Hid (gfInv a = invGo a (16 - x) x)) (fun i => 16 - (intOf i).toNat)
  case atStart => exact ⟨1, by omega, by omega, rfl, rfl⟩
  case round =>
    obtain ⟨x, hx, hx', rfl, H⟩ := hrel
    by_cases hlt : x < 16
    · have e := H.out
      rw [show 16 - x = (15 - x) + 1 by omega, invGo] at e
      have HE := hid e
      clear e H
      by_cases hm : (gfMul a x == 1) = true
      · go_wp2_with (go_at_call 12; refine (implGfMul_any _ _ _).mono ?_; rintro e w' ⟨rfl, rfl⟩)
        go_ret
        exact ⟨by rw [HE.out, if_pos hm]; rfl, rfl⟩
      · have hm' : (gfMul a x == 1) = false := by simpa using hm
        go_wp2_with (go_at_call 12; refine (implGfMul_any _ _ _).mono ?_; rintro e w' ⟨rfl, rfl⟩)
        go_round
        case rel => exact ⟨x + 1, by omega, by omega, by go_num, by show _ = _; rw [HE.out, if_neg hm, show 16 - (x + 1) = 15 - x by omega]⟩
        case measure => simp [intOf]; omega
    · have h16 : x = 16 := by omega
      subst h16
      go_wp2
      go_ret
      exact ⟨by rw [H.out]; rfl, rfl⟩

theorem implGfPow_any (a n : Int) (w : World) :
    Calls Try.prog 24 #[.int .i64 a, .int .i64 n] w fun e w' => e = .returned (.int .i64 (gfPow a n)) ∧ w = w' := by
  by_cases ha : inB a 0 15 = true
  case neg =>
    have ha' : inB a 0 15 = false := by simpa using ha
    go_enter Try.func24, Try.ntmps24
    go_wp2_with (first | (go_at_call 26; refine (isElement_any _ _).mono ?_; rintro e w' ⟨rfl, rfl⟩) | (go_at_call 30; refine (between_any _ _ _ _).mono ?_; rintro e w' ⟨rfl, rfl⟩))
    go_ret
    exact ⟨by simp [gfPow, ha'], rfl⟩
  by_cases hn : inB n 0 1000 = true
  case neg =>
    have hn' : inB n 0 1000 = false := by simpa using hn
    go_enter Try.func24, Try.ntmps24
    go_wp2_with (first | (go_at_call 26; refine (isElement_any _ _).mono ?_; rintro e w' ⟨rfl, rfl⟩) | (go_at_call 30; refine (between_any _ _ _ _).mono ?_; rintro e w' ⟨rfl, rfl⟩))
    go_ret
    exact ⟨by simp [gfPow, hn'], rfl⟩
  have hn2 := inB_iff.1 hn
  have HA := hid (show (inB a 0 15 && inB n 0 1000) = true by simp [ha, hn])
  obtain ⟨m, rfl⟩ := Int.eq_ofNat_of_zero_le hn2.1
  go_enter Try.func24, Try.ntmps24
  go_wp2_with (first | (go_at_call 26; refine (isElement_any _ _).mono ?_; rintro e w' ⟨rfl, rfl⟩) | (go_at_call 30; refine (between_any _ _ _ _).mono ?_; rintro e w' ⟨rfl, rfl⟩))
  go_loop [1, 5] (fun i p => ∃ k j : Nat, k ≤ 1000 ∧ Hid (k + j = m) ∧ i = .int .i64 k ∧ p = .int .i64 (powN a j)) (fun i _ => (intOf i).toNat)
  case atStart => exact ⟨m, 0, by omega, Nat.add_zero _, rfl, rfl⟩
  case round =>
    obtain ⟨k, j, hk, HJ, rfl, rfl⟩ := hrel
    by_cases hlt : 0 < k
    · go_wp2_with (go_at_call 12; refine (implGfMul_any _ _ _).mono ?_; rintro e w' ⟨rfl, rfl⟩)
      go_round
      case rel => exact ⟨k - 1, j + 1, by omega, by have := HJ.out; show _ = _; omega, by go_num, rfl⟩
      case measure => simp [intOf]; omega
    · have hj : j = m := by have := HJ.out; omega
      subst hj
      go_wp2
      go_ret
      exact ⟨by simp [gfPow, HA.out], rfl⟩


theorem specGfInv_any (a : Int) (w : World) :
    Calls Try.prog 21 #[.int .i64 a] w fun e w' => e = .returned (.int .i64 (gfInv a)) ∧ w = w' := by
  go_enter Try.func21, Try.ntmps21
  go_wp2
  go_loop [3] (fun i => ∃ x : Nat, 1 ≤ x ∧ x ≤ 16 ∧ i = .int .i64 x ∧ Hid (gfInv a = invGo a (16 - x) x)) (fun i => 16 - (intOf i).toNat)
  case atStart => exact ⟨1, by omega, by omega, rfl, rfl⟩
  case round =>
    obtain ⟨x, hx, hx', rfl, H⟩ := hrel
    by_cases hlt : x < 16
    · have e := H.out
      rw [show 16 - x = (15 - x) + 1 by omega, invGo] at e
      have HE := hid e
      clear e H
      by_cases hm : (gfMul a x == 1) = true
      · go_wp2_with (go_at_call 11; refine (specGfMul_any _ _ _).mono ?_; rintro e w' ⟨rfl, rfl⟩)
        go_ret
        exact ⟨by rw [HE.out, if_pos hm]; rfl, rfl⟩
      · have hm' : (gfMul a x == 1) = false := by simpa using hm
        go_wp2_with (go_at_call 11; refine (specGfMul_any _ _ _).mono ?_; rintro e w' ⟨rfl, rfl⟩)
        go_round
        case rel => exact ⟨x + 1, by omega, by omega, by go_num, by show _ = _; rw [HE.out, if_neg hm, show 16 - (x + 1) = 15 - x by omega]⟩
        case measure => simp [intOf]; omega
    · have h16 : x = 16 := by omega
      subst h16
      go_wp2
      go_ret
      exact ⟨by rw [H.out]; rfl, rfl⟩

theorem specGfPow_any (a n : Int) (w : World) :
    Calls Try.prog 23 #[.int .i64 a, .int .i64 n] w fun e w' => e = .returned (.int .i64 (gfPow a n)) ∧ w = w' := by
  by_cases ha : inB a 0 15 = true
  case neg =>
    have ha' : inB a 0 15 = false := by simpa using ha
    go_enter Try.func23, Try.ntmps23
    go_wp2_with (first | (go_at_call 25; refine (l11Is_any _ _).mono ?_; rintro e w' ⟨rfl, rfl⟩) | (go_at_call 29; refine (l01In_any _ _ _ _).mono ?_; rintro e w' ⟨rfl, rfl⟩))
    go_ret
    exact ⟨by simp [gfPow, ha'], rfl⟩
  by_cases hn : inB n 0 1000 = true
  case neg =>
    have hn' : inB n 0 1000 = false := by simpa using hn
    go_enter Try.func23, Try.ntmps23
    go_wp2_with (first | (go_at_call 25; refine (l11Is_any _ _).mono ?_; rintro e w' ⟨rfl, rfl⟩) | (go_at_call 29; refine (l01In_any _ _ _ _).mono ?_; rintro e w' ⟨rfl, rfl⟩))
    go_ret
    exact ⟨by simp [gfPow, hn'], rfl⟩
  have hn2 := inB_iff.1 hn
  have HA := hid (show (inB a 0 15 && inB n 0 1000) = true by simp [ha, hn])
  obtain ⟨m, rfl⟩ := Int.eq_ofNat_of_zero_le hn2.1
  go_enter Try.func23, Try.ntmps23
  go_wp2_with (first | (go_at_call 25; refine (l11Is_any _ _).mono ?_; rintro e w' ⟨rfl, rfl⟩) | (go_at_call 29; refine (l01In_any _ _ _ _).mono ?_; rintro e w' ⟨rfl, rfl⟩))
  go_loop [5, 6] (fun p i => ∃ j : Nat, j ≤ m ∧ i = .int .i64 j ∧ p = .int .i64 (powN a j)) (fun _ i => m - (intOf i).toNat)
  case atStart => exact ⟨0, by omega, rfl, rfl⟩
  case round =>
    obtain ⟨j, hj, rfl, rfl⟩ := hrel
    by_cases hlt : j < m
    · go_wp2_with (go_at_call 11; refine (specGfMul_any _ _ _).mono ?_; rintro e w' ⟨rfl, rfl⟩)
      go_round
      case rel => exact ⟨j + 1, by omega, by go_num, rfl⟩
      case measure => simp [intOf]; omega
    · have hj : m = j := by omega
      subst hj
      go_wp2
      go_ret
      exact ⟨by simp [gfPow, HA.out], rfl⟩

end Go.Proofs.Ytlmjnfpijdeaaaa
