/- The code's functions of the program and of the reference: what each call returns. -/
import Derived.Test.YtnfkkkjookfdiaaSymW
import Derived.Test.YtnfkkkjookfdiaaCodeP
import Derived.Deep.RegionLaw
import Derived.Deep.RegionWith
import Derived.StillTailTactics
namespace Go.Proofs.Ytnfkkkjookfdiaa
open Go.RowKit

theorem zeros3 (w : World) : IRow (w.alloc (.cells #[.int .i64 0, .int .i64 0, .int .i64 0] 3)) w.heap.size 3 3 [0, 0, 0] := by
  have := World.ownsRow_lit (base := w.heap.size) (e := 3) (size := 1) w #[.int .i64 0, .int .i64 0, .int .i64 0] 3 (Nat.le_refl _) (by unfold maxLen; omega) (by simp)
  simpa [IRow] using this
theorem make3 (w : World) : (Instr.makeSlice 22 (.int .i64 3) (.int .i64 3)).run Try.prog w = .ok (.slice (some ⟨w.heap.size, 0, none⟩) 3 3) (w.alloc (.cells #[.int .i64 0, .int .i64 0, .int .i64 0] 3)) := by kernel_rfl

set_option maxRecDepth 100000 in
theorem implSyndromes_yes (a : Option Addr) (c : Nat) (xs : List Int) (w : World) (hx : IntsR w a xs) (hm : xs.length = 11) (hok : symOk xs 11 = true) :
    Calls Try.prog 57 #[.slice a 11 c] w fun e w' => ∃ g, e = .returned (.slice (some ⟨g, 0, none⟩) 3 3) ∧ w.heap.size ≤ g ∧ IRow w' g 3 3 (syn xs) ∧ Below w.heap.size w w' := by
  have HX := hid hx
  have HM := hid hm
  clear hx hm
  have hmk := make3
  go_enter Try.func57, Try.ntmps57
  go_wp2_with (go_at_call 53; refine (implSymbolsOk_any _ _ _ _ _ _ HX.out HM.out.symm (by rw [HM.out]; omega)).mono ?_; rintro e w' ⟨rfl, q, rfl⟩)
  have HO := hid (zeros3 (w.drewN q))
  rw [← rowI_zero xs] at HO
  go_loopw [13] (fun i wr => ∃ j : Nat, j ≤ 3 ∧ i = .int .i64 j ∧ Hid (IRow wr w.heap.size 3 3 (rowI xs j 0)) ∧ Hid (Below w.heap.size w wr)) (fun i _ => 3 - (intOf i).toNat)
  case atStart => exact ⟨0, by omega, rfl, HO, (below_ofDrewN _ _ _).alloc (by simp) _⟩
  case round =>
    obtain ⟨j, hj, rfl, HO, HB⟩ := hrel
    by_cases hlt : j < 3
    · have hd : decide ((j : Int) < 3) = true := by simp; omega
      go_wp2
      go_loopw [18] (fun i wl => ∃ k : Nat, k ≤ 11 ∧ i = .int .i64 k ∧ Hid (IRow wl w.heap.size 3 3 (rowI xs j k)) ∧ Hid (Below w.heap.size w wl)) (fun i _ => 11 - (intOf i).toNat)
      case atStart => exact ⟨0, by omega, rfl, HO, HB⟩
      case round =>
        obtain ⟨k, hk, rfl, HO, HB⟩ := hrel
        by_cases hlk : k < 11
        · obtain ⟨x, hx⟩ := some_at HM.out.symm hlk
          obtain ⟨b1, o1, ha1, hb1, hc1⟩ := HX.out k x hx
          have hc2 := (HB.out.cell (p := ⟨b1, o1 + k, none⟩) hb1).trans hc1
          have hc3 := HO.out.cell (rowI_at xs j k hlt)
          have hf3 := HO.out.frozen j
          have hs := HO.out.set j (bits .xor .i64 (synN xs j k) (gfMul x (gfPow 2 ((k : Int) * (j : Int)))))
          rw [rowI_set xs j k x hlt hx] at hs
          have HO' := hid hs.1
          have HB' := hid (HB.out.setCell (p := ⟨w.heap.size, j, none⟩) (Nat.le_refl _) (.int .i64 (bits .xor .i64 (synN xs j k) (gfMul x (gfPow 2 ((k : Int) * (j : Int)))))))
          have hkj : 0 ≤ (k : Int) * (j : Int) ∧ (k : Int) * (j : Int) ≤ 30 := by
            rcases lt3 hlt with rfl | rfl | rfl <;> omega
          have hw : IntKind.i64.wrap ((k : Int) * (j : Int)) = (k : Int) * (j : Int) := IntWalk.i64_in _ (by omega)
          subst ha1
          clear hx hc1 hs HO HB hd
          have hji : (j : Int) < 3 := by omega
          go_wp2
          refine wp_region_still_tail 12 (by kernel_rfl) (by kernel_rfl) ?_
          simp only [List.take_succ_cons, List.take_zero, List.drop_succ_cons, List.drop_zero]
          repeat (first | still_step | still_call ((implGfPow_any _ _ _).mono fun e w' h => ⟨h.1, h.2.symm⟩) | still_call ((implGfMul_any _ _ _).mono fun e w' h => ⟨h.1, h.2.symm⟩))
          refine wpStill_nil ?_
          go_wp2
          go_roundw
          case rel => exact ⟨k + 1, by omega, by go_num, HO', HB'.out.drew⟩
          case measure => simp [intOf]; omega
        · have hk11 : k = 11 := by omega
          subst hk11
          have HO' := hid HO.out
          rw [rowI_next xs j hlt] at HO'
          clear HO
          go_wp2
          go_roundw
          case rel => exact ⟨j + 1, by omega, by go_num, HO', HB⟩
          case measure => simp [intOf]; omega
    · have hj3 : j = 3 := by omega
      subst hj3
      have HO' := hid HO.out
      rw [rowI_done xs] at HO'
      clear HO
      go_wp2
      go_ret
      exact ⟨_, rfl, Nat.le_refl _, HO'.out, HB.out⟩

theorem implSyndromes_no (a : Option Addr) (m c : Nat) (xs : List Int) (w : World) (hx : IntsR w a xs) (hm : m = xs.length) (hl : xs.length ≤ 1048576) (hok : symOk xs 11 = false) :
    Calls Try.prog 57 #[.slice a m c] w fun e w' => e = .returned (.slice none 0 0) ∧ ∃ q, w' = w.drewN q := by
  have HX := hid hx
  have HM := hid hm
  clear hx hm
  go_enter Try.func57, Try.ntmps57
  go_wp2_with (go_at_call 53; refine (implSymbolsOk_any _ _ _ _ _ _ HX.out HM.out hl).mono ?_; rintro e w' ⟨rfl, q, rfl⟩)
  go_ret
  exact ⟨rfl, _, rfl⟩

end Go.Proofs.Ytnfkkkjookfdiaa
