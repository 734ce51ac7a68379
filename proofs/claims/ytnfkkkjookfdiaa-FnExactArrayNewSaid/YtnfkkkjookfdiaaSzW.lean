/- The laws' helpers that add up sizes. -/
import Derived.Test.YtnfkkkjookfdiaaCell
namespace Go.Proofs.Ytnfkkkjookfdiaa
open Go.RowKit

def szT (left : Int) (t : Nat) : Int := if (t : Int) ≤ left then left - t else -1
theorem szT_yes {left : Int} {t : Nat} (h : (t : Int) ≤ left) : szT left t = left - t := by rw [szT, if_pos h]
theorem szT_no {left : Int} {t : Nat} (h : left < (t : Int)) : szT left t = -1 := by rw [szT, if_neg (by omega)]
theorem szT_add {left : Int} {t u : Nat} (h : (t : Int) ≤ left) : szT (szT left t) u = szT left (t + u) := by
  rw [szT_yes h]; unfold szT
  by_cases h2 : (u : Int) ≤ left - t
  · rw [if_pos h2, if_pos (by omega)]; omega
  · rw [if_neg h2, if_neg (by omega)]
theorem szIntS_any (a : Option Addr) (n c : Nat) (left : Int) (w : World) (hn : n ≤ maxLen) (h0 : 0 ≤ left) (h1 : left ≤ 1048576) :
    Calls Try.prog 61 #[.slice a n c, .int .i64 left] w fun e w' => e = .returned (.int .i64 (szT left n)) ∧ w = w' := by
  unfold maxLen at hn
  by_cases h : (n : Int) ≤ left
  · have HS := hid (szT_yes h)
    have hd : decide (left - (n : Int) < 0) = false := by simp; omega
    go_enter Try.func61, Try.ntmps61
    go_wp2
    go_ret
    exact ⟨by rw [HS.out]; rfl, rfl⟩
  · have HS := hid (szT_no (t := n) (left := left) (by omega))
    have hd : decide (left - (n : Int) < 0) = true := by simp; omega
    go_enter Try.func61, Try.ntmps61
    go_wp2
    go_ret
    exact ⟨by rw [HS.out]; rfl, rfl⟩
theorem szCell_any (a : Option Addr) (n c : Nat) (p : Bool) (left : Int) (w : World) (hn : n ≤ maxLen) (h0 : 0 ≤ left) (h1 : left ≤ 1048576) :
    Calls Try.prog 47 #[.agg #[.slice a n c, .bool p], .int .i64 left] w fun e w' => e = .returned (.int .i64 (szT left n)) ∧ Below w.heap.size w w' := by
  by_cases h : (n : Int) ≤ left
  · have HS := hid (szT_yes h)
    have hd : decide (left - (n : Int) < 0) = false := by simp; omega
    go_enter Try.func47, Try.ntmps47
    go_wp2_with fail
    refine (szIntS_any _ _ _ _ _ hn h0 h1).mono ?_
    rintro e w1 ⟨rfl, rfl⟩
    rw [HS.out]
    go_wp2
    go_ret
    exact ⟨by rw [HS.out]; rfl, below_alloc _ _⟩
  · have HS := hid (szT_no (t := n) (left := left) (by omega))
    go_enter Try.func47, Try.ntmps47
    go_wp2_with fail
    refine (szIntS_any _ _ _ _ _ hn h0 h1).mono ?_
    rintro e w1 ⟨rfl, rfl⟩
    rw [HS.out]
    go_wp2
    go_ret
    exact ⟨by rw [HS.out]; rfl, below_alloc _ _⟩
theorem sumC_ge (ls : List Nat) : ls.length ≤ sumC ls := by
  induction ls with
  | nil => simp [sumC]
  | cons n r ih => simp [sumC]; omega
theorem szCellS_any (a : Option Addr) (n c : Nat) (es : List CellE) (ls : List Nat) (left : Int) (w : World) (hx : CellsR w a n es) (hls : es.map CellE.n = ls) (hm : ∀ (i : Nat) (e : CellE), es[i]? = some e → e.n ≤ maxLen) (hn : n ≤ maxLen) (h0 : 0 ≤ left) (h1 : left ≤ 1048576) :
    Calls Try.prog 60 #[.slice a n c, .int .i64 left] w fun e w' => e = .returned (.int .i64 (szT left (sumC ls))) ∧ Below w.heap.size w w' := by
  have hll : n = ls.length := by rw [← hls, List.length_map]; exact hx.len
  have hge := sumC_ge ls
  have HX := hid hx
  have HLL := hid hll
  have HLS := hid hls
  have HM := hid hm
  clear hx hls hm
  unfold maxLen at hn
  by_cases h : (n : Int) ≤ left
  · have hd : decide (left - (n : Int) < 0) = false := by simp; omega
    clear hge hll
    go_enter Try.func60, Try.ntmps60
    go_wp2
    clear hd
    go_loopw [1, 5] (fun q i wr => ∃ j : Nat, j ≤ n ∧ i = .int .i64 j ∧ (∃ r : Int, q = .int .i64 r ∧ 0 ≤ r ∧ r ≤ 1048576 ∧ Hid (left - n - sumC (ls.take j) + j = r)) ∧ Hid (Below w.heap.size w wr)) (fun _ i _ => n - (intOf i).toNat)
    case atStart => exact ⟨0, Nat.zero_le _, rfl, ⟨_, rfl, by omega, by omega, hid (by simp [sumC])⟩, hid (Below.refl _ _)⟩
    case round =>
      obtain ⟨j, hj, rfl, ⟨r, rfl, r0, r1, HR⟩, HB⟩ := hrel
      by_cases hlt : j < n
      · obtain ⟨e, b1, o1, he, ha1, hb1, hc0, hc1, hr, hen, _⟩ := (HX.out.old HB.out).at_ hlt
        have hm : ls[j]? = some e.n := by rw [← HLS.out, List.getElem?_map, he]; rfl
        have HSUM := hid (sumC_at hm)
        have hen1 := HM.out j e he
        have hle := sumC_take_le ls (j + 1)
        subst ha1
        clear he hm hen hr
        by_cases hgo : (e.n : Int) ≤ r
        · have HS := hid (szT_yes hgo)
          have hq : left - n - (sumC (ls.take (j + 1)) : Int) + ((j + 1 : Nat) : Int) = r - e.n := by rw [HSUM.out]; have := HR.out; omega
          have HQ := hid hq
          clear hq hle
          go_wp2_with fail
          refine (szCell_any _ _ _ _ _ _ hen1 r0 r1).mono ?_
          rintro e1 w2 ⟨rfl, B⟩
          rw [HS.out]
          have HB2 := hid (below_step HB.out B (Nat.le_refl _))
          clear HB B hc0 hc1
          go_wp2
          go_roundw
          case rel => exact ⟨j + 1, by omega, by go_num, ⟨_, rfl, by omega, by omega, HQ⟩, HB2⟩
          case measure => simp [intOf]; omega
        · have HS := hid (szT_no (t := e.n) (left := r) (by omega))
          have hno : left < (sumC ls : Int) := by
            have h1 := HSUM.out
            have h2 := HR.out
            have h3 := sumC_append (ls.take (j + 1)) (ls.drop (j + 1))
            rw [List.take_append_drop] at h3
            have h4 := sumC_ge (ls.drop (j + 1))
            rw [List.length_drop] at h4
            have := HLL.out
            omega
          have HN := hid (szT_no hno)
          clear hno hle
          go_wp2_with fail
          refine (szCell_any _ _ _ _ _ _ hen1 r0 r1).mono ?_
          rintro e1 w2 ⟨rfl, B⟩
          rw [HS.out]
          have HB2 := hid (below_step HB.out B (Nat.le_refl _))
          clear HB B hc0 hc1
          go_wp2
          go_ret
          exact ⟨by rw [HN.out]; rfl, HB2.out⟩
      · have hjn : j = n := by omega
        subst hjn
        have hq : ls.take j = ls := List.take_of_length_le (by have := HLL.out; omega)
        have hv : szT left (sumC ls) = r := by
          have := HR.out
          rw [hq] at this
          rw [szT_yes (by omega)]; omega
        have HV := hid hv
        clear hq hv
        go_wp2
        go_ret
        exact ⟨by rw [HV.out]; rfl, HB.out⟩
  · have hd : decide (left - (n : Int) < 0) = true := by simp; omega
    have HS := hid (szT_no (t := sumC ls) (left := left) (by omega))
    clear hge hll
    go_enter Try.func60, Try.ntmps60
    go_wp2
    go_ret
    exact ⟨by rw [HS.out]; rfl, Below.refl _ _⟩
end Go.Proofs.Ytnfkkkjookfdiaa
