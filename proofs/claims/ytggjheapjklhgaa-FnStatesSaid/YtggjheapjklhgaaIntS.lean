/- The laws' helpers on slices of ints: toIntS copies, eqIntS compares, markIntS numbers the cells, heldIntS looks for those numbers. -/
import Derived.Test.YtggjheapjklhgaaMem
import Derived.Test.YtggjheapjklhgaaLists
import Derived.WalkSpells
import Derived.Outline
import Derived.Deep.QuietTactic
import Derived.BigQuiet
namespace Go.Proofs.Ytggjheapjklhgaa
open Go.RowKit

theorem ret_int {k : IntKind} {a b : Int} (h : a = b) : Ending.returned (.int k a) = .returned (.int k b) := by rw [h]

theorem eqIntS_same (a b : Option Addr) (n m c d : Nat) (xs : List Int) (w : World) (hx : IntsR w a xs) (hy : IntsR w b xs) (hn : n = xs.length) (hm : m = xs.length) (hl : xs.length ≤ 1048576) :
    Calls Try.prog 94 #[.slice a n c, .slice b m d] w fun e w' => e = .returned (.bool true) ∧ ∃ k, w' = w.drewN k := by
  have hnm : n = m := hn.trans hm.symm
  subst hnm
  have HN := hid hn
  have HX := hid hx
  have HY := hid hy
  have hnl : n ≤ 1048576 := by omega
  clear hx hy hl hn hm
  go_enter Try.func94, Try.ntmps94
  go_wp2
  go_loopw [5] (fun i wr => ∃ k q : Nat, k ≤ n ∧ i = .int .i64 k ∧ wr = w.drewN q) (fun i _ => n - (intOf i).toNat)
  case atStart => exact ⟨0, 0, Nat.zero_le _, rfl, rfl⟩
  case round =>
    obtain ⟨k, q, hk, rfl, rfl⟩ := hrel
    by_cases hlt : k < n
    · obtain ⟨x, hx⟩ : ∃ x, xs[k]? = some x := ⟨xs[k]'(by rw [← HN.out]; exact hlt), List.getElem?_eq_getElem _⟩
      obtain ⟨b1, o1, ha1, _, hc1⟩ := HX.out k x hx
      obtain ⟨b2, o2, ha2, _, hc2⟩ := HY.out k x hx
      subst ha1 ha2
      clear hx
      have he : (x != x) = false := by simp
      go_wp2
      go_quiet (fail)
      go_wp2
      go_roundw
      case rel => exact ⟨k + 1, _, by omega, by go_num, rfl⟩
      case measure => simp [intOf]; omega
    · go_wp2
      go_ret
      exact ⟨rfl, q, rfl⟩

theorem toIntS_any (a : Option Addr) (n c : Nat) (xs : List Int) (w : World) (hx : IntsR w a xs) (hn : n = xs.length) (hl : xs.length ≤ 1048576) :
    Calls Try.prog 91 #[.slice a n c] w fun e w' => ∃ g, e = .returned (.slice (some ⟨g, 0, none⟩) n n) ∧ w.heap.size ≤ g ∧ IRow w' g n n xs ∧ Below w.heap.size w w' := by
  obtain ⟨i0, hi, hz0, hz1, hz2⟩ := info_parts infoInt
  have HN := hid hn
  have HX := hid hx
  have hm : n ≤ 1048576 := by omega
  clear hx hl hn
  go_enter Try.func91, Try.ntmps91
  go_wp2_with (first | (at_make; refine wpList_make_full _ rfl _ _ 35 rfl w.heap.size 3 i0 (.int .i64 0) 1 Try.underlying35 hi hz0 hz1 _ _ _ _ n rfl rfl rfl rfl (by rw [hz2]; omega) (by unfold maxLen; omega) (Nat.le_refl _) ?_; intro w1 hown hg))
  have hown1 : IRow w1 w.heap.size n n (List.replicate n 0) := by
    have : (List.replicate n (0 : Int)).map (Value.int .i64) = (madeCells (Value.int .i64 0).cells (n * 1)).toList := by
      rw [List.map_replicate]; simp [Value.cells, toList_madeCells_one]
    unfold IRow; rw [this]; exact hown
  have HB1 := hid ((Below.refl w.heap.size w).grown hg (Nat.le_refl _) (fun k h => by cases h))
  clear hown hg
  have HO1 := hid hown1
  clear hown1
  go_loopw [4] (fun i wr => ∃ k : Nat, k ≤ n ∧ i = .int .i64 k ∧ Hid (IRow wr w.heap.size n n (xs.take k ++ List.replicate (n - k) 0)) ∧ Hid (Below w.heap.size w wr)) (fun i _ => n - (intOf i).toNat)
  case atStart => exact ⟨0, Nat.zero_le _, rfl, by simpa using HO1, HB1⟩
  case round =>
    obtain ⟨k, hk, rfl, HO, HB⟩ := hrel
    by_cases hlt : k < n
    · obtain ⟨x, hx⟩ := some_at HN.out hlt
      obtain ⟨b1, o1, ha1, hb1, hc1⟩ := HX.out k x hx
      have hc2 := (HB.out.cell (p := ⟨b1, o1 + k, none⟩) hb1).trans hc1
      have hc3 := HO.out.cell (fill_at 0 HN.out hlt)
      have hf3 := HO.out.frozen k
      subst ha1
      have HO' := hid (HO.out.set k x).1
      rw [fill_set HN.out hx] at HO'
      have HB' := hid (HB.out.setCell (p := ⟨w.heap.size, k, none⟩) (Nat.le_refl _) (.int .i64 x))
      clear hx hc1 HO HB
      go_wp2
      go_roundw
      case rel => exact ⟨k + 1, by omega, by go_num, HO', HB'⟩
      case measure => simp [intOf]; omega
    · have HO' := hid HO.out
      rw [fill_done HN.out hlt] at HO'
      clear HO
      go_wp2
      go_ret
      exact ⟨_, rfl, Nat.le_refl _, HO'.out, HB.out⟩

/-- The numbers that markIntS writes. -/
def marks (k : Int) : Nat → List Int
  | 0 => []
  | n + 1 => k :: marks (k + 1) n
theorem length_marks (k : Int) (n : Nat) : (marks k n).length = n := by
  induction n generalizing k with
  | zero => rfl
  | succ n ih => simp [marks, ih]
theorem marks_at (k : Int) (n i : Nat) (h : i < n) : (marks k n)[i]? = some (k + i) := by
  induction n generalizing k i with
  | zero => omega
  | succ n ih =>
    cases i with
    | zero => simp [marks]
    | succ i => simp only [marks, List.getElem?_cons_succ]; rw [ih (k + 1) i (by omega)]; congr 1; omega

theorem markIntS_any (g n c : Nat) (k : Int) (xs : List Int) (w : World) (hx : IRow w g n c xs) (hn : n ≤ 1048576) (hk0 : 0 ≤ k) (hk1 : k ≤ 1073741824) :
    Calls Try.prog 95 #[.slice (some ⟨g, 0, none⟩) n c, .int .i64 k] w fun e w' => e = .returned (.int .i64 (k + n)) ∧ IRow w' g n c (marks k n) ∧ Keeps (· = g) w w' := by
  have HL := hid hx.length.symm
  have HM := hid (length_marks k n).symm
  have HX := hid hx
  clear hx
  go_enter Try.func95, Try.ntmps95
  go_wp2
  go_loopw [1, 5] (fun q i wr => ∃ j : Nat, j ≤ n ∧ i = .int .i64 j ∧ q = .int .i64 (k + j) ∧ Hid (IRow wr g n c ((marks k n).take j ++ xs.drop j)) ∧ Hid (Keeps (· = g) w wr)) (fun _ i _ => n - (intOf i).toNat)
  case atStart => exact ⟨0, Nat.zero_le _, rfl, by simp, by simpa using HX, Keeps.refl _ _⟩
  case round =>
    obtain ⟨j, hj, rfl, rfl, HO, HK⟩ := hrel
    by_cases hlt : j < n
    · obtain ⟨z, hz⟩ := over_at HM.out HL.out hlt
      have hc := HO.out.cell hz
      have hf := HO.out.frozen j
      have hs := HO.out.set j (k + j)
      rw [over_set HM.out HL.out (marks_at k n j hlt)] at hs
      have HO' := hid hs.1
      have HK' := hid (HK.out.trans hs.2)
      clear hz hs HO HK
      go_wp2
      go_roundw
      case rel => exact ⟨j + 1, by omega, by go_num, by go_num, HO', HK'⟩
      case measure => simp [intOf]; omega
    · have HO' := hid HO.out
      rw [over_done HM.out HL.out hlt] at HO'
      have hjn : n = j := by omega
      subst hjn
      clear HO
      go_wp2
      go_ret
      exact ⟨rfl, HO'.out, HK.out⟩

theorem heldIntS_any (a : Option Addr) (n c : Nat) (k : Int) (w : World) (hx : IntsR w a (marks k n)) (hn : n ≤ 1048576) (hk0 : 0 ≤ k) (hk1 : k ≤ 1073741824) :
    Calls Try.prog 96 #[.slice a n c, .int .i64 k] w fun e w' => e = .returned (.int .i64 (k + n)) ∧ ∃ q, w' = w.drewN q := by
  have HX := hid hx
  clear hx
  go_enter Try.func96, Try.ntmps96
  go_wp2
  go_loopw [1, 5] (fun q i wr => ∃ j m : Nat, j ≤ n ∧ i = .int .i64 j ∧ q = .int .i64 (k + j) ∧ wr = w.drewN m) (fun _ i _ => n - (intOf i).toNat)
  case atStart => exact ⟨0, 0, Nat.zero_le _, rfl, by simp, rfl⟩
  case round =>
    obtain ⟨j, m, hj, rfl, rfl, rfl⟩ := hrel
    by_cases hlt : j < n
    · obtain ⟨b, o, ha, _, hc⟩ := HX.out j _ (marks_at k n j hlt)
      subst ha
      have he : (k + (j : Int) != k + (j : Int)) = false := by simp
      go_wp2
      go_roundw
      case rel => exact ⟨j + 1, _, by omega, by go_num, by go_num, rfl⟩
      case measure => simp [intOf]; omega
    · have hjn : n = j := by omega
      subst hjn
      go_wp2
      go_ret
      exact ⟨rfl, _, rfl⟩

/-! The same three over slices that a call handed back, empty or not. -/
theorem eqIntS_own (a b : Option Addr) (n m c d B B' : Nat) (xs : List Int) (w : World) (hx : OwnS w B a n c xs) (hy : OwnS w B' b m d xs) (hl : xs.length ≤ 1048576) :
    Calls Try.prog 94 #[.slice a n c, .slice b m d] w fun e w' => e = .returned (.bool true) ∧ ∃ k, w' = w.drewN k :=
  eqIntS_same a b n m c d xs w hx.reads hy.reads hx.length hy.length hl

theorem markIntS_own (a : Option Addr) (n c B : Nat) (k : Int) (xs : List Int) (w : World) (hx : OwnS w B a n c xs) (hn : n ≤ 1048576) (hk0 : 0 ≤ k) (hk1 : k ≤ 1073741824) :
    Calls Try.prog 95 #[.slice a n c, .int .i64 k] w fun e w' => e = .returned (.int .i64 (k + n)) ∧ OwnS w' B a n c (marks k n) ∧ Keeps (blkS a n) w w' := by
  by_cases h0 : n = 0
  · subst h0
    go_enter Try.func95, Try.ntmps95
    go_wp2
    go_loopw [1, 5] (fun q i wr => i = .int .i64 0 ∧ q = .int .i64 k ∧ wr = w) (fun _ i _ => 0)
    case atStart => exact ⟨rfl, rfl, rfl⟩
    case round =>
      obtain ⟨rfl, rfl, rfl⟩ := hrel
      go_wp2
      go_ret
      exact ⟨ret_int (by omega), OwnS.empty _ _ _ _, Keeps.refl _ _⟩
  · obtain ⟨g, rfl, hB, hr⟩ := hx.row h0
    refine (markIntS_any g n c k xs w hr hn hk0 hk1).mono ?_
    rintro e w' ⟨he, h1, h2⟩
    exact ⟨he, OwnS.of_row h1 hB, h2.mono fun b _ e => by subst e; exact ⟨h0, rfl⟩⟩

theorem heldIntS_own (a : Option Addr) (n c B : Nat) (k : Int) (w : World) (hx : OwnS w B a n c (marks k n)) (hn : n ≤ 1048576) (hk0 : 0 ≤ k) (hk1 : k ≤ 1073741824) :
    Calls Try.prog 96 #[.slice a n c, .int .i64 k] w fun e w' => e = .returned (.int .i64 (k + n)) ∧ ∃ q, w' = w.drewN q :=
  heldIntS_any a n c k w hx.reads hn hk0 hk1

theorem toIntS_own (a : Option Addr) (n c : Nat) (xs : List Int) (w : World) (hx : IntsR w a xs) (hn : n = xs.length) (hl : xs.length ≤ 1048576) :
    Calls Try.prog 91 #[.slice a n c] w fun e w' => ∃ b d, e = .returned (.slice b n d) ∧ OwnS w' w.heap.size b n d xs ∧ Below w.heap.size w w' := by
  refine (toIntS_any a n c xs w hx hn hl).mono ?_
  rintro e w' ⟨g, he, hg, hr, hb⟩
  exact ⟨_, _, he, OwnS.of_row hr hg, hb⟩
end Go.Proofs.Ytggjheapjklhgaa
