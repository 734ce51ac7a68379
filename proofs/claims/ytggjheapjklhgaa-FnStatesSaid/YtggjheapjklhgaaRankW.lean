/- The laws' helpers on ranks: copying, comparing, marking. -/
import Derived.Test.YtggjheapjklhgaaRankM
namespace Go.Proofs.Ytggjheapjklhgaa
open Go.RowKit

theorem fillB_put {α : Type} {L : List α} {n k : Nat} {z x : α} (hL : L.length = k) (hk : k < n) : (L ++ List.replicate (n - k) z).set k x = (L ++ [x]) ++ List.replicate (n - (k + 1)) z := by
  obtain ⟨r, hr⟩ : ∃ r, n - k = r + 1 := ⟨n - k - 1, by omega⟩
  rw [hr, show n - (k + 1) = r by omega, List.set_append_right _ _ (by omega), hL, Nat.sub_self, List.replicate_succ, List.set_cons_zero, List.append_assoc, List.singleton_append]
theorem recB : RecT encB 2 39 69 (.agg #[.bool false, .int .i64 0]) 16 :=
  ⟨encB_len, by decide, Try.underlying39, by kernel_rfl, rfl, fun e u hu => by simp [encB] at hu; rcases hu with rfl | rfl <;> rfl, by decide⟩
/-- A made row of banks. -/
theorem OwnB.made {w : World} {B g n : Nat} (h : w.ownsRow B 69 2 (.slice (some ⟨g, 0, none⟩) n n) n (madeCells (Value.agg #[.bool false, .int .i64 0]).cells (n * 2)).toList) (hg : g < w.heap.size) :
    OwnF encB 2 69 w B w.heap.size (some ⟨g, 0, none⟩) n n (List.replicate n (false, 0)) := by
  have e : (madeCells (Value.agg #[.bool false, .int .i64 0]).cells (n * 2)).toList = (List.replicate n ((false, 0) : Bool × Int)).flatMap encB := flat_made encB_len (by decide) _ (false, 0) rfl n
  rw [e] at h
  exact ⟨Nat.le_refl _, h, fun b hb => by rw [ownBlock_slice] at hb; simp only [Option.some.injEq] at hb; omega⟩
/-- One bank of a row is stored to: what is known ahead and behind. -/
theorem OwnB.cells {w : World} {B U g n c i : Nat} {xs : List (Bool × Int)} {x : Bool × Int} (h : OwnF encB 2 69 w B U (some ⟨g, 0, none⟩) n c xs) (hx : xs[i]? = some x) :
    B ≤ g ∧ g < U ∧ w.cell? ⟨g, i * 2, none⟩ = some (.bool x.1) ∧ w.cell? ⟨g, i * 2 + 1, none⟩ = some (.int .i64 x.2) ∧ w.frozen? ⟨g, i * 2, none⟩ = false ∧ w.frozen? ⟨g, i * 2 + 1, none⟩ = false := by
  obtain ⟨g', hg', hB, hU, c0⟩ := h.at_ encB_len hx (show (encB x)[0]? = some (.bool x.1) from rfl)
  obtain ⟨_, hg'', _, _, c1⟩ := h.at_ encB_len hx (show (encB x)[1]? = some (.int .i64 x.2) from rfl)
  simp only [Option.some.injEq, Addr.mk.injEq, and_true] at hg' hg''
  subst hg'
  subst hg''
  have f0 := (h.set encB_len (y := (true, x.2)) (v := .bool true) hx (show 0 < 2 by decide) rfl).2.2
  have f1 := (h.set encB_len (y := (x.1, 0)) (v := .int .i64 0) hx (show 1 < 2 by decide) rfl).2.2
  exact ⟨hB, hU, c0, c1, f0, f1⟩
theorem OwnB.set0 {w : World} {B U g n c i : Nat} {xs : List (Bool × Int)} {x : Bool × Int} (h : OwnF encB 2 69 w B U (some ⟨g, 0, none⟩) n c xs) (hx : xs[i]? = some x) (b : Bool) :
    OwnF encB 2 69 (w.setCell ⟨g, i * 2, none⟩ (.bool b)) B U (some ⟨g, 0, none⟩) n c (xs.set i (b, x.2)) ∧ Keeps (· = g) w (w.setCell ⟨g, i * 2, none⟩ (.bool b)) := by
  have s := h.set encB_len (y := (b, x.2)) (v := .bool b) hx (show 0 < 2 by decide) rfl
  exact ⟨s.1, s.2.1⟩
theorem OwnB.set1 {w : World} {B U g n c i : Nat} {xs : List (Bool × Int)} {x : Bool × Int} (h : OwnF encB 2 69 w B U (some ⟨g, 0, none⟩) n c xs) (hx : xs[i]? = some x) (r : Int) :
    OwnF encB 2 69 (w.setCell ⟨g, i * 2 + 1, none⟩ (.int .i64 r)) B U (some ⟨g, 0, none⟩) n c (xs.set i (x.1, r)) ∧ Keeps (· = g) w (w.setCell ⟨g, i * 2 + 1, none⟩ (.int .i64 r)) := by
  have s := h.set encB_len (y := (x.1, r)) (v := .int .i64 r) hx (show 1 < 2 by decide) rfl
  exact ⟨s.1, s.2.1⟩
theorem OwnB.store {w : World} {B U g n c i : Nat} {xs : List (Bool × Int)} {x : Bool × Int} (h : OwnF encB 2 69 w B U (some ⟨g, 0, none⟩) n c xs) (hx : xs[i]? = some x) (y : Bool × Int) :
    OwnF encB 2 69 ((w.setCell ⟨g, i * 2, none⟩ (.bool y.1)).setCell ⟨g, i * 2 + 1, none⟩ (.int .i64 y.2)) B U (some ⟨g, 0, none⟩) n c (xs.set i y) ∧ Keeps (· = g) w ((w.setCell ⟨g, i * 2, none⟩ (.bool y.1)).setCell ⟨g, i * 2 + 1, none⟩ (.int .i64 y.2)) := by
  have s0 := OwnB.set0 h hx y.1
  have hx1 : (xs.set i (y.1, x.2))[i]? = some (y.1, x.2) := by rw [List.getElem?_set_self (List.getElem?_eq_some_iff.1 hx).1]
  have s1 := OwnB.set1 s0.1 hx1 y.2
  rw [List.set_set] at s1
  exact ⟨s1.1, s0.2.trans s1.2⟩

theorem toBank_any (x : Bool × Int) (w : World) :
    Calls Try.prog 135 #[.agg #[.bool x.1, .int .i64 x.2]] w fun e w' => e = .returned (.agg #[.bool x.1, .int .i64 x.2]) ∧ Below w.heap.size w w' := by
  go_enter Try.func135, Try.ntmps135
  go_wp2
  exact bodyPost_ret (v := .agg #[.bool x.1, .int .i64 x.2]) (by simp [results, Try.results135, go_sem]) rfl ⟨rfl, below_alloc3 _ _ _ _⟩
theorem toBankS_any (a : Option Addr) (n c : Nat) (es : List (Bool × Int)) (w : World) (hx : RecR encB 2 w a es) (hn : n = es.length) (hl : n ≤ 1048576) :
    Calls Try.prog 104 #[.slice a n c] w fun e w' => ∃ a' c', e = .returned (.slice a' n c') ∧ OwnF encB 2 69 w' w.heap.size w'.heap.size a' n c' es ∧ Below w.heap.size w w' := by
  obtain ⟨i0, hi, hz0, hz1, hz2⟩ := info_parts recB.info
  have HX := hid hx
  have HN := hid hn
  clear hx hn
  go_enter Try.func104, Try.ntmps104
  go_wp2_with (first | (at_make; refine wpList_make_full _ rfl _ _ 39 rfl w.heap.size 69 i0 (.agg #[.bool false, .int .i64 0]) 2 Try.underlying39 hi hz0 hz1 _ _ _ _ n rfl rfl rfl rfl (by rw [hz2]; omega) (by unfold maxLen; omega) (Nat.le_refl _) ?_; intro w1 hown hg))
  have HB1 := hid ((Below.refl w.heap.size w).grown hg (Nat.le_refl _) (fun k h => by cases h))
  have hlt1 : w.heap.size < w1.heap.size := (World.ownsRow.lt hown w.heap.size rfl).2
  have HO1 := hid (OwnB.made hown hlt1)
  clear hown hg
  go_loopw [4] (fun i wr => ∃ k : Nat, k ≤ n ∧ i = .int .i64 k ∧ Hid (OwnF encB 2 69 wr w.heap.size wr.heap.size (some ⟨w.heap.size, 0, none⟩) n n (es.take k ++ List.replicate (n - k) (false, 0))) ∧ Hid (Below w.heap.size w wr)) (fun i _ => n - (intOf i).toNat)
  case atStart => exact ⟨0, Nat.zero_le _, rfl, by simpa using HO1, HB1⟩
  case round =>
    obtain ⟨k, hk, rfl, HO, HB⟩ := hrel
    by_cases hlt : k < n
    · obtain ⟨e, he⟩ := some_at HN.out hlt
      obtain ⟨b1, o1, rfl, hb1, hc⟩ := (HX.out.old HB.out) k e he
      have hc0 := hc 0 _ rfl
      have hc1 := hc 1 _ rfl
      rw [Nat.add_zero] at hc0
      have hz := fill_at (xs := es) (false, (0 : Int)) HN.out hlt
      have HE := hid he
      have HZ := hid hz
      clear he hz hc
      go_wp2_with fail
      refine (toBank_any e _).mono ?_
      rintro e1 w2 ⟨rfl, B⟩
      have O2 := (HO.out.old B).up B.size (Nat.le_refl _)
      obtain ⟨hB, hU, k0, k1, f0, f1⟩ := OwnB.cells O2 HZ.out
      obtain ⟨O3, K3⟩ := OwnB.store O2 HZ.out e
      rw [fill_set HN.out HE.out] at O3
      have HO3 := hid (O3.up (by simp) (Nat.le_refl _))
      have HB3 := hid ((HB.out.trans (B.mono HB.out.size)).trans (K3.below (by have := HB.out.size; have := B.size; omega) (fun q hq hS => by omega)))
      clear O3 K3 O2 B HO HB hc0 hc1
      go_wp2
      go_roundw
      case rel => exact ⟨k + 1, by omega, by go_num, HO3, HB3⟩
      case measure => simp [intOf]; omega
    · have hkn : k = n := by omega
      subst hkn
      have hO := HO.out
      rw [fill_done HN.out hlt] at hO
      have HO' := hid hO
      clear hO HO
      go_wp2
      go_ret
      exact ⟨_, _, rfl, HO'.out, HB.out⟩

theorem toRank_any (R : RankE) (w : World) (hR : RankR w R) (hs : R.es.length ≤ 1048576) :
    Calls Try.prog 42 #[.agg #[.slice R.a R.n R.c, .int .i64 R.p]] w fun e w' => ∃ R' : RankE, e = .returned (.agg #[.slice R'.a R'.n R'.c, .int .i64 R'.p]) ∧ OwnR w' w.heap.size w'.heap.size R' ∧ R'.d = R.d ∧ R'.n = R.n ∧ Below w.heap.size w w' := by
  have HX := hid hR.recs
  have HN := hid hR.len
  have hn : R.n ≤ 1048576 := by rw [hR.len]; exact hs
  clear hR hs
  go_enter Try.func42, Try.ntmps42
  go_wp2_with fail
  refine (toBankS_any _ _ _ _ _ (((HX.out.old (below_alloc _ _)).old (below_alloc _ _)).old (below_alloc _ _)) HN.out hn).mono ?_
  rintro e w1 ⟨a', c', rfl, O, B⟩
  obtain ⟨hc, hf⟩ := bcell B
  have hsz := B.size
  simp only [World.size_alloc] at hsz hc hf
  have K : Keeps (fun b => b = w.heap.size + 1 ∨ b = w.heap.size + 1 + 1) w1 ((((w1.setCell ⟨w.heap.size + 1 + 1, 0, none⟩ (.slice a' R.n c')).setCell ⟨w.heap.size + 1 + 1, 1, none⟩ (.int .i64 R.p)).setCell ⟨w.heap.size + 1, 0, none⟩ (.slice a' R.n c')).setCell ⟨w.heap.size + 1, 1, none⟩ (.int .i64 R.p)) :=
    ((((Keeps.refl _ _).set _ _ (.inr rfl)).set _ _ (.inr rfl)).set _ _ (.inl rfl)).set _ _ (.inl rfl)
  go_wp2
  refine bodyPost_ret (v := .agg #[.slice a' R.n c', .int .i64 R.p]) (by simp [results, Try.results42, go_sem, hc]) rfl ⟨⟨a', R.n, c', R.es, R.p⟩, rfl, ?_, rfl, rfl, ?_⟩
  · exact OwnF.up (OwnF.mono (O.keeps K (fun b hb _ hS => by simp at hb; omega)) (by simp; omega)) K.size (Nat.le_refl _)
  · exact (below_step (below_alloc3 _ _ _ _) B (Nat.le_refl _)).trans (K.below (by omega) (fun k hk hS => by omega))

theorem eqBank_same (x : Bool × Int) (w : World) :
    Calls Try.prog 136 #[.agg #[.bool x.1, .int .i64 x.2], .agg #[.bool x.1, .int .i64 x.2]] w fun e w' => e = .returned (.bool true) ∧ Below w.heap.size w w' := by
  have h1 : (x.1 != x.1) = false := by simp
  have h2 : (x.2 != x.2) = false := by simp
  go_enter Try.func136, Try.ntmps136
  go_wp2
  go_ret
  exact ⟨rfl, below_alloc2 _ _ _⟩
theorem eqBankS_same (a b : Option Addr) (n m c d : Nat) (es : List (Bool × Int)) (w : World) (hx : RecR encB 2 w a es) (hy : RecR encB 2 w b es) (hn : n = es.length) (hm : m = es.length) (hl : n ≤ 1048576) :
    Calls Try.prog 105 #[.slice a n c, .slice b m d] w fun e w' => e = .returned (.bool true) ∧ Below w.heap.size w w' := by
  have hnm : n = m := hn.trans hm.symm
  subst hnm
  have HX := hid hx
  have HY := hid hy
  have HN := hid hn
  clear hx hy hn hm
  go_enter Try.func105, Try.ntmps105
  go_wp2
  go_loopw [5] (fun i wr => ∃ k : Nat, k ≤ n ∧ i = .int .i64 k ∧ Hid (Below w.heap.size w wr)) (fun i _ => n - (intOf i).toNat)
  case atStart => exact ⟨0, Nat.zero_le _, rfl, hid (Below.refl _ _)⟩
  case round =>
    obtain ⟨k, hk, rfl, HB⟩ := hrel
    by_cases hlt : k < n
    · obtain ⟨e, he⟩ := some_at HN.out hlt
      obtain ⟨b1, o1, rfl, hb1, hc⟩ := (HX.out.old HB.out) k e he
      obtain ⟨b2, o2, rfl, hb2, hd⟩ := (HY.out.old HB.out) k e he
      have hc0 := hc 0 _ rfl
      have hc1 := hc 1 _ rfl
      have hd0 := hd 0 _ rfl
      have hd1 := hd 1 _ rfl
      rw [Nat.add_zero] at hc0 hd0
      clear he hc hd
      have hki : (0 : Int) ≤ (k : Int) := by omega
      have hki2 : (k : Int) < n := by omega
      have hov := over_cell wr
      go_wp2_with fail
      refine wp_region_over (by kernel_rfl) (by kernel_rfl) ?_
      repeat (go_big_quiet_step ((go_at_call 136; exact calls_over (eqBank_same _ _))))
      refine wpQuiet_nil ?_
      intro w2 B2
      clear hov hc0 hc1 hd0 hd1
      have HB2 := hid (below_step HB.out B2 (Nat.le_refl _))
      go_wp2
      go_roundw
      case rel => exact ⟨k + 1, by omega, by go_num, HB2⟩
      case measure => simp [intOf]; omega
    · go_wp2
      go_ret
      exact ⟨rfl, HB.out⟩
theorem RkD.parts {x y : RkD} (h : x = y) : x.banks = y.banks ∧ x.p = y.p := by subst h; exact ⟨rfl, rfl⟩
theorem eqRank_same (R S : RankE) (w : World) (hR : RankR w R) (hS : RankR w S) (he : R.d = S.d) (hl : R.es.length ≤ 1048576) :
    Calls Try.prog 44 #[.agg #[.slice R.a R.n R.c, .int .i64 R.p], .agg #[.slice S.a S.n S.c, .int .i64 S.p]] w fun e w' => e = .returned (.bool true) ∧ Below w.heap.size w w' := by
  obtain ⟨e1, e2⟩ := RkD.parts he
  have e1' : S.es = R.es := e1.symm
  have e2' : S.p = R.p := e2.symm
  have h2 : (R.p != R.p) = false := by simp
  have hn : R.n ≤ 1048576 := by rw [hR.len]; exact hl
  have HR := hid hR.recs
  have hs := hS.recs
  have hsl := hS.len
  rw [e1'] at hs hsl
  have HS := hid hs
  have HL := hid hR.len
  have HM := hid hsl
  rw [e2']
  clear hR hS he hl e1 e2 e1' e2' hs hsl
  go_enter Try.func44, Try.ntmps44
  go_wp2_with fail
  refine (eqBankS_same _ _ _ _ _ _ _ _ (HR.out.old (below_alloc2 _ _ _)) (HS.out.old (below_alloc2 _ _ _)) HL.out HM.out hn).mono ?_
  rintro e w1 ⟨rfl, B⟩
  obtain ⟨hc1, hf1⟩ := bcell B
  have hsz1 := B.size
  simp only [World.size_alloc] at hsz1 hc1 hf1
  go_wp2
  go_ret
  exact ⟨rfl, below_step (below_alloc2 _ _ _) B (Nat.le_refl _)⟩

/-- The marks that markBankS writes. -/
def mkB (k : Int) : Nat → List (Bool × Int)
  | 0 => []
  | n + 1 => (k % 3 == 0, k + 1) :: mkB (k + 2) n
theorem length_mkB (k : Int) (n : Nat) : (mkB k n).length = n := by
  induction n generalizing k with
  | zero => rfl
  | succ n ih => simp [mkB, ih]
theorem mkB_at (k : Int) (n i : Nat) (h : i < n) : (mkB k n)[i]? = some ((k + 2 * i) % 3 == 0, k + 2 * i + 1) := by
  induction n generalizing k i with
  | zero => omega
  | succ n ih =>
    cases i with
    | zero => simp [mkB]
    | succ i =>
      simp only [mkB, List.getElem?_cons_succ]
      rw [ih (k + 2) i (by omega)]
      have e : k + 2 + 2 * (i : Int) = k + 2 * ((i + 1 : Nat) : Int) := by omega
      rw [e]
set_option maxRecDepth 100000 in
theorem markBankS_any (g n c B U : Nat) (k : Int) (es : List (Bool × Int)) (w : World) (hx : OwnF encB 2 69 w B U (some ⟨g, 0, none⟩) n c es) (hn : n ≤ 1048576) (hk0 : 0 ≤ k) (hk1 : k ≤ 1073741824) :
    Calls Try.prog 106 #[.slice (some ⟨g, 0, none⟩) n c, .int .i64 k] w fun e w' => e = .returned (.int .i64 (k + 2 * n)) ∧ OwnF encB 2 69 w' B U (some ⟨g, 0, none⟩) n c (mkB k n) ∧ Keeps (· = g) w w' := by
  have HL := hid (hx.length encB_len (by decide))
  have HM := hid (length_mkB k n).symm
  have HX := hid hx
  clear hx
  go_enter Try.func106, Try.ntmps106
  go_wp2
  go_loopw [1, 5] (fun q i wr => ∃ j : Nat, j ≤ n ∧ i = .int .i64 j ∧ q = .int .i64 (k + 2 * j) ∧ Hid (OwnF encB 2 69 wr B U (some ⟨g, 0, none⟩) n c ((mkB k n).take j ++ es.drop j)) ∧ Hid (Keeps (· = g) w wr)) (fun _ i _ => n - (intOf i).toNat)
  case atStart => exact ⟨0, Nat.zero_le _, rfl, by simp, by simpa using HX, Keeps.refl _ _⟩
  case round =>
    obtain ⟨j, hj, rfl, rfl, HO, HK⟩ := hrel
    by_cases hlt : j < n
    · obtain ⟨z, hz⟩ := over_at HM.out HL.out hlt
      obtain ⟨hB, hU, k0, k1, f0, f1⟩ := OwnB.cells HO.out hz
      have hm := mkB_at k n j hlt
      obtain ⟨O3, K3⟩ := OwnB.store HO.out hz ((k + 2 * j) % 3 == 0, k + 2 * j + 1)
      rw [over_set HM.out HL.out hm] at O3
      have HO' := hid O3
      have HK' := hid (HK.out.trans K3)
      generalize hkk : k + 2 * (j : Int) = kk at *
      have hq : k + 2 * ((j + 1 : Nat) : Int) = kk + 1 + 1 := by omega
      have HQ := hid hq
      have hkk0 : 0 ≤ kk := by omega
      have hkk1 : kk ≤ 1075838976 := by omega
      clear hz hm O3 K3 HO HK hkk hq
      go_wp2
      go_roundw
      case rel => exact ⟨j + 1, by omega, by go_num, by rw [HQ.out], HO', HK'⟩
      case measure => simp [intOf]; omega
    · have HO' := hid HO.out
      rw [over_done HM.out HL.out hlt] at HO'
      have hjn : n = j := by omega
      subst hjn
      clear HO
      go_wp2
      go_ret
      exact ⟨rfl, HO'.out, HK.out⟩
theorem heldBankS_any (a : Option Addr) (n c : Nat) (k : Int) (w : World) (hx : RecR encB 2 w a (mkB k n)) (hn : n ≤ 1048576) (hk0 : 0 ≤ k) (hk1 : k ≤ 1073741824) :
    Calls Try.prog 107 #[.slice a n c, .int .i64 k] w fun e w' => e = .returned (.int .i64 (k + 2 * n)) ∧ ∃ q, w' = w.drewN q := by
  have HX := hid hx
  clear hx
  go_enter Try.func107, Try.ntmps107
  go_wp2
  go_loopw [1, 5] (fun q i wr => ∃ j m : Nat, j ≤ n ∧ i = .int .i64 j ∧ q = .int .i64 (k + 2 * j) ∧ wr = w.drewN m) (fun _ i _ => n - (intOf i).toNat)
  case atStart => exact ⟨0, 0, Nat.zero_le _, rfl, by simp, rfl⟩
  case round =>
    obtain ⟨j, m, hj, rfl, rfl, rfl⟩ := hrel
    by_cases hlt : j < n
    · obtain ⟨b, o, rfl, _, hc⟩ := HX.out j _ (mkB_at k n j hlt)
      have hc0 := hc 0 _ rfl
      have hc1 := hc 1 _ rfl
      rw [Nat.add_zero] at hc0
      clear hc
      generalize hkk : k + 2 * (j : Int) = kk at *
      have hq : k + 2 * ((j + 1 : Nat) : Int) = kk + 1 + 1 := by omega
      have HQ := hid hq
      have hkk0 : 0 ≤ kk := by omega
      have hkk1 : kk ≤ 1075838976 := by omega
      have he : ((kk % 3 == 0) != (kk % 3 == 0)) = false := by simp
      have he1 : (kk + 1 != kk + 1) = false := by simp
      clear hkk hq
      go_wp2
      go_roundw
      case rel => exact ⟨j + 1, _, by omega, by go_num, by rw [HQ.out], rfl⟩
      case measure => simp [intOf]; omega
    · have hjn : n = j := by omega
      subst hjn
      go_wp2
      go_ret
      exact ⟨rfl, _, rfl⟩

/-- The block of a rank's banks. -/
def blkR (R : RankE) (b : Nat) : Prop := R.n ≠ 0 ∧ R.a = some ⟨b, 0, none⟩
theorem OwnR.in_ {w : World} {B U : Nat} {R : RankE} (h : OwnR w B U R) {b : Nat} (hb : blkR R b) : B ≤ b ∧ b < U := by
  obtain ⟨g, ha, h1, h2⟩ := OwnF.form h (by have := hb.1; omega)
  have := hb.2
  rw [ha] at this
  simp only [Option.some.injEq, Addr.mk.injEq, and_true] at this
  omega
theorem OwnR.not {w : World} {B U : Nat} {R : RankE} (h : OwnR w B U R) {b : Nat} (hb : b < B ∨ U ≤ b) : ¬ blkR R b := fun hS => by have := h.in_ hS; omega
theorem OwnR.box {w : World} {B U g : Nat} {R : RankE} (h : OwnR w B U R) {cs : Array Value} {t : TypeId} {p : Nat × Nat} (hg : w.heap[g]? = some (.cells cs t p)) (ht : t ≠ 69) : ¬ blkR R g := by
  intro hS
  rcases h.row.2 with ⟨hv, h0⟩ | ⟨g', cap', cur, hv, _, hg', _⟩
  · exact hS.1 h0
  · injection hv with h1 _ _
    have := hS.2
    rw [h1] at this
    simp only [Option.some.injEq, Addr.mk.injEq, and_true] at this
    subst this
    rw [hg'] at hg
    simp only [Option.some.injEq, Obj.cells.injEq] at hg
    exact ht hg.2.1.symm
theorem markBankS_own (a : Option Addr) (n c B U : Nat) (k : Int) (es : List (Bool × Int)) (w : World) (hx : OwnF encB 2 69 w B U a n c es) (hn : n ≤ 1048576) (hk0 : 0 ≤ k) (hk1 : k ≤ 1073741824) :
    Calls Try.prog 106 #[.slice a n c, .int .i64 k] w fun e w' => e = .returned (.int .i64 (k + 2 * n)) ∧ OwnF encB 2 69 w' B U a n c (mkB k n) ∧ Keeps (fun b => n ≠ 0 ∧ a = some ⟨b, 0, none⟩) w w' := by
  by_cases h0 : n = 0
  · subst h0
    have he : es = [] := List.eq_nil_of_length_eq_zero (hx.length encB_len (by decide)).symm
    subst he
    have HX := hid hx
    clear hx
    go_enter Try.func106, Try.ntmps106
    go_wp2
    go_loopw [1, 5] (fun q i wr => i = .int .i64 0 ∧ q = .int .i64 k ∧ wr = w) (fun _ i _ => 0)
    case atStart => exact ⟨rfl, rfl, rfl⟩
    case round =>
      obtain ⟨rfl, rfl, rfl⟩ := hrel
      go_wp2
      go_ret
      exact ⟨ret_int (by omega), HX.out, Keeps.refl _ _⟩
  · obtain ⟨g, rfl, _, _⟩ := hx.form (by omega)
    refine (markBankS_any g n c B U k es w hx hn hk0 hk1).mono ?_
    rintro e w' ⟨he, h1, h2⟩
    exact ⟨he, h1, h2.mono fun b _ e => by subst e; exact ⟨h0, rfl⟩⟩
theorem markRank_any (R : RankE) (B U : Nat) (k : Int) (w : World) (hx : OwnR w B U R) (hn : R.es.length ≤ 1048576) (hk0 : 0 ≤ k) (hk1 : k ≤ 1073741824) :
    Calls Try.prog 45 #[.agg #[.slice R.a R.n R.c, .int .i64 R.p], .int .i64 k] w fun e w' => e = .returned (.int .i64 (k + 2 * R.n)) ∧ OwnR w' B U ⟨R.a, R.n, R.c, mkB k R.n, R.p⟩ ∧ Keeps (blkR R) w w' := by
  have hl : R.n ≤ 1048576 := by rw [hx.reads.len]; exact hn
  have HX := hid hx
  clear hx
  go_enter Try.func45, Try.ntmps45
  go_wp2_with fail
  refine (markBankS_own _ _ _ B U _ R.es _ (OwnF.old HX.out (below_alloc _ _)) hl hk0 hk1).mono ?_
  rintro e w1 ⟨rfl, O, K⟩
  go_wp2
  go_ret
  exact ⟨rfl, O, (Keeps.of_below (below_alloc _ _)).trans K⟩
theorem heldRank_any (R : RankE) (k : Int) (w : World) (hx : RankR w R) (hd : R.es = mkB k R.n) (hn : R.n ≤ 1048576) (hk0 : 0 ≤ k) (hk1 : k ≤ 1073741824) :
    Calls Try.prog 46 #[.agg #[.slice R.a R.n R.c, .int .i64 R.p], .int .i64 k] w fun e w' => e = .returned (.int .i64 (k + 2 * R.n)) ∧ Below w.heap.size w w' := by
  have hr := hx.recs
  rw [hd] at hr
  have HR := hid hr
  clear hx hr hd
  go_enter Try.func46, Try.ntmps46
  go_wp2_with fail
  refine (heldBankS_any _ _ _ _ _ (HR.out.old (below_alloc _ _)) hn hk0 hk1).mono ?_
  rintro e w1 ⟨rfl, q, rfl⟩
  have hd : decide (k + 2 * (R.n : Int) < 0) = false := by simp; omega
  go_wp2
  go_ret
  exact ⟨rfl, below_drewN (below_alloc _ _) q⟩
def szT (left : Int) (t : Nat) : Int := if (t : Int) ≤ left then left - t else -1
theorem szT_yes {left : Int} {t : Nat} (h : (t : Int) ≤ left) : szT left t = left - t := by rw [szT, if_pos h]
theorem szT_no {left : Int} {t : Nat} (h : left < (t : Int)) : szT left t = -1 := by rw [szT, if_neg (by omega)]
theorem szBankS_any (a : Option Addr) (n c : Nat) (left : Int) (w : World) (hn : n ≤ maxLen) (h0 : 0 ≤ left) (h1 : left ≤ 1048576) :
    Calls Try.prog 101 #[.slice a n c, .int .i64 left] w fun e w' => e = .returned (.int .i64 (szT left n)) ∧ w = w' := by
  unfold maxLen at hn
  by_cases h : (n : Int) ≤ left
  · have HS := hid (szT_yes h)
    have hd : decide (left - (n : Int) < 0) = false := by simp; omega
    go_enter Try.func101, Try.ntmps101
    go_wp2
    go_ret
    exact ⟨by rw [HS.out]; rfl, rfl⟩
  · have HS := hid (szT_no (t := n) (left := left) (by omega))
    have hd : decide (left - (n : Int) < 0) = true := by simp; omega
    go_enter Try.func101, Try.ntmps101
    go_wp2
    go_ret
    exact ⟨by rw [HS.out]; rfl, rfl⟩
theorem szRank_any (R : RankE) (left : Int) (w : World) (hn : R.n ≤ maxLen) (h0 : 0 ≤ left) (h1 : left ≤ 1048576) :
    Calls Try.prog 40 #[.agg #[.slice R.a R.n R.c, .int .i64 R.p], .int .i64 left] w fun e w' => e = .returned (.int .i64 (szT left R.n)) ∧ Below w.heap.size w w' := by
  by_cases h : (R.n : Int) ≤ left
  · have HS := hid (szT_yes h)
    have hd : decide (left - (R.n : Int) < 0) = false := by simp; omega
    go_enter Try.func40, Try.ntmps40
    go_wp2_with fail
    refine (szBankS_any _ _ _ _ _ hn h0 h1).mono ?_
    rintro e w1 ⟨rfl, rfl⟩
    rw [HS.out]
    go_wp2
    go_ret
    exact ⟨by rw [HS.out]; rfl, below_alloc _ _⟩
  · have HS := hid (szT_no (t := R.n) (left := left) (by omega))
    go_enter Try.func40, Try.ntmps40
    go_wp2_with fail
    refine (szBankS_any _ _ _ _ _ hn h0 h1).mono ?_
    rintro e w1 ⟨rfl, rfl⟩
    rw [HS.out]
    go_wp2
    go_ret
    exact ⟨by rw [HS.out]; rfl, below_alloc _ _⟩
end Go.Proofs.Ytggjheapjklhgaa
