/- The laws' helpers on events: copying, comparing, marking. -/
import Derived.Test.YtggjheapjklhgaaDoorRankW
namespace Go.Proofs.YtggjheapjklhgaaDoor
open Go.RowKit

theorem below_alloc5 (w : World) (o1 o2 o3 o4 : Obj) : Below w.heap.size w ((((w.alloc o1).alloc o2).alloc o3).alloc o4) := (below_alloc3 w o1 o2 o3).alloc (by simp; omega) _
def zeroE : Ev := ⟨0, ⟨0, 0, 0, 0⟩⟩
theorem recE : RecT encE 5 25 42 (.agg #[.int .i64 zeroE.t, .int .i64 zeroE.c.k, .int .i64 zeroE.c.b, .int .i64 zeroE.c.r, .int .i64 zeroE.c.c]) 40 :=
  ⟨encE_len, by decide, Tryd.underlying25, by kernel_rfl, rfl, fun e u hu => by simp [encE] at hu; rcases hu with rfl | rfl | rfl | rfl | rfl <;> rfl, by decide⟩
theorem toCommand_any (C : Cmd) (w : World) :
    Calls Tryd.prog 25 #[.agg #[.int .i64 C.k, .int .i64 C.b, .int .i64 C.r, .int .i64 C.c]] w fun e w' => e = .returned (.agg #[.int .i64 C.k, .int .i64 C.b, .int .i64 C.r, .int .i64 C.c]) ∧ Below w.heap.size w w' := by
  go_enter Tryd.func25, Tryd.ntmps25
  go_wp2
  exact bodyPost_ret (v := .agg #[.int .i64 C.k, .int .i64 C.b, .int .i64 C.r, .int .i64 C.c]) (by simp [results, Tryd.results25, go_sem]) rfl ⟨rfl, below_alloc3 _ _ _ _⟩
theorem toEvent_any (e : Ev) (w : World) :
    Calls Tryd.prog 15 #[.agg #[.int .i64 e.t, .int .i64 e.c.k, .int .i64 e.c.b, .int .i64 e.c.r, .int .i64 e.c.c]] w fun x w' => x = .returned (.agg #[.int .i64 e.t, .int .i64 e.c.k, .int .i64 e.c.b, .int .i64 e.c.r, .int .i64 e.c.c]) ∧ Below w.heap.size w w' := by
  go_enter Tryd.func15, Tryd.ntmps15
  go_wp2_with fail
  refine (toCommand_any e.c _).mono ?_
  rintro x w1 ⟨rfl, B⟩
  obtain ⟨hc, hf⟩ := bcell B
  have hsz := B.size
  simp only [World.size_alloc] at hsz hc hf
  have K : Keeps (fun b => b = w.heap.size + 1 ∨ b = w.heap.size + 1 + 1) w1 (((((((((w1.setCell ⟨w.heap.size + 1 + 1, 1, none⟩ (.int .i64 e.c.k)).setCell ⟨w.heap.size + 1 + 1, 2, none⟩ (.int .i64 e.c.b)).setCell ⟨w.heap.size + 1 + 1, 3, none⟩ (.int .i64 e.c.r)).setCell ⟨w.heap.size + 1 + 1, 4, none⟩ (.int .i64 e.c.c)).setCell ⟨w.heap.size + 1, 0, none⟩ (.int .i64 e.t)).setCell ⟨w.heap.size + 1, 1, none⟩ (.int .i64 e.c.k)).setCell ⟨w.heap.size + 1, 2, none⟩ (.int .i64 e.c.b)).setCell ⟨w.heap.size + 1, 3, none⟩ (.int .i64 e.c.r)).setCell ⟨w.heap.size + 1, 4, none⟩ (.int .i64 e.c.c)) :=
    ((((((((((Keeps.refl _ _).set _ _ (.inr rfl)).set _ _ (.inr rfl)).set _ _ (.inr rfl)).set _ _ (.inr rfl)).set _ _ (.inl rfl)).set _ _ (.inl rfl)).set _ _ (.inl rfl)).set _ _ (.inl rfl)).set _ _ (.inl rfl))
  go_wp2
  refine bodyPost_ret (v := .agg #[.int .i64 e.t, .int .i64 e.c.k, .int .i64 e.c.b, .int .i64 e.c.r, .int .i64 e.c.c]) (by simp [results, Tryd.results15, go_sem, hc]) rfl ⟨rfl, ?_⟩
  exact (below_step (below_alloc3 _ _ _ _) B (Nat.le_refl _)).trans (K.below (by omega) (fun k hk hS => by omega))
/-- A made row of events. -/
theorem OwnE.made {w : World} {B g n : Nat} (h : w.ownsRow B 42 5 (.slice (some ⟨g, 0, none⟩) n n) n (madeCells (Value.agg #[.int .i64 0, .int .i64 0, .int .i64 0, .int .i64 0, .int .i64 0]).cells (n * 5)).toList) (hg : g < w.heap.size) :
    OwnF encE 5 42 w B w.heap.size (some ⟨g, 0, none⟩) n n (List.replicate n zeroE) := by
  have e : (madeCells (Value.agg #[.int .i64 0, .int .i64 0, .int .i64 0, .int .i64 0, .int .i64 0]).cells (n * 5)).toList = (List.replicate n zeroE).flatMap encE := flat_made encE_len (by decide) _ zeroE rfl n
  rw [e] at h
  exact ⟨Nat.le_refl _, h, fun b hb => by rw [ownBlock_slice] at hb; simp only [Option.some.injEq] at hb; omega⟩
theorem OwnE.cells {w : World} {B U g n c i : Nat} {xs : List Ev} {x : Ev} (h : OwnF encE 5 42 w B U (some ⟨g, 0, none⟩) n c xs) (hx : xs[i]? = some x) :
    B ≤ g ∧ g < U ∧ w.cell? ⟨g, i * 5, none⟩ = some (.int .i64 x.t) ∧ w.cell? ⟨g, i * 5 + 1, none⟩ = some (.int .i64 x.c.k) ∧ w.cell? ⟨g, i * 5 + 2, none⟩ = some (.int .i64 x.c.b) ∧ w.cell? ⟨g, i * 5 + 3, none⟩ = some (.int .i64 x.c.r) ∧ w.cell? ⟨g, i * 5 + 4, none⟩ = some (.int .i64 x.c.c) ∧
      w.frozen? ⟨g, i * 5, none⟩ = false ∧ w.frozen? ⟨g, i * 5 + 1, none⟩ = false ∧ w.frozen? ⟨g, i * 5 + 2, none⟩ = false ∧ w.frozen? ⟨g, i * 5 + 3, none⟩ = false ∧ w.frozen? ⟨g, i * 5 + 4, none⟩ = false := by
  obtain ⟨g', hg', hB, hU, c0⟩ := h.at_ encE_len hx (show (encE x)[0]? = some (.int .i64 x.t) from rfl)
  obtain ⟨_, e1, _, _, c1⟩ := h.at_ encE_len hx (show (encE x)[1]? = some (.int .i64 x.c.k) from rfl)
  obtain ⟨_, e2, _, _, c2⟩ := h.at_ encE_len hx (show (encE x)[2]? = some (.int .i64 x.c.b) from rfl)
  obtain ⟨_, e3, _, _, c3⟩ := h.at_ encE_len hx (show (encE x)[3]? = some (.int .i64 x.c.r) from rfl)
  obtain ⟨_, e4, _, _, c4⟩ := h.at_ encE_len hx (show (encE x)[4]? = some (.int .i64 x.c.c) from rfl)
  simp only [Option.some.injEq, Addr.mk.injEq, and_true] at hg' e1 e2 e3 e4
  subst hg' e1 e2 e3 e4
  have f0 := (h.set encE_len (y := ⟨0, x.c⟩) (v := .int .i64 0) hx (show 0 < 5 by decide) rfl).2.2
  have f1 := (h.set encE_len (y := ⟨x.t, ⟨0, x.c.b, x.c.r, x.c.c⟩⟩) (v := .int .i64 0) hx (show 1 < 5 by decide) rfl).2.2
  have f2 := (h.set encE_len (y := ⟨x.t, ⟨x.c.k, 0, x.c.r, x.c.c⟩⟩) (v := .int .i64 0) hx (show 2 < 5 by decide) rfl).2.2
  have f3 := (h.set encE_len (y := ⟨x.t, ⟨x.c.k, x.c.b, 0, x.c.c⟩⟩) (v := .int .i64 0) hx (show 3 < 5 by decide) rfl).2.2
  have f4 := (h.set encE_len (y := ⟨x.t, ⟨x.c.k, x.c.b, x.c.r, 0⟩⟩) (v := .int .i64 0) hx (show 4 < 5 by decide) rfl).2.2
  exact ⟨hB, hU, c0, c1, c2, c3, c4, f0, f1, f2, f3, f4⟩
theorem OwnE.store {w : World} {B U g n c i : Nat} {xs : List Ev} {x : Ev} (h : OwnF encE 5 42 w B U (some ⟨g, 0, none⟩) n c xs) (hx : xs[i]? = some x) (y : Ev) :
    OwnF encE 5 42 (((((w.setCell ⟨g, i * 5, none⟩ (.int .i64 y.t)).setCell ⟨g, i * 5 + 1, none⟩ (.int .i64 y.c.k)).setCell ⟨g, i * 5 + 2, none⟩ (.int .i64 y.c.b)).setCell ⟨g, i * 5 + 3, none⟩ (.int .i64 y.c.r)).setCell ⟨g, i * 5 + 4, none⟩ (.int .i64 y.c.c)) B U (some ⟨g, 0, none⟩) n c (xs.set i y) ∧
      Keeps (· = g) w (((((w.setCell ⟨g, i * 5, none⟩ (.int .i64 y.t)).setCell ⟨g, i * 5 + 1, none⟩ (.int .i64 y.c.k)).setCell ⟨g, i * 5 + 2, none⟩ (.int .i64 y.c.b)).setCell ⟨g, i * 5 + 3, none⟩ (.int .i64 y.c.r)).setCell ⟨g, i * 5 + 4, none⟩ (.int .i64 y.c.c)) := by
  have hi := (List.getElem?_eq_some_iff.1 hx).1
  have self : ∀ z : Ev, (xs.set i z)[i]? = some z := fun z => by rw [List.getElem?_set_self hi]
  have s0 := h.set encE_len (y := ⟨y.t, x.c⟩) (v := .int .i64 y.t) hx (show 0 < 5 by decide) rfl
  have s1 := s0.1.set encE_len (y := ⟨y.t, ⟨y.c.k, x.c.b, x.c.r, x.c.c⟩⟩) (v := .int .i64 y.c.k) (self _) (show 1 < 5 by decide) rfl
  rw [List.set_set] at s1
  have s2 := s1.1.set encE_len (y := ⟨y.t, ⟨y.c.k, y.c.b, x.c.r, x.c.c⟩⟩) (v := .int .i64 y.c.b) (self _) (show 2 < 5 by decide) rfl
  rw [List.set_set] at s2
  have s3 := s2.1.set encE_len (y := ⟨y.t, ⟨y.c.k, y.c.b, y.c.r, x.c.c⟩⟩) (v := .int .i64 y.c.r) (self _) (show 3 < 5 by decide) rfl
  rw [List.set_set] at s3
  have s4 := s3.1.set encE_len (y := y) (v := .int .i64 y.c.c) (self _) (show 4 < 5 by decide) rfl
  rw [List.set_set] at s4
  exact ⟨s4.1, (((s0.2.1.trans s1.2.1).trans s2.2.1).trans s3.2.1).trans s4.2.1⟩
theorem toEventS_any (a : Option Addr) (n c : Nat) (es : List Ev) (w : World) (hx : EvsR w a n es) (hl : n ≤ 1048576) :
    Calls Tryd.prog 7 #[.slice a n c] w fun e w' => ∃ a' c', e = .returned (.slice a' n c') ∧ OwnF encE 5 42 w' w.heap.size w'.heap.size a' n c' es ∧ Below w.heap.size w w' := by
  obtain ⟨i0, hi, hz0, hz1, hz2⟩ := info_parts recE.info
  have HX := hid hx
  have HN := hid hx.len
  clear hx
  go_enter Tryd.func7, Tryd.ntmps7
  go_wp2_with (first | (at_make; refine wpList_make_full _ rfl _ _ 25 rfl w.heap.size 42 i0 (.agg #[.int .i64 0, .int .i64 0, .int .i64 0, .int .i64 0, .int .i64 0]) 5 Tryd.underlying25 hi hz0 hz1 _ _ _ _ n rfl rfl rfl rfl (by rw [hz2]; omega) (by unfold maxLen; omega) (Nat.le_refl _) ?_; intro w1 hown hg))
  have HB1 := hid ((Below.refl w.heap.size w).grown hg (Nat.le_refl _) (fun k h => by cases h))
  have hlt1 : w.heap.size < w1.heap.size := (World.ownsRow.lt hown w.heap.size rfl).2
  have HO1 := hid (OwnE.made hown hlt1)
  clear hown hg
  go_loopw [4] (fun i wr => ∃ k : Nat, k ≤ n ∧ i = .int .i64 k ∧ Hid (OwnF encE 5 42 wr w.heap.size wr.heap.size (some ⟨w.heap.size, 0, none⟩) n n (es.take k ++ List.replicate (n - k) zeroE)) ∧ Hid (Below w.heap.size w wr)) (fun i _ => n - (intOf i).toNat)
  case atStart => exact ⟨0, Nat.zero_le _, rfl, by simpa using HO1, HB1⟩
  case round =>
    obtain ⟨k, hk, rfl, HO, HB⟩ := hrel
    by_cases hlt : k < n
    · obtain ⟨e, b1, o1, he, ha, hb1, hc0, hc1, hc2, hc3, hc4⟩ := (HX.out.old HB.out).at_ hlt
      subst ha
      have hz := fill_at (xs := es) zeroE HN.out hlt
      have HE := hid he
      have HZ := hid hz
      clear he hz
      go_wp2_with fail
      refine (toEvent_any e _).mono ?_
      rintro e1 w2 ⟨rfl, B⟩
      have O2 := (HO.out.old B).up B.size (Nat.le_refl _)
      obtain ⟨hB, hU, k0, k1, k2, k3, k4, f0, f1, f2, f3, f4⟩ := OwnE.cells O2 HZ.out
      obtain ⟨O3, K3⟩ := OwnE.store O2 HZ.out e
      rw [fill_set HN.out HE.out] at O3
      have HO3 := hid (O3.up (by simp) (Nat.le_refl _))
      have HB3 := hid ((HB.out.trans (B.mono HB.out.size)).trans (K3.below (by have := HB.out.size; have := B.size; omega) (fun q hq hS => by omega)))
      clear O3 K3 O2 B HO HB hc0 hc1 hc2 hc3 hc4
      go_wp2
      go_roundw
      case rel => exact ⟨k + 1, by omega, by go_num, HO3, HB3⟩
      case measure => simp [intOf]; omega
    · have hkn : k = n := by omega
      subst hkn
      have hO := HO.out
      rw [fill_done HN.out hlt] at hO
      have HO' := hid hO
      clear hO HO
      go_wp2
      go_ret
      exact ⟨_, _, rfl, HO'.out, HB.out⟩
theorem eqCommand_same (C : Cmd) (w : World) :
    Calls Tryd.prog 32 #[.agg #[.int .i64 C.k, .int .i64 C.b, .int .i64 C.r, .int .i64 C.c], .agg #[.int .i64 C.k, .int .i64 C.b, .int .i64 C.r, .int .i64 C.c]] w fun e w' => e = .returned (.bool true) ∧ Below w.heap.size w w' := by
  have h0 : (C.k != C.k) = false := by simp
  have h1 : (C.b != C.b) = false := by simp
  have h2 : (C.r != C.r) = false := by simp
  have h3 : (C.c != C.c) = false := by simp
  go_enter Tryd.func32, Tryd.ntmps32
  go_wp2
  go_ret
  exact ⟨rfl, below_alloc2 _ _ _⟩
theorem eqEvent_same (x : Ev) (w : World) :
    Calls Tryd.prog 18 #[.agg #[.int .i64 x.t, .int .i64 x.c.k, .int .i64 x.c.b, .int .i64 x.c.r, .int .i64 x.c.c], .agg #[.int .i64 x.t, .int .i64 x.c.k, .int .i64 x.c.b, .int .i64 x.c.r, .int .i64 x.c.c]] w fun e w' => e = .returned (.bool true) ∧ Below w.heap.size w w' := by
  have h0 : (x.t != x.t) = false := by simp
  go_enter Tryd.func18, Tryd.ntmps18
  go_wp2_with fail
  refine (eqCommand_same x.c _).mono ?_
  rintro e w1 ⟨rfl, B⟩
  go_wp2
  go_ret
  exact ⟨rfl, below_step (below_alloc2 _ _ _) B (Nat.le_refl _)⟩
theorem eqEventS_same (a b : Option Addr) (n m c d : Nat) (es : List Ev) (w : World) (hx : EvsR w a n es) (hy : EvsR w b m es) (hl : n ≤ 1048576) :
    Calls Tryd.prog 9 #[.slice a n c, .slice b m d] w fun e w' => e = .returned (.bool true) ∧ Below w.heap.size w w' := by
  have hnm : n = m := hx.len.trans hy.len.symm
  subst hnm
  have HX := hid hx
  have HY := hid hy
  clear hx hy
  go_enter Tryd.func9, Tryd.ntmps9
  go_wp2
  go_loopw [5] (fun i wr => ∃ k : Nat, k ≤ n ∧ i = .int .i64 k ∧ Hid (Below w.heap.size w wr)) (fun i _ => n - (intOf i).toNat)
  case atStart => exact ⟨0, Nat.zero_le _, rfl, hid (Below.refl _ _)⟩
  case round =>
    obtain ⟨k, hk, rfl, HB⟩ := hrel
    by_cases hlt : k < n
    · obtain ⟨e, b1, o1, he, ha, hb1, hc0, hc1, hc2, hc3, hc4⟩ := (HX.out.old HB.out).at_ hlt
      obtain ⟨e', b2, o2, he', ha', hb2, hd0, hd1, hd2, hd3, hd4⟩ := (HY.out.old HB.out).at_ hlt
      rw [he] at he'
      simp only [Option.some.injEq] at he'
      subst he' ha ha'
      clear he
      have hki : (0 : Int) ≤ (k : Int) := by omega
      have hki2 : (k : Int) < n := by omega
      have hov := over_cell wr
      go_wp2_with fail
      refine wp_region_over (by kernel_rfl) (by kernel_rfl) ?_
      repeat (go_big_quiet_step ((go_at_call 18; exact calls_over (eqEvent_same _ _))))
      refine wpQuiet_nil ?_
      intro w2 B2
      clear hov hc0 hc1 hc2 hc3 hc4 hd0 hd1 hd2 hd3 hd4
      have HB2 := hid (below_step HB.out B2 (Nat.le_refl _))
      go_wp2
      go_roundw
      case rel => exact ⟨k + 1, by omega, by go_num, HB2⟩
      case measure => simp [intOf]; omega
    · go_wp2
      go_ret
      exact ⟨rfl, HB.out⟩
end Go.Proofs.YtggjheapjklhgaaDoor
