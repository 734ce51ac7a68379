/- Summaries in memory; the laws' helpers on them: copying, comparing, marking. -/
import Derived.Test.YtggjheapjklhgaaRankW
namespace Go.Proofs.Ytggjheapjklhgaa
open Go.RowKit

structure SlH where
  a : Option Addr
  n : Nat
  c : Nat
/-- A summary: the last times, the last activations. -/
structure RdyE where
  s0 : SlH
  s1 : SlH
  last : List Int
  acts : List Int
structure RdyD where
  last : List Int
  acts : List Int
def RdyE.d (Y : RdyE) : RdyD := ⟨Y.last, Y.acts⟩
def RdyE.n (Y : RdyE) : Nat := Y.s0.n + Y.s1.n
def RdyE.small (Y : RdyE) : Prop := Y.last.length ≤ 1048576 ∧ Y.acts.length ≤ 1048576
structure RdyR (w : World) (Y : RdyE) : Prop where
  last : IntsR w Y.s0.a Y.last
  acts : IntsR w Y.s1.a Y.acts
  l0 : Y.s0.n = Y.last.length
  l1 : Y.s1.n = Y.acts.length
theorem RdyR.old {w w' : World} {Y : RdyE} (h : RdyR w Y) (hb : Below w.heap.size w w') : RdyR w' Y := ⟨h.last.old hb, h.acts.old hb, h.l0, h.l1⟩
structure OwnY (w : World) (B U : Nat) (Y : RdyE) : Prop where
  le : U ≤ w.heap.size
  last : OwnS w B Y.s0.a Y.s0.n Y.s0.c Y.last
  acts : OwnS w B Y.s1.a Y.s1.n Y.s1.c Y.acts
  t0 : ∀ b, blkS Y.s0.a Y.s0.n b → b < U
  t1 : ∀ b, blkS Y.s1.a Y.s1.n b → b < U
  apart : ∀ b, blkS Y.s0.a Y.s0.n b → ¬ blkS Y.s1.a Y.s1.n b
theorem OwnY.reads {w : World} {B U : Nat} {Y : RdyE} (h : OwnY w B U Y) : RdyR w Y := ⟨h.last.reads, h.acts.reads, h.last.length, h.acts.length⟩
theorem OwnY.keeps {S : Nat → Prop} {w w' : World} {B U : Nat} {Y : RdyE} (h : OwnY w B U Y) (hk : Keeps S w w') (hs : ∀ b, B ≤ b → b < U → ¬ S b) : OwnY w' B U Y :=
  ⟨Nat.le_trans h.le hk.size, h.last.keeps hk (fun b hb => hs b (h.last.lt hb).1 (h.t0 b hb)), h.acts.keeps hk (fun b hb => hs b (h.acts.lt hb).1 (h.t1 b hb)), h.t0, h.t1, h.apart⟩
theorem OwnY.old {w w' : World} {B U : Nat} {Y : RdyE} (h : OwnY w B U Y) (hb : Below w.heap.size w w') : OwnY w' B U Y := h.keeps (S := fun _ => False) (Keeps.of_below hb) (fun _ _ _ x => x)
theorem OwnY.mono {w : World} {B B' U : Nat} {Y : RdyE} (h : OwnY w B U Y) (hB : B' ≤ B) : OwnY w B' U Y := ⟨h.le, h.last.mono hB, h.acts.mono hB, h.t0, h.t1, h.apart⟩
theorem OwnY.up {w : World} {B U V : Nat} {Y : RdyE} (h : OwnY w B U Y) (hUV : U ≤ V) (hV : V ≤ w.heap.size) : OwnY w B V Y := ⟨hV, h.last, h.acts, fun b hb => Nat.lt_of_lt_of_le (h.t0 b hb) hUV, fun b hb => Nat.lt_of_lt_of_le (h.t1 b hb) hUV, h.apart⟩
def blkY (Y : RdyE) (b : Nat) : Prop := blkS Y.s0.a Y.s0.n b ∨ blkS Y.s1.a Y.s1.n b
theorem OwnY.in_ {w : World} {B U : Nat} {Y : RdyE} (h : OwnY w B U Y) {b : Nat} (hb : blkY Y b) : B ≤ b ∧ b < U := by
  rcases hb with hb | hb
  · exact ⟨(h.last.lt hb).1, h.t0 b hb⟩
  · exact ⟨(h.acts.lt hb).1, h.t1 b hb⟩
/-- The cells of a boxed summary. -/
structure BoxY (w : World) (g : Nat) (Y : RdyE) : Prop where
  lt : g < w.heap.size
  c0 : w.cell? ⟨g, 0, none⟩ = some (.slice Y.s0.a Y.s0.n Y.s0.c)
  c1 : w.cell? ⟨g, 1, none⟩ = some (.slice Y.s1.a Y.s1.n Y.s1.c)
theorem BoxY.new_ (w : World) (t : TypeId) (Y : RdyE) {g : Nat} (h : w.heap.size = g) : BoxY (w.alloc (.cells #[.slice Y.s0.a Y.s0.n Y.s0.c, .slice Y.s1.a Y.s1.n Y.s1.c] t)) g Y := by
  subst h
  have h := box_at w [.slice Y.s0.a Y.s0.n Y.s0.c, .slice Y.s1.a Y.s1.n Y.s1.c] t
  exact ⟨by simp, h 0, h 1⟩
theorem BoxY.below {w w' : World} {B g : Nat} {Y : RdyE} (h : BoxY w g Y) (hb : Below B w w') (hg : g < B) : BoxY w' g Y :=
  ⟨Nat.lt_of_lt_of_le h.lt hb.size, (hb.cell (p := ⟨g, 0, none⟩) hg).trans h.c0, (hb.cell (p := ⟨g, 1, none⟩) hg).trans h.c1⟩
theorem BoxY.old {w w' : World} {g : Nat} {Y : RdyE} (h : BoxY w g Y) (hb : Below w.heap.size w w') : BoxY w' g Y := h.below hb h.lt
theorem BoxY.keeps {S : Nat → Prop} {w w' : World} {g : Nat} {Y : RdyE} (h : BoxY w g Y) (hk : Keeps S w w') (hs : ¬ S g) : BoxY w' g Y :=
  ⟨Nat.lt_of_lt_of_le h.lt hk.size, (hk.cell h.lt hs 0).trans h.c0, (hk.cell h.lt hs 1).trans h.c1⟩

set_option maxRecDepth 100000 in
theorem toReady_any (Y : RdyE) (w : World) (hY : RdyR w Y) (hs : Y.small) :
    Calls Try.prog 28 #[.agg #[.slice Y.s0.a Y.s0.n Y.s0.c, .slice Y.s1.a Y.s1.n Y.s1.c]] w fun e w' => ∃ Y' : RdyE, e = .returned (.agg #[.slice Y'.s0.a Y'.s0.n Y'.s0.c, .slice Y'.s1.a Y'.s1.n Y'.s1.c]) ∧ OwnY w' w.heap.size w'.heap.size Y' ∧ Y'.d = Y.d ∧ Y'.n = Y.n ∧ Below w.heap.size w w' := by
  have HX0 := hid hY.last
  have HX1 := hid hY.acts
  have HN0 := hid hY.l0
  have HN1 := hid hY.l1
  have HS := hid hs
  clear hY hs
  go_enter Try.func28, Try.ntmps28
  go_wp2_with fail
  refine (toIntS_own _ _ _ _ _ (((HX0.out.old (below_alloc _ _)).old (below_alloc _ _)).old (below_alloc _ _)) HN0.out HS.out.1).mono ?_
  rintro e w1 ⟨a1, c1, rfl, S1, B1⟩
  have hsz1 := B1.size
  obtain ⟨hc1, hf1⟩ := bcell B1
  simp only [World.size_alloc] at hsz1 hc1 hf1
  have p0 : w.heap.size < w1.heap.size := by omega
  have p1 : w.heap.size + 1 < w1.heap.size := by omega
  have p2 : w.heap.size + 1 + 1 < w1.heap.size := by omega
  have K1 : Keeps (fun b => b = w.heap.size + 1 + 1) w1 (w1.setCell ⟨w.heap.size + 1 + 1, 0, none⟩ (.slice a1 Y.s0.n c1)) := (Keeps.refl _ _).set _ _ rfl
  have hlt1 : ∀ b, blkS a1 Y.s0.n b → w.heap.size + 1 + 1 + 1 ≤ b ∧ b < w1.heap.size := fun b hb => by have := S1.lt hb; simp at this; exact this
  have S1' := S1.keeps K1 (fun b hb hS => by have := hlt1 b hb; omega)
  have b1 := (below_step (below_alloc3 _ _ _ _) B1 (Nat.le_refl _)).trans (K1.below (by omega) (fun k hk hS => by omega))
  have HS1 := hid S1'
  have HL1 := hid hlt1
  have HB1 := hid b1
  clear S1 S1' B1 K1 b1 hlt1
  go_wp2_with fail
  refine (toIntS_own _ _ _ _ _ (HX1.out.old HB1.out) HN1.out HS.out.2).mono ?_
  rintro e w2 ⟨a2, c2, rfl, S2, B2⟩
  have hsz2 := B2.size
  obtain ⟨hc2, hf2⟩ := bcell B2
  simp only [World.size_setCell] at hsz2 hc2 hf2
  have p1' : w.heap.size + 1 < w2.heap.size := by omega
  have p2' : w.heap.size + 1 + 1 < w2.heap.size := by omega
  have K2 : Keeps (fun b => b = w.heap.size + 1 ∨ b = w.heap.size + 1 + 1) w2 (((w2.setCell ⟨w.heap.size + 1 + 1, 1, none⟩ (.slice a2 Y.s1.n c2)).setCell ⟨w.heap.size + 1, 0, none⟩ (.slice a1 Y.s0.n c1)).setCell ⟨w.heap.size + 1, 1, none⟩ (.slice a2 Y.s1.n c2)) :=
    (((Keeps.refl _ _).set _ _ (.inr rfl)).set _ _ (.inl rfl)).set _ _ (.inl rfl)
  have hlt2 : ∀ b, blkS a2 Y.s1.n b → w1.heap.size ≤ b ∧ b < w2.heap.size := fun b hb => by have := S2.lt hb; simp at this; exact this
  have S1 := (HS1.out.old B2).keeps K2 (fun b hb hS => by have := HL1.out b hb; omega)
  have S2' := S2.keeps K2 (fun b hb hS => by have := hlt2 b hb; omega)
  have b2 := (below_step HB1.out B2 (Nat.le_refl _)).trans (K2.below (by omega) (fun k hk hS => by omega))
  have hsE := K2.size
  have HS1' := hid (S1.mono (B' := w.heap.size) (by simp; omega))
  have HS2 := hid (S2'.mono (B' := w.heap.size) (by simp; omega))
  have HL2 := hid hlt2
  have HB2 := hid b2
  have HSE := hid hsE
  have HP := hid hsz2
  clear S1 S2 S2' B2 K2 b2 hlt2 HS1 HB1 hsE
  go_wp2
  refine bodyPost_ret (v := .agg #[.slice a1 Y.s0.n c1, .slice a2 Y.s1.n c2]) (by simp [results, Try.results28, go_sem, hc2, hc1, p1]) rfl ⟨⟨⟨a1, Y.s0.n, c1⟩, ⟨a2, Y.s1.n, c2⟩, Y.last, Y.acts⟩, rfl, ?_, rfl, rfl, HB2.out⟩
  have q1 := HSE.out
  have q2 := HP.out
  exact ⟨Nat.le_refl _, HS1'.out, HS2.out, fun b hb => by have := HL1.out b hb; omega, fun b hb => by have := HL2.out b hb; omega, fun b hb hb' => by have := HL1.out b hb; have := HL2.out b hb'; omega⟩
theorem RdyD.parts {x y : RdyD} (h : x = y) : x.last = y.last ∧ x.acts = y.acts := by subst h; exact ⟨rfl, rfl⟩
theorem eqReady_same (X Y : RdyE) (w : World) (hX : RdyR w X) (hY : RdyR w Y) (he : X.d = Y.d) (hs : X.small) :
    Calls Try.prog 31 #[.agg #[.slice X.s0.a X.s0.n X.s0.c, .slice X.s1.a X.s1.n X.s1.c], .agg #[.slice Y.s0.a Y.s0.n Y.s0.c, .slice Y.s1.a Y.s1.n Y.s1.c]] w fun e w' => e = .returned (.bool true) ∧ Below w.heap.size w w' := by
  obtain ⟨e1, e2⟩ := RdyD.parts he
  have e1' : Y.last = X.last := e1.symm
  have e2' : Y.acts = X.acts := e2.symm
  have h0 := hY.last
  have h1 := hY.acts
  have m0 := hY.l0
  have m1 := hY.l1
  rw [e1'] at h0 m0
  rw [e2'] at h1 m1
  have H0 := hid h0
  have H1 := hid h1
  have M0 := hid m0
  have M1 := hid m1
  have G0 := hid hX.last
  have G1 := hid hX.acts
  have L0 := hid hX.l0
  have L1 := hid hX.l1
  have HS := hid hs
  clear hX hY he e1 e2 e1' e2' h0 h1 m0 m1 hs
  go_enter Try.func31, Try.ntmps31
  go_wp2_with fail
  refine (eqIntS_same _ _ _ _ _ _ _ _ ((G0.out.old (below_alloc _ _)).old (below_alloc _ _)) ((H0.out.old (below_alloc _ _)).old (below_alloc _ _)) L0.out M0.out HS.out.1).mono ?_
  rintro e w1 ⟨rfl, q, rfl⟩
  go_wp2_with fail
  refine (eqIntS_same _ _ _ _ _ _ _ _ (((G1.out.old (below_alloc _ _)).old (below_alloc _ _)).drewN q) (((H1.out.old (below_alloc _ _)).old (below_alloc _ _)).drewN q) L1.out M1.out HS.out.2).mono ?_
  rintro e w2 ⟨rfl, q2, rfl⟩
  go_wp2_with fail
  go_ret
  exact ⟨rfl, below_drewN (below_alloc2 _ _ _) (q + q2)⟩
theorem markReady_any (Y : RdyE) (B U : Nat) (k : Int) (w : World) (hx : OwnY w B U Y) (hs : Y.small) (hk0 : 0 ≤ k) (hk1 : k ≤ 536870912) :
    Calls Try.prog 32 #[.agg #[.slice Y.s0.a Y.s0.n Y.s0.c, .slice Y.s1.a Y.s1.n Y.s1.c], .int .i64 k] w fun e w' => e = .returned (.int .i64 (k + Y.n)) ∧ OwnY w' B U ⟨Y.s0, Y.s1, marks k Y.s0.n, marks (k + Y.s0.n) Y.s1.n⟩ ∧ Keeps (blkY Y) w w' := by
  have h0 : Y.s0.n ≤ 1048576 := by rw [hx.last.length]; exact hs.1
  have h1 : Y.s1.n ≤ 1048576 := by rw [hx.acts.length]; exact hs.2
  have HX := hid (hx.old (below_alloc w (.cells #[.slice Y.s0.a Y.s0.n Y.s0.c, .slice Y.s1.a Y.s1.n Y.s1.c] 37)))
  have HK0 := hid (BoxY.new_ w 37 Y rfl)
  have HLT := hid hx.le
  have hn : ((Y.n : Nat) : Int) = (Y.s0.n : Int) + (Y.s1.n : Int) := by unfold RdyE.n; omega
  have HN := hid hn
  clear hx hs hn
  go_enter Try.func32, Try.ntmps32
  go_wp2_with fail
  refine (markIntS_own _ _ _ B _ Y.last _ HX.out.last h0 hk0 (by omega)).mono ?_
  rintro e w1 ⟨rfl, S1, K1⟩
  have hg : ∀ b, blkY Y b → b ≠ w.heap.size := fun b hb e => by have := (HX.out.in_ hb).2; have := HLT.out; omega
  have HKK := hid (HK0.out.keeps K1 (fun hS => hg _ (.inl hS) rfl))
  have A1 := HX.out.acts.keeps K1 (fun b hb hS => HX.out.apart b hS hb)
  have HS1 := hid S1
  have HA1 := hid A1
  have HK1 := hid K1
  obtain ⟨_, d0, d1⟩ := HKK.out
  clear S1 A1 K1
  go_wp2_with fail
  clear d0 d1
  refine (markIntS_own _ _ _ B _ Y.acts _ HA1.out h1 (by omega) (by omega)).mono ?_
  rintro e w2 ⟨rfl, S2, K2⟩
  have S1 := HS1.out.keeps K2 (fun b hb hS => HX.out.apart b hb hS)
  have KK : Keeps (blkY Y) w w2 := ((Keeps.of_below (below_alloc _ _)).trans (HK1.out.mono fun b _ hb => .inl hb)).trans (K2.mono fun b _ hb => .inr hb)
  have hle := KK.size
  have HS1' := hid S1
  have HS2 := hid S2
  have HKK := hid KK
  clear S1 S2 K2 KK
  go_wp2_with fail
  go_ret
  have := HLT.out
  exact ⟨ret_int (by have := HN.out; omega), ⟨by omega, HS1'.out, HS2.out, HX.out.t0, HX.out.t1, HX.out.apart⟩, HKK.out⟩
theorem heldReady_any (Y : RdyE) (k : Int) (w : World) (hx : RdyR w Y) (hd0 : Y.last = marks k Y.s0.n) (hd1 : Y.acts = marks (k + Y.s0.n) Y.s1.n) (hs : Y.s0.n ≤ 1048576 ∧ Y.s1.n ≤ 1048576) (hk0 : 0 ≤ k) (hk1 : k ≤ 536870912) :
    Calls Try.prog 33 #[.agg #[.slice Y.s0.a Y.s0.n Y.s0.c, .slice Y.s1.a Y.s1.n Y.s1.c], .int .i64 k] w fun e w' => e = .returned (.int .i64 (k + Y.n)) ∧ Below w.heap.size w w' := by
  have h0 := hx.last
  have h1 := hx.acts
  rw [hd0] at h0
  rw [hd1] at h1
  obtain ⟨n0, n1⟩ := hs
  have H0 := hid (h0.old (below_alloc w (.cells #[.slice Y.s0.a Y.s0.n Y.s0.c, .slice Y.s1.a Y.s1.n Y.s1.c] 37)))
  have H1 := hid (h1.old (below_alloc w (.cells #[.slice Y.s0.a Y.s0.n Y.s0.c, .slice Y.s1.a Y.s1.n Y.s1.c] 37)))
  have hn : ((Y.n : Nat) : Int) = (Y.s0.n : Int) + (Y.s1.n : Int) := by unfold RdyE.n; omega
  have HN := hid hn
  have d0 : decide (k + (Y.s0.n : Int) < 0) = false := by simp; omega
  have d1 : decide (k + (Y.s0.n : Int) + (Y.s1.n : Int) < 0) = false := by simp; omega
  clear hx hd0 hd1 h0 h1 hn
  go_enter Try.func33, Try.ntmps33
  go_wp2_with fail
  refine (heldIntS_any _ _ _ _ _ H0.out n0 hk0 (by omega)).mono ?_
  rintro e w1 ⟨rfl, q, rfl⟩
  go_wp2_with fail
  refine (heldIntS_any _ _ _ _ _ (H1.out.drewN q) n1 (by omega) (by omega)).mono ?_
  rintro e w2 ⟨rfl, q2, rfl⟩
  go_wp2_with fail
  go_ret
  exact ⟨ret_int (by have := HN.out; omega), below_drewN (below_alloc _ _) (q + q2)⟩
theorem szIntS_any (a : Option Addr) (n c : Nat) (left : Int) (w : World) (hn : n ≤ maxLen) (h0 : 0 ≤ left) (h1 : left ≤ 1048576) :
    Calls Try.prog 86 #[.slice a n c, .int .i64 left] w fun e w' => e = .returned (.int .i64 (szT left n)) ∧ w = w' := by
  unfold maxLen at hn
  by_cases h : (n : Int) ≤ left
  · have HS := hid (szT_yes h)
    have hd : decide (left - (n : Int) < 0) = false := by simp; omega
    go_enter Try.func86, Try.ntmps86
    go_wp2
    go_ret
    exact ⟨by rw [HS.out]; rfl, rfl⟩
  · have HS := hid (szT_no (t := n) (left := left) (by omega))
    have hd : decide (left - (n : Int) < 0) = true := by simp; omega
    go_enter Try.func86, Try.ntmps86
    go_wp2
    go_ret
    exact ⟨by rw [HS.out]; rfl, rfl⟩
theorem szReady_any (Y : RdyE) (left : Int) (w : World) (hn : Y.s0.n ≤ maxLen ∧ Y.s1.n ≤ maxLen) (h0 : 0 ≤ left) (h1 : left ≤ 1048576) :
    Calls Try.prog 25 #[.agg #[.slice Y.s0.a Y.s0.n Y.s0.c, .slice Y.s1.a Y.s1.n Y.s1.c], .int .i64 left] w fun e w' => e = .returned (.int .i64 (szT left Y.n)) ∧ Below w.heap.size w w' := by
  obtain ⟨n0, n1⟩ := hn
  have hn : ((Y.n : Nat) : Int) = (Y.s0.n : Int) + (Y.s1.n : Int) := by unfold RdyE.n; omega
  by_cases h : (Y.s0.n : Int) ≤ left
  · have HS := hid (szT_yes h)
    have hd : decide (left - (Y.s0.n : Int) < 0) = false := by simp; omega
    by_cases h2 : (Y.s1.n : Int) ≤ left - Y.s0.n
    · have HS2 := hid (szT_yes h2)
      have hd2 : decide (left - (Y.s0.n : Int) - (Y.s1.n : Int) < 0) = false := by simp; omega
      have HV := hid (show szT left Y.n = left - (Y.s0.n : Int) - (Y.s1.n : Int) by rw [szT_yes (by omega)]; omega)
      clear hn
      go_enter Try.func25, Try.ntmps25
      go_wp2_with fail
      refine (szIntS_any _ _ _ _ _ n0 h0 h1).mono ?_
      rintro e w1 ⟨rfl, rfl⟩
      rw [HS.out]
      go_wp2_with fail
      refine (szIntS_any _ _ _ _ _ n1 (by omega) (by omega)).mono ?_
      rintro e w1 ⟨rfl, rfl⟩
      rw [HS2.out]
      go_wp2
      go_ret
      exact ⟨by rw [HV.out]; rfl, below_alloc _ _⟩
    · have HS2 := hid (szT_no (t := Y.s1.n) (left := left - Y.s0.n) (by omega))
      have HV := hid (szT_no (t := Y.n) (left := left) (by omega))
      clear hn
      go_enter Try.func25, Try.ntmps25
      go_wp2_with fail
      refine (szIntS_any _ _ _ _ _ n0 h0 h1).mono ?_
      rintro e w1 ⟨rfl, rfl⟩
      rw [HS.out]
      go_wp2_with fail
      refine (szIntS_any _ _ _ _ _ n1 (by omega) (by omega)).mono ?_
      rintro e w1 ⟨rfl, rfl⟩
      rw [HS2.out]
      go_wp2
      go_ret
      exact ⟨by rw [HV.out]; rfl, below_alloc _ _⟩
  · have HS := hid (szT_no (t := Y.s0.n) (left := left) (by omega))
    have HV := hid (szT_no (t := Y.n) (left := left) (by omega))
    clear hn
    go_enter Try.func25, Try.ntmps25
    go_wp2_with fail
    refine (szIntS_any _ _ _ _ _ n0 h0 h1).mono ?_
    rintro e w1 ⟨rfl, rfl⟩
    rw [HS.out]
    go_wp2
    go_ret
    exact ⟨by rw [HV.out]; rfl, below_alloc _ _⟩
end Go.Proofs.Ytggjheapjklhgaa
