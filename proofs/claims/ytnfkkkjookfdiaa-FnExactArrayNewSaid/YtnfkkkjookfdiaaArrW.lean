/- The laws' helpers on arrays: copying, comparing, marking. -/
import Derived.Test.YtnfkkkjookfdiaaArr
namespace Go.Proofs.Ytnfkkkjookfdiaa
open Go.RowKit

set_option maxRecDepth 100000 in
theorem toArray_any (A : ArrE) (w : World) (hA : ArrR w A) (hs : A.d.small) :
    Calls Try.prog 24 #[.agg #[.slice A.s0.a A.s0.n A.s0.c, .slice A.s1.a A.s1.n A.s1.c, .slice A.s2.a A.s2.n A.s2.c]] w fun e w' => ∃ A' : ArrE, e = .returned (.agg #[.slice A'.s0.a A'.s0.n A'.s0.c, .slice A'.s1.a A'.s1.n A'.s1.c, .slice A'.s2.a A'.s2.n A'.s2.c]) ∧ OwnA w' w.heap.size w'.heap.size A' ∧ A'.d = A.d ∧ Below w.heap.size w w' := by
  have h1 := hs.age
  have h2 := hs.hits
  have l1 := hid hA.lage
  have l2 := hid hA.lhits
  have hn0 := hA.n0 hs
  have HA := hid hA
  have HS := hid hs
  clear hA hs
  go_enter Try.func24, Try.ntmps24
  go_wp2_with fail
  refine (toCellS_any _ _ _ _ _ (HA.out.cells.old (below_alloc3 _ _ _ _)) hn0 HS.out.es).mono ?_
  rintro e w1 ⟨a0, c0, es, rfl, O0, D0, B1⟩
  obtain ⟨hc1, hf1⟩ := bcell B1
  have hsz1 := B1.size
  simp only [World.size_alloc] at hsz1 hc1 hf1
  have K1 : Keeps (· = w.heap.size + 1 + 1) w1 (w1.setCell ⟨w.heap.size + 1 + 1, 0, none⟩ (.slice a0 A.s0.n c0)) := (Keeps.refl _ _).set _ _ rfl
  have O1 := O0.keeps K1 (fun b hb hS => by have := hb.1; simp at this; omega)
  have b1 := (below_step (below_alloc3 _ _ _ _) B1 (Nat.le_refl _)).trans (K1.below (by omega) (fun k hk hS => by omega))
  have HO1 := hid O1
  have HB1 := hid b1
  clear O0 B1 K1 O1 b1
  go_wp2_with fail
  refine (toIntS_own _ _ _ _ _ (HA.out.age.old HB1.out) l1.out h1).mono ?_
  rintro e w2 ⟨a1, c1, rfl, S1, B2⟩
  have hsz2 := B2.size
  obtain ⟨hc2, hf2⟩ := bcell B2
  simp only [World.size_setCell] at hsz2 hc2 hf2
  have p0 : w.heap.size < w1.heap.size := by omega
  have p1 : w.heap.size + 1 < w1.heap.size := by omega
  have p2 : w.heap.size + 1 + 1 < w1.heap.size := by omega
  have K2 : Keeps (· = w.heap.size + 1 + 1) w2 (w2.setCell ⟨w.heap.size + 1 + 1, 1, none⟩ (.slice a1 A.s1.n c1)) := (Keeps.refl _ _).set _ _ rfl
  have O2 := (HO1.out.old B2).keeps K2 (fun b hb hS => by have := hb.1; simp at this; omega)
  have hlt2 : ∀ b, blkS a1 A.s1.n b → w1.heap.size ≤ b ∧ b < w2.heap.size := fun b hb => by have := S1.lt hb; simp at this; exact this
  have S2 := S1.keeps K2 (fun b hb hS => by have := hlt2 b hb; omega)
  have b2 := (below_step HB1.out B2 (Nat.le_refl _)).trans (K2.below (by omega) (fun k hk hS => by omega))
  have HO2 := hid O2
  have HS2 := hid S2
  have HL2 := hid hlt2
  have HB2 := hid b2
  clear S1 B2 K2 O2 S2 b2 HO1 HB1 hlt2
  go_wp2_with fail
  refine (toIntS_own _ _ _ _ _ (HA.out.hits.old HB2.out) l2.out h2).mono ?_
  rintro e w3 ⟨a2, c2, rfl, S3, B3⟩
  have hsz3 := B3.size
  obtain ⟨hc3, hf3⟩ := bcell B3
  simp only [World.size_setCell] at hsz3 hc3 hf3
  have p0' : w.heap.size < w2.heap.size := by omega
  have p1' : w.heap.size + 1 < w2.heap.size := by omega
  have p2' : w.heap.size + 1 + 1 < w2.heap.size := by omega
  have K3 : Keeps (fun b => b = w.heap.size + 1 ∨ b = w.heap.size + 1 + 1) w3 ((((w3.setCell ⟨w.heap.size + 1 + 1, 2, none⟩ (.slice a2 A.s2.n c2)).setCell ⟨w.heap.size + 1, 0, none⟩ (.slice a0 A.s0.n c0)).setCell ⟨w.heap.size + 1, 1, none⟩ (.slice a1 A.s1.n c1)).setCell ⟨w.heap.size + 1, 2, none⟩ (.slice a2 A.s2.n c2)) :=
    ((((Keeps.refl _ _).set _ _ (.inr rfl)).set _ _ (.inl rfl)).set _ _ (.inl rfl)).set _ _ (.inl rfl)
  have hlt3 : ∀ b, blkS a2 A.s2.n b → w2.heap.size ≤ b ∧ b < w3.heap.size := fun b hb => by have := S3.lt hb; simp at this; exact this
  have O3 := (HO2.out.old B3).keeps K3 (fun b hb hS => by have := hb.1; simp at this; omega)
  have S2 := (HS2.out.old B3).keeps K3 (fun b hb hS => by have := HL2.out b hb; omega)
  have S3 := S3.keeps K3 (fun b hb hS => by have := hlt3 b hb; omega)
  have b3 := (below_step HB2.out B3 (Nat.le_refl _)).trans (K3.below (by omega) (fun k hk hS => by omega))
  have hsE := K3.size
  have O3' := (O3.mono (B' := w.heap.size) (by simp; omega))
  have S2' := S2.mono (B' := w.heap.size) (by simp; omega)
  have S3' := S3.mono (B' := w.heap.size) (by simp; omega)
  have HSE := hid hsE
  clear O3 S2 S3 K3 B3 HO2 HS2 hsE
  have HO3 := hid O3'
  have HS2 := hid S2'
  have HS3 := hid S3'
  have HB3 := hid b3
  have HL3 := hid hlt3
  clear O3' S2' S3' b3 HB2 hlt3
  go_wp2
  refine bodyPost_ret (v := .agg #[.slice a0 A.s0.n c0, .slice a1 A.s1.n c1, .slice a2 A.s2.n c2]) (by simp [results, Try.results24, go_sem, hc3, hc2, hc1, p1, p1']) rfl ⟨⟨⟨a0, A.s0.n, c0⟩, ⟨a1, A.s1.n, c1⟩, ⟨a2, A.s2.n, c2⟩, es, A.age, A.hits⟩, rfl, ?_, ?_, HB3.out⟩
  · have hle := HSE.out
    have top0 := HO3.out.top
    refine ⟨HO3.out.up (by simp at hle ⊢; omega) (Nat.le_refl _), HS2.out, HS3.out, fun b hb => (HS2.out.lt hb).2, fun b hb => (HS3.out.lt hb).2, fun b hb hb' => ?_, fun i e he b hb hb' => ?_, fun i e he b hb hb' => ?_⟩
    · have := HL2.out b hb; have := HL3.out b hb'; omega
    · have := top0 i e he b hb; have := HL2.out b hb'; omega
    · have := top0 i e he b hb; have := HL3.out b hb'; omega
  · show (⟨es.map CellE.d, A.age, A.hits⟩ : ArrD) = ⟨A.es.map CellE.d, A.age, A.hits⟩
    rw [D0]

theorem ArrD.eq_parts {D E : ArrD} (h : D = E) : D.cells = E.cells ∧ D.age = E.age ∧ D.hits = E.hits := by subst h; exact ⟨rfl, rfl, rfl⟩
set_option maxRecDepth 100000 in
theorem eqArray_same (A C : ArrE) (w : World) (hA : ArrR w A) (hC : ArrR w C) (he : A.d = C.d) (hs : A.d.small) :
    Calls Try.prog 26 #[.agg #[.slice A.s0.a A.s0.n A.s0.c, .slice A.s1.a A.s1.n A.s1.c, .slice A.s2.a A.s2.n A.s2.c], .agg #[.slice C.s0.a C.s0.n C.s0.c, .slice C.s1.a C.s1.n C.s1.c, .slice C.s2.a C.s2.n C.s2.c]] w fun e w' => e = .returned (.bool true) ∧ Below w.heap.size w w' := by
  obtain ⟨d0, d1, d2⟩ := ArrD.eq_parts he
  have hn0 := hA.n0 hs
  have hnn : A.s0.n = C.s0.n := by
    rw [hA.cells.len, hC.cells.len]
    have := congrArg List.length d0
    simpa [ArrE.d] using this
  have HAG := hid hA.age
  have HAH := hid hA.hits
  have hca : IntsR w C.s1.a A.age := by have := hC.age; rw [show C.age = A.age from d1.symm] at this; exact this
  have hch : IntsR w C.s2.a A.hits := by have := hC.hits; rw [show C.hits = A.hits from d2.symm] at this; exact this
  have l1 := hid hA.lage
  have l2 := hid hA.lhits
  have m1 : Hid (C.s1.n = A.age.length) := by rw [hC.lage, show C.age = A.age from d1.symm]; exact rfl
  have m2 : Hid (C.s2.n = A.hits.length) := by rw [hC.lhits, show C.hits = A.hits from d2.symm]; exact rfl
  have HCA := hid hca
  have HCH := hid hch
  have h1 := hs.age
  have h2 := hs.hits
  have HA := hid hA.cells
  have hcc := hC.cells
  rw [← hnn] at hcc
  have HC := hid hcc
  have HD0 := hid d0
  have HS := hid hs
  have HNN := hid hnn
  clear hca hch hA hC he d0 d1 d2 hcc hs
  rw [← hnn]
  clear hnn
  go_enter Try.func26, Try.ntmps26
  go_wp2_with fail
  refine (eqCellS_same _ _ _ _ _ _ _ _ (HA.out.old (below_alloc2 _ _ _)) (HC.out.old (below_alloc2 _ _ _)) HD0.out hn0 HS.out.es).mono ?_
  rintro e w1 ⟨rfl, B1⟩
  obtain ⟨hc1, hf1⟩ := bcell B1
  have hsz1 := B1.size
  simp only [World.size_alloc] at hsz1 hc1 hf1
  have b1 := hid (below_step (below_alloc2 _ _ _) B1 (Nat.le_refl _))
  clear B1
  go_wp2_with fail
  refine (eqIntS_same _ _ _ _ _ _ _ _ (HAG.out.old b1.out) (HCA.out.old b1.out) l1.out m1.out h1).mono ?_
  rintro e w2 ⟨rfl, q, rfl⟩
  go_wp2_with fail
  refine (eqIntS_same _ _ _ _ _ _ _ _ ((HAH.out.old b1.out).drewN q) ((HCH.out.old b1.out).drewN q) l2.out m2.out h2).mono ?_
  rintro e w2 ⟨rfl, q2, rfl⟩
  go_wp2_with fail
  go_ret
  exact ⟨rfl, below_drewN b1.out (q + q2)⟩

/-- The blocks of an array's content. -/
def inA (A : ArrE) (b : Nat) : Prop := inC A.s0.a A.s0.n A.s0.c A.es b ∨ blkS A.s1.a A.s1.n b ∨ blkS A.s2.a A.s2.n b
theorem OwnA.inA_in {w : World} {B U : Nat} {A : ArrE} (h : OwnA w B U A) {b : Nat} (hb : inA A b) : inU B U b := by
  rcases hb with hb | hb | hb
  · exact h.cells.inC_in hb
  · exact h.in1 hb
  · exact h.in2 hb
/-- What markArray writes. -/
def mkA (k : Int) (D : ArrD) : ArrD := ⟨mkC k D.lens, marks (k + sumC D.lens) D.age.length, marks (k + sumC D.lens + D.age.length) D.hits.length⟩
theorem lens_mkC (k : Int) (l : List Nat) : (mkC k l).map (fun x => x.1.length) = l := by
  induction l generalizing k with
  | nil => rfl
  | cons n r ih => simp [mkC, length_marks, ih]
set_option maxRecDepth 100000 in
theorem markArray_any (A : ArrE) (B U : Nat) (k : Int) (w : World) (hA : OwnA w B U A) (hs : A.d.small) (hk0 : 0 ≤ k) (hk1 : k ≤ 268435456) :
    Calls Try.prog 35 #[.agg #[.slice A.s0.a A.s0.n A.s0.c, .slice A.s1.a A.s1.n A.s1.c, .slice A.s2.a A.s2.n A.s2.c], .int .i64 k] w fun e w' => ∃ es' : List CellE, e = .returned (.int .i64 (k + A.d.tot)) ∧ OwnA w' B U ⟨A.s0, A.s1, A.s2, es', marks (k + sumC A.d.lens) A.s1.n, marks (k + sumC A.d.lens + A.s1.n) A.s2.n⟩ ∧
      (⟨A.s0, A.s1, A.s2, es', marks (k + sumC A.d.lens) A.s1.n, marks (k + sumC A.d.lens + A.s1.n) A.s2.n⟩ : ArrE).d = mkA k A.d ∧ Keeps (inA A) w w' := by
  have hns := hA.reads.ns
  have hn0 := hA.reads.n0 hs
  have h1 := hs.age
  have h2 := hs.hits
  have l1 := hA.age.length
  have l2 := hA.hits.length
  have l1' : A.s1.n ≤ 1048576 := by rw [l1]; exact h1
  have l2' : A.s2.n ≤ 1048576 := by rw [l2]; exact h2
  have hsum := hs.sum
  have hle := hA.cells.row.le
  have htot : (k : Int) + A.d.tot = k + sumC A.d.lens + A.s1.n + A.s2.n := by
    rw [l1, l2]; unfold ArrD.tot; simp only [ArrE.d]; omega
  have HT := hid htot
  have HA := hid hA
  have HNS := hid hns
  have L1 := hid l1
  have L2 := hid l2
  have HS := hid hs
  clear hA hns l1 l2 hs htot
  generalize hsm : sumC A.d.lens = s at *
  go_enter Try.func35, Try.ntmps35
  go_wp2_with fail
  refine (markCellS_any _ _ _ B U _ _ _ _ (HA.out.cells.old (below_alloc _ _)) HNS.out (by rw [hsm]; exact hsum) HS.out.ls hn0 hk0 (by omega)).mono ?_
  rintro e w1 ⟨es', rfl, O1, D1, N1, K1⟩
  rw [hsm]
  have hnb : ¬ inC A.s0.a A.s0.n A.s0.c A.es w.heap.size := fun h => by have := (HA.out.cells.inC_in h).2; omega
  have k1 : w1.cell? ⟨w.heap.size, 1, none⟩ = some (.slice A.s1.a A.s1.n A.s1.c) := K1.box (l := [.slice A.s0.a A.s0.n A.s0.c, .slice A.s1.a A.s1.n A.s1.c, .slice A.s2.a A.s2.n A.s2.c]) hnb 1
  have k2 : w1.cell? ⟨w.heap.size, 2, none⟩ = some (.slice A.s2.a A.s2.n A.s2.c) := K1.box (l := [.slice A.s0.a A.s0.n A.s0.c, .slice A.s1.a A.s1.n A.s1.c, .slice A.s2.a A.s2.n A.s2.c]) hnb 2
  have hsz1 := K1.size
  simp only [World.size_alloc] at hsz1
  have nc1 : ∀ b, blkS A.s1.a A.s1.n b → ¬ inC A.s0.a A.s0.n A.s0.c A.es b := by
    intro b hb h
    rcases h with h | ⟨p, hp, h⟩
    · exact HA.out.cells.not_sym HA.out.age hb h
    · obtain ⟨e, he, rfl⟩ := List.mem_map.1 hp
      obtain ⟨i, hi, rfl⟩ := List.mem_iff_getElem.1 he
      exact HA.out.a01 i _ (List.getElem?_eq_getElem hi) b h hb
  have nc2 : ∀ b, blkS A.s2.a A.s2.n b → ¬ inC A.s0.a A.s0.n A.s0.c A.es b := by
    intro b hb h
    rcases h with h | ⟨p, hp, h⟩
    · exact HA.out.cells.not_sym HA.out.hits hb h
    · obtain ⟨e, he, rfl⟩ := List.mem_map.1 hp
      obtain ⟨i, hi, rfl⟩ := List.mem_iff_getElem.1 he
      exact HA.out.a02 i _ (List.getElem?_eq_getElem hi) b h hb
  have S1 := (HA.out.age.old (below_alloc _ _)).keeps K1 nc1
  have S2 := (HA.out.hits.old (below_alloc _ _)).keeps K1 nc2
  have HO1 := hid O1
  have HN1 := hid N1
  have HD1 := hid D1
  have HK1 := hid K1
  have HS2 := hid S2
  clear O1 N1 D1 K1 S2
  go_wp2_with fail
  refine (markIntS_own _ _ _ B _ _ _ S1 l1' (by omega) (by omega)).mono ?_
  rintro e w2 ⟨rfl, M1, K2⟩
  have k2' : w2.cell? ⟨w.heap.size, 2, none⟩ = some (.slice A.s2.a A.s2.n A.s2.c) := by
    rw [K2.cell (by omega) (fun hb => by have := HA.out.t1 _ hb; omega)]; exact k2
  have S2 := HS2.out.keeps K2 (fun b hb hS => HA.out.a12 b hS hb)
  have eapart : ∀ (i : Nat) (e : CellE), es'[i]? = some e → ∀ b, blkS e.a e.n b → ¬ blkS A.s1.a A.s1.n b ∧ ¬ blkS A.s2.a A.s2.n b := by
    intro i e he b hb
    have h1 : (A.es.map CellE.h)[i]? = some e.h := by rw [← HN1.out, List.getElem?_map, he]; rfl
    rw [List.getElem?_map] at h1
    obtain ⟨f, hf, hfe⟩ := Option.map_eq_some_iff.1 h1
    simp only [CellE.h, Prod.mk.injEq] at hfe
    rw [← hfe.1, ← hfe.2] at hb
    exact ⟨HA.out.a01 i f hf b hb, HA.out.a02 i f hf b hb⟩
  have O2 := HO1.out.cells_keep K2 (fun i e he b hb => (eapart i e he b hb).1) (fun b hb h => HO1.out.not_sym S1 hb h)
  have HO2 := hid O2
  have HM1 := hid M1
  have HK2 := hid K2
  have HEA := hid eapart
  clear O2 M1 K2 HS2 S1 HO1 eapart k2
  have hsz2 := HK2.out.size
  go_wp2_with fail
  refine (markIntS_own _ _ _ B _ _ _ S2 l2' (by omega) (by omega)).mono ?_
  rintro e w3 ⟨rfl, M2, K3⟩
  have M1 := HM1.out.keeps K3 (fun b hb hS => HA.out.a12 b hb hS)
  have O3 := HO2.out.cells_keep K3 (fun i e he b hb => (HEA.out i e he b hb).2) (fun b hb h => HO2.out.not_sym S2 hb h)
  have HKA := hid ((((Keeps.of_below (S := inA A) (below_alloc w (.cells #[.slice A.s0.a A.s0.n A.s0.c, .slice A.s1.a A.s1.n A.s1.c, .slice A.s2.a A.s2.n A.s2.c] 41))).trans
    (HK1.out.mono fun b _ hb => .inl hb)).trans (HK2.out.mono fun b _ hb => .inr (.inl hb))).trans (K3.mono fun b _ hb => .inr (.inr hb)))
  have HM1 := hid M1
  have HM2 := hid M2
  have HO3 := hid O3
  clear M1 M2 O3 K3 HK1 HK2 HO2 S2
  go_wp2
  go_ret
  refine ⟨es', by rw [HT.out]; rfl, ⟨HO3.out, HM1.out, HM2.out, HA.out.t1, HA.out.t2, HA.out.a12, fun i e he b hb => (HEA.out i e he b hb).1, fun i e he b hb => (HEA.out i e he b hb).2⟩, ?_, HKA.out⟩
  show (⟨es'.map CellE.d, marks (k + s) A.s1.n, marks (k + s + A.s1.n) A.s2.n⟩ : ArrD) = mkA k A.d
  rw [HD1.out, L1.out, L2.out, mkA, hsm]
  rfl

set_option maxRecDepth 100000 in
theorem heldArray_any (A : ArrE) (D : ArrD) (k : Int) (w : World) (hA : ArrR w A) (hd : A.d = mkA k D) (hs : D.small) (hk0 : 0 ≤ k) (hk1 : k ≤ 268435456) :
    Calls Try.prog 36 #[.agg #[.slice A.s0.a A.s0.n A.s0.c, .slice A.s1.a A.s1.n A.s1.c, .slice A.s2.a A.s2.n A.s2.c], .int .i64 k] w fun e w' => e = .returned (.int .i64 (k + D.tot)) ∧ Below w.heap.size w w' := by
  obtain ⟨d0, d1, d2⟩ := ArrD.eq_parts hd
  have hns : A.es.map CellE.n = D.lens := by rw [hA.ns, hd]; exact lens_mkC k D.lens
  have l1 : A.s1.n = D.age.length := by rw [hA.lage, show A.age = _ from d1]; exact length_marks _ _
  have l2 : A.s2.n = D.hits.length := by rw [hA.lhits, show A.hits = _ from d2]; exact length_marks _ _
  have hn0 : A.s0.n ≤ 1048576 := by
    rw [hA.cells.len, ← List.length_map (f := CellE.n), hns]
    have := hs.cells
    unfold ArrD.lens
    rw [List.length_map]; exact this
  have h1 := hs.age
  have h2 := hs.hits
  have l1' : A.s1.n ≤ 1048576 := by rw [l1]; exact h1
  have l2' : A.s2.n ≤ 1048576 := by rw [l2]; exact h2
  have hsum := hs.sum
  have r1 : IntsR w A.s1.a (marks (k + sumC D.lens) A.s1.n) := by have := hA.age; rw [show A.age = _ from d1] at this; rw [l1]; exact this
  have r2 : IntsR w A.s2.a (marks (k + sumC D.lens + A.s1.n) A.s2.n) := by have := hA.hits; rw [show A.hits = _ from d2] at this; rw [l1, l2]; exact this
  have htot : (k : Int) + D.tot = k + sumC D.lens + A.s1.n + A.s2.n := by
    rw [l1, l2]; unfold ArrD.tot; omega
  have HT := hid htot
  have HA := hid hA.cells
  have HNS := hid hns
  have HD0 := hid d0
  have HS := hid hs
  have HR1 := hid r1
  have HR2 := hid r2
  clear hA hns l1 l2 hs htot hd d0 d1 d2 r1 r2
  generalize hsm : sumC D.lens = s at *
  go_enter Try.func36, Try.ntmps36
  go_wp2_with fail
  refine (heldCellS_any _ _ _ _ _ _ _ (HA.out.old (below_alloc _ _)) HD0.out HNS.out (by rw [hsm]; exact hsum) HS.out.ls hn0 hk0 (by omega)).mono ?_
  rintro e w1 ⟨rfl, q, rfl⟩
  rw [hsm]
  have r1 := HR1.out
  have r2 := HR2.out
  go_wp2_with fail
  refine (heldIntS_any _ _ _ _ _ ((r1.old (below_alloc _ _)).drewN _) l1' (by omega) (by omega)).mono ?_
  rintro e w1 ⟨rfl, q1, rfl⟩
  go_wp2_with fail
  refine (heldIntS_any _ _ _ _ _ ((r2.old (below_alloc _ _)).drewN _) l2' (by omega) (by omega)).mono ?_
  rintro e w1 ⟨rfl, q2, rfl⟩
  go_wp2
  go_ret
  exact ⟨by rw [HT.out]; rfl, below_drewN (below_alloc _ _) _⟩
end Go.Proofs.Ytnfkkkjookfdiaa
