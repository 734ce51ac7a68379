/- Arrays: three slices; one that reads, one of the call's own; the laws' helpers on them. -/
import Derived.Test.YtnfkkkjookfdiaaCellW
import Derived.Test.YtnfkkkjookfdiaaSzW
namespace Go.Proofs.Ytnfkkkjookfdiaa
open Go.RowKit

structure SlD where
  a : Option Addr
  n : Nat
  c : Nat
/-- An array as it lies in memory. -/
structure ArrE where
  s0 : SlD
  s1 : SlD
  s2 : SlD
  es : List CellE
  age : List Int
  hits : List Int
/-- What an array reads as. -/
structure ArrD where
  cells : List (List Int × Bool)
  age : List Int
  hits : List Int
def ArrE.d (A : ArrE) : ArrD := ⟨A.es.map CellE.d, A.age, A.hits⟩
def ArrD.lens (D : ArrD) : List Nat := D.cells.map fun x => x.1.length
def ArrD.tot (D : ArrD) : Nat := sumC D.lens + D.age.length + D.hits.length
structure ArrD.small (D : ArrD) : Prop where
  cells : D.cells.length ≤ 1048576
  each : ∀ (i : Nat) (x : List Int × Bool), D.cells[i]? = some x → x.1.length ≤ 1048576
  sum : sumC D.lens ≤ 16777216
  age : D.age.length ≤ 1048576
  hits : D.hits.length ≤ 1048576
structure ArrR (w : World) (A : ArrE) : Prop where
  cells : CellsR w A.s0.a A.s0.n A.es
  age : IntsR w A.s1.a A.age
  hits : IntsR w A.s2.a A.hits
  lage : A.s1.n = A.age.length
  lhits : A.s2.n = A.hits.length
theorem ArrR.old {w w' : World} {A : ArrE} (h : ArrR w A) (hb : Below w.heap.size w w') : ArrR w' A := ⟨h.cells.old hb, h.age.old hb, h.hits.old hb, h.lage, h.lhits⟩
theorem CellsR.ns {w : World} {a : Option Addr} {n : Nat} {es : List CellE} (h : CellsR w a n es) : es.map CellE.n = (es.map CellE.d).map fun x => x.1.length := by
  apply List.ext_getElem?
  intro i
  rw [List.getElem?_map, List.getElem?_map, List.getElem?_map]
  cases he : es[i]? with
  | none => rfl
  | some e => simp [CellE.d, (h.lens i e he).1]
theorem ArrR.ns {w : World} {A : ArrE} (h : ArrR w A) : A.es.map CellE.n = A.d.lens := h.cells.ns
theorem ArrD.small.es {A : ArrE} (h : A.d.small) : ∀ (i : Nat) (e : CellE), A.es[i]? = some e → e.xs.length ≤ 1048576 := fun i e he =>
  h.each i e.d (by show (A.es.map CellE.d)[i]? = _; rw [List.getElem?_map, he]; rfl)
theorem ArrD.small.ls {D : ArrD} (h : D.small) : ∀ (i m : Nat), D.lens[i]? = some m → m ≤ 1048576 := fun i m hm => by
  unfold ArrD.lens at hm
  rw [List.getElem?_map] at hm
  obtain ⟨x, hx, rfl⟩ := Option.map_eq_some_iff.1 hm
  exact h.each i x hx
theorem ArrR.n0 {w : World} {A : ArrE} (h : ArrR w A) (hs : A.d.small) : A.s0.n ≤ 1048576 := by
  have := hs.cells
  rw [h.cells.len]
  have e : A.d.cells.length = A.es.length := by simp [ArrE.d]
  omega

/-- An array of the call's own: all its blocks lie from B on, below U. -/
structure OwnA (w : World) (B U : Nat) (A : ArrE) : Prop where
  cells : OwnC w B U A.s0.a A.s0.n A.s0.c A.es
  age : OwnS w B A.s1.a A.s1.n A.s1.c A.age
  hits : OwnS w B A.s2.a A.s2.n A.s2.c A.hits
  t1 : ∀ b, blkS A.s1.a A.s1.n b → b < U
  t2 : ∀ b, blkS A.s2.a A.s2.n b → b < U
  a12 : ∀ b, blkS A.s1.a A.s1.n b → ¬ blkS A.s2.a A.s2.n b
  a01 : ∀ (i : Nat) (e : CellE), A.es[i]? = some e → ∀ b, blkS e.a e.n b → ¬ blkS A.s1.a A.s1.n b
  a02 : ∀ (i : Nat) (e : CellE), A.es[i]? = some e → ∀ b, blkS e.a e.n b → ¬ blkS A.s2.a A.s2.n b
theorem OwnA.reads {w : World} {B U : Nat} {A : ArrE} (h : OwnA w B U A) : ArrR w A := ⟨h.cells.reads, h.age.reads, h.hits.reads, h.age.length, h.hits.length⟩
theorem OwnA.in1 {w : World} {B U : Nat} {A : ArrE} (h : OwnA w B U A) {b : Nat} (hb : blkS A.s1.a A.s1.n b) : inU B U b := ⟨(h.age.lt hb).1, h.t1 b hb⟩
theorem OwnA.in2 {w : World} {B U : Nat} {A : ArrE} (h : OwnA w B U A) {b : Nat} (hb : blkS A.s2.a A.s2.n b) : inU B U b := ⟨(h.hits.lt hb).1, h.t2 b hb⟩
theorem OwnA.keeps {S : Nat → Prop} {w w' : World} {B U : Nat} {A : ArrE} (h : OwnA w B U A) (hk : Keeps S w w') (hs : ∀ b, inU B U b → ¬ S b) : OwnA w' B U A :=
  ⟨h.cells.keeps hk hs, h.age.keeps hk (fun b hb => hs b (h.in1 hb)), h.hits.keeps hk (fun b hb => hs b (h.in2 hb)), h.t1, h.t2, h.a12, h.a01, h.a02⟩
theorem OwnA.old {w w' : World} {B U : Nat} {A : ArrE} (h : OwnA w B U A) (hb : Below w.heap.size w w') : OwnA w' B U A := h.keeps (S := fun _ => False) (Keeps.of_below hb) (fun _ _ x => x)
theorem OwnA.up {w : World} {B U V : Nat} {A : ArrE} (h : OwnA w B U A) (hUV : U ≤ V) (hV : V ≤ w.heap.size) : OwnA w B V A :=
  ⟨h.cells.up hUV hV, h.age, h.hits, fun b hb => Nat.lt_of_lt_of_le (h.t1 b hb) hUV, fun b hb => Nat.lt_of_lt_of_le (h.t2 b hb) hUV, h.a12, h.a01, h.a02⟩
theorem OwnC.mono {w : World} {B B' U : Nat} {a : Option Addr} {n c : Nat} {es : List CellE} (h : OwnC w B U a n c es) (hB : B' ≤ B) : OwnC w B' U a n c es :=
  ⟨⟨h.row.le, ⟨h.row.row.1, by
    rcases h.row.row.2 with h0 | ⟨g, cap, cur, hv, hg, rest⟩
    · exact .inl h0
    · exact .inr ⟨g, cap, cur, hv, by omega, rest⟩⟩, h.row.hi⟩, fun i e he => (h.own i e he).mono hB, h.top, h.apart⟩

/-- Blocks of ints beside the cells are written. -/
theorem OwnC.cells_keep {S : Nat → Prop} {w w' : World} {B U : Nat} {a : Option Addr} {n c : Nat} {es : List CellE} (h : OwnC w B U a n c es) (hk : Keeps S w w')
    (hs : ∀ (i : Nat) (e : CellE), es[i]? = some e → ∀ b, blkS e.a e.n b → ¬ S b) (h0 : ∀ b, S b → (Value.slice a n c).ownBlock ≠ some b) : OwnC w' B U a n c es :=
  ⟨⟨Nat.le_trans h.row.le hk.size, ownsRow_block h.row.row fun g hg => hk.block g (Nat.lt_of_lt_of_le (h.row.hi g hg) h.row.le) (fun hS => h0 g hS hg), h.row.hi⟩,
    fun i e he => (h.own i e he).keeps hk (fun b hb => hs i e he b hb), h.top, h.apart⟩

theorem szArray_any (A : ArrE) (left : Int) (w : World) (hA : ArrR w A) (hm : ∀ (i : Nat) (e : CellE), A.es[i]? = some e → e.n ≤ maxLen) (hn0 : A.s0.n ≤ maxLen) (hn1 : A.s1.n ≤ maxLen) (hn2 : A.s2.n ≤ maxLen) (h0 : 0 ≤ left) (h1 : left ≤ 1048576) :
    Calls Try.prog 21 #[.agg #[.slice A.s0.a A.s0.n A.s0.c, .slice A.s1.a A.s1.n A.s1.c, .slice A.s2.a A.s2.n A.s2.c], .int .i64 left] w fun e w' => e = .returned (.int .i64 (szT left A.d.tot)) ∧ Below w.heap.size w w' := by
  have htot : A.d.tot = sumC A.d.lens + A.s1.n + A.s2.n := by rw [hA.lage, hA.lhits]; rfl
  have hns := hA.ns
  have HM := hid hm
  have HA := hid hA
  have HNS := hid hns
  have HT := hid htot
  clear hA hm hns
  generalize hs : sumC A.d.lens = s at *
  by_cases k0 : (s : Int) ≤ left
  · have e0 := hid (szT_yes k0)
    by_cases k1 : (A.s1.n : Int) ≤ left - s
    · have e1 := hid (szT_yes k1)
      by_cases k2 : (A.s2.n : Int) ≤ left - s - A.s1.n
      · have e2 := hid (szT_yes k2)
        have ht : szT left A.d.tot = left - s - A.s1.n - A.s2.n := by rw [szT_yes (by omega)]; omega
        have HV := hid ht
        clear ht htot
        go_enter Try.func21, Try.ntmps21
        go_wp2_with fail
        refine (szCellS_any _ _ _ _ _ _ _ (HA.out.cells.old (below_alloc _ _)) HNS.out HM.out hn0 h0 h1).mono ?_
        rintro e w1 ⟨rfl, B⟩
        rw [hs, e0.out]
        obtain ⟨hc, hf⟩ := bcell B
        have hsz := B.size
        simp only [World.size_alloc] at hsz hc hf
        go_wp2_with fail
        refine (szIntS_any _ _ _ _ _ hn1 (by omega) (by omega)).mono ?_
        rintro e w1 ⟨rfl, rfl⟩
        rw [e1.out]
        go_wp2_with fail
        refine (szIntS_any _ _ _ _ _ hn2 (by omega) (by omega)).mono ?_
        rintro e w1 ⟨rfl, rfl⟩
        rw [e2.out]
        go_wp2_with fail
        go_ret
        exact ⟨by rw [HV.out]; rfl, below_step (below_alloc _ _) B (Nat.le_refl _)⟩
      · have e2 := hid (szT_no (t := A.s2.n) (left := left - s - A.s1.n) (by omega))
        have HV := hid (szT_no (t := A.d.tot) (left := left) (by omega))
        clear htot
        go_enter Try.func21, Try.ntmps21
        go_wp2_with fail
        refine (szCellS_any _ _ _ _ _ _ _ (HA.out.cells.old (below_alloc _ _)) HNS.out HM.out hn0 h0 h1).mono ?_
        rintro e w1 ⟨rfl, B⟩
        rw [hs, e0.out]
        obtain ⟨hc, hf⟩ := bcell B
        have hsz := B.size
        simp only [World.size_alloc] at hsz hc hf
        go_wp2_with fail
        refine (szIntS_any _ _ _ _ _ hn1 (by omega) (by omega)).mono ?_
        rintro e w1 ⟨rfl, rfl⟩
        rw [e1.out]
        go_wp2_with fail
        refine (szIntS_any _ _ _ _ _ hn2 (by omega) (by omega)).mono ?_
        rintro e w1 ⟨rfl, rfl⟩
        rw [e2.out]
        go_wp2_with fail
        go_ret
        exact ⟨by rw [HV.out]; rfl, below_step (below_alloc _ _) B (Nat.le_refl _)⟩
    · have e1 := hid (szT_no (t := A.s1.n) (left := left - s) (by omega))
      have HV := hid (szT_no (t := A.d.tot) (left := left) (by omega))
      clear htot
      go_enter Try.func21, Try.ntmps21
      go_wp2_with fail
      refine (szCellS_any _ _ _ _ _ _ _ (HA.out.cells.old (below_alloc _ _)) HNS.out HM.out hn0 h0 h1).mono ?_
      rintro e w1 ⟨rfl, B⟩
      rw [hs, e0.out]
      obtain ⟨hc, hf⟩ := bcell B
      have hsz := B.size
      simp only [World.size_alloc] at hsz hc hf
      go_wp2_with fail
      refine (szIntS_any _ _ _ _ _ hn1 (by omega) (by omega)).mono ?_
      rintro e w1 ⟨rfl, rfl⟩
      rw [e1.out]
      go_wp2_with fail
      go_ret
      exact ⟨by rw [HV.out]; rfl, below_step (below_alloc _ _) B (Nat.le_refl _)⟩
  · have e0 := hid (szT_no (t := s) (left := left) (by omega))
    have HV := hid (szT_no (t := A.d.tot) (left := left) (by omega))
    clear htot
    go_enter Try.func21, Try.ntmps21
    go_wp2_with fail
    refine (szCellS_any _ _ _ _ _ _ _ (HA.out.cells.old (below_alloc _ _)) HNS.out HM.out hn0 h0 h1).mono ?_
    rintro e w1 ⟨rfl, B⟩
    rw [hs, e0.out]
    go_wp2_with fail
    go_ret
    exact ⟨by rw [HV.out]; rfl, below_step (below_alloc _ _) B (Nat.le_refl _)⟩
end Go.Proofs.Ytnfkkkjookfdiaa
