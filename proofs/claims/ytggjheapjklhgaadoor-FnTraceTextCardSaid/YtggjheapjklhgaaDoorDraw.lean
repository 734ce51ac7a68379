/- The reference's drawing of inputs: a cursor over the bytes; what is drawn lies in its range. -/
import Derived.Test.YtggjheapjklhgaaDoorMem
import Derived.Test.YtggjheapjklhgaaDoorLists
import Derived.Test.YtggjheapjklhgaaDoorGfW
import Derived.WalkSpells
namespace Go.Proofs.YtggjheapjklhgaaDoor
open Go.RowKit

/-- A block of the call's own, its cells known. -/
def Blk (w : World) (g : Nat) (e : TypeId) (cs : List Value) : Prop := w.heap[g]? = some (.cells cs.toArray e (0, 0))
theorem Blk.lt {w : World} {g : Nat} {e : TypeId} {cs : List Value} (h : Blk w g e cs) : g < w.heap.size := (Array.getElem?_eq_some_iff.1 h).1
theorem Blk.cell {w : World} {g : Nat} {e : TypeId} {cs : List Value} (h : Blk w g e cs) {j : Nat} {v : Value} (hv : cs[j]? = some v) : w.cell? ⟨g, j, none⟩ = some v := by
  rw [cell_of_row w g j cs.toArray e (0, 0) h]; simpa using hv
theorem Blk.frozen {w : World} {g : Nat} {e : TypeId} {cs : List Value} (h : Blk w g e cs) (j : Nat) : w.frozen? ⟨g, j, none⟩ = false := frozen_of_row w g j cs.toArray e h
theorem Blk.set {w : World} {g : Nat} {e : TypeId} {cs : List Value} (h : Blk w g e cs) (j : Nat) (v : Value) : Blk (w.setCell ⟨g, j, none⟩ v) g e (cs.set j v) ∧ Keeps (· = g) w (w.setCell ⟨g, j, none⟩ v) := by
  refine ⟨?_, ⟨rfl, rfl, rfl, by simp, fun k _ hk => heap_setCell_other w ⟨g, j, none⟩ k v hk⟩⟩
  have := heap_setCell_same w g j cs.toArray e v h
  unfold Blk
  rw [this]; simp
theorem Blk.keeps {S : Nat → Prop} {w w' : World} {g : Nat} {e : TypeId} {cs : List Value} (h : Blk w g e cs) (hk : Keeps S w w') (hs : ¬ S g) : Blk w' g e cs := (hk.block g h.lt hs).trans h
theorem Blk.old {w w' : World} {g : Nat} {e : TypeId} {cs : List Value} (h : Blk w g e cs) (hb : Below w.heap.size w w') : Blk w' g e cs := (hb.block g h.lt).trans h
theorem Blk.drewN {w : World} {g : Nat} {e : TypeId} {cs : List Value} (h : Blk w g e cs) (k : Nat) : Blk (w.drewN k) g e cs := h
theorem Blk.new (w : World) (e : TypeId) (cs : List Value) : Blk (w.alloc (.cells cs.toArray e)) w.heap.size e cs := heap_alloc_new w _

/-- The bytes can be read. -/
def BytesR (w : World) (a : Option Addr) (n : Nat) : Prop := ∀ i, i < n → ∃ b o x, a = some ⟨b, o, none⟩ ∧ b < w.heap.size ∧ w.cell? ⟨b, o + i, none⟩ = some (.int .u8 x) ∧ 0 ≤ x ∧ x ≤ 255
theorem BytesR.keeps {S : Nat → Prop} {w w' : World} {a : Option Addr} {n : Nat} (h : BytesR w a n) (hk : Keeps S w w') (hs : ∀ b o, a = some ⟨b, o, none⟩ → 0 < n → ¬ S b) : BytesR w' a n := by
  intro i hi
  obtain ⟨b, o, x, ha, hb, hc, h0, h1⟩ := h i hi
  exact ⟨b, o, x, ha, Nat.lt_of_lt_of_le hb hk.size, (World.cell?_of_block (w := w) (hk.block b hb (hs b o ha (by omega)))).trans hc, h0, h1⟩
theorem BytesR.old {w w' : World} {a : Option Addr} {n : Nat} (h : BytesR w a n) (hb : Below w.heap.size w w') : BytesR w' a n :=
  h.keeps (S := fun _ => False) (Keeps.of_below hb) (fun _ _ _ _ x => x)

theorem and_range (x m : Int) (h0 : 0 ≤ m) (h1 : m < 9223372036854775808) : 0 ≤ bits .and .i64 x m ∧ bits .and .i64 x m ≤ m := by
  have hm : (BitVec.ofInt 64 m).toNat = m.toNat := by
    rw [BitVec.toNat_ofInt]; show (m % 18446744073709551616).toNat = m.toNat; rw [Int.emod_eq_of_lt h0 (by omega)]
  have hle : (BitVec.ofInt 64 x &&& BitVec.ofInt 64 m).toNat ≤ m.toNat := by
    rw [BitVec.toNat_and, ← hm]; exact Nat.and_le_right
  have e : bits .and .i64 x m = ((BitVec.ofInt 64 x &&& BitVec.ofInt 64 m).toNat : Int) := by
    show IntKind.i64.wrap ((BitVec.ofInt 64 x &&& BitVec.ofInt 64 m).toNat : Int) = _
    exact IntWalk.i64_in _ (by omega)
  rw [e]; omega

/-- The cursor: at block g, over a slice of bytes, at place i. -/
structure Cur (w : World) (g : Nat) (a : Option Addr) (n c : Nat) : Prop where
  at_ : ∃ (i : Nat) (h : Int), i ≤ n ∧ Blk w g 68 [.slice a n c, .int .i64 i, .int .i64 h]
  small : n ≤ 2097152
  reads : BytesR w a n
  apart : ∀ b o, a = some ⟨b, o, none⟩ → 0 < n → b ≠ g
theorem Cur.keeps {S : Nat → Prop} {w w' : World} {g n c : Nat} {a : Option Addr} (h : Cur w g a n c) (hk : Keeps S w w') (hg : ¬ S g) (hs : ∀ b o, a = some ⟨b, o, none⟩ → 0 < n → ¬ S b) : Cur w' g a n c := by
  obtain ⟨i, q, hi, hb⟩ := h.at_
  exact ⟨⟨i, q, hi, hb.keeps hk hg⟩, h.small, h.reads.keeps hk hs, h.apart⟩
theorem Cur.old {w w' : World} {g n c : Nat} {a : Option Addr} (h : Cur w g a n c) (hb : Below w.heap.size w w') : Cur w' g a n c :=
  h.keeps (S := fun _ => False) (Keeps.of_below hb) (fun x => x) (fun _ _ _ _ x => x)
theorem Cur.drewN {w : World} {g n c : Nat} {a : Option Addr} (h : Cur w g a n c) (k : Nat) : Cur (w.drewN k) g a n c :=
  h.keeps (S := fun _ => False) (Keeps.ofDrewN _ w k) (fun x => x) (fun _ _ _ _ x => x)
theorem Cur.lt {w : World} {g n c : Nat} {a : Option Addr} (h : Cur w g a n c) : g < w.heap.size := by
  obtain ⟨_, _, _, hb⟩ := h.at_; exact hb.lt

theorem irow_lit (w : World) (l : List Int) (hn : l.length ≤ 1048576 := by decide) : IRow (w.alloc (.cells (l.map (Value.int .i64)).toArray 3)) w.heap.size l.length l.length l := by
  have := World.ownsRow_lit (base := w.heap.size) (e := 3) (size := 1) w (l.map (Value.int .i64)).toArray l.length (Nat.le_refl _) (by unfold maxLen; omega) (by simp)
  simpa [IRow] using this
theorem keeps_from {B : Nat} {w w' : World} (h : Below B w w') : Keeps (fun k => B ≤ k) w w' := ⟨h.os, h.tape, h.output, h.size, fun k _ hs => h.block k (by omega)⟩
theorem wf_u8 {n : Int} (h : (Lit.int .u8 n).wf = true) : 0 ≤ n ∧ n ≤ 255 := by
  simp [Lit.wf] at h; exact h
theorem BytesR.of_cells {w : World} {x : Addr} {len cap : Nat} {zs : List Int} (hl : len ≤ cap) (hz : zs.length = cap) (hc : ∀ i, i < zs.length → w.cell? (x.add i) = Option.some (.int .u8 (zs.getD i 0))) (hw : ∀ n ∈ zs, (Lit.int .u8 n).wf = true) : BytesR w (Option.some x) len := by
  intro i hi
  have h0 := hc 0 (by omega)
  have hs : x.spot = Option.none := by
    simp only [Addr.add, if_true] at h0
    unfold World.cell? at h0
    split at h0
    · cases e : x.spot with
      | none => rfl
      | some q => simp [e] at h0
    · cases h0
  obtain ⟨b, o, sp⟩ := x
  simp only at hs
  subst hs
  have hiz : i < zs.length := by omega
  have hcell : w.cell? ⟨b, o + i, Option.none⟩ = Option.some (.int .u8 (zs.getD i 0)) := by
    have := hc i hiz
    have e : (⟨b, o, Option.none⟩ : Addr).add i = ⟨b, o + i, Option.none⟩ := by unfold Addr.add; split <;> simp_all
    rw [e] at this
    exact this
  have hmem : zs.getD i 0 ∈ zs := by
    rw [List.getD_eq_getElem?_getD, List.getElem?_eq_getElem hiz]
    exact List.getElem_mem _
  exact ⟨b, o, _, rfl, World.block_lt_of_cell? w _ hcell, hcell, (wf_u8 (hw _ hmem)).1, (wf_u8 (hw _ hmem)).2⟩
theorem BytesR.where_ {w : World} {a : Option Addr} {n : Nat} (h : BytesR w a n) : ∀ b o, a = some ⟨b, o, none⟩ → 0 < n → b < w.heap.size := by
  intro b o ha h0
  obtain ⟨b', o', _, e', hlt, _⟩ := h 0 h0
  rw [ha] at e'; simp at e'; omega

set_option maxRecDepth 100000 in
theorem l01New_any (a : Option Addr) (n c : Nat) (w : World) (hr : BytesR w a n) (hn : n ≤ 2097152) :
    Calls Tryd.prog 20 #[.slice a n c] w fun e w' => ∃ g, e = .returned (.pointer (some ⟨g, 0, none⟩)) ∧ w.heap.size ≤ g ∧ Cur w' g a n c ∧ Below w.heap.size w w' := by
  have HR := hid hr
  clear hr
  go_enter Tryd.func20, Tryd.ntmps20
  go_wp2
  go_loopw [3, 4] (fun h i wr => ∃ (k q : Nat) (v : Int), k ≤ n ∧ i = .int .i64 k ∧ h = .int .i64 v ∧ wr = w.drewN q) (fun _ i _ => n - (intOf i).toNat)
  case atStart => exact ⟨0, 0, _, Nat.zero_le _, rfl, rfl, rfl⟩
  case round =>
    obtain ⟨k, q, v, hk, rfl, rfl, rfl⟩ := hrel
    have fin : ∀ w2, Hid (w2 = (w.drewN q).alloc (.cells #[.slice a n c, .int .i64 0, .int .i64 v] 68)) → Cur w2 w.heap.size a n c ∧ Below w.heap.size w w2 := by
      intro w2 h2
      rw [h2.out]
      have hb : Below w.heap.size w ((w.drewN q).alloc (.cells #[.slice a n c, .int .i64 0, .int .i64 v] 68)) := (below_ofDrewN _ _ _).alloc (by simp) _
      exact ⟨⟨⟨0, v, Nat.zero_le _, Blk.new (w.drewN q) _ [.slice a n c, .int .i64 0, .int .i64 v]⟩, hn, HR.out.old hb, fun b o ha h0 => by
        obtain ⟨b', o', _, e', hlt, _⟩ := HR.out 0 h0
        rw [ha] at e'; simp at e'; omega⟩, hb⟩
    have FIN := hid fin
    clear fin
    by_cases hlt : k < n
    · obtain ⟨b, o, x, rfl, _, hc, h0, h1⟩ := HR.out k hlt
      by_cases h4 : k < 4000
      · go_wp2
        go_roundw
        case rel => exact ⟨k + 1, _, _, by omega, by go_num, rfl, rfl⟩
        case measure => simp [intOf]; omega
      · go_wp2
        go_ret
        exact ⟨w.heap.size, rfl, Nat.le_refl _, FIN.out _ rfl⟩
    · go_wp2
      go_ret
      exact ⟨w.heap.size, rfl, Nat.le_refl _, FIN.out _ rfl⟩

set_option maxRecDepth 100000 in
theorem l01Byte_any (g n c : Nat) (a : Option Addr) (w : World) (hc : Cur w g a n c) :
    Calls Tryd.prog 48 #[.pointer (some ⟨g, 0, none⟩)] w fun e w' => ∃ x : Int, e = .returned (.int .i64 x) ∧ 0 ≤ x ∧ x ≤ 255 ∧ Cur w' g a n c ∧ Keeps (· = g) w w' := by
  obtain ⟨⟨i, h, hi, hb⟩, hn, hr, hap⟩ := hc
  have c0 := hb.cell (j := 0) rfl
  have c1 := hb.cell (j := 1) rfl
  have c2 := hb.cell (j := 2) rfl
  have f2 := hb.frozen 2
  have HB := hid hb
  have HR := hid hr
  have HA := hid hap
  clear hb hr hap
  go_enter Tryd.func48, Tryd.ntmps48
  go_wp2
  refine wp_world ?_
  intro w1 hw
  obtain ⟨v, hv⟩ : ∃ v : Int, w1 = w.setCell ⟨g, 2, none⟩ (.int .i64 v) := ⟨_, hw.out⟩
  have B1 : Blk w1 g 68 [.slice a n c, .int .i64 i, .int .i64 v] := by rw [hv]; exact (HB.out.set 2 (.int .i64 v)).1
  have K1 : Keeps (· = g) w w1 := by rw [hv]; exact (HB.out.set 2 (.int .i64 v)).2
  have R1 := HR.out.keeps K1 HA.out
  clear hv hw c0 c1 c2 f2
  have c0 := B1.cell (j := 0) rfl
  have c1 := B1.cell (j := 1) rfl
  have c2 := B1.cell (j := 2) rfl
  have HB1 := hid B1
  have HR1 := hid R1
  have HK1 := hid K1
  clear B1 R1 K1
  go_quiet (fail)
  replace c0 : (w1.drewN nq).cell? ⟨g, 0, none⟩ = some (.slice a n c) := c0
  replace c1 : (w1.drewN nq).cell? ⟨g, 1, none⟩ = some (.int .i64 i) := c1
  replace HB1 := hid (HB1.out.drewN nq)
  replace HK1 := hid (HK1.out.drewN nq)
  replace HR1 := hid (HR1.out.keeps (Keeps.ofDrewN (fun _ => False) w1 nq) (fun _ _ _ _ x => x))
  have X1 := and_range (bits .xor .i64 (v / 8589934592) (v / 35184372088832)) 255 (by omega) (by omega)
  clear c2
  generalize w1.drewN nq = w2 at *
  generalize bits .and .i64 (bits .xor .i64 (v / 8589934592) (v / 35184372088832)) 255 = x at *
  by_cases hlt : i < n
  · obtain ⟨b, o, y, ha, hbl, hcy, y0, y1⟩ := HR1.out i hlt
    have hap := HA.out b o ha (by omega)
    have HAB := hid ha
    have hdi : decide ((i : Int) < (n : Int)) = true := by simp; omega
    go_wp2
    go_quiet (fail)
    go_wp2
    refine wp_world ?_
    intro w3 hw3
    have c0' : w3.cell? ⟨g, 0, none⟩ = some (.slice a n c) := by rw [hw3.out]; exact c0
    have c1' : w3.cell? ⟨g, 1, none⟩ = some (.int .i64 i) := by rw [hw3.out]; exact c1
    have cy' : w3.cell? ⟨b, o + i, none⟩ = some (.int .u8 y) := by rw [hw3.out]; exact hcy
    have HB3 : Hid (Blk w3 g 68 [.slice a n c, .int .i64 i, .int .i64 v]) := by show Blk _ _ _ _; rw [hw3.out]; exact HB1.out
    have HK3 : Hid (Keeps (· = g) w w3) := by show Keeps _ _ _; rw [hw3.out]; exact HK1.out.drewN nq
    have HR3 : Hid (BytesR w3 a n) := by show BytesR _ _ _; rw [hw3.out]; exact HR1.out.keeps (Keeps.ofDrewN (fun _ => False) w2 nq) (fun _ _ _ _ x => x)
    clear c0 c1 hcy HB1 HK1 HR1 hw3 hdi
    have hii : (i : Int) < (n : Int) := by omega
    have hap' : ¬ b = g := hap
    go_quiet (fail)
    replace c1' : (w3.drewN nq).cell? ⟨g, 1, none⟩ = some (.int .i64 i) := c1'
    replace HB3 := hid (HB3.out.drewN nq)
    replace HK3 := hid (HK3.out.drewN nq)
    replace HR3 : Hid (BytesR (w3.drewN nq) a n) := HR3.out.keeps (Keeps.ofDrewN (fun _ => False) w3 nq) (fun _ _ _ _ x => x)
    have f1 := HB3.out.frozen 1
    clear cy' c0'
    generalize w3.drewN nq = w4 at *
    go_wp2
    go_ret
    have E := HB3.out.set 1 (.int .i64 ((i : Int) + 1))
    refine ⟨_, rfl, (and_range _ 255 (by omega) (by omega)).1, (and_range _ 255 (by omega) (by omega)).2, ⟨⟨i + 1, v, by omega, E.1⟩, hn, HR3.out.keeps E.2 HA.out, HA.out⟩, HK3.out.trans E.2⟩
  · have hdi : decide ((i : Int) < (n : Int)) = false := by simp; omega
    go_wp2
    go_quiet (fail)
    go_wp2
    go_ret
    exact ⟨x, rfl, X1.1, X1.2, Cur.drewN ⟨⟨i, v, hi, HB1.out⟩, hn, HR1.out, HA.out⟩ nq, HK1.out.drewN nq⟩

theorem l01Below_any (g n c : Nat) (a : Option Addr) (k : Int) (w : World) (hc : Cur w g a n c) (hk : k ≤ 4294967296) :
    Calls Tryd.prog 36 #[.pointer (some ⟨g, 0, none⟩), .int .i64 k] w fun e w' => ∃ r : Int, e = .returned (.int .i64 r) ∧ 0 ≤ r ∧ (0 < k → r < k) ∧ Cur w' g a n c ∧ Keeps (· = g) w w' := by
  by_cases h0 : k ≤ 0
  · have h1 : ¬ 0 < k := by omega
    go_enter Tryd.func36, Tryd.ntmps36
    go_wp2
    go_ret
    exact ⟨0, rfl, by omega, by omega, hc, Keeps.refl _ _⟩
  have hk0 : 0 < k := by omega
  by_cases h1 : k ≤ 256
  · go_enter Tryd.func36, Tryd.ntmps36
    go_wp2_with fail
    refine (l01Byte_any _ _ _ _ _ hc).mono ?_
    rintro e w1 ⟨x, rfl, x0, x1, C, K⟩
    go_wp2
    go_ret
    exact ⟨x % k, rfl, Int.emod_nonneg _ (by omega), fun _ => Int.emod_lt_of_pos _ hk0, C, K⟩
  · have h1' : 256 < k := by omega
    go_enter Tryd.func36, Tryd.ntmps36
    go_wp2_with fail
    refine (l01Byte_any _ _ _ _ _ hc).mono ?_
    rintro e w1 ⟨x, rfl, x0, x1, C, K⟩
    go_wp2_with fail
    refine (l01Byte_any _ _ _ _ _ C).mono ?_
    rintro e w2 ⟨y, rfl, y0, y1, C2, K2⟩
    have K12 := K.trans K2
    clear C K K2
    go_wp2_with fail
    refine (l01Byte_any _ _ _ _ _ C2).mono ?_
    rintro e w3 ⟨z, rfl, z0, z1, C3, K3⟩
    have K13 := K12.trans K3
    clear C2 K12 K3
    go_wp2_with fail
    refine (l01Byte_any _ _ _ _ _ C3).mono ?_
    rintro e w4 ⟨u, rfl, u0, u1, C4, K4⟩
    have K14 := K13.trans K4
    clear C3 K13 K4
    go_wp2
    go_ret
    exact ⟨_, rfl, Int.emod_nonneg _ (by omega), fun _ => Int.emod_lt_of_pos _ hk0, C4, K14⟩

/-- The bytes' cells, as a list. -/
theorem BytesR.list {w : World} {a : Option Addr} {n : Nat} (h : BytesR w a n) : ∃ vs : List Value, vs.length = n ∧ ReadsV w a vs ∧ ∀ v ∈ vs, ∃ x : Int, v = .int .u8 x ∧ 0 ≤ x ∧ x ≤ 255 := by
  by_cases h0 : 0 < n
  · obtain ⟨b, o, _, ha, hb, _⟩ := h 0 h0
    subst ha
    refine ⟨(List.range n).map fun i => (w.cell? ⟨b, o + i, none⟩).getD (.bool false), by simp, fun i v hv => ?_, fun v hv => ?_⟩
    · rw [List.getElem?_map] at hv
      obtain ⟨j, hj, rfl⟩ := Option.map_eq_some_iff.1 hv
      have hj' := List.getElem?_eq_some_iff.1 hj
      obtain ⟨hi, he⟩ := hj'
      rw [List.length_range] at hi
      rw [List.getElem_range] at he
      subst he
      obtain ⟨b', o', x, e, _, hc, _⟩ := h i hi
      simp only [Option.some.injEq, Addr.mk.injEq, and_true] at e
      obtain ⟨rfl, rfl⟩ := e
      exact ⟨b, o, rfl, hb, by rw [hc]; rfl⟩
    · obtain ⟨i, hi, rfl⟩ := List.mem_map.1 hv
      obtain ⟨b', o', x, e, _, hc, x0, x1⟩ := h i (by simpa using hi)
      simp only [Option.some.injEq, Addr.mk.injEq, and_true] at e
      obtain ⟨rfl, rfl⟩ := e
      exact ⟨x, by rw [hc]; rfl, x0, x1⟩
  · exact ⟨[], by simp; omega, fun i v hv => by simp at hv, fun v hv => by cases hv⟩
theorem BytesR.of_owns {w : World} {B n : Nat} {v : Value} {vs : List Value} (h : w.ownsRow B 5 1 v n vs) (hv : ∀ u ∈ vs, ∃ x : Int, u = .int .u8 x ∧ 0 ≤ x ∧ x ≤ 255) (hn : v ≠ .slice none 0 0) : ∃ g cap, v = .slice (some ⟨g, 0, none⟩) n cap ∧ B ≤ g ∧ BytesR w (some ⟨g, 0, none⟩) n := by
  rcases h.2 with ⟨e, _⟩ | ⟨g, cap, cur, e, hB, rest⟩
  · exact absurd e hn
  · subst e
    refine ⟨g, cap, rfl, hB, fun i hi => ?_⟩
    have hl := h.1
    obtain ⟨u, hu⟩ := some_at (xs := vs) (n := n) (k := i) (by omega) hi
    have hc := World.ownsRow.cellAt h i (by omega)
    rw [hu] at hc
    obtain ⟨x, rfl, x0, x1⟩ := hv u (List.mem_of_getElem? hu)
    exact ⟨g, 0, x, rfl, World.block_lt_of_cell? w _ hc, by rw [Nat.zero_add]; exact hc, x0, x1⟩
theorem infoByte : (Tryd.prog.info? 5).map (fun i => (i.zero, i.size, i.bytes)) = some (some (.int .u8 0), 1, 1) := by kernel_rfl
/-- append([]byte{1}, code...): the bytes with one ahead. -/
theorem wpList_append_code {ops : Array Oper} {rest : List Oper} {o : Oper} {ac : Act} {Q : Exit → Act → World → Prop} (hgd : o.guard = none) (s x : Operand)
    (ho : o.op = .call { callee := .builtin .append, args := #[s, x], argTypes := #[29, 29] })
    (w : World) (a : Option Addr) (n c : Nat) (hr : BytesR w a n) (hs : ac.eval s = .slice (some ⟨w.heap.size, 0, none⟩) 1 1) (hx : ac.eval x = .slice a n c) (hn : n ≤ 1048576)
    (h : ∀ g cap w', w.heap.size ≤ g → BytesR w' (some ⟨g, 0, none⟩) (1 + n) → Below w.heap.size w w' → wpList Tryd.prog ops Q rest (ac.put o.dst (.slice (some ⟨g, 0, none⟩) (1 + n) cap)) w') :
    wpList Tryd.prog ops Q (o :: rest) ac (w.alloc (.cells #[.int .u8 1] 5)) := by
  obtain ⟨vs, hl, hv, hx'⟩ := hr.list
  have hown : (w.alloc (.cells #[.int .u8 1] 5)).ownsRow w.heap.size 5 1 (.slice (some ⟨w.heap.size, 0, none⟩) 1 1) 1 [.int .u8 1] :=
    World.ownsRow_lit (base := w.heap.size) (e := 5) (size := 1) w #[.int .u8 1] 1 (Nat.le_refl _) (by unfold maxLen; omega) (by simp)
  refine wpList_append_src hgd s x 29 ho _ w.heap.size 5 (.int .u8 0) 1 1 Tryd.underlying29 infoByte rfl (by decide) _ 1 _ hown hs a n c vs (by rw [hl, Nat.mul_one]) (hv.old ((Below.refl _ _).alloc (Nat.le_refl _) _)) (fun u hu => by obtain ⟨y, rfl, _⟩ := hx' u hu; rfl) hx (by omega) (by unfold maxLen; omega) (by simp) ?_
  intro v' w' hown' hbel hnil
  obtain ⟨g, cap, rfl, hg, hb⟩ := BytesR.of_owns hown' (fun u hu => by
    rcases List.mem_append.1 hu with h | h
    · simp at h; subst h; exact ⟨1, rfl, by omega, by omega⟩
    · exact hx' u h) (by intro e; have := (hnil.1 e).1; cases this)
  exact h g cap w' hg hb (((Below.refl _ _).alloc (Nat.le_refl _) _).trans hbel)
theorem big_any (a : Option Addr) (n c : Nat) (w : World) (_hn : n ≤ maxLen) :
    Calls Tryd.prog 10 #[.slice a n c] w fun e w' => e = .returned (.bool (decide (1048576 < (n : Int)))) ∧ w = w' := by
  go_enter Tryd.func10, Tryd.ntmps10
  go_wp2
  go_ret
  exact ⟨rfl, rfl⟩
end Go.Proofs.YtggjheapjklhgaaDoor
