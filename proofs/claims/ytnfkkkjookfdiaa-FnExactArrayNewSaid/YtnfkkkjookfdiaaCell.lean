/- Cells of the array: rows of cells whose symbols lie in rows of their own; the laws' helpers on them. -/
import Derived.Test.YtnfkkkjookfdiaaRec
import Derived.Test.YtnfkkkjookfdiaaIntS
import Derived.Test.YtnfkkkjookfdiaaReg
namespace Go.Proofs.Ytnfkkkjookfdiaa
open Go.RowKit

/-- A cell as it lies in memory: its slice of symbols, what that reads as, the poison mark. -/
structure CellE where
  a : Option Addr
  n : Nat
  c : Nat
  xs : List Int
  p : Bool
def CellE.d (e : CellE) : List Int × Bool := (e.xs, e.p)
def encC (e : CellE) : List Value := [.slice e.a e.n e.c, .bool e.p]
theorem encC_len (e : CellE) : (encC e).length = 2 := rfl
def zeroC : CellE := ⟨none, 0, 0, [], false⟩
theorem recC : RecT encC 2 39 61 (.agg #[.slice none 0 0, .bool false]) 32 :=
  ⟨encC_len, by decide, Try.underlying39, by kernel_rfl, rfl, fun e u hu => by simp [encC] at hu; rcases hu with rfl | rfl <;> rfl, by decide⟩

/-- A slice of cells that reads. -/
structure CellsR (w : World) (a : Option Addr) (n : Nat) (es : List CellE) : Prop where
  recs : RecR encC 2 w a es
  len : n = es.length
  ints : ∀ (i : Nat) (e : CellE), es[i]? = some e → IntsR w e.a e.xs
  lens : ∀ (i : Nat) (e : CellE), es[i]? = some e → e.n = e.xs.length ∧ e.n ≤ e.c
theorem CellsR.old {w w' : World} {a : Option Addr} {n : Nat} {es : List CellE} (h : CellsR w a n es) (hb : Below w.heap.size w w') : CellsR w' a n es :=
  ⟨h.recs.old hb, h.len, fun i e he => (h.ints i e he).old hb, h.lens⟩
theorem CellsR.at_ {w : World} {a : Option Addr} {n k : Nat} {es : List CellE} (h : CellsR w a n es) (hk : k < n) :
    ∃ e b o, es[k]? = some e ∧ a = some ⟨b, o, none⟩ ∧ b < w.heap.size ∧ w.cell? ⟨b, o + k * 2, none⟩ = some (.slice e.a e.n e.c) ∧ w.cell? ⟨b, o + k * 2 + 1, none⟩ = some (.bool e.p) ∧ IntsR w e.a e.xs ∧ e.n = e.xs.length ∧ e.n ≤ e.c := by
  obtain ⟨e, he⟩ := some_at h.len hk
  obtain ⟨b, o, ha, hb, hc⟩ := h.recs k e he
  exact ⟨e, b, o, he, ha, hb, hc 0 _ rfl, hc 1 _ rfl, h.ints k e he, h.lens k e he⟩

/-- A slice of cells of the call's own: all its blocks, those of the symbols too, lie from B on, below U. -/
structure OwnC (w : World) (B U : Nat) (a : Option Addr) (n c : Nat) (es : List CellE) : Prop where
  row : OwnF encC 2 61 w B U a n c es
  own : ∀ (i : Nat) (e : CellE), es[i]? = some e → OwnS w B e.a e.n e.c e.xs
  top : ∀ (i : Nat) (e : CellE), es[i]? = some e → ∀ b, blkS e.a e.n b → b < U
  apart : ∀ (i j : Nat) (e f : CellE), es[i]? = some e → es[j]? = some f → i ≠ j → ∀ b, blkS e.a e.n b → ¬ blkS f.a f.n b
def inU (B U b : Nat) : Prop := B ≤ b ∧ b < U
section
variable {w w' : World} {B U : Nat} {a : Option Addr} {n c : Nat} {es : List CellE}
theorem OwnC.len (h : OwnC w B U a n c es) : n = es.length := h.row.length encC_len (by decide)
theorem OwnC.reads (h : OwnC w B U a n c es) : CellsR w a n es :=
  ⟨h.row.reads encC_len (by decide), h.len, fun i e he => (h.own i e he).reads, fun i e he => ⟨(h.own i e he).length, (h.own i e he).cap⟩⟩
theorem OwnC.in_ (h : OwnC w B U a n c es) {i : Nat} {e : CellE} (he : es[i]? = some e) {b : Nat} (hb : blkS e.a e.n b) : inU B U b := ⟨((h.own i e he).lt hb).1, h.top i e he b hb⟩
theorem OwnC.keeps {S : Nat → Prop} (h : OwnC w B U a n c es) (hk : Keeps S w w') (hs : ∀ b, inU B U b → ¬ S b) : OwnC w' B U a n c es :=
  ⟨h.row.keeps hk (fun b h0 h1 => hs b ⟨h0, h1⟩), fun i e he => (h.own i e he).keeps hk (fun b hb => hs b (h.in_ he hb)), h.top, h.apart⟩
theorem OwnC.old (h : OwnC w B U a n c es) (hb : Below w.heap.size w w') : OwnC w' B U a n c es := h.keeps (S := fun _ => False) (Keeps.of_below hb) (fun _ _ x => x)
theorem OwnC.up {V : Nat} (h : OwnC w B U a n c es) (hUV : U ≤ V) (hV : V ≤ w.heap.size) : OwnC w B V a n c es :=
  ⟨h.row.up hUV hV, h.own, fun i e he b hb => Nat.lt_of_lt_of_le (h.top i e he b hb) hUV, h.apart⟩
/-- The row of cells shares no block with a row of ints. -/
theorem OwnC.not_ints (h : OwnC w B U a n c es) {g m cap : Nat} {ys : List Int} (hr : IRow w g m cap ys) : (Value.slice a n c).ownBlock ≠ some g := by
  intro he
  rcases h.row.row.2 with ⟨hv, _⟩ | ⟨g', cap', cur, hv, _, hg, _⟩
  · rw [hv] at he; cases he
  · rw [hv, ownBlock_slice] at he
    simp only [Option.some.injEq] at he
    subst he
    rcases hr.2 with ⟨hv', _⟩ | ⟨g2, cap2, cur2, hv2, _, hg2, _⟩
    · cases hv'
    · injection hv2 with e1 _ _
      simp only [Option.some.injEq, Addr.mk.injEq, and_true] at e1
      subst e1
      rw [hg2] at hg
      simp only [Option.some.injEq, Obj.cells.injEq] at hg
      exact absurd hg.2.1 (by decide)
theorem OwnC.not_sym (h : OwnC w B U a n c es) {B' m cap : Nat} {x : Option Addr} {ys : List Int} (hr : OwnS w B' x m cap ys) {b : Nat} (hb : blkS x m b) : (Value.slice a n c).ownBlock ≠ some b := by
  obtain ⟨g, hg, _, hrow⟩ := hr.row hb.1
  have : g = b := by have := hb.2; rw [hg] at this; simpa using this
  subst this
  exact h.not_ints hrow
theorem blkS_one {x : Option Addr} {m : Nat} {b g : Nat} (hb : blkS x m b) (hg : x = some ⟨g, 0, none⟩) : b = g := by
  have := hb.2; rw [hg] at this; simp at this; exact this.symm
/-- The row with a cell replaced whose symbols are new. -/
theorem OwnC.put (h : OwnC w B U a n c es) {i : Nat} {e : CellE} (hi : i < es.length) {V : Nat}
    (hrow : OwnF encC 2 61 w' B V a n c (es.set i e)) (hk : Keeps (fun b => (Value.slice a n c).ownBlock = some b) w w') (hUV : U ≤ V)
    (he : OwnS w' B e.a e.n e.c e.xs) (ht : ∀ b, blkS e.a e.n b → b < V ∧ U ≤ b) : OwnC w' B V a n c (es.set i e) := by
  have key : ∀ j f, (es.set i e)[j]? = some f → (j = i ∧ f = e) ∨ (j ≠ i ∧ es[j]? = some f) := by
    intro j f hf
    rw [List.getElem?_set] at hf
    by_cases hij : i = j
    · subst hij
      simp only [if_true, hi] at hf
      exact .inl ⟨rfl, by simpa using hf.symm⟩
    · rw [if_neg hij] at hf
      exact .inr ⟨fun e => hij e.symm, hf⟩
  refine ⟨hrow, fun j f hf => ?_, fun j f hf b hb => ?_, fun j l f g hf hg hne b hb hb' => ?_⟩
  · rcases key j f hf with ⟨_, rfl⟩ | ⟨_, hf'⟩
    · exact he
    · exact (h.own j f hf').keeps hk (fun b hb hS => h.not_sym (h.own j f hf') hb hS)
  · rcases key j f hf with ⟨_, rfl⟩ | ⟨_, hf'⟩
    · exact (ht b hb).1
    · exact Nat.lt_of_lt_of_le (h.top j f hf' b hb) hUV
  · rcases key j f hf with ⟨rfl, rfl⟩ | ⟨_, hf'⟩ <;> rcases key l g hg with ⟨rfl, rfl⟩ | ⟨_, hg'⟩
    · exact hne rfl
    · have := h.top l g hg' b hb'; have := (ht b hb).2; omega
    · have := h.top j f hf' b hb; have := (ht b hb').2; omega
    · exact h.apart j l f g hf' hg' hne b hb hb'
/-- The row with one cell more whose symbols are new. -/
theorem OwnC.push (h : OwnC w B U a n c es) {e : CellE} {V : Nat} {a' : Option Addr} {n' c' : Nat}
    (hrow : OwnF encC 2 61 w' B V a' n' c' (es ++ [e])) (hk : Keeps (fun b => (Value.slice a n c).ownBlock = some b) w w') (hUV : U ≤ V)
    (he : OwnS w' B e.a e.n e.c e.xs) (ht : ∀ b, blkS e.a e.n b → b < V ∧ U ≤ b) : OwnC w' B V a' n' c' (es ++ [e]) := by
  have key : ∀ j f, (es ++ [e])[j]? = some f → (j = es.length ∧ f = e) ∨ (j < es.length ∧ es[j]? = some f) := by
    intro j f hf
    rcases Nat.lt_trichotomy j es.length with hj | hj | hj
    · rw [List.getElem?_append_left hj] at hf; exact .inr ⟨hj, hf⟩
    · subst hj; simp at hf; exact .inl ⟨rfl, hf.symm⟩
    · rw [List.getElem?_eq_none (by simp; omega)] at hf; cases hf
  refine ⟨hrow, fun j f hf => ?_, fun j f hf b hb => ?_, fun j l f g hf hg hne b hb hb' => ?_⟩
  · rcases key j f hf with ⟨_, rfl⟩ | ⟨_, hf'⟩
    · exact he
    · exact (h.own j f hf').keeps hk (fun b hb hS => h.not_sym (h.own j f hf') hb hS)
  · rcases key j f hf with ⟨_, rfl⟩ | ⟨_, hf'⟩
    · exact (ht b hb).1
    · exact Nat.lt_of_lt_of_le (h.top j f hf' b hb) hUV
  · rcases key j f hf with ⟨rfl, rfl⟩ | ⟨_, hf'⟩ <;> rcases key l g hg with ⟨rfl, rfl⟩ | ⟨_, hg'⟩
    · exact hne rfl
    · have := h.top l g hg' b hb'; have := (ht b hb).2; omega
    · have := h.top j f hf' b hb; have := (ht b hb').2; omega
    · exact h.apart j l f g hf' hg' hne b hb hb'
/-- The symbols of a cell are written. -/
theorem OwnC.write (h : OwnC w B U a n c es) {i : Nat} {e f : CellE} (he : es[i]? = some e) (hf : f.a = e.a ∧ f.n = e.n ∧ f.c = e.c ∧ f.p = e.p)
    (hk : Keeps (blkS e.a e.n) w w') (hw : OwnS w' B f.a f.n f.c f.xs) : OwnC w' B U a n c (es.set i f) := by
  have hi : i < es.length := (List.getElem?_eq_some_iff.1 he).1
  have key : ∀ j g, (es.set i f)[j]? = some g → (j = i ∧ g = f) ∨ (j ≠ i ∧ es[j]? = some g) := by
    intro j g hg
    rw [List.getElem?_set] at hg
    by_cases hij : i = j
    · subst hij
      simp only [if_true, hi] at hg
      exact .inl ⟨rfl, by simpa using hg.symm⟩
    · rw [if_neg hij] at hg
      exact .inr ⟨fun e => hij e.symm, hg⟩
  have hbf : ∀ b, blkS f.a f.n b ↔ blkS e.a e.n b := fun b => by rw [hf.1, hf.2.1]
  have hcells : (es.set i f).flatMap encC = es.flatMap encC := by
    have henc : encC f = encC e := by unfold encC; rw [hf.1, hf.2.1, hf.2.2.1, hf.2.2.2]
    have h2 := flat_set encC_len (v := .bool e.p) he (show 1 < 2 by decide) (show (encC e).set 1 (.bool e.p) = encC f by rw [henc]; rfl)
    rw [← h2]
    refine List.ext_getElem? fun m => ?_
    rw [List.getElem?_set]
    by_cases hm : i * 2 + 1 = m
    · subst hm
      have h3 := flat_at encC_len he (show (encC e)[1]? = some (.bool e.p) from rfl)
      rw [if_pos rfl, if_pos (List.getElem?_eq_some_iff.1 h3).1, h3]
    · rw [if_neg hm]
  refine ⟨⟨Nat.le_trans h.row.le hk.size, ?_, h.row.hi⟩, fun j g hg => ?_, fun j g hg b hb => ?_, fun j l g g' hg hg' hne b hb hb' => ?_⟩
  · rw [hcells]
    exact ownsRow_block h.row.row fun b hb => hk.block b (Nat.lt_of_lt_of_le (h.row.hi b hb) h.row.le) (fun hS => h.not_sym (h.own i e he) hS hb)
  · rcases key j g hg with ⟨_, rfl⟩ | ⟨hji, hg'⟩
    · exact hw
    · exact (h.own j g hg').keeps hk (fun b hb hS => h.apart j i g e hg' he hji b hb hS)
  · rcases key j g hg with ⟨_, rfl⟩ | ⟨_, hg'⟩
    · exact h.top i e he b ((hbf b).1 hb)
    · exact h.top j g hg' b hb
  · rcases key j g hg with ⟨rfl, rfl⟩ | ⟨_, hg1⟩ <;> rcases key l g' hg' with ⟨rfl, rfl⟩ | ⟨_, hg2⟩
    · exact hne rfl
    · exact h.apart _ l e g' he hg2 hne b ((hbf b).1 hb) hb'
    · exact h.apart j _ g e hg1 he hne b hb ((hbf b).1 hb')
    · exact h.apart j l g g' hg1 hg2 hne b hb hb'
end
theorem get_replicate {α : Type} {n i : Nat} {z x : α} (h : (List.replicate n z)[i]? = some x) : x = z := by
  rw [List.getElem?_replicate] at h
  split at h
  · simpa using h.symm
  · cases h
/-- A made row of cells. -/
theorem OwnC.made {w : World} {B g n : Nat} (h : w.ownsRow B 61 2 (.slice (some ⟨g, 0, none⟩) n n) n (madeCells (Value.agg #[.slice none 0 0, .bool false]).cells (n * 2)).toList) (hg : g < w.heap.size) :
    OwnC w B w.heap.size (some ⟨g, 0, none⟩) n n (List.replicate n zeroC) := by
  have e : (madeCells (Value.agg #[.slice none 0 0, .bool false]).cells (n * 2)).toList = (List.replicate n zeroC).flatMap encC := flat_made encC_len (by decide) _ zeroC rfl n
  rw [e] at h
  refine ⟨⟨Nat.le_refl _, h, fun b hb => ?_⟩, fun i e he => ?_, fun i e he b hb => ?_, fun i j e f he hf _ b hb => ?_⟩
  · rw [ownBlock_slice] at hb; simp only [Option.some.injEq] at hb; omega
  · rw [get_replicate he]; exact OwnS.empty _ _ _ _
  · rw [get_replicate he] at hb; exact absurd rfl hb.1
  · rw [get_replicate he] at hb; exact absurd rfl hb.1
theorem fill_put {α : Type} {L : List α} {n k : Nat} {z x : α} (hL : L.length = k) (hk : k < n) : (L ++ List.replicate (n - k) z).set k x = (L ++ [x]) ++ List.replicate (n - (k + 1)) z := by
  obtain ⟨r, hr⟩ : ∃ r, n - k = r + 1 := ⟨n - k - 1, by omega⟩
  rw [hr, show n - (k + 1) = r by omega, List.set_append_right _ _ (by omega), hL, Nat.sub_self, List.replicate_succ, List.set_cons_zero, List.append_assoc, List.singleton_append]
theorem fill_get {α : Type} {L : List α} {n k : Nat} {z : α} (hL : L.length = k) (hk : k < n) : (L ++ List.replicate (n - k) z)[k]? = some z := by
  rw [List.getElem?_append_right (by omega), hL, Nat.sub_self, List.getElem?_replicate]; simp; omega
/-- A cell is stored whole; its symbols are new. -/
theorem OwnC.store {w w2 w3 : World} {B g n c i : Nat} {es : List CellE} {z y : CellE} (h : OwnC w B w.heap.size (some ⟨g, 0, none⟩) n c es) (hz : es[i]? = some z) (hb : Below w.heap.size w w2) (hy : OwnS w2 w.heap.size y.a y.n y.c y.xs)
    (hw : w3 = (w2.setCell ⟨g, i * 2, none⟩ (.slice y.a y.n y.c)).setCell ⟨g, i * 2 + 1, none⟩ (.bool y.p)) :
    OwnC w3 B w3.heap.size (some ⟨g, 0, none⟩) n c (es.set i y) ∧ Keeps (· = g) w2 w3 ∧ B ≤ g ∧ g < w.heap.size ∧
      w2.cell? ⟨g, i * 2, none⟩ = some (.slice z.a z.n z.c) ∧ w2.cell? ⟨g, i * 2 + 1, none⟩ = some (.bool z.p) ∧ w2.frozen? ⟨g, i * 2, none⟩ = false ∧ w2.frozen? ⟨g, i * 2 + 1, none⟩ = false := by
  have h2 := h.old hb
  have hi : i < es.length := (List.getElem?_eq_some_iff.1 hz).1
  obtain ⟨g', hg', hB, hU, c0⟩ := h2.row.at_ encC_len hz (show (encC z)[0]? = some (.slice z.a z.n z.c) from rfl)
  obtain ⟨_, hg'', _, _, c1⟩ := h2.row.at_ encC_len hz (show (encC z)[1]? = some (.bool z.p) from rfl)
  simp only [Option.some.injEq, Addr.mk.injEq, and_true] at hg' hg''
  subst hg'
  subst hg''
  have s1 := h2.row.set encC_len (y := ⟨y.a, y.n, y.c, z.xs, z.p⟩) (v := .slice y.a y.n y.c) hz (show 0 < 2 by decide) rfl
  have hz1 : (es.set i ⟨y.a, y.n, y.c, z.xs, z.p⟩)[i]? = some ⟨y.a, y.n, y.c, z.xs, z.p⟩ := by rw [List.getElem?_set_self hi]
  have s2 := s1.1.set encC_len (y := ⟨y.a, y.n, y.c, y.xs, y.p⟩) (v := .bool y.p) hz1 (show 1 < 2 by decide) rfl
  rw [List.set_set] at s2
  simp only [Nat.add_zero] at s1 s2 c0
  have f1 := (h2.row.set encC_len (y := ⟨z.a, z.n, z.c, z.xs, y.p⟩) (v := .bool y.p) hz (show 1 < 2 by decide) rfl).2.2
  have K := s1.2.1.trans s2.2.1
  have f0 := s1.2.2
  have row := s2.1
  rw [← hw] at K row
  have hle : w.heap.size ≤ w2.heap.size := hb.size
  have hs3 := K.size
  refine ⟨?_, K, hB, hU, c0, c1, f0, f1⟩
  have K' : Keeps (fun b => (Value.slice (some ⟨g, 0, none⟩) n c).ownBlock = some b) w2 w3 := K.mono fun b _ hb => by subst hb; rfl
  refine h2.put (e := y) hi (row.up (by omega) (Nat.le_refl _)) K' (by omega) ((hy.keeps K (fun b hb hS => ?_)).mono (by omega)) (fun b hb => ?_)
  · have := (hy.lt hb).1; omega
  · have := hy.lt hb
    exact ⟨by omega, this.1⟩
/-- The poison mark of a cell is stored. -/
theorem OwnC.setp {w : World} {B U g n c i : Nat} {es : List CellE} {e : CellE} (h : OwnC w B U (some ⟨g, 0, none⟩) n c es) (he : es[i]? = some e) (q : Bool) :
    OwnC (w.setCell ⟨g, i * 2 + 1, none⟩ (.bool q)) B U (some ⟨g, 0, none⟩) n c (es.set i ⟨e.a, e.n, e.c, e.xs, q⟩) ∧ Keeps (· = g) w (w.setCell ⟨g, i * 2 + 1, none⟩ (.bool q)) ∧ B ≤ g ∧ g < U ∧
      w.cell? ⟨g, i * 2, none⟩ = some (.slice e.a e.n e.c) ∧ w.cell? ⟨g, i * 2 + 1, none⟩ = some (.bool e.p) ∧ w.frozen? ⟨g, i * 2 + 1, none⟩ = false := by
  have hi : i < es.length := (List.getElem?_eq_some_iff.1 he).1
  obtain ⟨g', hg', hB, hU, c0⟩ := h.row.at_ encC_len he (show (encC e)[0]? = some (.slice e.a e.n e.c) from rfl)
  obtain ⟨_, hg'', _, _, c1⟩ := h.row.at_ encC_len he (show (encC e)[1]? = some (.bool e.p) from rfl)
  simp only [Option.some.injEq, Addr.mk.injEq, and_true] at hg' hg''
  subst hg'
  subst hg''
  obtain ⟨s1, s2, s3⟩ := h.row.set encC_len (y := ⟨e.a, e.n, e.c, e.xs, q⟩) (v := .bool q) he (show 1 < 2 by decide) rfl
  simp only [Nat.add_zero] at c0
  have key : ∀ (j : Nat) (f : CellE), (es.set i ⟨e.a, e.n, e.c, e.xs, q⟩)[j]? = some f → ∃ f' : CellE, es[j]? = some f' ∧ f.a = f'.a ∧ f.n = f'.n ∧ f.c = f'.c ∧ f.xs = f'.xs := by
    intro j f hf
    rw [List.getElem?_set] at hf
    by_cases hij : i = j
    · subst hij
      simp only [if_true, hi] at hf
      simp only [Option.some.injEq] at hf
      subst hf
      exact ⟨e, he, rfl, rfl, rfl, rfl⟩
    · rw [if_neg hij] at hf
      exact ⟨f, hf, rfl, rfl, rfl, rfl⟩
  have K' : Keeps (fun b => (Value.slice (some ⟨g, 0, none⟩) n c).ownBlock = some b) w (w.setCell ⟨g, i * 2 + 1, none⟩ (.bool q)) := s2.mono fun b _ hb => by subst hb; rfl
  refine ⟨⟨s1, fun j f hf => ?_, fun j f hf b hb => ?_, fun j l f f2 hf hf2 hne b hb hb' => ?_⟩, s2, hB, hU, c0, c1, s3⟩
  · obtain ⟨f', hf', e1, e2, e3, e4⟩ := key j f hf
    rw [e1, e2, e3, e4]
    exact (h.own j f' hf').keeps K' (fun b hb hS => h.not_sym (h.own j f' hf') hb hS)
  · obtain ⟨f', hf', e1, e2, _⟩ := key j f hf
    rw [e1, e2] at hb
    exact h.top j f' hf' b hb
  · obtain ⟨f', hf', e1, e2, _⟩ := key j f hf
    obtain ⟨f2', hf2', e1', e2', _⟩ := key l f2 hf2
    rw [e1, e2] at hb
    rw [e1', e2'] at hb'
    exact h.apart j l f' f2' hf' hf2' hne b hb hb'

def CellE.h (e : CellE) : Option Addr × Nat := (e.a, e.n)
/-- The blocks of a slice of cells. -/
def inC (a : Option Addr) (n c : Nat) (es : List CellE) (b : Nat) : Prop := (Value.slice a n c).ownBlock = some b ∨ ∃ h, h ∈ es.map CellE.h ∧ blkS h.1 h.2 b
theorem OwnC.inC_in {w : World} {B U : Nat} {a : Option Addr} {n c : Nat} {es : List CellE} (h : OwnC w B U a n c es) {b : Nat} (hb : inC a n c es b) : inU B U b := by
  rcases hb with hb | ⟨p, hp, hb⟩
  · exact ⟨(h.row.row.lt b hb).1, h.row.hi b hb⟩
  · obtain ⟨e, he, rfl⟩ := List.mem_map.1 hp
    obtain ⟨i, hi, rfl⟩ := List.mem_iff_getElem.1 he
    exact h.in_ (List.getElem?_eq_getElem hi) hb
theorem inC_mem {a : Option Addr} {n c : Nat} {es : List CellE} {i : Nat} {e : CellE} (he : (es.map CellE.h)[i]? = some e.h) {b : Nat} (hb : blkS e.a e.n b) : inC a n c es b := .inr ⟨e.h, List.mem_of_getElem? he, hb⟩
theorem ns_of_h {es fs : List CellE} (h : es.map CellE.h = fs.map CellE.h) : es.map CellE.n = fs.map CellE.n := by
  have := congrArg (List.map Prod.snd) h
  rw [List.map_map, List.map_map] at this
  exact this
/-- What markCellS writes into cells with so many symbols each; the number behind it. -/
def mkC (k : Int) : List Nat → List (List Int × Bool)
  | [] => []
  | n :: r => (marks k n, (k + n) % 3 == 0) :: mkC (k + n + 1) r
def endC (k : Int) : List Nat → Int
  | [] => k
  | n :: r => endC (k + n + 1) r
def sumC : List Nat → Nat
  | [] => 0
  | n :: r => n + 1 + sumC r
theorem endC_eq (k : Int) (l : List Nat) : endC k l = k + sumC l := by
  induction l generalizing k with
  | nil => simp [endC, sumC]
  | cons n r ih => rw [endC, ih, sumC]; omega
theorem sumC_append (l r : List Nat) : sumC (l ++ r) = sumC l + sumC r := by
  induction l with
  | nil => simp [sumC]
  | cons n l ih => rw [List.cons_append, sumC, sumC, ih]; omega
theorem sumC_take_le (l : List Nat) (k : Nat) : sumC (l.take k) ≤ sumC l := by
  have := sumC_append (l.take k) (l.drop k)
  rw [List.take_append_drop] at this; omega
theorem sumC_at {l : List Nat} {k n : Nat} (h : l[k]? = some n) : sumC (l.take (k + 1)) = sumC (l.take k) + (n + 1) := by
  rw [take_snoc h, sumC_append]; rfl
theorem mkC_snoc (k : Int) (l : List Nat) (n : Nat) : mkC k (l ++ [n]) = mkC k l ++ [(marks (k + sumC l) n, (k + sumC l + n) % 3 == 0)] := by
  induction l generalizing k with
  | nil => simp [mkC, sumC]
  | cons m l ih =>
    rw [List.cons_append, mkC, mkC, ih, sumC, List.cons_append]
    have e : k + ((m + 1 + sumC l : Nat) : Int) = k + m + 1 + sumC l := by omega
    rw [e]
theorem length_mkC (k : Int) (l : List Nat) : (mkC k l).length = l.length := by
  induction l generalizing k with
  | nil => rfl
  | cons n r ih => simp [mkC, ih]
theorem mkC_at {k : Int} {l : List Nat} {i n : Nat} (h : l[i]? = some n) : (mkC k l)[i]? = some (marks (k + sumC (l.take i)) n, (k + sumC (l.take i) + n) % 3 == 0) := by
  have h1 := mkC_snoc k (l.take i) n
  rw [← take_snoc h] at h1
  have hi : i < l.length := (List.getElem?_eq_some_iff.1 h).1
  have h2 : mkC k l = mkC k (l.take (i + 1)) ++ (mkC k l).drop (i + 1) := by
    have : ∀ (l : List Nat) (k : Int) (j : Nat), (mkC k l).take j = mkC k (l.take j) := by
      intro l
      induction l with
      | nil => intro k j; simp [mkC]
      | cons m l ih => intro k j; cases j with
        | zero => simp [mkC]
        | succ j => simp [mkC, ih]
    rw [← this, List.take_append_drop]
  rw [h2, List.getElem?_append_left (by rw [length_mkC]; simp; omega), h1, List.getElem?_append_right (by rw [length_mkC]; simp; omega), length_mkC]
  simp [Nat.min_eq_left (Nat.le_of_lt hi)]
end Go.Proofs.Ytnfkkkjookfdiaa
