/- The text of a word: FormatLine, the program's and the reference's. -/
import Derived.Test.YtggjheapjklhgaaDoorSymW
import Derived.Test.YtggjheapjklhgaaDoorMem
import Derived.Laws.IdiomStrings
namespace Go.Proofs.YtggjheapjklhgaaDoor
open Go.RowKit

theorem infoU8 : (Tryd.prog.info? 5).map (fun i => (i.zero, i.size, i.bytes)) = some (some (.int .u8 0), 1, 1) := by kernel_rfl
/-- The digit of an element. -/
def figU (x : Int) : UInt8 := UInt8.ofNat (if x < 10 then 48 + x else 87 + x).toNat
def byteV (b : UInt8) : Value := .int .u8 (b.toNat : Int)
/-- The call owns block g, which holds the bytes. -/
def BRow (w : World) (g n cap : Nat) (l : List UInt8) : Prop := w.ownsRow g 5 1 (.slice (some ⟨g, 0, none⟩) n cap) n (l.map byteV)
theorem BRow.empty (w : World) : BRow (w.alloc (.cells #[] 5)) w.heap.size 0 0 [] := by
  have := World.ownsRow_lit (base := w.heap.size) (e := 5) (size := 1) w #[] 0 (Nat.le_refl _) (by unfold maxLen; omega) (by simp)
  simpa [BRow] using this
theorem BRow.rebase {w : World} {B g n cap : Nat} {xs : List UInt8} (h : BRow w g n cap xs) (hB : B ≤ g) : w.ownsRow B 5 1 (.slice (some ⟨g, 0, none⟩) n cap) n (xs.map byteV) := by
  refine ⟨h.1, ?_⟩
  rcases h.2 with ⟨hv, _⟩ | ⟨g', cap', cur, hv, _, rest⟩
  · simp at hv
  · have : g = g' := by simp at hv; exact hv.1
    exact .inr ⟨g', cap', cur, hv, by omega, rest⟩
theorem BRow.of_owns {w : World} {B n : Nat} {v : Value} {xs : List UInt8} (h : w.ownsRow B 5 1 v n (xs.map byteV)) (hn : v ≠ .slice none 0 0) : ∃ g cap, v = .slice (some ⟨g, 0, none⟩) n cap ∧ B ≤ g ∧ BRow w g n cap xs := by
  rcases h.2 with ⟨hv, _⟩ | ⟨g', cap', cur, hv, hB, rest⟩
  · exact absurd hv hn
  · subst hv
    exact ⟨g', cap', rfl, hB, h.1, .inr ⟨g', cap', cur, rfl, Nat.le_refl _, rest⟩⟩
theorem BRow.length {w : World} {g n cap : Nat} {xs : List UInt8} (h : BRow w g n cap xs) : xs.length = n := by
  have := h.1; simpa using this
theorem BRow.cell {w : World} {g n cap : Nat} {xs : List UInt8} (h : BRow w g n cap xs) {i : Nat} (hi : i < xs.length) : w.cell? ⟨g, i, none⟩ = some (.int .u8 (xs[i].toNat : Int)) := by
  have := World.ownsRow.cellAt h i (by rw [← h.length]; omega)
  rw [this]; simp [byteV, hi]
theorem BRow.drewN {w : World} {g n cap : Nat} {xs : List UInt8} (h : BRow w g n cap xs) (k : Nat) : BRow (w.drewN k) g n cap xs := h
theorem oneCell_byteV (l : List UInt8) : ∀ u ∈ l.map byteV, u.oneCell' = true := by
  intro u hu
  obtain ⟨b, _, rfl⟩ := List.mem_map.1 hu
  rfl
/-- string(b) of a row of bytes. -/
theorem run_string_row {w : World} {g n cap : Nat} {xs : List UInt8} (h : BRow w g n cap xs) : (convert 29 9 (.slice (some ⟨g, 0, none⟩) n cap)).run Tryd.prog w = .ok (.string ⟨xs.toArray⟩) w := by
  have hl := h.length
  subst hl
  refine run_convert_bytes_back w 29 9 5 ⟨g, 0, none⟩ cap xs Tryd.underlying29 Tryd.underlying5 Tryd.underlying9 (fun j hj => ?_)
  have e : (⟨g, 0, none⟩ : Addr).add j = ⟨g, j, none⟩ := by unfold Addr.add; split <;> simp_all
  rw [e]; exact h.cell hj
/-- append of one byte to a row of the call's own. -/
theorem wpList_append_byte {ops : Array Oper} {rest : List Oper} {o : Oper} {a : Act} {Q : Exit → Act → World → Prop} (hgd : o.guard = none) (s x : Operand)
    (ho : o.op = .call { callee := .builtin .append, args := #[s, x], argTypes := #[29, 29] })
    (W : World) (B g n cap : Nat) (xs : List UInt8) (hrow : BRow W g n cap xs) (hg : B ≤ g) (hs : a.eval s = .slice (some ⟨g, 0, none⟩) n cap) (y : UInt8) (hx : a.eval x = .slice (some ⟨W.heap.size, 0, none⟩) 1 1) (hB : B ≤ W.heap.size) (hn : n ≤ 1099511627776)
    (h : ∀ g' cap' w', B ≤ g' → BRow w' g' (n + 1) cap' (xs ++ [y]) → Below B W w' → wpList Tryd.prog ops Q rest (a.put o.dst (.slice (some ⟨g', 0, none⟩) (n + 1) cap')) w') :
    wpList Tryd.prog ops Q (o :: rest) a (W.alloc (.cells #[.int .u8 (y.toNat : Int)] 5)) := by
  obtain ⟨i0, hi, hz0, hz1, hz2⟩ := info_parts infoU8
  have hown := hrow.rebase hg
  have hlt := hown.lt
  refine wpList_append_own _ hgd s x 29 ho B 5 i0 (.int .u8 0) 1 1 Tryd.underlying29 hi hz0 hz1 hz2 rfl (by decide) _ n (xs.map byteV) hs (hown.alloc _) ⟨W.heap.size, 0, none⟩ 1 1 ([y].map byteV) hx rfl (cells_new _ _ _) (oneCell_byteV [y]) (by unfold maxLen; omega) (by omega) (by simp; omega) ?_
  intro v' w' hown' hgrow hnil
  rw [← List.map_append] at hown'
  obtain ⟨g', cap', rfl, hg', hrow'⟩ := BRow.of_owns hown' (by
    intro hv
    rw [hv] at hown'
    rcases hown'.2 with ⟨_, h0⟩ | ⟨_, _, _, h1, _⟩
    · omega
    · cases h1)
  refine h g' cap' w' hg' hrow' (((Below.refl B W).alloc hB _).grown hgrow (by simp; omega) fun k hk => (hlt k (by simpa using hk)).1)

theorem l01Figure_any (x : Int) (w : World) (h0 : 0 ≤ x) (h1 : x ≤ 15) :
    Calls Tryd.prog 21 #[.int .i64 x] w fun e w' => e = .returned (.int .u8 ((figU x).toNat : Int)) ∧ w = w' := by
  by_cases hx : x < 10
  · have hf : ((figU x).toNat : Int) = 48 + x := by
      unfold figU; rw [if_pos hx]; simp; omega
    have HF := hid hf
    clear hf
    go_enter Tryd.func21, Tryd.ntmps21
    go_wp2
    go_ret
    exact ⟨by rw [HF.out]; rfl, rfl⟩
  · have hf : ((figU x).toNat : Int) = 97 + x - 10 := by
      unfold figU; rw [if_neg hx]; simp; omega
    have HF := hid hf
    clear hf
    go_enter Tryd.func21, Tryd.ntmps21
    go_wp2
    go_ret
    exact ⟨by rw [HF.out]; rfl, rfl⟩

/-- The text. -/
def fmtL (xs : List Int) : List UInt8 := if symOk xs 11 then xs.map figU else []
theorem fmtL_yes {xs : List Int} (h : symOk xs 11 = true) : fmtL xs = xs.map figU := by rw [fmtL, if_pos h]
theorem fmtL_no {xs : List Int} (h : symOk xs 11 = false) : fmtL xs = [] := by rw [fmtL, if_neg (by simp [h])]
theorem el_of_ok {xs : List Int} {n : Int} {k : Nat} {x : Int} (h : symOk xs n = true) (hx : xs[k]? = some x) : 0 ≤ x ∧ x ≤ 15 := by
  unfold symOk allEl at h
  simp only [Bool.and_eq_true, List.all_eq_true] at h
  exact inB_iff.1 (h.1 x (List.mem_of_getElem? hx))
theorem len_of_ok {xs : List Int} {n : Nat} (h : symOk xs n = true) : xs.length = n := by
  unfold symOk at h
  simp only [Bool.and_eq_true, beq_iff_eq] at h
  omega
theorem map_snoc (xs : List Int) (k : Nat) (x : Int) (h : xs[k]? = some x) : (xs.take (k + 1)).map figU = (xs.take k).map figU ++ [figU x] := by
  rw [take_snoc h]; simp

theorem fig_fin : ∀ i : Fin 16, ((⟨#[48, 49, 50, 51, 52, 53, 54, 55, 56, 57, 97, 98, 99, 100, 101, 102]⟩ : ByteArray).extract i.val (i.val + 1)).data.toList = [figU i.val] := by decide +kernel
theorem fig_at {x : Int} (x0 : 0 ≤ x) (x1 : x ≤ 15) : ((⟨#[48, 49, 50, 51, 52, 53, 54, 55, 56, 57, 97, 98, 99, 100, 101, 102]⟩ : ByteArray).extract x.toNat (x + 1).toNat).data.toList = [figU x] := by
  have h := fig_fin ⟨x.toNat, by omega⟩
  have e : ((x.toNat : Nat) : Int) = x := by omega
  simp only [e] at h
  rw [← h, show (x + 1).toNat = x.toNat + 1 by omega]
theorem str_step (l : List UInt8) (s : ByteArray) (u : UInt8) (h : s.data.toList = [u]) : Value.string (⟨l.toArray⟩ ++ s) = Value.string ⟨(l ++ [u]).toArray⟩ := by
  congr 1
  apply ByteArray.ext
  apply Array.toList_inj.1
  simp [h]
end Go.Proofs.YtggjheapjklhgaaDoor
