/- The door's condition: the listed tables; events that came in, with their times. -/
import Derived.Test.YtggjheapjklhgaaDoorRows
import Derived.Test.YtggjheapjklhgaaDoorTxR
import Derived.Test.YtggjheapjklhgaaDoorOpen
import Derived.LaidMore
import Derived.LaidHandle
import Derived.Stop.Joined
import Derived.Stop.LaidErr
import Derived.Lib.LaidTab
namespace Go.Proofs.YtggjheapjklhgaaDoor
open Go.ChangeShapes Go.WideShapes Go.ChangeAt Go.RowKit Go.Joins Go.Deep

/-- The tables that both rows list. -/
def laid3 : List (String × DataW Unit) := [("math/bits.deBruijn32tab", Rows.laid_math_bits_deBruijn32tab), ("math/bits.deBruijn64tab", Rows.laid_math_bits_deBruijn64tab), ("internal/strconv.uint64pow10", Rows.laid_internal_strconv_uint64pow10)]
theorem pow_data : (Rows.laid_internal_strconv_uint64pow10 : DataW Unit) = Lib.tabData .u64 Lib.pow10Tab := by
  simp [Rows.laid_internal_strconv_uint64pow10, Lib.tabData, Lib.pow10Tab, List.range, List.range.loop]
theorem tab_of_laid {W : World} (h : laidMetH Tryd.prog laid3 W) : Tab W := by
  rw [MakeChecks.laidMetH_plain _ _ _ (by kernel_rfl)] at h
  have h := h.tail.tail
  rw [pow_data] at h
  have hty : (Tryd.prog.globals[(Tryd.prog.globalNamed "internal/strconv.uint64pow10").getD 0]?).map (·.type) = some ((((Tryd.prog.globals[(Tryd.prog.globalNamed "internal/strconv.uint64pow10").getD 0]?).map (·.type))).getD 0) := by kernel_rfl
  refine Lib.tabIs_of_head (g := (Tryd.prog.globalNamed "internal/strconv.uint64pow10").getD 0) (e := 99) (n := 20) gPow hty (by kernel_rfl) (by kernel_rfl) (by kernel_rfl) (by kernel_rfl) h
/-- The door's own heap meets the condition. -/
theorem door_met (os : Os) (args : Array Value) : laidMetH Tryd.prog laid3 ((World.doorLaid Tryd.prog 400 os).forCall (fun _ _ => 0) ⟨#[], args, []⟩).memory :=
  laidMetH_of_parts3 (fuel := 8) (laidMet_of_run' 8 (by kernel_rfl) (by kernel_rfl)) (by kernel_rfl) (by kernel_rfl)

section
variable {H : Type} {enc : TypeId × Value → H} {w : World} {base : Nat} {spare : Nat → Bool} {held : Bool}
theorem trod_event_t {fuel : Nat} {e : Ev} {y : DataW H × List MemPlace} (h : DataW.trod enc Tryd.prog w base spare held fuel 48 (encE e) = some y) :
    -9223372036854775808 ≤ e.t ∧ e.t ≤ 9223372036854775807 := by
  obtain ⟨xs, n, _, _, hlen, hxl, hf⟩ := DataW.trod_struct Tryd.underlying48 h
  have h0 : DataW.trod enc Tryd.prog w base spare held n 3 (List.take (Tryd.prog.cellsOf 3) (List.drop 0 (encE e))) = xs[0]? := hf 0 _ rfl
  rw [show Tryd.prog.cellsOf 3 = 1 by kernel_rfl] at h0
  have hx : xs.length = 2 := hxl
  have e0 : xs[0]? = some (xs[0]'(by omega)) := List.getElem?_eq_getElem _
  rw [e0] at h0
  obtain ⟨m, hm, _, hw⟩ := DataW.trod_int Tryd.underlying3 h0
  have hm' : e.t = m := by simpa [encE] using hm
  subst hm'
  simp only [Lit.wf, Bool.and_eq_true, decide_eq_true_eq] at hw
  exact hw
set_option maxRecDepth 100000 in
theorem open_events_t {r : Reach} {b0 : Nat} {v : Value} {d : DataW H} {p : List MemPlace} (hv : Value.okWide Tryd.prog w r b0 22 v) (h : DataW.Trod enc Tryd.prog w base spare held 22 v d p) :
    ∃ E : EvsE, v = .slice E.a E.n E.c ∧ ArgEvs w E ∧ TimesIn E.es := by
  obtain ⟨E, rfl, hA⟩ := open_events hv h
  refine ⟨E, rfl, hA, fun e he => ?_⟩
  obtain ⟨i, hi⟩ := List.getElem?_of_mem he
  have hlt : i < E.es.length := (List.getElem?_eq_some_iff.1 hi).1
  have hlen := hA.reads.len
  obtain ⟨b, o, ha, _, hc⟩ := hA.reads.recs i e hi
  have hc0 := hc 0 _ rfl
  obtain ⟨fuel, hf⟩ := h
  have hf' : DataW.trod enc Tryd.prog w base spare held fuel 22 [.slice E.a E.n E.c] = some (d, p) := hf
  rcases open_slice Tryd.underlying22 hf' with ⟨hcs, _⟩ | ⟨a, len, cap, m, n, D, Pl, hcs, _, hl, hm, hmm, _, hi2⟩
  · simp only [List.cons.injEq, and_true, Value.slice.injEq] at hcs
    omega
  · simp only [List.cons.injEq, and_true, Value.slice.injEq] at hcs
    have hlm : len ≤ m := by rw [hmm]; split <;> omega
    obtain ⟨cs', hcc, ht⟩ := hi2 i (by omega)
    rw [cellsOf_lev] at hcc
    obtain ⟨e', he'⟩ := trod_event ht
    subst he'
    obtain ⟨_, _, hat⟩ := World.cells?_some hcc
    have h0 := hat 0 (by decide)
    have hab : a = ⟨b, o, none⟩ := by rw [ha] at hcs; exact (Option.some.inj hcs.1).symm
    subst hab
    have h1 : w.cell? ⟨b, o + i * 5, none⟩ = some (.int .i64 e'.t) := by rw [add_at, add_zero_] at h0; simpa [encE] using h0
    have h2 : w.cell? ⟨b, o + i * 5, none⟩ = some (.int .i64 e.t) := by simpa using hc0
    rw [h1] at h2
    simp only [Option.some.injEq, Value.int.injEq, true_and] at h2
    rw [← h2]
    exact trod_event_t ht
end
end Go.Proofs.YtggjheapjklhgaaDoor
