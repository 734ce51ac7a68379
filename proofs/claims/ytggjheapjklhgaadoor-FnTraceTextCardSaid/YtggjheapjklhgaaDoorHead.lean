/- The closed facts of a row that hang on the program's head, by its words: so that the kernel need not take the whole head apart. -/
import Derived.Test.YtggjheapjklhgaaDoorRows
import Derived.WalkKit
import Derived.ProofKit
namespace Go.Proofs.YtggjheapjklhgaaDoor
open Go.RowKit

theorem words_cons (w : List Char) (h : w.all (fun c => c != Char.ofNat 32) = true) (r : List Char) : wordsSigns (w ++ Char.ofNat 32 :: r) = w :: wordsSigns r := by
  induction w with
  | nil => rfl
  | cons c w ih =>
    simp only [List.all_cons, Bool.and_eq_true, bne_iff_ne, ne_eq] at h
    have hc : ¬ c = Char.ofNat 32 := h.1
    rw [List.cons_append, wordsSigns]
    · rw [ih h.2]
    · exact hc

def hN : List Nat := [104, 97, 114, 110, 101, 115, 115]
def sN : List Nat := [53, 102, 49, 98, 57, 56, 97, 53, 48, 53, 100, 97, 51, 49, 100, 51, 99, 102, 55, 50, 50, 53, 49, 49, 97, 98, 49, 99, 50, 54, 98, 53, 102, 57, 100, 51, 54, 57, 99, 98, 49, 57, 56, 56, 102, 98, 52, 100, 56, 101, 53, 100, 57, 54, 48, 56, 55, 99, 99, 54, 50, 51, 49, 99]
def cN : List Nat := [99, 117, 116]
def rN : List Nat := [97, 116, 32, 108, 111, 111, 112, 46, 101, 120, 97, 109, 112, 108, 101, 47, 103, 48, 48, 57, 55, 55, 47, 108, 97, 119, 115, 46, 70, 110, 69, 120, 97, 99, 116, 70, 111, 114, 109, 97, 116, 84, 114, 97, 99, 101, 32, 108, 111, 111, 112, 46, 101, 120, 97, 109, 112, 108, 101, 47, 103, 48, 48, 57, 55, 55, 47, 108, 97, 119, 115, 46, 70, 110, 84, 114, 97, 99, 101, 84, 101, 120, 116]
theorem head_text : Tryd.prog.initOrder = String.ofList (hN.map Char.ofNat ++ Char.ofNat 32 :: (sN.map Char.ofNat ++ Char.ofNat 32 :: (cN.map Char.ofNat ++ Char.ofNat 32 :: rN.map Char.ofNat))) := by kernel_rfl
theorem head_list : Tryd.prog.initOrder.toList = hN.map Char.ofNat ++ Char.ofNat 32 :: (sN.map Char.ofNat ++ Char.ofNat 32 :: (cN.map Char.ofNat ++ Char.ofNat 32 :: rN.map Char.ofNat)) := by
  rw [head_text, String.toList_ofList]
theorem head_rest (X : List (List Char)) : behindMainWord (hN.map Char.ofNat :: sN.map Char.ofNat :: X) = X := by kernel_rfl
theorem head_words : behindMainWord (wordsSigns Tryd.prog.initOrder.toList) = cN.map Char.ofNat :: wordsSigns (rN.map Char.ofNat) := by
  rw [head_list, words_cons _ (by kernel_rfl), words_cons _ (by kernel_rfl), words_cons _ (by kernel_rfl), head_rest]
theorem later : Tryd.prog.laysLater = false := by kernel_rfl
theorem reflects : Tryd.prog.bearsReflect = false := by kernel_rfl
theorem head_lifts : Tryd.prog.headLifts = [] := by
  unfold Program.headLifts
  rw [head_words]
  generalize wordsSigns (rN.map Char.ofNat) = X
  kernel_rfl
theorem strip_cut (X : List (List Char)) : stripLifts liftWords (cN.map Char.ofNat :: X) = ([], cN.map Char.ofNat :: X) := by kernel_rfl
theorem cut_word : (cN.map Char.ofNat == "cut".toList) = true := by kernel_rfl
theorem cut_word' : (some (cN.map Char.ofNat) == some "cut".toList) = true := by kernel_rfl
theorem not_gc : (cN.map Char.ofNat == "gc".toList) = false := by kernel_rfl
theorem not_spec : (cN.map Char.ofNat == "spec".toList) = false := by kernel_rfl
theorem not_carried : (cN.map Char.ofNat == "carried".toList) = false := by kernel_rfl
theorem not_carried' : (some (cN.map Char.ofNat) == some "carried".toList) = false := by kernel_rfl
theorem door_fits : Tryd.prog.doorFits [] = true := by kernel_rfl
theorem may_of {P : Program} {c : List Char} {r : List (List Char)} (h : behindMainWord (wordsSigns P.initOrder.toList) = c :: r) (a1 : (c == "gc".toList) = false) (a2 : (c == "spec".toList) = false) (a3 : (c == "carried".toList) = false)
    (hs : stripLifts liftWords (c :: r) = ([], c :: r)) (hc : (some c == some "cut".toList) = true) (hl : P.laysLater = false) (hr : P.bearsReflect = false) (hd : P.doorFits [] = true) : P.mayEnter = true := by
  unfold Program.mayEnter
  rw [h]
  simp only [a1, a2, a3, hs, hl, hr, hd, List.head?_cons, hc, List.contains_nil, Bool.false_and, Bool.false_or, Bool.not_false, Bool.and_self, Bool.and_true, Bool.or_true]
theorem may_enter : Tryd.prog.mayEnter = true := may_of head_words not_gc not_spec not_carried (strip_cut _) cut_word' later reflects door_fits
theorem final_of {P : Program} {c : List Char} {r : List (List Char)} (h : behindMainWord (wordsSigns P.initOrder.toList) = c :: r) (hc : (some c == some "carried".toList) = false) (hl : P.headLifts = []) : P.liftsFinal = false := by
  unfold Program.liftsFinal
  rw [h, hl]
  simp only [List.head?_cons, hc]
  rfl
theorem lifts_final : Tryd.prog.liftsFinal = false := final_of head_words not_carried' head_lifts
theorem make_of {P : Program} {c : List Char} {r : List (List Char)} (h : behindMainWord (wordsSigns P.initOrder.toList) = c :: r) (a1 : (c == "gc".toList) = false) (a2 : (c == "spec".toList) = false) (hc : (c == "cut".toList) = true) : P.make = some .cut := by
  unfold Program.make
  rw [h]
  simp only [a1, a2, hc]
  rfl
theorem make_cut : Tryd.prog.make = some .cut := make_of head_words not_gc not_spec cut_word
theorem laid_out : laidOutB Tryd.prog = true := by kernel_rfl
theorem maps_rowed : mapsRowed Tryd.prog = true := by kernel_rfl
theorem stops_none : Tryd.prog.stops = [] := by kernel_rfl
theorem stop_knobs : Tryd.prog.stopKnobs = [] := by kernel_rfl
theorem plain_keys : Tryd.prog.plainKeys = true := by kernel_rfl
theorem stops_heard : Tryd.prog.stopsHeard = true := by kernel_rfl

set_option maxRecDepth 100000 in
/-- The row's closed facts, one by one; those of the program's head are proved above. -/
theorem facts_of (f : FuncId) (fn : Func) (s : ChangeSpec) (c : OpenClaim)
    (k1 : c.wf (OpenSpec.ofChange s) = true) (k4 : fn.params.all (Tryd.prog.readableRec ·) = true) (k5 : namedTie Tryd.prog c.named s.vars = true)
    (k6 : (c.stops == []) = true) (k8 : (c.knobs == []) = true)
    (k10 : (c.inPlace == Tryd.prog.inPlace f) = true) (k11 : (c.unfollowed == Tryd.prog.unfollowed f) = true) (k12 : (c.recurses == Tryd.prog.recurses f) = true) (k13 : (c.named == Tryd.prog.varsNamed f) = true)
    (k14 : (c.maps == (fn.params.toList ++ s.plain.varTypes Tryd.prog).any (Tryd.prog.mapsRec ·)) = true) (k15 : (c.ifaces == (fn.params.toList ++ s.plain.varTypes Tryd.prog).any (Tryd.prog.ifacesRec ·)) = true) (k16 : (c.mapsOut == Tryd.prog.mapsAmong fn.resultTypes.toList) = true)
    (k17 : (c.loops == (fn.params.toList ++ s.plain.varTypes Tryd.prog).any (Tryd.prog.loopsFrom ·)) = true) (k17b : (c.wideKeys == (fn.params.toList ++ s.plain.varTypes Tryd.prog ++ fn.resultTypes.toList).any (Tryd.prog.wideKeysFrom ·)) = true)
    (k18 : s.vars.all (Tryd.prog.varReadable ·) = true) (k19 : fn.resultTypes.all (fun t => Tryd.prog.readableRec t && decide (t < Tryd.prog.types.size)) = true) (k20 : (c.ifacesOut == fn.resultTypes.toList.any (Tryd.prog.ifacesRec ·)) = true) (k21 : (c.loopsOut == fn.resultTypes.toList.any (Tryd.prog.loopsFrom ·)) = true)
    (k22 : (c.plainKeys == true) = true) (k23 : c.shortTexts.isNone = true) (k25 : (c.lifted == false) = true) (k26 : (some Make.cut == some c.make) = true)
    (k27 : (c.kinds == (if c.domain.isEmpty then [] else fn.params.toList.map fun t => match Tryd.prog.underlying t with | some (.int k) => some k | _ => none)) = true) (k28 : (c.pinned == c.pinnedBy) = true)
    (k29 : (c.veiled == (fn.params.toList ++ s.plain.varTypes Tryd.prog ++ fn.resultTypes.toList).any (Tryd.prog.veiledRec ·)) = true) (k30 : c.veiledFits Tryd.prog fn.params.toList (fn.params.toList ++ s.plain.varTypes Tryd.prog ++ fn.resultTypes.toList) = true) :
    joinedFacts Tryd.prog f fn s c = true := by
  unfold joinedFacts
  simp only [Bool.and_eq_true]
  rw [laid_out, maps_rowed, stops_none, stop_knobs, plain_keys, stops_heard, may_enter, lifts_final, make_cut]
  exact ⟨⟨⟨⟨⟨⟨⟨⟨⟨⟨⟨⟨⟨⟨⟨⟨⟨⟨⟨⟨⟨⟨⟨⟨⟨⟨⟨⟨⟨⟨⟨k1, rfl⟩, rfl⟩, k4⟩, k5⟩, k6⟩, rfl⟩, k8⟩, rfl⟩, k10⟩, k11⟩, k12⟩, k13⟩, k14⟩, k15⟩, k16⟩, k17⟩, k17b⟩, k18⟩, k19⟩, k20⟩, k21⟩, k22⟩, k23⟩, rfl⟩, rfl⟩, k25⟩, k26⟩, k27⟩, k28⟩, k29⟩, k30⟩
end Go.Proofs.YtggjheapjklhgaaDoor
