/- Plain laws of a trace's text: one line an event; the activations' times ascend. -/
import Derived.Test.YtggjheapjklhgaaDoorTxP
import Derived.Test.YtggjheapjklhgaaDoorTrW
namespace Go.Proofs.YtggjheapjklhgaaDoor
open Go.RowKit
def c10 (l : List UInt8) : Nat := l.countP (· == 10)
theorem c10_append (a b : List UInt8) : c10 (a ++ b) = c10 a + c10 b := by unfold c10; rw [List.countP_append]
theorem c10_none {l : List UInt8} (h : ∀ b ∈ l, b ≠ 10) : c10 l = 0 := by
  unfold c10
  rw [List.countP_eq_zero]
  intro b hb
  simpa using h b hb
theorem c10_at {l : List UInt8} {k : Nat} {b : UInt8} (h : l[k]? = some b) : c10 (l.take (k + 1)) = c10 (l.take k) + (if b = 10 then 1 else 0) := by
  rw [take_snoc h, c10_append]
  unfold c10
  by_cases hb : b = 10
  · subst hb; rfl
  · rw [if_neg hb, List.countP_cons]; simp [hb]
theorem digU_ne {d : Nat} (h : d < 10) : digU d ≠ 10 := by
  intro e
  have := congrArg UInt8.toNat e
  unfold digU at this
  simp at this
  omega
theorem dec_ne : ∀ (n : Nat), ∀ b ∈ Lib.decDigits n, b ≠ 10 := by
  intro n
  induction n using Nat.strongRecOn with
  | _ n ih =>
    intro b hb
    by_cases h : n < 10
    · rw [dec_one h] at hb
      simp only [List.mem_singleton] at hb
      subst hb
      exact digU_ne h
    · rw [dec_step h] at hb
      rcases List.mem_append.1 hb with h1 | h1
      · exact ih (n / 10) (by omega) b h1
      · simp only [List.mem_singleton] at h1
        subst h1
        exact digU_ne (by omega)
theorem itoa_ne (n : Int) : ∀ b ∈ Lib.itoa n, b ≠ 10 := by
  intro b hb
  by_cases h : 0 ≤ n
  · rw [itoa_pos h] at hb; exact dec_ne _ b hb
  · rw [itoa_min (by omega)] at hb
    rcases List.mem_cons.1 hb with rfl | h1
    · decide
    · exact dec_ne _ b h1
theorem word_ne (k : Int) : ∀ b ∈ wordL k, b ≠ 10 := by
  intro b hb
  unfold wordL at hb
  rw [List.getD_eq_getElem?_getD] at hb
  cases h : wordsL[k.toNat]? with
  | none => rw [h] at hb; simp at hb
  | some x =>
    rw [h] at hb
    have hm := List.mem_of_getElem? h
    have hall : ∀ x ∈ wordsL, ∀ b ∈ x, b ≠ 10 := by decide
    exact hall x hm b hb
theorem cmd_ne (C : Cmd) : ∀ b ∈ cmdText C, b ≠ 10 := by
  intro b hb
  have piece : ∀ (u : Bool) (n : Int), b ∈ (if u = true then (32 : UInt8) :: Lib.itoa n else []) → b ≠ 10 := by
    intro u n h
    split at h
    · rcases List.mem_cons.1 h with rfl | h1
      · decide
      · exact itoa_ne n b h1
    · cases h
  unfold cmdText at hb
  split at hb
  · rcases List.mem_append.1 hb with h | h
    · exact word_ne _ b h
    · rcases List.mem_append.1 h with h | h
      · exact piece _ _ h
      · rcases List.mem_append.1 h with h | h
        · exact piece _ _ h
        · exact piece _ _ h
  · cases hb
theorem c10_ev (e : Ev) : c10 (evText e) = 1 := by
  unfold evText
  rw [show (32 : UInt8) :: (cmdText e.c ++ [10]) = [32] ++ (cmdText e.c ++ [10]) from rfl, c10_append, c10_append, c10_append, c10_none (itoa_ne e.t), c10_none (cmd_ne e.c)]
  rfl
/-- As many line ends as events. -/
theorem c10_tr (es : List Ev) : c10 (trText es) = es.length := by
  induction es with
  | nil => rfl
  | cons e es ih =>
    unfold trText at ih ⊢
    rw [List.flatMap_cons, c10_append, ih, c10_ev, List.length_cons]
    omega
theorem TrOk.atE {G : Geo} {T : Tim} {es : List Ev} {D : RkD} (h : TrOk G T es D) {k : Nat} {e : Ev} (he : es[k]? = some e) : ∃ D', chk G T (es.take k) D' e = 0 := by
  obtain ⟨D', _, _, h3⟩ := h.take k
  have h1 := h.pre (k + 1)
  rw [take_snoc he, h3] at h1
  refine ⟨D', ?_⟩
  unfold faultFrom at h1
  split at h1
  · assumption
  · rename_i hc
    exact absurd (congrArg Prod.fst h1) hc
theorem TrOk.laterE {G : Geo} {T : Tim} {es : List Ev} {D : RkD} (h : TrOk G T es D) {k : Nat} {e : Ev} (he : es[k]? = some e) : ∀ x ∈ es.take k, x.t < e.t := by
  obtain ⟨D', hc⟩ := h.atE he
  obtain ⟨h1, _, h3, _⟩ := chk_zero hc
  intro x hx
  have h3' : ¬ e.t < earl G T (es.take k) e.c := by simpa using h3
  have : x.t < earl G T (es.take k) e.c := (earlF_lt x.t (es.take k) 0).2 (.inr ⟨x, hx, by have := gapF_bd h.tim G x.c e.c; omega⟩)
  omega
theorem acts_mem {es : List Ev} {x : Int} (h : x ∈ actsOf es) : ∃ e ∈ es, e.t = x := by
  induction es with
  | nil => cases h
  | cons e es ih =>
    unfold actsOf at h
    split at h
    · rcases List.mem_cons.1 h with rfl | h1
      · exact ⟨e, List.mem_cons_self .., rfl⟩
      · obtain ⟨y, hy, e1⟩ := ih h1
        exact ⟨y, List.mem_cons_of_mem _ hy, e1⟩
    · obtain ⟨y, hy, e1⟩ := ih h
      exact ⟨y, List.mem_cons_of_mem _ hy, e1⟩
theorem TrOk.asc {G : Geo} {T : Tim} {es : List Ev} {D : RkD} (h : TrOk G T es D) : ∀ k, k ≤ es.length → (actsOf (es.take k)).Pairwise (· < ·)
  | 0, _ => by rw [List.take_zero]; exact List.Pairwise.nil
  | k + 1, hk => by
    have he : es[k]? = some (es[k]'(by omega)) := List.getElem?_eq_getElem _
    have ih := TrOk.asc h k (by omega)
    rw [actsOf_at he]
    split
    · rw [List.pairwise_append]
      refine ⟨ih, List.pairwise_singleton _ _, fun x hx y hy => ?_⟩
      simp only [List.mem_singleton] at hy
      subst hy
      obtain ⟨e, hm, rfl⟩ := acts_mem hx
      exact h.laterE he e hm
    · rw [List.append_nil]; exact ih
theorem TrOk.asc_at {G : Geo} {T : Tim} {es : List Ev} {D : RkD} (h : TrOk G T es D) {i : Nat} {x y : Int} (hx : (actsOf es)[i]? = some x) (hy : (actsOf es)[i + 1]? = some y) : x < y := by
  have hp := h.asc es.length (Nat.le_refl _)
  rw [List.take_length] at hp
  obtain ⟨h1, e1⟩ := List.getElem?_eq_some_iff.1 hx
  obtain ⟨h2, e2⟩ := List.getElem?_eq_some_iff.1 hy
  rw [← e1, ← e2]
  exact List.pairwise_iff_getElem.1 hp i (i + 1) h1 h2 (by omega)
theorem TrOk.timesIn {G : Geo} {T : Tim} {es : List Ev} {D : RkD} (h : TrOk G T es D) (hl : es.length ≤ 1000) : TimesIn es := fun e he => by have := h.bd e he; omega
end Go.Proofs.YtggjheapjklhgaaDoor
