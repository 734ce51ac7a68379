/- Memory, more: append of a whole slice to a row of the call's own, at whatever element type. -/
import Derived.Test.YtggjheapjklhgaaMem
namespace Go.Proofs.Ytggjheapjklhgaa
open Go.RowKit

/-- A callee that leaves the world alone, inside a region that draws. -/
theorem quietS {P : Program} {f : FuncId} {args : Array Value} {w : World} {n : Nat} {v : Value}
    (h : Calls P f args (w.drewN n) fun e w' => e = .returned v ∧ w.drewN n = w') : Calls P f args (w.drewN n) fun e w'' => e = .returned v ∧ ∃ m, w'' = w.drewN m :=
  h.mono fun _ _ ⟨he, hm⟩ => ⟨he, n, hm.symm⟩
/-- The world under one name, in the middle of a walk. -/
theorem wp_world {P : Program} {c : Code} {Q : Exit → Act → World → Prop} {a : Act} {w : World} (h : ∀ w', Hid (w' = w) → Code.wp P c Q a w') : Code.wp P c Q a w := h w rfl
/-- The cells that a slice at address a shows. -/
def ReadsV (w : World) (a : Option Addr) (vs : List Value) : Prop := ∀ i v, vs[i]? = some v → ∃ b o, a = some ⟨b, o, none⟩ ∧ b < w.heap.size ∧ w.cell? ⟨b, o + i, none⟩ = some v
theorem IntsR.cells {w : World} {a : Option Addr} {xs : List Int} (h : IntsR w a xs) : ReadsV w a (xs.map (Value.int .i64)) := by
  intro i v hv
  rw [List.getElem?_map] at hv
  obtain ⟨x, hx, rfl⟩ := Option.map_eq_some_iff.1 hv
  exact h i x hx
theorem ReadsV.add {w : World} {b o : Nat} {vs : List Value} (h : ReadsV w (some ⟨b, o, none⟩) vs) : ∀ j u, vs[j]? = some u → w.cell? ((⟨b, o, none⟩ : Addr).add j) = some u := by
  intro j u hu
  obtain ⟨b', o', e, _, hc⟩ := h j u hu
  simp only [Option.some.injEq, Addr.mk.injEq, and_true] at e
  obtain ⟨rfl, rfl⟩ := e
  have e : (⟨b, o, none⟩ : Addr).add j = ⟨b, o + j, none⟩ := by unfold Addr.add; split <;> simp_all
  rw [e]; exact hc
theorem ReadsV.old {w w' : World} {a : Option Addr} {vs : List Value} (h : ReadsV w a vs) (hb : Below w.heap.size w w') : ReadsV w' a vs := by
  intro i x hx
  obtain ⟨b, o, ha, hlt, hc⟩ := h i x hx
  exact ⟨b, o, ha, Nat.lt_of_lt_of_le hlt hb.size, (hb.cell (p := ⟨b, o + i, none⟩) hlt).trans hc⟩

theorem run_append_none {P : Program} (w : World) (base : Nat) (t ty e : TypeId) (i : TypeInfo) (size : Nat) (ht : P.underlying t = some (.slice e)) (hi : P.info? e = some i)
    (v : Value) (n c : Nat) (xs : List Value) (hown : w.ownsRow base e size v n xs) :
    (Builtin.append_ #[t, t] ty #[v, .slice none 0 c]).run P w = .ok v w := by
  rcases hown.2 with ⟨rfl, rfl⟩ | ⟨g, cap, cur, rfl, _, _, hnc, _⟩
  · simp [Builtin.append_, run_underlying ht, sizeOf, typeInfo, hi, Builtin.lenOf, Builtin.firstCells]
  · simp [Builtin.append_, run_underlying ht, sizeOf, typeInfo, hi, Builtin.lenOf, Builtin.firstCells, hnc, storeCells]

/-- append of a slice that reads as 'news' to a row that the call owns. -/
theorem run_append_src {P : Program} (w : World) (base : Nat) (t ty e : TypeId) (z : Value) (size bytes : Nat) (ht : P.underlying t = some (.slice e))
    (hI : (P.info? e).map (fun i => (i.zero, i.size, i.bytes)) = some (some z, size, bytes)) (hzs : z.cells.size = size) (hsz : 0 < size)
    (v : Value) (n : Nat) (xs : List Value) (hown : w.ownsRow base e size v n xs)
    (a : Option Addr) (m c : Nat) (news : List Value) (hl : news.length = m * size) (hnews : ReadsV w a news) (h1 : ∀ u ∈ news, u.oneCell' = true)
    (hbytes : (n + m) * bytes ≤ 140737488355328) (h63 : n + m ≤ maxLen) (hbase : base ≤ w.heap.size) :
    ∃ v' w', (Builtin.append_ #[t, t] ty #[v, .slice a m c]).run P w = .ok v' w' ∧ w'.ownsRow base e size v' (n + m) (xs ++ news) ∧ Below base w w' ∧
      (v' = .slice none 0 0 ↔ v = .slice none 0 0 ∧ m = 0) := by
  obtain ⟨i, hi, hz0, hz1, hz2⟩ := info_parts hI
  have hlt := hown.lt
  have fin : ∀ (ad : Addr), a = some ad → (∀ j u, news[j]? = some u → w.cell? (ad.add j) = some u) → _ := fun ad _ hc =>
    run_append_own (P := P) w base t ty e i z size bytes ht hi hz0 hz1 hz2 hzs hsz v n xs hown ad m c news hl hc h1 h63 hbytes hbase
  cases a with
  | none =>
    have hm : news = [] := by
      cases news with
      | nil => rfl
      | cons u r => obtain ⟨b, o, e, _⟩ := hnews 0 u rfl; cases e
    subst hm
    have hm0 : m = 0 := by
      simp only [List.length_nil] at hl
      rcases Nat.mul_eq_zero.1 hl.symm with h | h
      · exact h
      · omega
    subst hm0
    exact ⟨v, w, run_append_none w base t ty e i size ht hi v n c xs hown, by simpa using hown, Below.refl _ _, by simp⟩
  | some ad =>
    have hc : ∀ j u, news[j]? = some u → w.cell? (ad.add j) = some u := by
      intro j u hu
      obtain ⟨b, o, e, _, _⟩ := hnews j u hu
      obtain rfl : ad = ⟨b, o, none⟩ := by simpa using e
      exact hnews.add j u hu
    obtain ⟨v', w', hr, h2, h3, h4⟩ := fin ad rfl hc
    exact ⟨v', w', hr, h2, (Below.refl _ _).grown h3 hbase (fun k hk => (hlt k hk).1), h4⟩

theorem wpList_append_src {P : Program} {ops : Array Oper} {rest : List Oper} {o : Oper} {ac : Act} {Q : Exit → Act → World → Prop} (hgd : o.guard = none) (s x : Operand) (t : TypeId)
    (ho : o.op = .call { callee := .builtin .append, args := #[s, x], argTypes := #[t, t] })
    (w : World) (base : Nat) (e : TypeId) (z : Value) (size bytes : Nat) (ht : P.underlying t = some (.slice e))
    (hI : (P.info? e).map (fun i => (i.zero, i.size, i.bytes)) = some (some z, size, bytes)) (hzs : z.cells.size = size) (hsz : 0 < size)
    (v : Value) (n : Nat) (xs : List Value) (hown : w.ownsRow base e size v n xs) (hs : ac.eval s = v)
    (a : Option Addr) (m c : Nat) (news : List Value) (hl : news.length = m * size) (hnews : ReadsV w a news) (h1 : ∀ u ∈ news, u.oneCell' = true) (hx : ac.eval x = .slice a m c)
    (hbytes : (n + m) * bytes ≤ 140737488355328) (h63 : n + m ≤ maxLen) (hbase : base ≤ w.heap.size)
    (h : ∀ v' w', w'.ownsRow base e size v' (n + m) (xs ++ news) → Below base w w' → (v' = .slice none 0 0 ↔ v = .slice none 0 0 ∧ m = 0) → wpList P ops Q rest (ac.put o.dst v') w') : wpList P ops Q (o :: rest) ac w := by
  refine wpList_plain hgd fun K hK => ?_
  obtain ⟨v', w', hr, h2, h3, h4⟩ := run_append_src (P := P) w base t o.type e z size bytes ht hI hzs hsz v n xs hown a m c news hl hnews h1 hbytes h63 hbase
  unfold Oper.wp execOp
  simp only [ho, resolve, invoke, builtin, Sem.run_bind, Sem.run_pure, Result.andThen_ok, List.map_toArray, List.map_cons, List.map_nil, hs, hx, hr]
  exact hK _ _ (h v' w' h2 h3 h4)

/-- append of one int, as one step of a region that draws. -/
theorem step_append_int {ops : Array Oper} {o : Oper} {a : Act} {K : Act → World → Prop} {Q : Exit → Act → World → Prop} {E : Prop} (hgd : o.guard = none) (s x : Operand)
    (ho : o.op = .call { callee := .builtin .append, args := #[s, x], argTypes := #[35, 35] })
    (W : World) (B n : Nat) (v : Value) (xs : List Int) (hown : W.ownsRow B 3 1 v n (xs.map (Value.int .i64))) (hs : a.eval s = v) (y : Int) (hx : a.eval x = .slice (some ⟨W.heap.size, 0, none⟩) 1 1) (hB : B ≤ W.heap.size) (hn : n ≤ 1099511627776)
    (h : ∀ g' cap' w', B ≤ g' → IRow w' g' (n + 1) cap' (xs ++ [y]) → Below B W w' → K (a.put o.dst (.slice (some ⟨g', 0, none⟩) (n + 1) cap')) w') :
    if Region.wanted o (yielded ops a.tmps) = true then Oper.wp Try.prog o a (W.alloc (.cells #[.int .i64 y] 3)) K Q else E := by
  have hw : Region.wanted o (yielded ops a.tmps) = true := by simp [Region.wanted, hgd]
  rw [if_pos hw]
  obtain ⟨i0, hi, hz0, hz1, hz2⟩ := info_parts infoInt
  have hlt := hown.lt
  refine wp_append_own _ s x 35 ho B 3 i0 (.int .i64 0) 1 8 Try.underlying35 hi hz0 hz1 hz2 rfl (by decide) v n (xs.map (Value.int .i64)) hs (hown.alloc _) ⟨W.heap.size, 0, none⟩ 1 1 [.int .i64 y] hx rfl (cells_new _ _ _) (ints_oneCell .i64 [y]) (by unfold maxLen; omega) (by omega) (by simp; omega) ?_
  intro v' w' hown' hgrow hnil
  have hown2 : w'.ownsRow B 3 1 v' (n + 1) ((xs ++ [y]).map (Value.int .i64)) := by rw [List.map_append]; exact hown'
  obtain ⟨g', cap', rfl, hg, hrow⟩ := IRow.of_owns hown2 (by
    intro hv
    rw [hv] at hown'
    rcases hown'.2 with ⟨_, h0⟩ | ⟨_, _, _, h1, _⟩
    · omega
    · cases h1)
  exact h g' cap' w' hg hrow (((Below.refl B W).alloc hB _).grown hgrow (by simp; omega) fun k hk => (hlt k (by simpa using hk)).1)
/-- append of a slice of ints to a row of ints of the call's own. -/
theorem wpList_append_ints {ops : Array Oper} {rest : List Oper} {o : Oper} {ac : Act} {Q : Exit → Act → World → Prop} (hgd : o.guard = none) (s x : Operand)
    (ho : o.op = .call { callee := .builtin .append, args := #[s, x], argTypes := #[35, 35] })
    (w : World) (B g n cap : Nat) (xs : List Int) (hrow : IRow w g n cap xs) (hg : B ≤ g) (hs : ac.eval s = .slice (some ⟨g, 0, none⟩) n cap)
    (a : Option Addr) (m c : Nat) (ys : List Int) (hy : IntsR w a ys) (hm : m = ys.length) (hx : ac.eval x = .slice a m c) (N : Nat) (hN : n + m = N) (hb : n + m ≤ 1099511627776) (hB : B ≤ w.heap.size)
    (h : ∀ g' cap' w', B ≤ g' → IRow w' g' N cap' (xs ++ ys) → Below B w w' → wpList Try.prog ops Q rest (ac.put o.dst (.slice (some ⟨g', 0, none⟩) N cap')) w') :
    wpList Try.prog ops Q (o :: rest) ac w := by
  subst hN
  refine wpList_append_src hgd s x 35 ho w B 3 (.int .i64 0) 1 8 Try.underlying35 infoInt rfl (by decide) _ n _ (hrow.rebase hg) hs a m c (ys.map (Value.int .i64)) (by simp [hm]) hy.cells (ints_oneCell .i64 ys) hx (by omega) (by unfold maxLen; omega) hB ?_
  intro v' w' hown' hbel hnil
  rw [← List.map_append] at hown'
  obtain ⟨g', cap', rfl, hg', hrow'⟩ := IRow.of_owns hown' (by intro hv; have := (hnil.1 hv).1; cases this)
  exact h g' cap' w' hg' hrow' hbel
end Go.Proofs.Ytggjheapjklhgaa
