/- The laws' helpers on cells: what they return. -/
import Derived.Test.YtnfkkkjookfdiaaCell
namespace Go.Proofs.Ytnfkkkjookfdiaa
open Go.RowKit

theorem toCell_any (a : Option Addr) (n c : Nat) (xs : List Int) (p : Bool) (w : World) (hx : IntsR w a xs) (hn : n = xs.length) (hl : xs.length ≤ 1048576) :
    Calls Try.prog 49 #[.agg #[.slice a n c, .bool p]] w fun e w' => ∃ a' c', e = .returned (.agg #[.slice a' n c', .bool p]) ∧ OwnS w' w.heap.size a' n c' xs ∧ Below w.heap.size w w' := by
  have HX := hid hx
  have HN := hid hn
  clear hx hn
  go_enter Try.func49, Try.ntmps49
  go_wp2_with fail
  refine (toIntS_own _ _ _ _ _ (((HX.out.old (below_alloc _ _)).old (below_alloc _ _)).old (below_alloc _ _)) HN.out hl).mono ?_
  rintro e w1 ⟨a', c', rfl, R, B⟩
  obtain ⟨hc, hf⟩ := bcell B
  have hsz := B.size
  simp only [World.size_alloc] at hsz hc hf
  have K : Keeps (fun b => b = w.heap.size + 1 ∨ b = w.heap.size + 1 + 1) w1 ((((w1.setCell ⟨w.heap.size + 1 + 1, 0, none⟩ (.slice a' n c')).setCell ⟨w.heap.size + 1 + 1, 1, none⟩ (.bool p)).setCell ⟨w.heap.size + 1, 0, none⟩ (.slice a' n c')).setCell ⟨w.heap.size + 1, 1, none⟩ (.bool p)) :=
    ((((Keeps.refl _ _).set _ _ (.inr rfl)).set _ _ (.inr rfl)).set _ _ (.inl rfl)).set _ _ (.inl rfl)
  go_wp2
  refine bodyPost_ret (v := .agg #[.slice a' n c', .bool p]) (by simp [results, Try.results49, go_sem, hc]) rfl ⟨a', c', rfl, ?_, ?_⟩
  · exact (R.keeps K (fun b hb hS => by have := (R.lt hb).1; simp at this; omega)).mono (by simp; omega)
  · exact (below_step (below_alloc3 _ _ _ _) B (Nat.le_refl _)).trans (K.below (by omega) (fun k hk hS => by omega))

theorem toCellS_any (a : Option Addr) (n c : Nat) (es : List CellE) (w : World) (hx : CellsR w a n es) (hn : n ≤ 1048576) (hl : ∀ (i : Nat) (e : CellE), es[i]? = some e → e.xs.length ≤ 1048576) :
    Calls Try.prog 66 #[.slice a n c] w fun e w' => ∃ a' c' es', e = .returned (.slice a' n c') ∧ OwnC w' w.heap.size w'.heap.size a' n c' es' ∧ es'.map CellE.d = es.map CellE.d ∧ Below w.heap.size w w' := by
  obtain ⟨i0, hi, hz0, hz1, hz2⟩ := info_parts recC.info
  have HX := hid hx
  have HL := hid hl
  clear hx hl
  go_enter Try.func66, Try.ntmps66
  go_wp2_with (first | (at_make; refine wpList_make_full _ rfl _ _ 39 rfl w.heap.size 61 i0 (.agg #[.slice none 0 0, .bool false]) 2 Try.underlying39 hi hz0 hz1 _ _ _ _ n rfl rfl rfl rfl (by rw [hz2]; omega) (by unfold maxLen; omega) (Nat.le_refl _) ?_; intro w1 hown hg))
  have HB1 := hid ((Below.refl w.heap.size w).grown hg (Nat.le_refl _) (fun k h => by cases h))
  have hlt1 : w.heap.size < w1.heap.size := (World.ownsRow.lt hown w.heap.size rfl).2
  have HO1 := hid (OwnC.made hown hlt1)
  clear hown hg
  go_loopw [4] (fun i wr => ∃ (k : Nat) (L : List CellE), k ≤ n ∧ i = .int .i64 k ∧ Hid (L.length = k) ∧ Hid (L.map CellE.d = (es.take k).map CellE.d) ∧ Hid (OwnC wr w.heap.size wr.heap.size (some ⟨w.heap.size, 0, none⟩) n n (L ++ List.replicate (n - k) zeroC)) ∧ Hid (Below w.heap.size w wr)) (fun i _ => n - (intOf i).toNat)
  case atStart => exact ⟨0, [], Nat.zero_le _, rfl, rfl, rfl, by simpa using HO1, HB1⟩
  case round =>
    obtain ⟨k, L, hk, rfl, HLk, HD, HO, HB⟩ := hrel
    by_cases hlt : k < n
    · obtain ⟨e, b1, o1, he, ha1, hb1, hc0, hc1, hr, hen, _⟩ := (HX.out.old HB.out).at_ hlt
      have hz := fill_get (n := n) (z := zeroC) HLk.out hlt
      have HE := hid he
      have HZ := hid hz
      have HEN := hid hen
      subst ha1
      clear he hz hen
      go_wp2_with fail
      refine (toCell_any _ _ _ _ _ _ hr HEN.out (HL.out k e HE.out)).mono ?_
      rintro e1 w2 ⟨a', c', rfl, R, B⟩
      obtain ⟨O3, K3, _, hg, k0, k1, f0, f1⟩ := HO.out.store (y := ⟨a', e.n, c', e.xs, e.p⟩) HZ.out B R rfl
      have HO3 := hid O3
      have HB3 := hid ((HB.out.trans (B.mono HB.out.size)).trans (K3.below (by have := HB.out.size; have := B.size; omega) (fun q hq hS => by omega)))
      clear O3 K3 R B HO HB hc0 hc1
      go_wp2
      go_roundw
      case rel => exact ⟨k + 1, L ++ [⟨a', e.n, c', e.xs, e.p⟩], by omega, by go_num, hid (by simp [HLk.out]), by rw [List.map_append, HD.out, take_snoc HE.out, List.map_append]; rfl, by rw [← fill_put HLk.out hlt]; exact HO3, HB3⟩
      case measure => simp [intOf]; omega
    · have hkn : k = n := by omega
      subst hkn
      have hO := HO.out
      rw [Nat.sub_self] at hO
      simp only [List.replicate_zero, List.append_nil] at hO
      have hD := HD.out
      rw [List.take_of_length_le (by have := HX.out.len; omega)] at hD
      have HO' := hid hO
      have HD' := hid hD
      clear hO hD
      go_wp2
      go_ret
      exact ⟨_, _, L, rfl, HO'.out, HD'.out, HB.out⟩

theorem eqCell_same (a b : Option Addr) (n m c d : Nat) (xs : List Int) (p : Bool) (w : World) (hx : IntsR w a xs) (hy : IntsR w b xs) (hn : n = xs.length) (hm : m = xs.length) (hl : xs.length ≤ 1048576) :
    Calls Try.prog 40 #[.agg #[.slice a n c, .bool p], .agg #[.slice b m d, .bool p]] w fun e w' => e = .returned (.bool true) ∧ Below w.heap.size w w' := by
  have HX := hid hx
  have HY := hid hy
  have HN := hid hn
  have HM := hid hm
  have hb : (p != p) = false := by simp
  clear hx hy hn hm
  go_enter Try.func40, Try.ntmps40
  go_wp2_with fail
  refine (eqIntS_same _ _ _ _ _ _ _ _ ((HX.out.old (below_alloc _ _)).old (below_alloc _ _)) ((HY.out.old (below_alloc _ _)).old (below_alloc _ _)) HN.out HM.out hl).mono ?_
  rintro e w1 ⟨rfl, q, rfl⟩
  go_wp2_with fail
  go_ret
  exact ⟨rfl, below_drewN (below_alloc2 _ _ _) q⟩

theorem eqCellS_same (a b : Option Addr) (n c d : Nat) (es fs : List CellE) (w : World) (hx : CellsR w a n es) (hy : CellsR w b n fs) (he : es.map CellE.d = fs.map CellE.d) (hn : n ≤ 1048576) (hl : ∀ (i : Nat) (e : CellE), es[i]? = some e → e.xs.length ≤ 1048576) :
    Calls Try.prog 71 #[.slice a n c, .slice b n d] w fun e w' => e = .returned (.bool true) ∧ Below w.heap.size w w' := by
  have HX := hid hx
  have HY := hid hy
  have HE := hid he
  have HL := hid hl
  clear hx hy he hl
  go_enter Try.func71, Try.ntmps71
  go_wp2
  go_loopw [5] (fun i wr => ∃ k : Nat, k ≤ n ∧ i = .int .i64 k ∧ Hid (Below w.heap.size w wr)) (fun i _ => n - (intOf i).toNat)
  case atStart => exact ⟨0, Nat.zero_le _, rfl, hid (Below.refl _ _)⟩
  case round =>
    obtain ⟨k, hk, rfl, HB⟩ := hrel
    by_cases hlt : k < n
    · obtain ⟨e, b1, o1, he, ha1, hb1, hc0, hc1, hr1, hen1, _⟩ := (HX.out.old HB.out).at_ hlt
      obtain ⟨f, b2, o2, hf, ha2, hb2, hd0, hd1, hr2, hen2, _⟩ := (HY.out.old HB.out).at_ hlt
      have hd := congrArg (fun l => l[k]?) HE.out
      simp only [List.getElem?_map, he, hf, Option.map_some, Option.some.injEq, CellE.d, Prod.mk.injEq] at hd
      rw [← hd.1] at hr2 hen2
      rw [← hd.2] at hd1
      have HE1 := hid hen1
      have HE2 := hid hen2
      have hll := HL.out k e he
      subst ha1 ha2
      clear he hf hen1 hen2 hd
      have hki : (0 : Int) ≤ (k : Int) := by omega
      have hki2 : (k : Int) < n := by omega
      have hov := over_cell wr
      go_wp2_with fail
      refine wp_region_over (by kernel_rfl) (by kernel_rfl) ?_
      repeat (go_big_quiet_step ((go_at_call 40; exact calls_over (eqCell_same _ _ _ _ _ _ _ _ _ (hr1.old (Over.below _)) (hr2.old (Over.below _)) HE1.out HE2.out hll))))
      refine wpQuiet_nil ?_
      intro w2 B2
      clear hov hc0 hc1 hd0 hd1
      have HB2 := hid (below_step HB.out B2 (Nat.le_refl _))
      go_wp2
      go_roundw
      case rel => exact ⟨k + 1, by omega, by go_num, HB2⟩
      case measure => simp [intOf]; omega
    · go_wp2
      go_ret
      exact ⟨rfl, HB.out⟩

theorem set_same {α : Type} {l : List α} {i : Nat} {x : α} (h : l[i]? = some x) : l.set i x = l := by
  apply List.ext_getElem?
  intro j
  rw [List.getElem?_set]
  by_cases hij : i = j
  · subst hij
    rw [if_pos rfl, if_pos (List.getElem?_eq_some_iff.1 h).1, h]
  · rw [if_neg hij]
set_option maxRecDepth 100000 in
theorem markCellS_any (a : Option Addr) (n c B U : Nat) (k : Int) (es : List CellE) (ls : List Nat) (w : World) (hx : OwnC w B U a n c es) (hls : es.map CellE.n = ls) (hs : sumC ls ≤ 16777216) (hm1 : ∀ (i m : Nat), ls[i]? = some m → m ≤ 1048576) (hn : n ≤ 1048576) (hk0 : 0 ≤ k) (hk1 : k ≤ 536870912) :
    Calls Try.prog 82 #[.slice a n c, .int .i64 k] w fun e w' => ∃ es', e = .returned (.int .i64 (k + sumC ls)) ∧ OwnC w' B U a n c es' ∧ es'.map CellE.d = mkC k ls ∧ es'.map CellE.h = es.map CellE.h ∧ Keeps (inC a n c es) w w' := by
  have hll : n = ls.length := by rw [← hls, List.length_map]; exact hx.len
  have hlm : n = (mkC k ls).length := by rw [length_mkC]; exact hll
  have hld : n = (es.map CellE.d).length := by rw [List.length_map]; exact hx.len
  have HX := hid hx
  have HLL := hid hll
  have HLM := hid hlm
  have HLD := hid hld
  have HLS := hid hls
  have HM1 := hid hm1
  clear hx hll hlm hld hls hm1
  go_enter Try.func82, Try.ntmps82
  go_wp2
  go_loopw [1, 5] (fun q i wr => ∃ (j : Nat) (es' : List CellE), j ≤ n ∧ i = .int .i64 j ∧ q = .int .i64 (k + sumC (ls.take j)) ∧ Hid (es'.map CellE.d = (mkC k ls).take j ++ (es.map CellE.d).drop j) ∧ Hid (es'.map CellE.h = es.map CellE.h) ∧ Hid (OwnC wr B U a n c es') ∧ Hid (Keeps (inC a n c es) w wr)) (fun _ i _ => n - (intOf i).toNat)
  case atStart => exact ⟨0, es, Nat.zero_le _, rfl, by simp [sumC], hid (by simp), hid rfl, HX, hid (Keeps.refl _ _)⟩
  case round =>
    obtain ⟨j, es', hj, rfl, rfl, HD, HN, HO, HK⟩ := hrel
    by_cases hlt : j < n
    · obtain ⟨e, he⟩ := some_at HO.out.len hlt
      obtain ⟨g, hg, _, _, _⟩ := HO.out.row.at_ encC_len he (show (encC e)[0]? = some _ from rfl)
      have hm : ls[j]? = some e.n := by rw [← HLS.out, ← ns_of_h HN.out, List.getElem?_map, he]; rfl
      have hh : (es.map CellE.h)[j]? = some e.h := by rw [← HN.out, List.getElem?_map, he]; rfl
      have HH := hid hh
      have hsum := sumC_at hm
      have hle := sumC_take_le ls (j + 1)
      have hma := mkC_at (k := k) hm
      have hen := HM1.out j _ hm
      have HE := hid he
      have HM := hid hm
      have HMA := hid hma
      have HSUM := hid hsum
      have hb1 : sumC (ls.take j) + (e.n + 1) ≤ 16777216 := by omega
      subst hg
      obtain ⟨_, _, _, _, k0, k1, _⟩ := HO.out.setp HE.out true
      clear he hm hma hsum hle hh
      generalize hkk : k + (sumC (ls.take j) : Int) = kk at *
      have hkk0 : 0 ≤ kk := by omega
      have hkk1 : kk + e.n ≤ 553648128 := by omega
      have HKK := hid hkk
      clear hkk hb1
      go_wp2_with fail
      refine (markIntS_own _ _ _ B _ _ _ (HO.out.own j e HE.out) (by omega) hkk0 (by omega)).mono ?_
      rintro e1 w2 ⟨rfl, S2, K2⟩
      have O2 := HO.out.write (f := ⟨e.a, e.n, e.c, marks kk e.n, e.p⟩) HE.out ⟨rfl, rfl, rfl, rfl⟩ K2 S2
      have he2 : (es'.set j ⟨e.a, e.n, e.c, marks kk e.n, e.p⟩)[j]? = some ⟨e.a, e.n, e.c, marks kk e.n, e.p⟩ := by rw [List.getElem?_set_self (List.getElem?_eq_some_iff.1 HE.out).1]
      obtain ⟨O3, K3, _, _, _, c1, f1⟩ := O2.setp he2 ((kk + e.n) % 3 == 0)
      rw [List.set_set] at O3
      have HO3 := hid O3
      have HK3 := hid ((HK.out.trans (K2.mono fun b _ hb => inC_mem HH.out hb)).trans (K3.mono fun b _ hb => by rw [hb]; exact .inl rfl))
      have k0' : w2.cell? ⟨g, j * 2, none⟩ = some (.slice e.a e.n e.c) := by
        obtain ⟨_, _, _, _, c0, _, _⟩ := O2.setp he2 true
        exact c0
      have HD3 : Hid ((es'.set j ⟨e.a, e.n, e.c, marks kk e.n, (kk + e.n) % 3 == 0⟩).map CellE.d = (mkC k ls).take (j + 1) ++ (es.map CellE.d).drop (j + 1)) := by
        have := HMA.out
        refine hid ?_
        rw [List.map_set, HD.out]
        exact over_set HLM.out HLD.out this
      have HN3 : Hid ((es'.set j ⟨e.a, e.n, e.c, marks kk e.n, (kk + e.n) % 3 == 0⟩).map CellE.h = es.map CellE.h) := by
        refine hid ?_
        rw [List.map_set, HN.out]
        exact set_same HH.out
      have hq : k + (sumC (ls.take (j + 1)) : Int) = kk + e.n + 1 := by rw [HSUM.out, ← HKK.out]; omega
      have HQ := hid hq
      clear O3 O2 K3 K2 he2 S2 HO HK HD HN hq
      go_wp2
      go_roundw
      case rel => exact ⟨j + 1, _, by omega, by go_num, by rw [HQ.out], HD3, HN3, HO3, HK3⟩
      case measure => simp [intOf]; omega
    · have hjn : j = n := by omega
      subst hjn
      have hD := HD.out
      rw [over_done HLM.out HLD.out hlt] at hD
      have HD' := hid hD
      have hq : ls.take j = ls := List.take_of_length_le (by have := HLL.out; omega)
      have HQ := hid hq
      clear hD hq
      go_wp2
      go_ret
      exact ⟨es', by rw [HQ.out]; rfl, HO.out, HD'.out, HN.out, HK.out⟩

set_option maxRecDepth 100000 in
theorem heldCellS_any (a : Option Addr) (n c : Nat) (k : Int) (es : List CellE) (ls : List Nat) (w : World) (hx : CellsR w a n es) (hd : es.map CellE.d = mkC k ls) (hls : es.map CellE.n = ls) (hs : sumC ls ≤ 16777216) (hm1 : ∀ (i m : Nat), ls[i]? = some m → m ≤ 1048576) (hn : n ≤ 1048576) (hk0 : 0 ≤ k) (hk1 : k ≤ 536870912) :
    Calls Try.prog 84 #[.slice a n c, .int .i64 k] w fun e w' => e = .returned (.int .i64 (k + sumC ls)) ∧ ∃ q, w' = w.drewN q := by
  have hll : n = ls.length := by rw [← hls, List.length_map]; exact hx.len
  have HX := hid hx
  have HLL := hid hll
  have HLS := hid hls
  have HM1 := hid hm1
  have HD := hid hd
  clear hx hll hls hm1 hd
  go_enter Try.func84, Try.ntmps84
  go_wp2
  go_loopw [1, 5] (fun q i wr => ∃ j m : Nat, j ≤ n ∧ i = .int .i64 j ∧ q = .int .i64 (k + sumC (ls.take j)) ∧ wr = w.drewN m) (fun _ i _ => n - (intOf i).toNat)
  case atStart => exact ⟨0, 0, Nat.zero_le _, rfl, by simp [sumC], rfl⟩
  case round =>
    obtain ⟨j, m, hj, rfl, rfl, rfl⟩ := hrel
    by_cases hlt : j < n
    · obtain ⟨e, b1, o1, he, ha1, hb1, hc0, hc1, hr, hen, _⟩ := HX.out.at_ hlt
      have hm : ls[j]? = some e.n := by rw [← HLS.out, List.getElem?_map, he]; rfl
      have hsum := sumC_at hm
      have hle := sumC_take_le ls (j + 1)
      have hma := mkC_at (k := k) hm
      rw [← HD.out, List.getElem?_map, he] at hma
      simp only [Option.map_some, CellE.d, Option.some.injEq, Prod.mk.injEq] at hma
      have hen2 := HM1.out j _ hm
      have HSUM := hid hsum
      have hb2 : sumC (ls.take j) + (e.n + 1) ≤ 16777216 := by omega
      obtain ⟨hma1, hma2⟩ := hma
      rw [hma1] at hr
      rw [hma2] at hc1
      have HR := hid hr
      subst ha1
      clear he hm hma1 hma2 hsum hle hen hr
      generalize hkk : k + (sumC (ls.take j) : Int) = kk at *
      have hkk0 : 0 ≤ kk := by omega
      have hkk1 : kk + e.n ≤ 553648128 := by omega
      have HKK := hid hkk
      have hq : k + (sumC (ls.take (j + 1)) : Int) = kk + e.n + 1 := by rw [HSUM.out]; omega
      have HQ := hid hq
      clear hkk hb2 hq
      go_wp2_with fail
      refine (heldIntS_any _ _ _ _ _ (HR.out.drewN m) hen2 hkk0 (by omega)).mono ?_
      rintro e1 w2 ⟨rfl, q, rfl⟩
      have hne : (((kk + (e.n : Int)) % 3 == 0) != ((kk + (e.n : Int)) % 3 == 0)) = false := by simp
      go_wp2
      go_roundw
      case rel => exact ⟨j + 1, _, by omega, by go_num, by rw [HQ.out], rfl⟩
      case measure => simp [intOf]; omega
    · have hjn : j = n := by omega
      subst hjn
      have hq : ls.take j = ls := List.take_of_length_le (by have := HLL.out; omega)
      have HQ := hid hq
      clear hq
      go_wp2
      go_ret
      exact ⟨by rw [HQ.out]; rfl, _, rfl⟩
end Go.Proofs.Ytnfkkkjookfdiaa
