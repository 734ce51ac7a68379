/- The reference's draw of a trace without faults. -/
import Derived.Test.YtggjheapjklhgaaDoorDrwG
import Derived.Test.YtggjheapjklhgaaDoorDrT
import Derived.Test.YtggjheapjklhgaaDoorElP
import Derived.Test.YtggjheapjklhgaaDoorElS
import Derived.Test.YtggjheapjklhgaaDoorRkD
import Derived.Test.YtggjheapjklhgaaDoorRyC
namespace Go.Proofs.YtggjheapjklhgaaDoor
open Go.RowKit
theorem OwnF.apart {α β : Type} {f : α → List Value} {f' : β → List Value} {k k' : Nat} {T T' : TypeId} {w : World} {B U B' U' : Nat} {a a' : Option Addr} {n c n' c' : Nat} {xs : List α} {ys : List β} (h : OwnF f k T w B U a n c xs) (h' : OwnF f' k' T' w B' U' a' n' c' ys) (hT : (T' == T) = false) {b : Nat} (hb : (Value.slice a' n' c').ownBlock = some b) : (Value.slice a n c).ownBlock ≠ some b := by
  intro he
  rcases h'.row.2 with ⟨hv, _⟩ | ⟨g', cap', cur, hv, _, hg', _⟩
  · rw [hv] at hb; cases hb
  rw [hv, ownBlock_slice] at hb
  simp only [Option.some.injEq] at hb
  subst hb
  rcases h.row.2 with ⟨hv2, _⟩ | ⟨g2, cap2, cur2, hv2, _, hg2, _⟩
  · rw [hv2] at he; cases he
  rw [hv2, ownBlock_slice] at he
  simp only [Option.some.injEq] at he
  subst he
  rw [hg2] at hg'
  simp only [Option.some.injEq, Obj.cells.injEq] at hg'
  rw [hg'.2.1] at hT
  simp at hT
theorem addr_add0 (h j : Nat) : (⟨h, 0, none⟩ : Addr).add j = ⟨h, j, none⟩ := by unfold Addr.add; split <;> simp_all
theorem BoxT.keeps {S : Nat → Prop} {w w' : World} {g : Nat} {T : Tim} (h : BoxT w g T) (hk : Keeps S w w') (hs : ¬ S g) : BoxT w' g T :=
  ⟨Nat.lt_of_lt_of_le h.lt hk.size, fun j v hv => (hk.cell h.lt hs j).trans (h.cs j v hv)⟩
theorem OwnF.lo {α : Type} {f : α → List Value} {k : Nat} {T : TypeId} {w : World} {B U : Nat} {a : Option Addr} {n c : Nat} {xs : List α} (h : OwnF f k T w B U a n c xs) {b : Nat} (hb : (Value.slice a n c).ownBlock = some b) : B ≤ b := (h.row.lt b hb).1
/-- Memory while a trace is drawn: the cursor, the events, the state in its variable, geometry and timing in theirs. -/
structure TrS (w : World) (g : Nat) (a : Option Addr) (n c : Nat) (G : Geo) (T : Tim) (p3 g6 : Nat) (E : EvsE) (R : RankE) (v : World) : Prop where
  cur : Cur v g a n c
  evs : OwnEv v (w.heap.size + 2) v.heap.size E
  rk : Blk v g6 75 (RkB R)
  own : OwnR v p3 g6 R
  geo : BoxG v w.heap.size G
  tim : BoxT v (w.heap.size + 1) T
  keep : Keeps (fun b => b = g) w v
  hg : g < w.heap.size
  h3 : w.heap.size + 2 ≤ p3
  h6 : p3 ≤ g6
  wh : ∀ b o, a = some ⟨b, o, none⟩ → 0 < n → b < w.heap.size
  nn : ∃ b, E.a = some ⟨b, 0, none⟩
section
variable {w : World} {g : Nat} {a : Option Addr} {n c : Nat} {G : Geo} {T : Tim} {p3 g6 : Nat} {E : EvsE} {R : RankE} {v v' : World}
theorem TrS.keeps (h : TrS w g a n c G T p3 g6 E R v) (hc : Cur v' g a n c) (hk : Keeps (fun b => b = g) v v') : TrS w g a n c G T p3 g6 E R v' := by
  have := h.hg; have := h.h3; have := h.h6
  exact ⟨hc, (h.evs.keeps hk (fun b hb _ e => by omega)).up hk.size (Nat.le_refl _), h.rk.keeps hk (by omega), h.own.keeps hk (fun b hb _ e => by omega), h.geo.keeps hk (by omega), h.tim.keeps hk (by omega), h.keep.trans hk, h.hg, h.h3, h.h6, h.wh, h.nn⟩
theorem TrS.old (h : TrS w g a n c G T p3 g6 E R v) (hb : Below v.heap.size v v') : TrS w g a n c G T p3 g6 E R v' := h.keeps (h.cur.old hb) (Keeps.of_below hb)
/-- The state is changed in place. -/
theorem TrS.did (h : TrS w g a n c G T p3 g6 E R v) {R' : RankE} (hb : Blk v' g6 75 (RkB R')) (hO : OwnR v' p3 g6 R') (hk : Keeps (fun b => b = g6 ∨ blkR R b) v v') : TrS w g a n c G T p3 g6 E R' v' := by
  have e1 := h.hg; have e2 := h.h3; have e3 := h.h6
  have lo : ∀ b, (b = g6 ∨ blkR R b) → p3 ≤ b := fun b hb => hb.elim (fun e => by omega) fun e => (h.own.in_ e).1
  have hi : ∀ b, b < p3 → ¬ (b = g6 ∨ blkR R b) := fun b hb hs => by have := lo b hs; omega
  refine ⟨h.cur.keeps hk (hi _ (by omega)) (fun b o ha h0 => hi _ (by have := h.wh b o ha h0; omega)), ?_, hb, hO, h.geo.keeps hk (hi _ (by omega)), h.tim.keeps hk (hi _ (by omega)), ?_, h.hg, h.h3, h.h6, h.wh, h.nn⟩
  · refine OwnF.up (OwnF.keepsO h.evs hk fun b hb hs => ?_) hk.size (Nat.le_refl _)
    rcases hs with e | e
    · exact OwnF.not_blk h.evs h.rk rfl (e ▸ hb)
    · exact OwnF.apart h.evs h.own rfl (blkR_own e) hb
  · exact h.keep.hideGE (hk.mono fun b _ hs => by have := lo b hs; omega)
/-- An event is appended. -/
theorem TrS.app (h : TrS w g a n c G T p3 g6 E R v) {a' : Option Addr} {m c' : Nat} {ys : List Ev} (hO : OwnF encE 5 42 v' (w.heap.size + 2) v'.heap.size a' m c' ys) (hk : Keeps (fun b => (Value.slice E.a E.n E.c).ownBlock = some b) v v') (hm : 0 < m) : TrS w g a n c G T p3 g6 ⟨a', m, c', ys⟩ R v' := by
  have e1 := h.hg; have e2 := h.h3; have e3 := h.h6
  have lo : ∀ b, (Value.slice E.a E.n E.c).ownBlock = some b → w.heap.size + 2 ≤ b := fun b hb => OwnF.lo h.evs hb
  exact ⟨h.cur.keeps hk (fun e => by have := lo _ e; omega) (fun b o ha h0 e => by have := lo _ e; have := h.wh b o ha h0; omega), hO, h.rk.keeps hk (OwnF.not_blk h.evs h.rk rfl), OwnF.keepsO h.own hk (fun b hb e => OwnF.apart h.evs h.own rfl hb e), h.geo.keeps hk (fun e => by have := lo _ e; omega), h.tim.keeps hk (fun e => by have := lo _ e; omega), h.keep.hideGE (hk.mono fun b _ hs => by have := lo b hs; omega), h.hg, h.h3, h.h6, h.wh, by obtain ⟨b, hb, _⟩ := OwnF.form hO hm; exact ⟨b, hb⟩⟩
end
end Go.Proofs.YtggjheapjklhgaaDoor

/- The reference's draw of a trace without faults: its walk. -/
namespace Go.Proofs.YtggjheapjklhgaaDoor
open Go.RowKit
set_option maxHeartbeats 8000000 in
set_option maxRecDepth 100000 in
theorem l09Trace_any (g n c : Nat) (a : Option Addr) (G : Geo) (T : Tim) (N : Nat) (w : World) (hc : Cur w g a n c) (hgo : gOk G = true) (hto : timOk T = true) (hN : N ≤ 30) :
    Calls Tryd.prog 35 #[.pointer (some ⟨g, 0, none⟩), .agg #[.int .i64 G.a, .int .i64 G.b, .int .i64 G.r, .int .i64 G.c], .agg #[.int .i64 T.t0, .int .i64 T.t1, .int .i64 T.t2, .int .i64 T.t3, .int .i64 T.t4, .int .i64 T.t5, .int .i64 T.t6, .int .i64 T.t7, .int .i64 T.t8, .int .i64 T.t9, .int .i64 T.t10, .int .i64 T.t11, .int .i64 T.t12, .int .i64 T.t13, .int .i64 T.t14, .int .i64 T.t15, .int .i64 T.t16], .int .i64 N] w fun e w' => ∃ E : EvsE, e = .returned (.slice E.a E.n E.c) ∧ OwnEv w' w.heap.size w'.heap.size E ∧ E.es.length ≤ 30 ∧ (∃ b, E.a = some ⟨b, 0, none⟩) ∧ (∃ D, TrOk G T E.es D) ∧ Cur w' g a n c ∧ Keeps (· = g) w w' := by
  have HG := hid hc.lt
  have HWH := hid hc.reads.where_
  have HC := hid hc
  have HGO := hid hgo
  have HTO := hid hto
  clear hc hgo hto
  have HXG0 := hid ((BoxG.new_ w 32 G rfl).old (below_alloc _ (.cells #[.int .i64 T.t0, .int .i64 T.t1, .int .i64 T.t2, .int .i64 T.t3, .int .i64 T.t4, .int .i64 T.t5, .int .i64 T.t6, .int .i64 T.t7, .int .i64 T.t8, .int .i64 T.t9, .int .i64 T.t10, .int .i64 T.t11, .int .i64 T.t12, .int .i64 T.t13, .int .i64 T.t14, .int .i64 T.t15, .int .i64 T.t16] 34)))
  have HXT0 := hid (BoxT.new_ (w.alloc (.cells #[.int .i64 G.a, .int .i64 G.b, .int .i64 G.r, .int .i64 G.c] 32)) 34 T (show _ = w.heap.size + 1 by simp))
  go_enter Tryd.func35, Tryd.ntmps35
  go_upto_region 1 with (fail)
  refine wp_world (fun w1 hw => ?_)
  have HXG : Hid (BoxG w1 w.heap.size G) := by rw [hw.out]; exact HXG0
  have HXT : Hid (BoxT w1 (w.heap.size + 1) T) := by rw [hw.out]; exact HXT0
  have HB1 : Hid (Below w.heap.size w w1) := by rw [hw.out]; exact hid (below_alloc2 _ _ _)
  have HS1 : Hid (w1.heap.size = w.heap.size + 2) := by rw [hw.out]; exact hid (by simp)
  clear hw HXG0 HXT0
  go_upto_region 2 with (fail)
  refine wp_world (fun w2 hw => ?_)
  have HE : Hid (OwnEv w2 w1.heap.size w2.heap.size ⟨some ⟨w1.heap.size, 0, none⟩, 0, 0, []⟩) := by rw [hw.out]; exact hid (OwnF.of_lit w1 rfl)
  have B : Below w1.heap.size w1 w2 := by rw [hw.out]; exact below_alloc _ _
  have HXG := hid (HXG.out.old B)
  have HXT := hid (HXT.out.old B)
  have HB2 := hid (below_step HB1.out B (Nat.le_refl _))
  have HS2 := hid (show w.heap.size + 2 ≤ w2.heap.size by have h1 := HS1.out; have h2 := B.size; omega)
  clear hw B
  obtain ⟨p2, hp2⟩ : ∃ p, w1.heap.size = p := ⟨_, rfl⟩
  have HP2 := hid (show p2 = w.heap.size + 2 by rw [← hp2]; exact HS1.out)
  rw [hp2] at HE ⊢
  clear hp2 HS1 HB1
  obtain ⟨_, g0, g1, g2, g3⟩ := HXG.out
  go_wp2_with fail
  clear g0 g1 g2 g3
  refine (specRankNew_any G _).mono ?_
  rintro e w3 ⟨⟨na, nn, nc, ns, np⟩, rfl, O, D, B⟩
  have HO := hid O
  have HD := hid D
  have HE := hid (OwnEv.old HE.out B)
  have HXG := hid (HXG.out.old B)
  have HXT := hid (HXT.out.old B)
  have HB3 := hid (below_step HB2.out B (Nat.le_refl _))
  have HS3 := hid B.size
  clear O D B HB2
  generalize w2.heap.size = p3 at *
  go_upto_region 3 with (fail)
  refine wp_world (fun w4 hw => ?_)
  have HV : Hid (Blk w4 w3.heap.size 75 [.slice na nn nc, .int .i64 np]) := by rw [hw.out]; exact hid (Blk.new _ _ _)
  have B : Below w3.heap.size w3 w4 := by rw [hw.out]; exact below_alloc _ _
  have HSS : Hid (TrS w g a n c G T p3 w3.heap.size ⟨some ⟨p2, 0, none⟩, 0, 0, []⟩ ⟨na, nn, nc, ns, np⟩ w4) := hid
    ⟨HC.out.old (below_step HB3.out B (Nat.le_refl _)), ((OwnEv.old HE.out B).mono (Nat.le_of_eq HP2.out.symm)).up (Nat.le_trans HE.out.le B.size) (Nat.le_refl _), HV.out, OwnR.old HO.out B, HXG.out.old B, HXT.out.old B, Keeps.of_below (below_step HB3.out B (Nat.le_refl _)), HG.out, HS2.out, HS3.out, HWH.out, ⟨p2, rfl⟩⟩
  clear hw HE HXG HXT HO HV B HB3 HC HS3
  generalize w3.heap.size = g6 at *
  go_upto_region 4 with (fail)
  go_loopw [9, 11] (fun v i wr => ∃ (k : Nat) (E : EvsE) (R : RankE), k ≤ N ∧ i = .int .i64 k ∧ v = .slice E.a E.n E.c ∧ Hid (TrS w g a n c G T p3 g6 E R wr) ∧ Hid (E.es.length ≤ k) ∧ Hid (TrOk G T E.es R.d)) (fun _ i _ => N - (intOf i).toNat)
  case atStart => exact ⟨0, ⟨some ⟨p2, 0, none⟩, 0, 0, []⟩, ⟨na, nn, nc, ns, np⟩, Nat.zero_le _, rfl, rfl, HSS, hid (Nat.le_refl _), hid (by rw [HD.out]; exact TrOk.start HGO.out HTO.out)⟩
  case round =>
    clear HSS HD HP2
    obtain ⟨k, ⟨ea, en, ec, es⟩, ⟨ra, rn, rc, rs, rp⟩, hk, rfl, rfl, HS, HL, HT⟩ := hrel
    dsimp only at HL HT
    have HEN : Hid (en ≤ 1048576 ∧ en ≤ ec) := hid ⟨by have h1 : en = es.length := OwnF.length encE_len (by decide) HS.out.evs; have h2 := HL.out; omega, OwnF.le_cap HS.out.evs⟩
    have HRN : Hid (rn = rs.length) := hid (OwnF.length encB_len (by decide) HS.out.own)
    have HRS : Hid (rn ≤ 1048576) := hid (by have h1 := (rankOk_iff.1 HT.out.ok).2.1; have h2 := bankN_bd G; have h3 := HRN.out; have h4 : ((RankE.d ⟨ra, rn, rc, rs, rp⟩).banks.length : Int) = bankN G := h1; have h5 : (RankE.d ⟨ra, rn, rc, rs, rp⟩).banks.length = rs.length := rfl; omega)
    by_cases hlk : k < N
    · have hki : (k : Int) < (N : Int) := by omega
      obtain ⟨_, g0, g1, g2, g3⟩ := HS.out.geo
      go_wp2_with fail
      clear g0 g1 g2 g3
      refine (l06Cmd_any _ _ _ _ G _ HS.out.cur HGO.out).mono ?_
      rintro e w5 ⟨C, rfl, hco, Cu, K⟩
      have HCO := hid hco
      have HS := hid (HS.out.keeps Cu K)
      have HLT := hid HS.out.rk.lt
      clear hco Cu K
      go_upto_region 7 with (fail)
      refine wp_world (fun w6 hw => ?_)
      have HX := hid (show Blk w6 w5.heap.size 40 [.int .i64 C.k, .int .i64 C.b, .int .i64 C.r, .int .i64 C.c] by rw [hw.out]; exact Blk.new _ _ _)
      have B : Below w5.heap.size w5 w6 := by rw [hw.out]; exact below_alloc _ _
      have HS := hid (HS.out.old B)
      have HP7 : Hid (g6 < w5.heap.size) := HLT
      clear HLT
      clear hw B
      generalize w5.heap.size = p7 at *
      have HIN : Hid (inR rn C) := hid (inR_of (R := ⟨ra, rn, rc, rs, rp⟩) HRN.out HT.out.ok HCO.out)
      have x0 := HX.out.cell (j := 0) rfl
      have v1 := HS.out.rk.cell (j := 1) (v := .int .i64 rp) rfl
      cases c1 : decide (5 < C.k) with
      | false =>
        have v0 := HS.out.rk.cell (j := 0) (v := .slice ra rn rc) rfl
        have x1 := HX.out.cell (j := 1) rfl
        have x2 := HX.out.cell (j := 2) rfl
        have x3 := HX.out.cell (j := 3) rfl
        go_wp2_with fail
        clear x0 x1 x2 x3 v0 v1
        refine (l08May_any ⟨ra, rn, rc, rs, rp⟩ C _ HS.out.own.reads HRS.out HIN.out).mono ?_
        rintro e w7 ⟨rfl, B⟩
        have HS := hid (HS.out.old B)
        have HX := hid (HX.out.old B)
        clear B
        cases hm : may (RankE.d ⟨ra, rn, rc, rs, rp⟩) C with
        | false =>
          clear hm
          go_wp2_with fail
          go_roundw
          case rel => exact ⟨k + 1, ⟨ea, en, ec, es⟩, ⟨ra, rn, rc, rs, rp⟩, by omega, by go_num, rfl, HS, hid (by have h := HL.out; dsimp only; omega), HT⟩
          case measure => simp [intOf]; omega
        | true =>
          have HM := hid hm
          clear hm
          obtain ⟨t, ht⟩ : ∃ t, earlAll G T es C = t := ⟨_, rfl⟩
          have HEA := hid ht
          have HNX := hid (show earliestNext G T es C = t by rw [HT.out.next (by have h := HL.out; omega) C, if_pos (by rw [allowed_may HT.out.ok HCO.out]; exact HM.out), ht])
          have hbt := HT.out.all_bd C
          rw [ht] at hbt
          have ht0 : ¬ t < 0 := by omega
          have HBT := hid (show 0 ≤ t ∧ t ≤ 1000000 by have h := HL.out; omega)
          clear ht hbt
          obtain ⟨_, g0, g1, g2, g3⟩ := HS.out.geo
          have x0 := HX.out.cell (j := 0) rfl
          have x1 := HX.out.cell (j := 1) rfl
          have x2 := HX.out.cell (j := 2) rfl
          have x3 := HX.out.cell (j := 3) rfl
          go_wp2_with (refine wpList_load_tim HS.out.tim (by rfl) _ (by rfl) (by rfl) ?_)
          clear g0 g1 g2 g3 x0 x1 x2 x3
          refine (calls_int HNX.out (specEarliestNext_any G T ⟨ea, en, ec, es⟩ C _ HS.out.evs.reads HEN.out.1 HEN.out.2)).mono ?_
          rintro e w8 ⟨rfl, B⟩
          have HS := hid (HS.out.old B)
          have HX := hid (HX.out.old B)
          clear B
          have x0 := HX.out.cell (j := 0) rfl
          have x1 := HX.out.cell (j := 1) rfl
          have x2 := HX.out.cell (j := 2) rfl
          have x3 := HX.out.cell (j := 3) rfl
          go_wp2_with fail
          clear x0 x1 x2 x3
          refine (l08Do_any g6 p3 g6 ⟨ra, rn, rc, rs, rp⟩ C _ HS.out.rk HS.out.own HIN.out (.inr (Nat.le_refl _)) HRS.out).mono ?_
          rintro e w9 ⟨rfl, R', eq1, eq2, eq3, eq4, hb9, hO9, K⟩
          have HS9 := hid (HS.out.did hb9 hO9 K)
          have HX := hid (HX.out.keeps K (fun hh => hh.elim (fun h => by have h7 := HP7.out; omega) (fun h => by have h1 := (HS.out.own.in_ h).2; have h7 := HP7.out; omega)))
          have HT9 := hid (show ∀ d : Int, 0 ≤ d ∧ d ≤ 4 → TrOk G T (es ++ [⟨t + d, C⟩]) R'.d from fun d hd => by rw [eq4, ← HEA.out]; exact HT.out.step (by have h := HL.out; omega) HCO.out HM.out hd)
          clear eq1 eq2 eq3 eq4 hb9 hO9 K HS HT HM HEA HNX
          go_upto_region 11 with (fail)
          refine invS_of 11 (fr := ?fr1)
            (fun i v w' => match i with
                | 0 => v = .slice ea en ec
                | 1 => v = .int .i64 t
                | 2 => v = .pointer (some ⟨g, 0, none⟩)
                | 3 => ∃ r : Int, v = .int .i64 r ∧ 0 ≤ r ∧ r < 2
                | 4 => v = .pointer (some ⟨g, 0, none⟩)
                | 5 => ∃ r : Int, v = .int .i64 r ∧ 0 ≤ r ∧ r < 5
                | 6 => ∃ r : Int, v = .int .i64 r ∧ 0 ≤ r ∧ r ≤ 4
                | 7 => ∃ d : Int, v = .int .i64 (t + d) ∧ 0 ≤ d ∧ d ≤ 4
                | 8 => v = .agg #[.int .i64 C.k, .int .i64 C.b, .int .i64 C.r, .int .i64 C.c]
                | 9 => ∃ d : Int, v = .agg #[.int .i64 (t + d), .int .i64 C.k, .int .i64 C.b, .int .i64 C.r, .int .i64 C.c] ∧ 0 ≤ d ∧ d ≤ 4
                | _ => ∃ (d : Int) (h : Nat), v = .slice (some ⟨h, 0, none⟩) 1 1 ∧ (0 ≤ d ∧ d ≤ 4) ∧ w9.heap.size ≤ h ∧ Blk w' h 42 [.int .i64 (t + d), .int .i64 C.k, .int .i64 C.b, .int .i64 C.r, .int .i64 C.c]
              ) (fun w' => Cur w' g a n c ∧ Keeps (fun b => b = g) w9 w') (Keeps (fun b => b = g)) (by kernel_rfl) (by kernel_rfl) (by decide) (by kernel_rfl) ?hfr1 ⟨fun i => [u53, u54, u55, u56, u57, u58, u59, u60, u61, u62, u63].getD i undef, ?h01⟩ ?hI1 ?hF1 ?hstep1 ?hend1
          case hfr1 => intro vs; simp only [frOf, List.take_succ_cons, List.take_zero]; go_simp; exact rfl
          case h01 => rfl
          case hI1 => exact ⟨HS9.out.cur.drewN 1, Keeps.ofDrewN _ _ _⟩
          case hF1 =>
            intro i v w' w'' h hI hR
            match i, h with
            | 0, h => exact h
            | 1, h => exact h
            | 2, h => exact h
            | 3, h => exact h
            | 4, h => exact h
            | 5, h => exact h
            | 6, h => exact h
            | 7, h => exact h
            | 8, h => exact h
            | 9, h => exact h
            | n + 10, h => obtain ⟨d, h, e, hd, hh, hb⟩ := h; exact ⟨d, h, e, hd, hh, hb.keeps hR (by have h1 := HS9.out.cur.lt; omega)⟩
          case hstep1 =>
            intro vs w' i o hin ho hI hd
            match i, ho, hin with
            | 0, ho, _ =>
              simp only [List.getElem?_cons_zero, Option.some.injEq] at ho
              subst ho
              refine ⟨wanted_none rfl, ?_⟩
              generalize hK : (fun (a' : Act) (w'' : World) => ∃ v : Value, _ ∧ _ ∧ _ ∧ _) = K
              go_simp
              rw [← hK]
              exact ⟨_, rfl, rfl, hI, Keeps.refl _ _⟩
            | 1, ho, _ =>
              simp only [List.getElem?_cons_succ, List.getElem?_cons_zero, Option.some.injEq] at ho
              subst ho
              refine ⟨wanted_none rfl, ?_⟩
              generalize hK : (fun (a' : Act) (w'' : World) => ∃ v : Value, _ ∧ _ ∧ _ ∧ _) = K
              go_simp
              rw [← hK]
              exact ⟨_, rfl, rfl, hI, Keeps.refl _ _⟩
            | 2, ho, _ =>
              simp only [List.getElem?_cons_succ, List.getElem?_cons_zero, Option.some.injEq] at ho
              subst ho
              refine ⟨wanted_none rfl, ?_⟩
              generalize hK : (fun (a' : Act) (w'' : World) => ∃ v : Value, _ ∧ _ ∧ _ ∧ _) = K
              go_simp
              rw [← hK]
              exact ⟨_, rfl, rfl, hI, Keeps.refl _ _⟩
            | 3, ho, _ =>
              simp only [List.getElem?_cons_succ, List.getElem?_cons_zero, Option.some.injEq] at ho
              subst ho
              refine ⟨wanted_none rfl, ?_⟩
              have HP : Hid (vs 2 = .pointer (some ⟨g, 0, none⟩)) := hd 2 (by kernel_rfl)
              generalize hK : (fun (a' : Act) (w'' : World) => ∃ v : Value, _ ∧ _ ∧ _ ∧ _) = K
              go_simp
              refine (calls_args (by rw [HP.out]) (l01Below_any _ _ _ _ 2 _ hI.1 (by omega))).mono ?_
              rintro e w3 ⟨r, rfl, r0, r1, C3, KK⟩
              rw [← hK]
              exact ⟨_, rfl, ⟨r, rfl, r0, r1 (by omega)⟩, ⟨C3, hI.2.trans KK⟩, KK⟩
            | 4, ho, _ =>
              simp only [List.getElem?_cons_succ, List.getElem?_cons_zero, Option.some.injEq] at ho
              subst ho
              refine ⟨wanted_none rfl, ?_⟩
              generalize hK : (fun (a' : Act) (w'' : World) => ∃ v : Value, _ ∧ _ ∧ _ ∧ _) = K
              go_simp
              rw [← hK]
              exact ⟨_, rfl, rfl, hI, Keeps.refl _ _⟩
            | 5, ho, _ =>
              simp only [List.getElem?_cons_succ, List.getElem?_cons_zero, Option.some.injEq] at ho
              subst ho
              refine ⟨wanted_none rfl, ?_⟩
              have HP : Hid (vs 4 = .pointer (some ⟨g, 0, none⟩)) := hd 4 (by kernel_rfl)
              generalize hK : (fun (a' : Act) (w'' : World) => ∃ v : Value, _ ∧ _ ∧ _ ∧ _) = K
              go_simp
              refine (calls_args (by rw [HP.out]) (l01Below_any _ _ _ _ 5 _ hI.1 (by omega))).mono ?_
              rintro e w3 ⟨r, rfl, r0, r1, C3, KK⟩
              rw [← hK]
              exact ⟨_, rfl, ⟨r, rfl, r0, r1 (by omega)⟩, ⟨C3, hI.2.trans KK⟩, KK⟩
            | 6, ho, _ =>
              simp only [List.getElem?_cons_succ, List.getElem?_cons_zero, Option.some.injEq] at ho
              subst ho
              refine ⟨wanted_none rfl, ?_⟩
              obtain ⟨r, x3, r0, r1⟩ := hd 3 (by kernel_rfl)
              obtain ⟨q, x5, q0, q1⟩ := hd 5 (by kernel_rfl)
              have hrq : 0 ≤ r * q ∧ r * q ≤ 4 := by rcases (show r = 0 ∨ r = 1 by omega) with rfl | rfl <;> omega
              have srq : IntKind.i64.wrap (r * q) = r * q := IntWalk.i64_in _ (by omega)
              generalize hK : (fun (a' : Act) (w'' : World) => ∃ v : Value, _ ∧ _ ∧ _ ∧ _) = K
              generalize hu3 : vs 3 = u3 at x3 ⊢
              subst x3
              generalize hu5 : vs 5 = u5 at x5 ⊢
              subst x5
              go_simp
              rw [← hK]
              exact ⟨_, by simp [upd, hu3, hu5], ⟨_, rfl, hrq⟩, hI, Keeps.refl _ _⟩
            | 7, ho, _ =>
              simp only [List.getElem?_cons_succ, List.getElem?_cons_zero, Option.some.injEq] at ho
              subst ho
              refine ⟨wanted_none rfl, ?_⟩
              have x1 : vs 1 = .int .i64 t := hd 1 (by kernel_rfl)
              obtain ⟨d, x6, d0, d1⟩ := hd 6 (by kernel_rfl)
              have sd : IntKind.i64.wrap (t + d) = t + d := IntWalk.i64_in _ (by have h := HBT.out; omega)
              generalize hK : (fun (a' : Act) (w'' : World) => ∃ v : Value, _ ∧ _ ∧ _ ∧ _) = K
              generalize hu1 : vs 1 = u1 at x1 ⊢
              subst x1
              generalize hu6 : vs 6 = u6 at x6 ⊢
              subst x6
              go_simp
              rw [← hK]
              exact ⟨_, by simp [upd, hu1, hu6], ⟨d, rfl, d0, d1⟩, hI, Keeps.refl _ _⟩
            | 8, ho, _ =>
              simp only [List.getElem?_cons_succ, List.getElem?_cons_zero, Option.some.injEq] at ho
              subst ho
              refine ⟨wanted_none rfl, ?_⟩
              have HX2 := HX.out.keeps hI.2 (by have h7 := HP7.out; have h1 := HS9.out.hg; have h2 := HS9.out.h3; have h3 := HS9.out.h6; omega)
              have x0 := HX2.cell (j := 0) rfl
              have x1 := HX2.cell (j := 1) rfl
              have x2 := HX2.cell (j := 2) rfl
              have x3 := HX2.cell (j := 3) rfl
              generalize hK : (fun (a' : Act) (w'' : World) => ∃ v : Value, _ ∧ _ ∧ _ ∧ _) = K
              go_simp
              rw [← hK]
              exact ⟨_, rfl, rfl, hI, Keeps.refl _ _⟩
            | 9, ho, _ =>
              simp only [List.getElem?_cons_succ, List.getElem?_cons_zero, Option.some.injEq] at ho
              subst ho
              refine ⟨wanted_none rfl, ?_⟩
              obtain ⟨d, x7, d0, d1⟩ := hd 7 (by kernel_rfl)
              have x8 : vs 8 = .agg #[.int .i64 C.k, .int .i64 C.b, .int .i64 C.r, .int .i64 C.c] := hd 8 (by kernel_rfl)
              generalize hK : (fun (a' : Act) (w'' : World) => ∃ v : Value, _ ∧ _ ∧ _ ∧ _) = K
              generalize hu7 : vs 7 = u7 at x7 ⊢
              subst x7
              generalize hu8 : vs 8 = u8 at x8 ⊢
              subst x8
              go_simp
              rw [← hK]
              exact ⟨_, by simp [upd, hu7, hu8], ⟨d, rfl, d0, d1⟩, hI, Keeps.refl _ _⟩
            | 10, ho, _ =>
              simp only [List.getElem?_cons_succ, List.getElem?_cons_zero, Option.some.injEq] at ho
              subst ho
              refine ⟨wanted_none rfl, ?_⟩
              obtain ⟨d, x9, d0, d1⟩ := hd 9 (by kernel_rfl)
              generalize hK : (fun (a' : Act) (w'' : World) => ∃ v : Value, _ ∧ _ ∧ _ ∧ _) = K
              generalize hu9 : vs 9 = u9 at x9 ⊢
              subst x9
              go_simp
              rw [← hK]
              exact ⟨_, by simp [upd, hu9], ⟨d, w'.heap.size, rfl, ⟨d0, d1⟩, hI.2.size, Blk.new _ _ _⟩, ⟨hI.1.old (below_alloc _ _), hI.2.trans (Keeps.of_below (below_alloc _ _))⟩, Keeps.of_below (below_alloc _ _)⟩
            | n + 11, _, hin => exact absurd hin (by omega)
          case hend1 =>
            intro vs wA hI hf
            have e0 : vs 0 = .slice ea en ec := hf 0 (by decide)
            obtain ⟨d, h, e10, hd, hh, hbk⟩ := hf 10 (by decide)
            generalize vs 0 = u0 at e0 ⊢
            subst e0
            generalize vs 10 = u10 at e10 ⊢
            subst e10
            have HSA := hid (HS9.out.keeps hI.1 hI.2)
            have HTA := hid (HT9.out d hd)
            have HENB := hid HEN.out.1
            have HCL := hid (fun (j : Nat) (u : Value) (hu : (encE ⟨t + d, C⟩)[j]? = some u) => (hbk.cell (j := j) (v := u) hu))
            clear hI hf hbk
            refine wpTail_append_rec recE rfl _ _ rfl wA (w.heap.size + 2) wA.heap.size h ea en ec es HSA.out.evs rfl ⟨t + d, C⟩ (fun j u hu => by rw [addr_add0]; exact HCL.out j u hu) rfl (by have h1 := HSA.out.h3; have h2 := HSA.out.h6; have h3 := HSA.out.rk.lt; omega) (by have h1 := HENB.out; omega) ?_
            intro a' c' wB hrow hk2
            have HSB := hid (HSA.out.app hrow hk2 (Nat.succ_pos _))
            clear hrow hk2 HSA HCL hh
            refine wpTail_plain rfl fun K hK => ?_
            go_simp
            refine hK _ _ (wpTail_nil ?_)
            clear hK K
            go_wp2_with fail
            go_roundw
            case rel => exact ⟨k + 1, ⟨a', en + 1, c', es ++ [⟨t + d, C⟩]⟩, R', by omega, by go_num, rfl, HSB, hid (by have h := HL.out; simp; omega), HTA⟩
            case measure => simp [intOf]; omega
      | true =>
        cases c2 : (rp == 0) with
        | false =>
          have v0 := HS.out.rk.cell (j := 0) (v := .slice ra rn rc) rfl
          have x1 := HX.out.cell (j := 1) rfl
          have x2 := HX.out.cell (j := 2) rfl
          have x3 := HX.out.cell (j := 3) rfl
          go_wp2_with fail
          clear x0 x1 x2 x3 v0 v1
          refine (l08May_any ⟨ra, rn, rc, rs, rp⟩ C _ HS.out.own.reads HRS.out HIN.out).mono ?_
          rintro e w7 ⟨rfl, B⟩
          have HS := hid (HS.out.old B)
          have HX := hid (HX.out.old B)
          clear B
          cases hm : may (RankE.d ⟨ra, rn, rc, rs, rp⟩) C with
          | false =>
            clear hm
            go_wp2_with fail
            go_roundw
            case rel => exact ⟨k + 1, ⟨ea, en, ec, es⟩, ⟨ra, rn, rc, rs, rp⟩, by omega, by go_num, rfl, HS, hid (by have h := HL.out; dsimp only; omega), HT⟩
            case measure => simp [intOf]; omega
          | true =>
            have HM := hid hm
            clear hm
            obtain ⟨t, ht⟩ : ∃ t, earlAll G T es C = t := ⟨_, rfl⟩
            have HEA := hid ht
            have HNX := hid (show earliestNext G T es C = t by rw [HT.out.next (by have h := HL.out; omega) C, if_pos (by rw [allowed_may HT.out.ok HCO.out]; exact HM.out), ht])
            have hbt := HT.out.all_bd C
            rw [ht] at hbt
            have ht0 : ¬ t < 0 := by omega
            have HBT := hid (show 0 ≤ t ∧ t ≤ 1000000 by have h := HL.out; omega)
            clear ht hbt
            obtain ⟨_, g0, g1, g2, g3⟩ := HS.out.geo
            have x0 := HX.out.cell (j := 0) rfl
            have x1 := HX.out.cell (j := 1) rfl
            have x2 := HX.out.cell (j := 2) rfl
            have x3 := HX.out.cell (j := 3) rfl
            go_wp2_with (refine wpList_load_tim HS.out.tim (by rfl) _ (by rfl) (by rfl) ?_)
            clear g0 g1 g2 g3 x0 x1 x2 x3
            refine (calls_int HNX.out (specEarliestNext_any G T ⟨ea, en, ec, es⟩ C _ HS.out.evs.reads HEN.out.1 HEN.out.2)).mono ?_
            rintro e w8 ⟨rfl, B⟩
            have HS := hid (HS.out.old B)
            have HX := hid (HX.out.old B)
            clear B
            have x0 := HX.out.cell (j := 0) rfl
            have x1 := HX.out.cell (j := 1) rfl
            have x2 := HX.out.cell (j := 2) rfl
            have x3 := HX.out.cell (j := 3) rfl
            go_wp2_with fail
            clear x0 x1 x2 x3
            refine (l08Do_any g6 p3 g6 ⟨ra, rn, rc, rs, rp⟩ C _ HS.out.rk HS.out.own HIN.out (.inr (Nat.le_refl _)) HRS.out).mono ?_
            rintro e w9 ⟨rfl, R', eq1, eq2, eq3, eq4, hb9, hO9, K⟩
            have HS9 := hid (HS.out.did hb9 hO9 K)
            have HX := hid (HX.out.keeps K (fun hh => hh.elim (fun h => by have h7 := HP7.out; omega) (fun h => by have h1 := (HS.out.own.in_ h).2; have h7 := HP7.out; omega)))
            have HT9 := hid (show ∀ d : Int, 0 ≤ d ∧ d ≤ 4 → TrOk G T (es ++ [⟨t + d, C⟩]) R'.d from fun d hd => by rw [eq4, ← HEA.out]; exact HT.out.step (by have h := HL.out; omega) HCO.out HM.out hd)
            clear eq1 eq2 eq3 eq4 hb9 hO9 K HS HT HM HEA HNX
            go_upto_region 11 with (fail)
            refine invS_of 11 (fr := ?fr2)
              (fun i v w' => match i with
                  | 0 => v = .slice ea en ec
                  | 1 => v = .int .i64 t
                  | 2 => v = .pointer (some ⟨g, 0, none⟩)
                  | 3 => ∃ r : Int, v = .int .i64 r ∧ 0 ≤ r ∧ r < 2
                  | 4 => v = .pointer (some ⟨g, 0, none⟩)
                  | 5 => ∃ r : Int, v = .int .i64 r ∧ 0 ≤ r ∧ r < 5
                  | 6 => ∃ r : Int, v = .int .i64 r ∧ 0 ≤ r ∧ r ≤ 4
                  | 7 => ∃ d : Int, v = .int .i64 (t + d) ∧ 0 ≤ d ∧ d ≤ 4
                  | 8 => v = .agg #[.int .i64 C.k, .int .i64 C.b, .int .i64 C.r, .int .i64 C.c]
                  | 9 => ∃ d : Int, v = .agg #[.int .i64 (t + d), .int .i64 C.k, .int .i64 C.b, .int .i64 C.r, .int .i64 C.c] ∧ 0 ≤ d ∧ d ≤ 4
                  | _ => ∃ (d : Int) (h : Nat), v = .slice (some ⟨h, 0, none⟩) 1 1 ∧ (0 ≤ d ∧ d ≤ 4) ∧ w9.heap.size ≤ h ∧ Blk w' h 42 [.int .i64 (t + d), .int .i64 C.k, .int .i64 C.b, .int .i64 C.r, .int .i64 C.c]
                ) (fun w' => Cur w' g a n c ∧ Keeps (fun b => b = g) w9 w') (Keeps (fun b => b = g)) (by kernel_rfl) (by kernel_rfl) (by decide) (by kernel_rfl) ?hfr2 ⟨fun i => [u53, u54, u55, u56, u57, u58, u59, u60, u61, u62, u63].getD i undef, ?h02⟩ ?hI2 ?hF2 ?hstep2 ?hend2
            case hfr2 => intro vs; simp only [frOf, List.take_succ_cons, List.take_zero]; go_simp; exact rfl
            case h02 => rfl
            case hI2 => exact ⟨HS9.out.cur.drewN 1, Keeps.ofDrewN _ _ _⟩
            case hF2 =>
              intro i v w' w'' h hI hR
              match i, h with
              | 0, h => exact h
              | 1, h => exact h
              | 2, h => exact h
              | 3, h => exact h
              | 4, h => exact h
              | 5, h => exact h
              | 6, h => exact h
              | 7, h => exact h
              | 8, h => exact h
              | 9, h => exact h
              | n + 10, h => obtain ⟨d, h, e, hd, hh, hb⟩ := h; exact ⟨d, h, e, hd, hh, hb.keeps hR (by have h1 := HS9.out.cur.lt; omega)⟩
            case hstep2 =>
              intro vs w' i o hin ho hI hd
              match i, ho, hin with
              | 0, ho, _ =>
                simp only [List.getElem?_cons_zero, Option.some.injEq] at ho
                subst ho
                refine ⟨wanted_none rfl, ?_⟩
                generalize hK : (fun (a' : Act) (w'' : World) => ∃ v : Value, _ ∧ _ ∧ _ ∧ _) = K
                go_simp
                rw [← hK]
                exact ⟨_, rfl, rfl, hI, Keeps.refl _ _⟩
              | 1, ho, _ =>
                simp only [List.getElem?_cons_succ, List.getElem?_cons_zero, Option.some.injEq] at ho
                subst ho
                refine ⟨wanted_none rfl, ?_⟩
                generalize hK : (fun (a' : Act) (w'' : World) => ∃ v : Value, _ ∧ _ ∧ _ ∧ _) = K
                go_simp
                rw [← hK]
                exact ⟨_, rfl, rfl, hI, Keeps.refl _ _⟩
              | 2, ho, _ =>
                simp only [List.getElem?_cons_succ, List.getElem?_cons_zero, Option.some.injEq] at ho
                subst ho
                refine ⟨wanted_none rfl, ?_⟩
                generalize hK : (fun (a' : Act) (w'' : World) => ∃ v : Value, _ ∧ _ ∧ _ ∧ _) = K
                go_simp
                rw [← hK]
                exact ⟨_, rfl, rfl, hI, Keeps.refl _ _⟩
              | 3, ho, _ =>
                simp only [List.getElem?_cons_succ, List.getElem?_cons_zero, Option.some.injEq] at ho
                subst ho
                refine ⟨wanted_none rfl, ?_⟩
                have HP : Hid (vs 2 = .pointer (some ⟨g, 0, none⟩)) := hd 2 (by kernel_rfl)
                generalize hK : (fun (a' : Act) (w'' : World) => ∃ v : Value, _ ∧ _ ∧ _ ∧ _) = K
                go_simp
                refine (calls_args (by rw [HP.out]) (l01Below_any _ _ _ _ 2 _ hI.1 (by omega))).mono ?_
                rintro e w3 ⟨r, rfl, r0, r1, C3, KK⟩
                rw [← hK]
                exact ⟨_, rfl, ⟨r, rfl, r0, r1 (by omega)⟩, ⟨C3, hI.2.trans KK⟩, KK⟩
              | 4, ho, _ =>
                simp only [List.getElem?_cons_succ, List.getElem?_cons_zero, Option.some.injEq] at ho
                subst ho
                refine ⟨wanted_none rfl, ?_⟩
                generalize hK : (fun (a' : Act) (w'' : World) => ∃ v : Value, _ ∧ _ ∧ _ ∧ _) = K
                go_simp
                rw [← hK]
                exact ⟨_, rfl, rfl, hI, Keeps.refl _ _⟩
              | 5, ho, _ =>
                simp only [List.getElem?_cons_succ, List.getElem?_cons_zero, Option.some.injEq] at ho
                subst ho
                refine ⟨wanted_none rfl, ?_⟩
                have HP : Hid (vs 4 = .pointer (some ⟨g, 0, none⟩)) := hd 4 (by kernel_rfl)
                generalize hK : (fun (a' : Act) (w'' : World) => ∃ v : Value, _ ∧ _ ∧ _ ∧ _) = K
                go_simp
                refine (calls_args (by rw [HP.out]) (l01Below_any _ _ _ _ 5 _ hI.1 (by omega))).mono ?_
                rintro e w3 ⟨r, rfl, r0, r1, C3, KK⟩
                rw [← hK]
                exact ⟨_, rfl, ⟨r, rfl, r0, r1 (by omega)⟩, ⟨C3, hI.2.trans KK⟩, KK⟩
              | 6, ho, _ =>
                simp only [List.getElem?_cons_succ, List.getElem?_cons_zero, Option.some.injEq] at ho
                subst ho
                refine ⟨wanted_none rfl, ?_⟩
                obtain ⟨r, x3, r0, r1⟩ := hd 3 (by kernel_rfl)
                obtain ⟨q, x5, q0, q1⟩ := hd 5 (by kernel_rfl)
                have hrq : 0 ≤ r * q ∧ r * q ≤ 4 := by rcases (show r = 0 ∨ r = 1 by omega) with rfl | rfl <;> omega
                have srq : IntKind.i64.wrap (r * q) = r * q := IntWalk.i64_in _ (by omega)
                generalize hK : (fun (a' : Act) (w'' : World) => ∃ v : Value, _ ∧ _ ∧ _ ∧ _) = K
                generalize hu3 : vs 3 = u3 at x3 ⊢
                subst x3
                generalize hu5 : vs 5 = u5 at x5 ⊢
                subst x5
                go_simp
                rw [← hK]
                exact ⟨_, by simp [upd, hu3, hu5], ⟨_, rfl, hrq⟩, hI, Keeps.refl _ _⟩
              | 7, ho, _ =>
                simp only [List.getElem?_cons_succ, List.getElem?_cons_zero, Option.some.injEq] at ho
                subst ho
                refine ⟨wanted_none rfl, ?_⟩
                have x1 : vs 1 = .int .i64 t := hd 1 (by kernel_rfl)
                obtain ⟨d, x6, d0, d1⟩ := hd 6 (by kernel_rfl)
                have sd : IntKind.i64.wrap (t + d) = t + d := IntWalk.i64_in _ (by have h := HBT.out; omega)
                generalize hK : (fun (a' : Act) (w'' : World) => ∃ v : Value, _ ∧ _ ∧ _ ∧ _) = K
                generalize hu1 : vs 1 = u1 at x1 ⊢
                subst x1
                generalize hu6 : vs 6 = u6 at x6 ⊢
                subst x6
                go_simp
                rw [← hK]
                exact ⟨_, by simp [upd, hu1, hu6], ⟨d, rfl, d0, d1⟩, hI, Keeps.refl _ _⟩
              | 8, ho, _ =>
                simp only [List.getElem?_cons_succ, List.getElem?_cons_zero, Option.some.injEq] at ho
                subst ho
                refine ⟨wanted_none rfl, ?_⟩
                have HX2 := HX.out.keeps hI.2 (by have h7 := HP7.out; have h1 := HS9.out.hg; have h2 := HS9.out.h3; have h3 := HS9.out.h6; omega)
                have x0 := HX2.cell (j := 0) rfl
                have x1 := HX2.cell (j := 1) rfl
                have x2 := HX2.cell (j := 2) rfl
                have x3 := HX2.cell (j := 3) rfl
                generalize hK : (fun (a' : Act) (w'' : World) => ∃ v : Value, _ ∧ _ ∧ _ ∧ _) = K
                go_simp
                rw [← hK]
                exact ⟨_, rfl, rfl, hI, Keeps.refl _ _⟩
              | 9, ho, _ =>
                simp only [List.getElem?_cons_succ, List.getElem?_cons_zero, Option.some.injEq] at ho
                subst ho
                refine ⟨wanted_none rfl, ?_⟩
                obtain ⟨d, x7, d0, d1⟩ := hd 7 (by kernel_rfl)
                have x8 : vs 8 = .agg #[.int .i64 C.k, .int .i64 C.b, .int .i64 C.r, .int .i64 C.c] := hd 8 (by kernel_rfl)
                generalize hK : (fun (a' : Act) (w'' : World) => ∃ v : Value, _ ∧ _ ∧ _ ∧ _) = K
                generalize hu7 : vs 7 = u7 at x7 ⊢
                subst x7
                generalize hu8 : vs 8 = u8 at x8 ⊢
                subst x8
                go_simp
                rw [← hK]
                exact ⟨_, by simp [upd, hu7, hu8], ⟨d, rfl, d0, d1⟩, hI, Keeps.refl _ _⟩
              | 10, ho, _ =>
                simp only [List.getElem?_cons_succ, List.getElem?_cons_zero, Option.some.injEq] at ho
                subst ho
                refine ⟨wanted_none rfl, ?_⟩
                obtain ⟨d, x9, d0, d1⟩ := hd 9 (by kernel_rfl)
                generalize hK : (fun (a' : Act) (w'' : World) => ∃ v : Value, _ ∧ _ ∧ _ ∧ _) = K
                generalize hu9 : vs 9 = u9 at x9 ⊢
                subst x9
                go_simp
                rw [← hK]
                exact ⟨_, by simp [upd, hu9], ⟨d, w'.heap.size, rfl, ⟨d0, d1⟩, hI.2.size, Blk.new _ _ _⟩, ⟨hI.1.old (below_alloc _ _), hI.2.trans (Keeps.of_below (below_alloc _ _))⟩, Keeps.of_below (below_alloc _ _)⟩
              | n + 11, _, hin => exact absurd hin (by omega)
            case hend2 =>
              intro vs wA hI hf
              have e0 : vs 0 = .slice ea en ec := hf 0 (by decide)
              obtain ⟨d, h, e10, hd, hh, hbk⟩ := hf 10 (by decide)
              generalize vs 0 = u0 at e0 ⊢
              subst e0
              generalize vs 10 = u10 at e10 ⊢
              subst e10
              have HSA := hid (HS9.out.keeps hI.1 hI.2)
              have HTA := hid (HT9.out d hd)
              have HENB := hid HEN.out.1
              have HCL := hid (fun (j : Nat) (u : Value) (hu : (encE ⟨t + d, C⟩)[j]? = some u) => (hbk.cell (j := j) (v := u) hu))
              clear hI hf hbk
              refine wpTail_append_rec recE rfl _ _ rfl wA (w.heap.size + 2) wA.heap.size h ea en ec es HSA.out.evs rfl ⟨t + d, C⟩ (fun j u hu => by rw [addr_add0]; exact HCL.out j u hu) rfl (by have h1 := HSA.out.h3; have h2 := HSA.out.h6; have h3 := HSA.out.rk.lt; omega) (by have h1 := HENB.out; omega) ?_
              intro a' c' wB hrow hk2
              have HSB := hid (HSA.out.app hrow hk2 (Nat.succ_pos _))
              clear hrow hk2 HSA HCL hh
              refine wpTail_plain rfl fun K hK => ?_
              go_simp
              refine hK _ _ (wpTail_nil ?_)
              clear hK K
              go_wp2_with fail
              go_roundw
              case rel => exact ⟨k + 1, ⟨a', en + 1, c', es ++ [⟨t + d, C⟩]⟩, R', by omega, by go_num, rfl, HSB, hid (by have h := HL.out; simp; omega), HTA⟩
              case measure => simp [intOf]; omega
        | true =>
          go_wp2_with fail
          refine (l01Once_any _ _ _ _ _ _ HS.out.cur (by omega)).mono ?_
          rintro e w6' ⟨b, rfl, Cu, K⟩
          have HX := hid (HX.out.keeps K (by have h7 := HP7.out; have h1 := HS.out.hg; have h2 := HS.out.h3; have h3 := HS.out.h6; omega))
          have HS := hid (HS.out.keeps Cu K)
          clear Cu K x0 v1
          have x0 := HX.out.cell (j := 0) rfl
          have v1 := HS.out.rk.cell (j := 1) (v := .int .i64 rp) rfl
          cases b with
          | false =>
            go_wp2_with fail
            go_roundw
            case rel => exact ⟨k + 1, ⟨ea, en, ec, es⟩, ⟨ra, rn, rc, rs, rp⟩, by omega, by go_num, rfl, HS, hid (by have h := HL.out; dsimp only; omega), HT⟩
            case measure => simp [intOf]; omega
          | true =>
            have v0 := HS.out.rk.cell (j := 0) (v := .slice ra rn rc) rfl
            have x1 := HX.out.cell (j := 1) rfl
            have x2 := HX.out.cell (j := 2) rfl
            have x3 := HX.out.cell (j := 3) rfl
            go_wp2_with fail
            clear x0 x1 x2 x3 v0 v1
            refine (l08May_any ⟨ra, rn, rc, rs, rp⟩ C _ HS.out.own.reads HRS.out HIN.out).mono ?_
            rintro e w7 ⟨rfl, B⟩
            have HS := hid (HS.out.old B)
            have HX := hid (HX.out.old B)
            clear B
            cases hm : may (RankE.d ⟨ra, rn, rc, rs, rp⟩) C with
            | false =>
              clear hm
              go_wp2_with fail
              go_roundw
              case rel => exact ⟨k + 1, ⟨ea, en, ec, es⟩, ⟨ra, rn, rc, rs, rp⟩, by omega, by go_num, rfl, HS, hid (by have h := HL.out; dsimp only; omega), HT⟩
              case measure => simp [intOf]; omega
            | true =>
              have HM := hid hm
              clear hm
              obtain ⟨t, ht⟩ : ∃ t, earlAll G T es C = t := ⟨_, rfl⟩
              have HEA := hid ht
              have HNX := hid (show earliestNext G T es C = t by rw [HT.out.next (by have h := HL.out; omega) C, if_pos (by rw [allowed_may HT.out.ok HCO.out]; exact HM.out), ht])
              have hbt := HT.out.all_bd C
              rw [ht] at hbt
              have ht0 : ¬ t < 0 := by omega
              have HBT := hid (show 0 ≤ t ∧ t ≤ 1000000 by have h := HL.out; omega)
              clear ht hbt
              obtain ⟨_, g0, g1, g2, g3⟩ := HS.out.geo
              have x0 := HX.out.cell (j := 0) rfl
              have x1 := HX.out.cell (j := 1) rfl
              have x2 := HX.out.cell (j := 2) rfl
              have x3 := HX.out.cell (j := 3) rfl
              go_wp2_with (refine wpList_load_tim HS.out.tim (by rfl) _ (by rfl) (by rfl) ?_)
              clear g0 g1 g2 g3 x0 x1 x2 x3
              refine (calls_int HNX.out (specEarliestNext_any G T ⟨ea, en, ec, es⟩ C _ HS.out.evs.reads HEN.out.1 HEN.out.2)).mono ?_
              rintro e w8 ⟨rfl, B⟩
              have HS := hid (HS.out.old B)
              have HX := hid (HX.out.old B)
              clear B
              have x0 := HX.out.cell (j := 0) rfl
              have x1 := HX.out.cell (j := 1) rfl
              have x2 := HX.out.cell (j := 2) rfl
              have x3 := HX.out.cell (j := 3) rfl
              go_wp2_with fail
              clear x0 x1 x2 x3
              refine (l08Do_any g6 p3 g6 ⟨ra, rn, rc, rs, rp⟩ C _ HS.out.rk HS.out.own HIN.out (.inr (Nat.le_refl _)) HRS.out).mono ?_
              rintro e w9 ⟨rfl, R', eq1, eq2, eq3, eq4, hb9, hO9, K⟩
              have HS9 := hid (HS.out.did hb9 hO9 K)
              have HX := hid (HX.out.keeps K (fun hh => hh.elim (fun h => by have h7 := HP7.out; omega) (fun h => by have h1 := (HS.out.own.in_ h).2; have h7 := HP7.out; omega)))
              have HT9 := hid (show ∀ d : Int, 0 ≤ d ∧ d ≤ 4 → TrOk G T (es ++ [⟨t + d, C⟩]) R'.d from fun d hd => by rw [eq4, ← HEA.out]; exact HT.out.step (by have h := HL.out; omega) HCO.out HM.out hd)
              clear eq1 eq2 eq3 eq4 hb9 hO9 K HS HT HM HEA HNX
              go_upto_region 11 with (fail)
              refine invS_of 11 (fr := ?fr3)
                (fun i v w' => match i with
                    | 0 => v = .slice ea en ec
                    | 1 => v = .int .i64 t
                    | 2 => v = .pointer (some ⟨g, 0, none⟩)
                    | 3 => ∃ r : Int, v = .int .i64 r ∧ 0 ≤ r ∧ r < 2
                    | 4 => v = .pointer (some ⟨g, 0, none⟩)
                    | 5 => ∃ r : Int, v = .int .i64 r ∧ 0 ≤ r ∧ r < 5
                    | 6 => ∃ r : Int, v = .int .i64 r ∧ 0 ≤ r ∧ r ≤ 4
                    | 7 => ∃ d : Int, v = .int .i64 (t + d) ∧ 0 ≤ d ∧ d ≤ 4
                    | 8 => v = .agg #[.int .i64 C.k, .int .i64 C.b, .int .i64 C.r, .int .i64 C.c]
                    | 9 => ∃ d : Int, v = .agg #[.int .i64 (t + d), .int .i64 C.k, .int .i64 C.b, .int .i64 C.r, .int .i64 C.c] ∧ 0 ≤ d ∧ d ≤ 4
                    | _ => ∃ (d : Int) (h : Nat), v = .slice (some ⟨h, 0, none⟩) 1 1 ∧ (0 ≤ d ∧ d ≤ 4) ∧ w9.heap.size ≤ h ∧ Blk w' h 42 [.int .i64 (t + d), .int .i64 C.k, .int .i64 C.b, .int .i64 C.r, .int .i64 C.c]
                  ) (fun w' => Cur w' g a n c ∧ Keeps (fun b => b = g) w9 w') (Keeps (fun b => b = g)) (by kernel_rfl) (by kernel_rfl) (by decide) (by kernel_rfl) ?hfr3 ⟨fun i => [u53, u54, u55, u56, u57, u58, u59, u60, u61, u62, u63].getD i undef, ?h03⟩ ?hI3 ?hF3 ?hstep3 ?hend3
              case hfr3 => intro vs; simp only [frOf, List.take_succ_cons, List.take_zero]; go_simp; exact rfl
              case h03 => rfl
              case hI3 => exact ⟨HS9.out.cur.drewN 1, Keeps.ofDrewN _ _ _⟩
              case hF3 =>
                intro i v w' w'' h hI hR
                match i, h with
                | 0, h => exact h
                | 1, h => exact h
                | 2, h => exact h
                | 3, h => exact h
                | 4, h => exact h
                | 5, h => exact h
                | 6, h => exact h
                | 7, h => exact h
                | 8, h => exact h
                | 9, h => exact h
                | n + 10, h => obtain ⟨d, h, e, hd, hh, hb⟩ := h; exact ⟨d, h, e, hd, hh, hb.keeps hR (by have h1 := HS9.out.cur.lt; omega)⟩
              case hstep3 =>
                intro vs w' i o hin ho hI hd
                match i, ho, hin with
                | 0, ho, _ =>
                  simp only [List.getElem?_cons_zero, Option.some.injEq] at ho
                  subst ho
                  refine ⟨wanted_none rfl, ?_⟩
                  generalize hK : (fun (a' : Act) (w'' : World) => ∃ v : Value, _ ∧ _ ∧ _ ∧ _) = K
                  go_simp
                  rw [← hK]
                  exact ⟨_, rfl, rfl, hI, Keeps.refl _ _⟩
                | 1, ho, _ =>
                  simp only [List.getElem?_cons_succ, List.getElem?_cons_zero, Option.some.injEq] at ho
                  subst ho
                  refine ⟨wanted_none rfl, ?_⟩
                  generalize hK : (fun (a' : Act) (w'' : World) => ∃ v : Value, _ ∧ _ ∧ _ ∧ _) = K
                  go_simp
                  rw [← hK]
                  exact ⟨_, rfl, rfl, hI, Keeps.refl _ _⟩
                | 2, ho, _ =>
                  simp only [List.getElem?_cons_succ, List.getElem?_cons_zero, Option.some.injEq] at ho
                  subst ho
                  refine ⟨wanted_none rfl, ?_⟩
                  generalize hK : (fun (a' : Act) (w'' : World) => ∃ v : Value, _ ∧ _ ∧ _ ∧ _) = K
                  go_simp
                  rw [← hK]
                  exact ⟨_, rfl, rfl, hI, Keeps.refl _ _⟩
                | 3, ho, _ =>
                  simp only [List.getElem?_cons_succ, List.getElem?_cons_zero, Option.some.injEq] at ho
                  subst ho
                  refine ⟨wanted_none rfl, ?_⟩
                  have HP : Hid (vs 2 = .pointer (some ⟨g, 0, none⟩)) := hd 2 (by kernel_rfl)
                  generalize hK : (fun (a' : Act) (w'' : World) => ∃ v : Value, _ ∧ _ ∧ _ ∧ _) = K
                  go_simp
                  refine (calls_args (by rw [HP.out]) (l01Below_any _ _ _ _ 2 _ hI.1 (by omega))).mono ?_
                  rintro e w3 ⟨r, rfl, r0, r1, C3, KK⟩
                  rw [← hK]
                  exact ⟨_, rfl, ⟨r, rfl, r0, r1 (by omega)⟩, ⟨C3, hI.2.trans KK⟩, KK⟩
                | 4, ho, _ =>
                  simp only [List.getElem?_cons_succ, List.getElem?_cons_zero, Option.some.injEq] at ho
                  subst ho
                  refine ⟨wanted_none rfl, ?_⟩
                  generalize hK : (fun (a' : Act) (w'' : World) => ∃ v : Value, _ ∧ _ ∧ _ ∧ _) = K
                  go_simp
                  rw [← hK]
                  exact ⟨_, rfl, rfl, hI, Keeps.refl _ _⟩
                | 5, ho, _ =>
                  simp only [List.getElem?_cons_succ, List.getElem?_cons_zero, Option.some.injEq] at ho
                  subst ho
                  refine ⟨wanted_none rfl, ?_⟩
                  have HP : Hid (vs 4 = .pointer (some ⟨g, 0, none⟩)) := hd 4 (by kernel_rfl)
                  generalize hK : (fun (a' : Act) (w'' : World) => ∃ v : Value, _ ∧ _ ∧ _ ∧ _) = K
                  go_simp
                  refine (calls_args (by rw [HP.out]) (l01Below_any _ _ _ _ 5 _ hI.1 (by omega))).mono ?_
                  rintro e w3 ⟨r, rfl, r0, r1, C3, KK⟩
                  rw [← hK]
                  exact ⟨_, rfl, ⟨r, rfl, r0, r1 (by omega)⟩, ⟨C3, hI.2.trans KK⟩, KK⟩
                | 6, ho, _ =>
                  simp only [List.getElem?_cons_succ, List.getElem?_cons_zero, Option.some.injEq] at ho
                  subst ho
                  refine ⟨wanted_none rfl, ?_⟩
                  obtain ⟨r, x3, r0, r1⟩ := hd 3 (by kernel_rfl)
                  obtain ⟨q, x5, q0, q1⟩ := hd 5 (by kernel_rfl)
                  have hrq : 0 ≤ r * q ∧ r * q ≤ 4 := by rcases (show r = 0 ∨ r = 1 by omega) with rfl | rfl <;> omega
                  have srq : IntKind.i64.wrap (r * q) = r * q := IntWalk.i64_in _ (by omega)
                  generalize hK : (fun (a' : Act) (w'' : World) => ∃ v : Value, _ ∧ _ ∧ _ ∧ _) = K
                  generalize hu3 : vs 3 = u3 at x3 ⊢
                  subst x3
                  generalize hu5 : vs 5 = u5 at x5 ⊢
                  subst x5
                  go_simp
                  rw [← hK]
                  exact ⟨_, by simp [upd, hu3, hu5], ⟨_, rfl, hrq⟩, hI, Keeps.refl _ _⟩
                | 7, ho, _ =>
                  simp only [List.getElem?_cons_succ, List.getElem?_cons_zero, Option.some.injEq] at ho
                  subst ho
                  refine ⟨wanted_none rfl, ?_⟩
                  have x1 : vs 1 = .int .i64 t := hd 1 (by kernel_rfl)
                  obtain ⟨d, x6, d0, d1⟩ := hd 6 (by kernel_rfl)
                  have sd : IntKind.i64.wrap (t + d) = t + d := IntWalk.i64_in _ (by have h := HBT.out; omega)
                  generalize hK : (fun (a' : Act) (w'' : World) => ∃ v : Value, _ ∧ _ ∧ _ ∧ _) = K
                  generalize hu1 : vs 1 = u1 at x1 ⊢
                  subst x1
                  generalize hu6 : vs 6 = u6 at x6 ⊢
                  subst x6
                  go_simp
                  rw [← hK]
                  exact ⟨_, by simp [upd, hu1, hu6], ⟨d, rfl, d0, d1⟩, hI, Keeps.refl _ _⟩
                | 8, ho, _ =>
                  simp only [List.getElem?_cons_succ, List.getElem?_cons_zero, Option.some.injEq] at ho
                  subst ho
                  refine ⟨wanted_none rfl, ?_⟩
                  have HX2 := HX.out.keeps hI.2 (by have h7 := HP7.out; have h1 := HS9.out.hg; have h2 := HS9.out.h3; have h3 := HS9.out.h6; omega)
                  have x0 := HX2.cell (j := 0) rfl
                  have x1 := HX2.cell (j := 1) rfl
                  have x2 := HX2.cell (j := 2) rfl
                  have x3 := HX2.cell (j := 3) rfl
                  generalize hK : (fun (a' : Act) (w'' : World) => ∃ v : Value, _ ∧ _ ∧ _ ∧ _) = K
                  go_simp
                  rw [← hK]
                  exact ⟨_, rfl, rfl, hI, Keeps.refl _ _⟩
                | 9, ho, _ =>
                  simp only [List.getElem?_cons_succ, List.getElem?_cons_zero, Option.some.injEq] at ho
                  subst ho
                  refine ⟨wanted_none rfl, ?_⟩
                  obtain ⟨d, x7, d0, d1⟩ := hd 7 (by kernel_rfl)
                  have x8 : vs 8 = .agg #[.int .i64 C.k, .int .i64 C.b, .int .i64 C.r, .int .i64 C.c] := hd 8 (by kernel_rfl)
                  generalize hK : (fun (a' : Act) (w'' : World) => ∃ v : Value, _ ∧ _ ∧ _ ∧ _) = K
                  generalize hu7 : vs 7 = u7 at x7 ⊢
                  subst x7
                  generalize hu8 : vs 8 = u8 at x8 ⊢
                  subst x8
                  go_simp
                  rw [← hK]
                  exact ⟨_, by simp [upd, hu7, hu8], ⟨d, rfl, d0, d1⟩, hI, Keeps.refl _ _⟩
                | 10, ho, _ =>
                  simp only [List.getElem?_cons_succ, List.getElem?_cons_zero, Option.some.injEq] at ho
                  subst ho
                  refine ⟨wanted_none rfl, ?_⟩
                  obtain ⟨d, x9, d0, d1⟩ := hd 9 (by kernel_rfl)
                  generalize hK : (fun (a' : Act) (w'' : World) => ∃ v : Value, _ ∧ _ ∧ _ ∧ _) = K
                  generalize hu9 : vs 9 = u9 at x9 ⊢
                  subst x9
                  go_simp
                  rw [← hK]
                  exact ⟨_, by simp [upd, hu9], ⟨d, w'.heap.size, rfl, ⟨d0, d1⟩, hI.2.size, Blk.new _ _ _⟩, ⟨hI.1.old (below_alloc _ _), hI.2.trans (Keeps.of_below (below_alloc _ _))⟩, Keeps.of_below (below_alloc _ _)⟩
                | n + 11, _, hin => exact absurd hin (by omega)
              case hend3 =>
                intro vs wA hI hf
                have e0 : vs 0 = .slice ea en ec := hf 0 (by decide)
                obtain ⟨d, h, e10, hd, hh, hbk⟩ := hf 10 (by decide)
                generalize vs 0 = u0 at e0 ⊢
                subst e0
                generalize vs 10 = u10 at e10 ⊢
                subst e10
                have HSA := hid (HS9.out.keeps hI.1 hI.2)
                have HTA := hid (HT9.out d hd)
                have HENB := hid HEN.out.1
                have HCL := hid (fun (j : Nat) (u : Value) (hu : (encE ⟨t + d, C⟩)[j]? = some u) => (hbk.cell (j := j) (v := u) hu))
                clear hI hf hbk
                refine wpTail_append_rec recE rfl _ _ rfl wA (w.heap.size + 2) wA.heap.size h ea en ec es HSA.out.evs rfl ⟨t + d, C⟩ (fun j u hu => by rw [addr_add0]; exact HCL.out j u hu) rfl (by have h1 := HSA.out.h3; have h2 := HSA.out.h6; have h3 := HSA.out.rk.lt; omega) (by have h1 := HENB.out; omega) ?_
                intro a' c' wB hrow hk2
                have HSB := hid (HSA.out.app hrow hk2 (Nat.succ_pos _))
                clear hrow hk2 HSA HCL hh
                refine wpTail_plain rfl fun K hK => ?_
                go_simp
                refine hK _ _ (wpTail_nil ?_)
                clear hK K
                go_wp2_with fail
                go_roundw
                case rel => exact ⟨k + 1, ⟨a', en + 1, c', es ++ [⟨t + d, C⟩]⟩, R', by omega, by go_num, rfl, HSB, hid (by have h := HL.out; simp; omega), HTA⟩
                case measure => simp [intOf]; omega
    · have hki : ¬ (k : Int) < (N : Int) := by omega
      go_wp2_with fail
      go_ret
      exact ⟨⟨ea, en, ec, es⟩, rfl, HS.out.evs.mono (by omega), by have h := HL.out; dsimp only; omega, HS.out.nn, ⟨_, HT.out⟩, HS.out.cur, HS.out.keep⟩
    end Go.Proofs.YtggjheapjklhgaaDoor
    
/- The reference's draw of a geometry, a timing and a trace without faults. -/
namespace Go.Proofs.YtggjheapjklhgaaDoor
open Go.RowKit
theorem results_three {P : Program} {fn : Func} {tmps : Array Value} {w : World} {a b c : Nat} {t u : TypeId} {p q : Addr} {x y z : Value} (hr : fn.results = #[.cell a t, .cell b u, .tmp c]) (ha : tmps.getD a undef = .pointer (some p)) (hb : tmps.getD b undef = .pointer (some q)) (hc : tmps.getD c undef = z)
    (h1 : (loadVar t p).run P w = .ok x w) (h2 : (loadVar u q).run P w = .ok y w) : (results fn tmps).run P w = .ok (.tuple #[x, y, z]) w := by
  unfold results
  rw [hr]
  have ha' : tmps[a]?.getD undef = .pointer (some p) := by simpa using ha
  have hb' : tmps[b]?.getD undef = .pointer (some q) := by simpa using hb
  have hc' : tmps[c]?.getD undef = z := by simpa using hc
  simp [ha', hb', hc', asAddr, h1, h2]
theorem Keeps.hideS {S U : Nat → Prop} {w w1 w2 : World} (h : Keeps S w w1) (h2 : Keeps U w1 w2) (hu : ∀ b, b < w.heap.size → U b → S b) : Keeps S w w2 :=
  ⟨h2.os.trans h.os, h2.tape.trans h.tape, h2.output.trans h.output, Nat.le_trans h.size h2.size, fun b hb hs => (h2.block b (Nat.lt_of_lt_of_le hb h.size) (fun e => hs (hu b hb e))).trans (h.block b hb hs)⟩
theorem load_geo {w : World} {g : Nat} {G : Geo} (h : Blk w g 32 [.int .i64 G.a, .int .i64 G.b, .int .i64 G.r, .int .i64 G.c]) : (loadVar 32 ⟨g, 0, none⟩).run Tryd.prog w = .ok (.agg #[.int .i64 G.a, .int .i64 G.b, .int .i64 G.r, .int .i64 G.c]) w := by
  have v0 := h.cell (j := 0) rfl
  have v1 := h.cell (j := 1) rfl
  have v2 := h.cell (j := 2) rfl
  have v3 := h.cell (j := 3) rfl
  simp [go_sem, v0, v1, v2, v3]
theorem load_tim {w : World} {g : Nat} {T : Tim} (h : BoxT w g T) : (loadVar 34 ⟨g, 0, none⟩).run Tryd.prog w = .ok (.agg #[.int .i64 T.t0, .int .i64 T.t1, .int .i64 T.t2, .int .i64 T.t3, .int .i64 T.t4, .int .i64 T.t5, .int .i64 T.t6, .int .i64 T.t7, .int .i64 T.t8, .int .i64 T.t9, .int .i64 T.t10, .int .i64 T.t11, .int .i64 T.t12, .int .i64 T.t13, .int .i64 T.t14, .int .i64 T.t15, .int .i64 T.t16]) w :=
  run_loadVar_mid (P := Tryd.prog) w g 0 34 (timV T) _ (rangeT h) Tryd.underlying34 rfl (by kernel_rfl)
/-- A timing is stored, at a tail's operation. -/
theorem wpTail_store_tim {w : World} {g : Nat} {T : Tim} (ht : w.there g 0 17) {ops : Array Oper} {rest : List Oper} {o : Oper} {ac : Act} {Q : Exit → Act → World → Prop} (hgd : o.guard = none) (x y : Operand) (ho : o.op = .store 34 x y)
    (hx : ac.eval x = .pointer (some ⟨g, 0, none⟩)) (hy : ac.eval y = .agg #[.int .i64 T.t0, .int .i64 T.t1, .int .i64 T.t2, .int .i64 T.t3, .int .i64 T.t4, .int .i64 T.t5, .int .i64 T.t6, .int .i64 T.t7, .int .i64 T.t8, .int .i64 T.t9, .int .i64 T.t10, .int .i64 T.t11, .int .i64 T.t12, .int .i64 T.t13, .int .i64 T.t14, .int .i64 T.t15, .int .i64 T.t16]) (hk : wpTail Tryd.prog ops Q rest (ac.put o.dst undef) (w.setCells g 0 (timV T))) : wpTail Tryd.prog ops Q (o :: rest) ac w := by
  refine wpTail_plain hgd fun K hK => ?_
  exact wp_store_mid 34 x y ho g 0 (timV T).toArray hx hy ht (by kernel_rfl) (by simp [timV, timL, Value.oneCell']) (hK _ _ hk)
set_option maxHeartbeats 8000000 in
set_option maxRecDepth 100000 in
theorem l09Case_any (g n c : Nat) (a : Option Addr) (w : World) (hc : Cur w g a n c) :
    Calls Tryd.prog 19 #[.pointer (some ⟨g, 0, none⟩)] w fun e w' => ∃ (G : Geo) (T : Tim) (E : EvsE), e = .returned (.tuple #[.agg #[.int .i64 G.a, .int .i64 G.b, .int .i64 G.r, .int .i64 G.c], .agg #[.int .i64 T.t0, .int .i64 T.t1, .int .i64 T.t2, .int .i64 T.t3, .int .i64 T.t4, .int .i64 T.t5, .int .i64 T.t6, .int .i64 T.t7, .int .i64 T.t8, .int .i64 T.t9, .int .i64 T.t10, .int .i64 T.t11, .int .i64 T.t12, .int .i64 T.t13, .int .i64 T.t14, .int .i64 T.t15, .int .i64 T.t16], .slice E.a E.n E.c]) ∧ OwnEv w' w.heap.size w'.heap.size E ∧ E.es.length ≤ 30 ∧ (∃ b, E.a = some ⟨b, 0, none⟩) ∧ (∃ D, TrOk G T E.es D) ∧ Cur w' g a n c ∧ Keeps (· = g) w w' := by
  have HG := hid hc.lt
  have HWH := hid hc.reads.where_
  have HC := hid hc
  clear hc
  go_enter Tryd.func19, Tryd.ntmps19
  go_upto_region 1 with (fail)
  refine wp_world (fun w1 hw => ?_)
  have HV := hid (show Blk w1 w.heap.size 32 [.int .i64 0, .int .i64 0, .int .i64 0, .int .i64 0] by rw [hw.out]; exact (Blk.new _ _ _).old (below_alloc _ _))
  have HU := hid (show Blk w1 (w.heap.size + 1) 34 (timV zeroT) by rw [hw.out]; simpa using Blk.zeroT (w.alloc (.cells #[.int .i64 0, .int .i64 0, .int .i64 0, .int .i64 0] 32)) 34)
  have HC := hid (show Cur w1 g a n c by rw [hw.out]; exact HC.out.old (below_alloc2 _ _ _))
  have HK := hid (show Keeps (fun b => b = g) w w1 by rw [hw.out]; exact Keeps.of_below (below_alloc2 _ _ _))
  have HS1 := hid HU.out.lt
  clear hw
  go_wp2_with fail
  refine (l03Geo_any _ _ _ _ _ HC.out).mono ?_
  rintro e w2 ⟨G, rfl, hgo, C, K⟩
  have HGO := hid hgo
  have HC := hid C
  have HV := hid (HV.out.keeps K (by have := HG.out; omega))
  have HU := hid (HU.out.keeps K (by have := HG.out; omega))
  have HK := hid (HK.out.trans K)
  have HS2 := hid HU.out.lt
  clear C K hgo HS1
  go_upto_region 2 with (fail)
  refine wp_world (fun w3 hw => ?_)
  have HXG := hid (show BoxG w3 w2.heap.size G by rw [hw.out]; exact BoxG.new_ _ _ _ rfl)
  have B : Below w2.heap.size w2 w3 := by rw [hw.out]; exact below_alloc _ _
  have HC := hid (HC.out.old B)
  have HV := hid (HV.out.old B)
  have HU := hid (HU.out.old B)
  have HK := hid (HK.out.trans (Keeps.of_below B))
  clear hw B
  generalize w2.heap.size = p5 at *
  go_wp2_with fail
  refine (l07Time_any _ _ _ _ _ HC.out).mono ?_
  rintro e w4 ⟨T, rfl, hto, C, K⟩
  have HTO := hid hto
  have HC := hid C
  have HV := hid (HV.out.keeps K (by have := HG.out; omega))
  have HU := hid (HU.out.keeps K (by have := HG.out; omega))
  have HXG := hid (HXG.out.keeps K (by have := HG.out; have := HS2.out; omega))
  have HK := hid (HK.out.trans K)
  have HS4 := hid HXG.out.lt
  clear C K hto
  have HT := hid (Blk.zeroT w4 34)
  have HTT := hid HT.out.there
  go_upto_region 3 with (refine wpList_store_tim (T := T) HTT.out (by rfl) _ _ (by rfl) (by rfl) (by rfl) ?_)
  refine wp_world (fun w5 hw => ?_)
  have HXT := hid (BoxT.of_blk (show Blk w5 w4.heap.size 34 (timV T) by rw [hw.out]; exact HT.out.tim T))
  have B : Below w4.heap.size w4 w5 := by rw [hw.out]; exact (below_alloc _ _).trans ((setCells_keeps w4.heap.size (timV T) 0 _).below (by simp) (fun k hk e => by omega))
  have HC := hid (HC.out.old B)
  have HV := hid (HV.out.old B)
  have HU := hid (HU.out.old B)
  have HXG := hid (HXG.out.old B)
  have HK := hid (HK.out.trans (Keeps.of_below B))
  have hS5 : w.heap.size + 2 ≤ w5.heap.size := by have := HU.out.lt; omega
  have HS5 := hid hS5
  clear hw B HT HTT hS5
  generalize w4.heap.size = p6 at *
  have hn1 : ¬ (p5 = g ∨ p5 = w.heap.size) := by have := HG.out; have := HS2.out; omega
  have hn2 : ¬ (p6 = g ∨ p6 = w.heap.size) := by have := HG.out; have := HS2.out; have := HS4.out; omega
  have HN1 := hid hn1
  have HN2 := hid hn2
  clear hn1 hn2
  refine invS_of 9 (fr := ?fr1)
    (fun i v w' => match i with
        | 0 => v = .agg #[.int .i64 G.a, .int .i64 G.b, .int .i64 G.r, .int .i64 G.c]
        | 1 => v = .agg #[.int .i64 T.t0, .int .i64 T.t1, .int .i64 T.t2, .int .i64 T.t3, .int .i64 T.t4, .int .i64 T.t5, .int .i64 T.t6, .int .i64 T.t7, .int .i64 T.t8, .int .i64 T.t9, .int .i64 T.t10, .int .i64 T.t11, .int .i64 T.t12, .int .i64 T.t13, .int .i64 T.t14, .int .i64 T.t15, .int .i64 T.t16]
        | 2 => v = .pointer (some ⟨g, 0, none⟩)
        | 3 => v = .agg #[.int .i64 G.a, .int .i64 G.b, .int .i64 G.r, .int .i64 G.c]
        | 4 => v = .agg #[.int .i64 T.t0, .int .i64 T.t1, .int .i64 T.t2, .int .i64 T.t3, .int .i64 T.t4, .int .i64 T.t5, .int .i64 T.t6, .int .i64 T.t7, .int .i64 T.t8, .int .i64 T.t9, .int .i64 T.t10, .int .i64 T.t11, .int .i64 T.t12, .int .i64 T.t13, .int .i64 T.t14, .int .i64 T.t15, .int .i64 T.t16]
        | 5 => v = .pointer (some ⟨g, 0, none⟩)
        | 6 => ∃ N : Nat, v = .int .i64 N ∧ N ≤ 30
        | 7 => ∃ E : EvsE, v = .slice E.a E.n E.c ∧ OwnEv w' w5.heap.size w'.heap.size E ∧ E.es.length ≤ 30 ∧ (∃ b, E.a = some ⟨b, 0, none⟩) ∧ ∃ D, TrOk G T E.es D
        | _ => Blk w' w.heap.size 32 [.int .i64 G.a, .int .i64 G.b, .int .i64 G.r, .int .i64 G.c]
      ) (fun w' => Cur w' g a n c ∧ Keeps (fun b => b = g ∨ b = w.heap.size) w5 w' ∧ ∃ y0 y1 y2 y3 : Value, Blk w' w.heap.size 32 [y0, y1, y2, y3]) (fun w' w'' => Keeps (fun b => b = g ∨ b = w.heap.size) w' w'' ∧ (Blk w' w.heap.size 32 [.int .i64 G.a, .int .i64 G.b, .int .i64 G.r, .int .i64 G.c] → Blk w'' w.heap.size 32 [.int .i64 G.a, .int .i64 G.b, .int .i64 G.r, .int .i64 G.c])) (by kernel_rfl) (by kernel_rfl) (by decide) (by kernel_rfl) ?hfr1 ⟨fun _ => undef, ?h01⟩ ?hI1 ?hF1 ?hstep1 ?hend1
  case hfr1 => intro vs; simp only [frOf, List.take_succ_cons, List.take_zero]; go_simp; exact rfl
  case h01 => rfl
  case hI1 => exact ⟨HC.out.drewN 1, Keeps.ofDrewN _ _ _, ⟨_, _, _, _, HV.out⟩⟩
  case hF1 =>
    intro i v w' w'' h hI hR
    match i, h with
    | 0, h => exact h
    | 1, h => exact h
    | 2, h => exact h
    | 3, h => exact h
    | 4, h => exact h
    | 5, h => exact h
    | 6, h => exact h
    | 7, h => obtain ⟨E, e, O, l, nn, t⟩ := h; exact ⟨E, e, (O.keeps hR.1 (fun b hb _ => by have := HG.out; have := HS5.out; omega)).up hR.1.size (Nat.le_refl _), l, nn, t⟩
    | n + 8, h => exact hR.2 h
  case hstep1 =>
    intro vs w' i o hin ho hI hd
    match i, ho, hin with
    | 0, ho, _ =>
      simp only [List.getElem?_cons_zero, Option.some.injEq] at ho
      subst ho
      refine ⟨wanted_none rfl, ?_⟩
      obtain ⟨_, c0, c1, c2, c3⟩ := HXG.out.keeps hI.2.1 HN1.out
      generalize hK : (fun (a' : Act) (w'' : World) => ∃ v : Value, _ ∧ _ ∧ _ ∧ _) = K
      go_simp
      rw [← hK]
      exact ⟨_, rfl, rfl, hI, ⟨Keeps.refl _ _, fun h => h⟩⟩
    | 1, ho, _ =>
      simp only [List.getElem?_cons_succ, List.getElem?_cons_zero, Option.some.injEq] at ho
      subst ho
      refine ⟨wanted_none rfl, ?_⟩
      generalize hK : (fun (a' : Act) (w'' : World) => ∃ v : Value, _ ∧ _ ∧ _ ∧ _) = K
      refine wp_load_tim (HXT.out.keeps hI.2.1 HN2.out) _ rfl (by go_simp) ?_
      rw [← hK]
      exact ⟨_, rfl, rfl, hI, ⟨Keeps.refl _ _, fun h => h⟩⟩
    | 2, ho, _ =>
      simp only [List.getElem?_cons_succ, List.getElem?_cons_zero, Option.some.injEq] at ho
      subst ho
      refine ⟨wanted_none rfl, ?_⟩
      generalize hK : (fun (a' : Act) (w'' : World) => ∃ v : Value, _ ∧ _ ∧ _ ∧ _) = K
      go_simp
      rw [← hK]
      exact ⟨_, rfl, rfl, hI, ⟨Keeps.refl _ _, fun h => h⟩⟩
    | 3, ho, _ =>
      simp only [List.getElem?_cons_succ, List.getElem?_cons_zero, Option.some.injEq] at ho
      subst ho
      refine ⟨wanted_none rfl, ?_⟩
      obtain ⟨_, c0, c1, c2, c3⟩ := HXG.out.keeps hI.2.1 HN1.out
      generalize hK : (fun (a' : Act) (w'' : World) => ∃ v : Value, _ ∧ _ ∧ _ ∧ _) = K
      go_simp
      rw [← hK]
      exact ⟨_, rfl, rfl, hI, ⟨Keeps.refl _ _, fun h => h⟩⟩
    | 4, ho, _ =>
      simp only [List.getElem?_cons_succ, List.getElem?_cons_zero, Option.some.injEq] at ho
      subst ho
      refine ⟨wanted_none rfl, ?_⟩
      generalize hK : (fun (a' : Act) (w'' : World) => ∃ v : Value, _ ∧ _ ∧ _ ∧ _) = K
      refine wp_load_tim (HXT.out.keeps hI.2.1 HN2.out) _ rfl (by go_simp) ?_
      rw [← hK]
      exact ⟨_, rfl, rfl, hI, ⟨Keeps.refl _ _, fun h => h⟩⟩
    | 5, ho, _ =>
      simp only [List.getElem?_cons_succ, List.getElem?_cons_zero, Option.some.injEq] at ho
      subst ho
      refine ⟨wanted_none rfl, ?_⟩
      generalize hK : (fun (a' : Act) (w'' : World) => ∃ v : Value, _ ∧ _ ∧ _ ∧ _) = K
      go_simp
      rw [← hK]
      exact ⟨_, rfl, rfl, hI, ⟨Keeps.refl _ _, fun h => h⟩⟩
    | 6, ho, _ =>
      simp only [List.getElem?_cons_succ, List.getElem?_cons_zero, Option.some.injEq] at ho
      subst ho
      refine ⟨wanted_none rfl, ?_⟩
      have HP : Hid (vs 5 = .pointer (some ⟨g, 0, none⟩)) := hd 5 (by kernel_rfl)
      generalize hK : (fun (a' : Act) (w'' : World) => ∃ v : Value, _ ∧ _ ∧ _ ∧ _) = K
      go_simp
      refine (calls_args (by rw [HP.out]) (l01Below_any _ _ _ _ 30 _ hI.1 (by omega))).mono ?_
      rintro e w3 ⟨r, rfl, r0, r1, C3, KK⟩
      rw [← hK]
      exact ⟨_, rfl, ⟨r.toNat, by rw [Int.toNat_of_nonneg r0], by have := r1 (by omega); omega⟩, ⟨C3, hI.2.1.trans (KK.mono fun _ _ h => .inl h), by obtain ⟨y0, y1, y2, y3, hy⟩ := hI.2.2; exact ⟨y0, y1, y2, y3, hy.keeps KK (by have := HG.out; omega)⟩⟩, ⟨KK.mono fun _ _ h => .inl h, fun h => h.keeps KK (by have := HG.out; omega)⟩⟩
    | 7, ho, _ =>
      simp only [List.getElem?_cons_succ, List.getElem?_cons_zero, Option.some.injEq] at ho
      subst ho
      refine ⟨wanted_none rfl, ?_⟩
      have HP : Hid (vs 2 = .pointer (some ⟨g, 0, none⟩)) := hd 2 (by kernel_rfl)
      have HE : Hid (vs 3 = .agg #[.int .i64 G.a, .int .i64 G.b, .int .i64 G.r, .int .i64 G.c]) := hd 3 (by kernel_rfl)
      have HF : Hid (vs 4 = .agg #[.int .i64 T.t0, .int .i64 T.t1, .int .i64 T.t2, .int .i64 T.t3, .int .i64 T.t4, .int .i64 T.t5, .int .i64 T.t6, .int .i64 T.t7, .int .i64 T.t8, .int .i64 T.t9, .int .i64 T.t10, .int .i64 T.t11, .int .i64 T.t12, .int .i64 T.t13, .int .i64 T.t14, .int .i64 T.t15, .int .i64 T.t16]) := hd 4 (by kernel_rfl)
      obtain ⟨N, hN, hN2⟩ := hd 6 (by kernel_rfl)
      have HQ := hid hN
      clear hN
      generalize hK : (fun (a' : Act) (w'' : World) => ∃ v : Value, _ ∧ _ ∧ _ ∧ _) = K
      go_simp
      refine (calls_args (by rw [HP.out, HE.out, HF.out, HQ.out]) (l09Trace_any _ _ _ _ G T N _ hI.1 HGO.out HTO.out hN2)).mono ?_
      rintro e w3 ⟨E, rfl, O, l, nn, t, C3, KK⟩
      rw [← hK]
      exact ⟨_, rfl, ⟨E, rfl, O.mono hI.2.1.size, l, nn, t⟩, ⟨C3, hI.2.1.trans (KK.mono fun _ _ h => .inl h), by obtain ⟨y0, y1, y2, y3, hy⟩ := hI.2.2; exact ⟨y0, y1, y2, y3, hy.keeps KK (by have := HG.out; omega)⟩⟩, ⟨KK.mono fun _ _ h => .inl h, fun h => h.keeps KK (by have := HG.out; omega)⟩⟩
    | 8, ho, _ =>
      simp only [List.getElem?_cons_succ, List.getElem?_cons_zero, Option.some.injEq] at ho
      subst ho
      refine ⟨wanted_none rfl, ?_⟩
      have x0 : vs 0 = .agg #[.int .i64 G.a, .int .i64 G.b, .int .i64 G.r, .int .i64 G.c] := hd 0 (by kernel_rfl)
      obtain ⟨y0, y1, y2, y3, hy⟩ := hI.2.2
      have v0 := hy.cell (j := 0) rfl
      have v1 := hy.cell (j := 1) rfl
      have v2 := hy.cell (j := 2) rfl
      have v3 := hy.cell (j := 3) rfl
      have f0 := hy.frozen 0
      have f1 := hy.frozen 1
      have f2 := hy.frozen 2
      have f3 := hy.frozen 3
      have XV : Blk ((((w'.setCell ⟨w.heap.size, 0, none⟩ (.int .i64 G.a)).setCell ⟨w.heap.size, 1, none⟩ (.int .i64 G.b)).setCell ⟨w.heap.size, 2, none⟩ (.int .i64 G.r)).setCell ⟨w.heap.size, 3, none⟩ (.int .i64 G.c)) w.heap.size 32 [.int .i64 G.a, .int .i64 G.b, .int .i64 G.r, .int .i64 G.c] := ((((hy.set 0 _).1.set 1 _).1.set 2 _).1.set 3 _).1
      have KV : Keeps (fun q => q = w.heap.size) w' ((((w'.setCell ⟨w.heap.size, 0, none⟩ (.int .i64 G.a)).setCell ⟨w.heap.size, 1, none⟩ (.int .i64 G.b)).setCell ⟨w.heap.size, 2, none⟩ (.int .i64 G.r)).setCell ⟨w.heap.size, 3, none⟩ (.int .i64 G.c)) := ((((Keeps.refl (fun q => q = w.heap.size) w').set ⟨w.heap.size, 0, none⟩ _ rfl).set ⟨w.heap.size, 1, none⟩ _ rfl).set ⟨w.heap.size, 2, none⟩ _ rfl).set ⟨w.heap.size, 3, none⟩ _ rfl
      have HKV := hid KV
      have HXV := hid XV
      clear KV XV hy
      generalize hK : (fun (a' : Act) (w'' : World) => ∃ v : Value, _ ∧ _ ∧ _ ∧ _) = K
      generalize hu0 : vs 0 = u0 at x0 ⊢
      subst x0
      go_simp
      rw [← hK]
      exact ⟨undef, by simp [upd, hu0], HXV.out, ⟨hI.1.keeps HKV.out (by have := HG.out; omega) (fun b o ha h0 => by have := HWH.out b o ha h0; omega), hI.2.1.trans (HKV.out.mono fun _ _ h => .inr h), ⟨_, _, _, _, HXV.out⟩⟩, ⟨HKV.out.mono fun _ _ h => .inr h, fun _ => HXV.out⟩⟩
    | n + 9, _, hin => exact absurd hin (by omega)
  case hend1 =>
    intro vs wA hI hf
    have e1 : vs 1 = .agg #[.int .i64 T.t0, .int .i64 T.t1, .int .i64 T.t2, .int .i64 T.t3, .int .i64 T.t4, .int .i64 T.t5, .int .i64 T.t6, .int .i64 T.t7, .int .i64 T.t8, .int .i64 T.t9, .int .i64 T.t10, .int .i64 T.t11, .int .i64 T.t12, .int .i64 T.t13, .int .i64 T.t14, .int .i64 T.t15, .int .i64 T.t16] := hf 1 (by decide)
    obtain ⟨E, e7, O, hl, hnn, hT⟩ := hf 7 (by decide)
    have e8 : Blk wA w.heap.size 32 [.int .i64 G.a, .int .i64 G.b, .int .i64 G.r, .int .i64 G.c] := hf 8 (by decide)
    generalize vs 1 = u1 at e1 ⊢
    subst e1
    generalize vs 7 = u7 at e7 ⊢
    subst e7
    have HO := hid O
    have HL := hid hl
    have HTR := hid hT
    have HNN := hid hnn
    have HV := hid e8
    have HU := hid (HU.out.keeps hI.2.1 (by have := HG.out; omega))
    have HC := hid hI.1
    have HK := hid (HK.out.hideS hI.2.1 (fun b hb => by omega))
    clear hI hf e8 O hl hT hnn
    refine wpTail_store_tim HU.out.there rfl _ _ rfl rfl rfl ?_
    have HUT := hid (HU.out.tim T)
    have KU := setCells_keeps (w.heap.size + 1) (timV T) 0 wA
    have HV := hid (HV.out.keeps KU (by omega))
    have HC := hid (HC.out.keeps KU (by have := HG.out; omega) (fun b o ha h0 => by have := HWH.out b o ha h0; omega))
    have HO := hid ((OwnEv.keeps HO.out KU (fun b hb _ e => by have := HS5.out; omega)).up KU.size (Nat.le_refl _))
    have HK := hid (HK.out.hide KU (by omega))
    have HSA := hid (show w.heap.size + 2 ≤ w5.heap.size from HS5.out)
    clear KU HU
    generalize wA.setCells (w.heap.size + 1) 0 (timV T) = wB at *
    refine wpTail_plain rfl fun K hK => ?_
    go_simp
    refine hK _ _ (wpTail_nil ?_)
    clear hK K
    have hl1 := load_geo HV.out
    have hl2 := load_tim (BoxT.of_blk HUT.out)
    go_wp2_with fail
    exact bodyPost_ret (v := .tuple #[.agg #[.int .i64 G.a, .int .i64 G.b, .int .i64 G.r, .int .i64 G.c], .agg #[.int .i64 T.t0, .int .i64 T.t1, .int .i64 T.t2, .int .i64 T.t3, .int .i64 T.t4, .int .i64 T.t5, .int .i64 T.t6, .int .i64 T.t7, .int .i64 T.t8, .int .i64 T.t9, .int .i64 T.t10, .int .i64 T.t11, .int .i64 T.t12, .int .i64 T.t13, .int .i64 T.t14, .int .i64 T.t15, .int .i64 T.t16], .slice E.a E.n E.c]) (results_three (p := ⟨w.heap.size, 0, none⟩) (q := ⟨w.heap.size + 1, 0, none⟩) (by exact Tryd.results19) (by rfl) (by rfl) (by rfl) hl1 hl2) rfl ⟨G, T, E, rfl, HO.out.mono (by have := HS5.out; omega), HL.out, HNN.out, HTR.out, HC.out, HK.out⟩
end Go.Proofs.YtggjheapjklhgaaDoor

/- The reference's draw of a trace. -/
namespace Go.Proofs.YtggjheapjklhgaaDoor
open Go.RowKit
set_option maxHeartbeats 8000000 in
set_option maxRecDepth 100000 in
theorem DrawTrace_any (a : Option Addr) (n c : Nat) (w : World) (hr : BytesR w a n) (hn : n ≤ 2097152) :
    Calls Tryd.prog 11 #[.slice a n c] w fun e w' => ∃ (G : Geo) (T : Tim) (E : EvsE), e = .returned (.tuple #[.agg #[.int .i64 G.a, .int .i64 G.b, .int .i64 G.r, .int .i64 G.c], .agg #[.int .i64 T.t0, .int .i64 T.t1, .int .i64 T.t2, .int .i64 T.t3, .int .i64 T.t4, .int .i64 T.t5, .int .i64 T.t6, .int .i64 T.t7, .int .i64 T.t8, .int .i64 T.t9, .int .i64 T.t10, .int .i64 T.t11, .int .i64 T.t12, .int .i64 T.t13, .int .i64 T.t14, .int .i64 T.t15, .int .i64 T.t16], .slice E.a E.n E.c]) ∧ OwnEv w' w.heap.size w'.heap.size E ∧ E.es.length ≤ 30 ∧ (∃ b, E.a = some ⟨b, 0, none⟩) ∧ (∃ D, TrOk G T E.es D) ∧ Below w.heap.size w w' := by
  have HR := hid hr
  clear hr
  go_enter Tryd.func11, Tryd.ntmps11
  go_upto_region 1 with (fail)
  refine wp_world (fun w1 hw => ?_)
  have HV := hid (show Blk w1 w.heap.size 32 [.int .i64 0, .int .i64 0, .int .i64 0, .int .i64 0] by rw [hw.out]; exact (Blk.new _ _ _).old (below_alloc _ _))
  have HU := hid (show Blk w1 (w.heap.size + 1) 34 (timV zeroT) by rw [hw.out]; simpa using Blk.zeroT (w.alloc (.cells #[.int .i64 0, .int .i64 0, .int .i64 0, .int .i64 0] 32)) 34)
  have HB := hid (show Below w.heap.size w w1 by rw [hw.out]; exact below_alloc2 _ _ _)
  have HR := hid (HR.out.old HB.out)
  have l1 := HU.out.lt
  clear hw
  go_wp2_with fail
  refine (l01New_any _ _ _ _ HR.out hn).mono ?_
  rintro e w2 ⟨g, rfl, hg, C, B⟩
  have HC := hid C
  have HV := hid (HV.out.old B)
  have HU := hid (HU.out.old B)
  have HB := hid (below_step HB.out B (Nat.le_refl _))
  clear C B HR
  go_wp2_with fail
  refine (l09Case_any _ _ _ _ _ HC.out).mono ?_
  rintro e w3 ⟨G, T, E, rfl, O, hl, hnn, ht, C, K⟩
  have HO := hid O
  have HL := hid hl
  have HT := hid ht
  have HNN := hid hnn
  have HV := hid (HV.out.keeps K (by omega))
  have HU := hid (HU.out.keeps K (by omega))
  have hs2 : w.heap.size + 2 ≤ w2.heap.size := by have := HC.out.lt; omega
  have HS2 := hid hs2
  have HB := hid (HB.out.trans (K.below (B := w.heap.size) (by omega) (fun k hk e => by omega)))
  clear C K O hl ht HC hs2 hnn
  have v0 := HV.out.cell (j := 0) rfl
  have v1 := HV.out.cell (j := 1) rfl
  have v2 := HV.out.cell (j := 2) rfl
  have v3 := HV.out.cell (j := 3) rfl
  have f0 := HV.out.frozen 0
  have f1 := HV.out.frozen 1
  have f2 := HV.out.frozen 2
  have f3 := HV.out.frozen 3
  have XV : Blk ((((w3.setCell ⟨w.heap.size, 0, none⟩ (.int .i64 G.a)).setCell ⟨w.heap.size, 1, none⟩ (.int .i64 G.b)).setCell ⟨w.heap.size, 2, none⟩ (.int .i64 G.r)).setCell ⟨w.heap.size, 3, none⟩ (.int .i64 G.c)) w.heap.size 32 [.int .i64 G.a, .int .i64 G.b, .int .i64 G.r, .int .i64 G.c] := ((((HV.out.set 0 _).1.set 1 _).1.set 2 _).1.set 3 _).1
  have KV : Keeps (fun q => q = w.heap.size) w3 ((((w3.setCell ⟨w.heap.size, 0, none⟩ (.int .i64 G.a)).setCell ⟨w.heap.size, 1, none⟩ (.int .i64 G.b)).setCell ⟨w.heap.size, 2, none⟩ (.int .i64 G.r)).setCell ⟨w.heap.size, 3, none⟩ (.int .i64 G.c)) := ((((Keeps.refl (fun q => q = w.heap.size) w3).set ⟨w.heap.size, 0, none⟩ _ rfl).set ⟨w.heap.size, 1, none⟩ _ rfl).set ⟨w.heap.size, 2, none⟩ _ rfl).set ⟨w.heap.size, 3, none⟩ _ rfl
  have HXV := hid XV
  have HKV := hid KV
  have HU := hid (HU.out.keeps KV (by omega))
  clear KV XV HV
  go_wp2_with (refine wpList_store_tim2 (T := T) (by rfl) _ _ (by rfl) (by rfl) (by rfl) (by exact HU.out.there) ?_)
  clear v0 v1 v2 v3 f0 f1 f2 f3
  have HO := hid ((OwnEv.keeps HO.out HKV.out (fun b hb _ e => by have := HS2.out; omega)).up HKV.out.size (Nat.le_refl _))
  have HB := hid (HB.out.trans (HKV.out.below (B := w.heap.size) (by have := HB.out.size; omega) (fun k hk e => by omega)))
  clear HKV
  generalize ((((w3.setCell ⟨w.heap.size, 0, none⟩ (.int .i64 G.a)).setCell ⟨w.heap.size, 1, none⟩ (.int .i64 G.b)).setCell ⟨w.heap.size, 2, none⟩ (.int .i64 G.r)).setCell ⟨w.heap.size, 3, none⟩ (.int .i64 G.c)) = w4 at *
  have HUT := hid (HU.out.tim T)
  have KU := setCells_keeps (w.heap.size + 1) (timV T) 0 w4
  have HV := hid (HXV.out.keeps KU (by omega))
  have HO := hid ((OwnEv.keeps HO.out KU (fun b hb _ e => by have := HS2.out; omega)).up KU.size (Nat.le_refl _))
  have HB := hid (HB.out.trans (KU.below (B := w.heap.size) (by have := HB.out.size; omega) (fun k hk e => by omega)))
  clear KU HU HXV
  generalize w4.setCells (w.heap.size + 1) 0 (timV T) = w5 at *
  have hl1 := load_geo HV.out
  have hl2 := load_tim (BoxT.of_blk HUT.out)
  exact bodyPost_ret (v := .tuple #[.agg #[.int .i64 G.a, .int .i64 G.b, .int .i64 G.r, .int .i64 G.c], .agg #[.int .i64 T.t0, .int .i64 T.t1, .int .i64 T.t2, .int .i64 T.t3, .int .i64 T.t4, .int .i64 T.t5, .int .i64 T.t6, .int .i64 T.t7, .int .i64 T.t8, .int .i64 T.t9, .int .i64 T.t10, .int .i64 T.t11, .int .i64 T.t12, .int .i64 T.t13, .int .i64 T.t14, .int .i64 T.t15, .int .i64 T.t16], .slice E.a E.n E.c]) (results_three (p := ⟨w.heap.size, 0, none⟩) (q := ⟨w.heap.size + 1, 0, none⟩) (by exact Tryd.results11) (by rfl) (by rfl) (by rfl) hl1 hl2) rfl ⟨G, T, E, rfl, HO.out.mono (by have := HS2.out; omega), HL.out, HNN.out, HT.out, HB.out⟩
end Go.Proofs.YtggjheapjklhgaaDoor
