/- The reference's draw of a geometry and a state that need not be valid. -/
import Derived.Test.YtggjheapjklhgaaStB
import Derived.Test.YtggjheapjklhgaaTrW
namespace Go.Proofs.Ytggjheapjklhgaa
open Go.RowKit
theorem RankR.keeps {S : Nat → Prop} {w w' : World} {R : RankE} (h : RankR w R) (hk : Keeps S w w') (hs : ∀ b o, R.a = some ⟨b, o, none⟩ → ¬ S b) : RankR w' R := ⟨h.recs.keeps hk hs, h.len⟩
theorem RecR.drop1 {α : Type} {f : α → List Value} {k : Nat} {w : World} {b : Nat} {xs : List α} (h : RecR f k w (some ⟨b, 0, none⟩) xs) : RecR f k w (some ⟨b, k, none⟩) (xs.drop 1) := by
  intro i x hx
  rw [List.getElem?_drop] at hx
  obtain ⟨b', o', e, hb, hc⟩ := h (1 + i) x hx
  simp only [Option.some.injEq, Addr.mk.injEq, and_true] at e
  obtain ⟨rfl, rfl⟩ := e
  refine ⟨b, k, rfl, hb, fun j v hv => ?_⟩
  have := hc j v hv
  rw [Nat.add_mul, Nat.one_mul, Nat.zero_add] at this
  exact this
theorem results_two {P : Program} {fn : Func} {tmps : Array Value} {w : World} {a b : Nat} {t u : TypeId} {p q : Addr} {x y : Value} (hr : fn.results = #[.cell a t, .cell b u]) (ha : tmps.getD a undef = .pointer (some p)) (hb : tmps.getD b undef = .pointer (some q))
    (h1 : (loadVar t p).run P w = .ok x w) (h2 : (loadVar u q).run P w = .ok y w) : (results fn tmps).run P w = .ok (.tuple #[x, y]) w := by
  unfold results
  rw [hr]
  have ha' : tmps[a]?.getD undef = .pointer (some p) := by simpa using ha
  have hb' : tmps[b]?.getD undef = .pointer (some q) := by simpa using hb
  simp [ha', hb', asAddr, h1, h2]
theorem load_rank {w : World} {g : Nat} {a : Option Addr} {n c : Nat} {q : Int} (h : Blk w g 41 [.slice a n c, .int .i64 q]) : (loadVar 41 ⟨g, 0, none⟩).run Try.prog w = .ok (.agg #[.slice a n c, .int .i64 q]) w := by
  have v0 := h.cell (j := 0) rfl
  have v1 := h.cell (j := 1) rfl
  simp [go_sem, v0, v1]
set_option maxHeartbeats 16000000 in
set_option maxRecDepth 100000 in
theorem l08Any_any (g n c : Nat) (a : Option Addr) (w : World) (hc : Cur w g a n c) :
    Calls Try.prog 132 #[.pointer (some ⟨g, 0, none⟩)] w fun e w' => ∃ (G : Geo) (R : RankE), e = .returned (.tuple #[.agg #[.int .i64 G.a, .int .i64 G.b, .int .i64 G.r, .int .i64 G.c], .agg #[.slice R.a R.n R.c, .int .i64 R.p]]) ∧ RankR w' R ∧ R.n ≤ 8 ∧ (∀ b o, R.a = some ⟨b, o, none⟩ → w.heap.size ≤ b) ∧ Cur w' g a n c ∧ Keeps (· = g) w w' := by
  have HG := hid hc.lt
  have HWH := hid hc.reads.where_
  have HC := hid hc
  clear hc
  go_enter Try.func132, Try.ntmps132
  go_upto_region 1 with (fail)
  refine wp_world (fun w1 hw => ?_)
  have HV := hid (show Blk w1 w.heap.size 25 [.int .i64 0, .int .i64 0, .int .i64 0, .int .i64 0] by rw [hw.out]; exact (Blk.new _ _ _).old (below_alloc _ _))
  have HU := hid (show Blk w1 (w.heap.size + 1) 41 [.slice none 0 0, .int .i64 0] by rw [hw.out]; simpa using Blk.new (w.alloc (.cells #[.int .i64 0, .int .i64 0, .int .i64 0, .int .i64 0] 25)) 41 [.slice none 0 0, .int .i64 0])
  have HC := hid (show Cur w1 g a n c by rw [hw.out]; exact HC.out.old (below_alloc2 _ _ _))
  have HK := hid (show Keeps (fun b => b = g) w w1 by rw [hw.out]; exact Keeps.of_below (below_alloc2 _ _ _))
  clear hw
  go_wp2_with fail
  refine (l03Geo_any _ _ _ _ _ HC.out).mono ?_
  rintro e w2 ⟨G, rfl, hgo, Cu, K⟩
  have HGO := hid hgo
  have HC := hid Cu
  have HV := hid (HV.out.keeps K (by have := HG.out; omega))
  have HU := hid (HU.out.keeps K (by have := HG.out; omega))
  have HK := hid (HK.out.trans K)
  have HL2 := hid HU.out.lt
  clear Cu K hgo
  go_upto_region 2 with (fail)
  refine wp_world (fun w3 hw => ?_)
  have HX := hid (show Blk w3 w2.heap.size 25 [.int .i64 G.a, .int .i64 G.b, .int .i64 G.r, .int .i64 G.c] by rw [hw.out]; exact Blk.new _ _ _)
  have B : Below w2.heap.size w2 w3 := by rw [hw.out]; exact below_alloc _ _
  have HC := hid (HC.out.old B)
  have HV := hid (HV.out.old B)
  have HU := hid (HU.out.old B)
  have HK := hid (HK.out.trans (Keeps.of_below B))
  clear hw B
  generalize w2.heap.size = p4 at *
  have c0 := HX.out.cell (j := 0) rfl
  have c1 := HX.out.cell (j := 1) rfl
  have c2 := HX.out.cell (j := 2) rfl
  have c3 := HX.out.cell (j := 3) rfl
  go_wp2_with fail
  clear c0 c1 c2 c3
  have HL3 := hid HX.out.lt
  refine (l08Rank_any _ _ _ _ G _ HC.out HGO.out).mono ?_
  rintro e w4 ⟨⟨ra, rn, rc, rs, rp⟩, rfl, O, hrk, Cu, K⟩
  have HRN : Hid (rn = rs.length) := hid (OwnF.length encB_len (by decide) O)
  have HR8 : Hid (rn ≤ 8 ∧ 0 < rn) := hid (by have h1 := (rankOk_iff.1 hrk).2.1; have h2 := bankN_bd G; have h3 := HRN.out; have h6 := bankN_pos HGO.out; have h4 : ((RankE.d ⟨ra, rn, rc, rs, rp⟩).banks.length : Int) = bankN G := h1; have h5 : (RankE.d ⟨ra, rn, rc, rs, rp⟩).banks.length = rs.length := rfl; omega)
  obtain ⟨gb, hgb, hgb1, hgb2⟩ := OwnF.form O HR8.out.2
  dsimp only at hgb
  subst hgb
  have HGB := hid (show p4 < gb by have := HL3.out; omega)
  have HO : Hid (OwnF encB 2 69 w4 w3.heap.size w4.heap.size (some ⟨gb, 0, none⟩) rn rc rs) := hid O
  have HC := hid Cu
  have HV := hid (HV.out.keeps K (by have := HG.out; omega))
  have HU := hid (HU.out.keeps K (by have := HG.out; omega))
  have HX := hid (HX.out.keeps K (by have h1 := HG.out; have h2 := HL2.out; omega))
  have HK := hid (HK.out.trans K)
  have HL4 := hid hgb2
  clear Cu K O hrk hgb1 hgb2
  go_upto_region 3 with (fail)
  refine wp_world (fun w5 hw => ?_)
  have HY := hid (show Blk w5 w4.heap.size 41 [.slice (some ⟨gb, 0, none⟩) rn rc, .int .i64 rp] by rw [hw.out]; exact Blk.new _ _ _)
  have B : Below w4.heap.size w4 w5 := by rw [hw.out]; exact below_alloc _ _
  have HC := hid (HC.out.old B)
  have HV := hid (HV.out.old B)
  have HU := hid (HU.out.old B)
  have HX := hid (HX.out.old B)
  have HO := hid (HO.out.old B)
  have HK := hid (HK.out.trans (Keeps.of_below B))
  clear hw B
  generalize w4.heap.size = p5 at *
  have HN1 := hid (show w.heap.size + 1 < p4 ∧ p4 < gb ∧ gb < p5 ∧ g < w.heap.size by have h1 := HG.out; have h2 := HL2.out; have h3 := HGB.out; have h4 := HL4.out; omega)
  go_wp2_with fail
  refine (l01Below_any _ _ _ _ _ _ HC.out (by omega)).mono ?_
  rintro e w6 ⟨r, rfl, r0, r1, Cu, K⟩
  have HC := hid Cu
  have HV := hid (HV.out.keeps K (by have h := HN1.out; omega))
  have HU := hid (HU.out.keeps K (by have h := HN1.out; omega))
  have HX := hid (HX.out.keeps K (by have h := HN1.out; omega))
  have HY := hid (HY.out.keeps K (by have h := HN1.out; omega))
  have HO := hid ((HO.out.keeps K (fun b _ _ e => by have h := HN1.out; have h2 := HL3.out; omega)).up (V := w6.heap.size) (Nat.le_trans HO.out.le K.size) (Nat.le_refl _))
  have HK := hid (HK.out.trans K)
  clear Cu K r0 r1 HL2 HL4 HGB
  by_cases e0 : r = 0
  · have t0 : (r == 0) = true := by simp [e0]
    clear e0
    go_wp2_with fail
    have RR := irow_lit w6 [(-1), 3, 2, 1]
    have b2 := (Below.refl w6.heap.size w6).alloc (Nat.le_refl _) (.cells ([(-1), 3, 2, 1].map (Value.int .i64)).toArray 3)
    refine (l01PickInt_any _ _ _ _ _ _ _ [(-1), 3, 2, 1] _ (HC.out.old b2) RR.reads rfl (by decide) (by decide) (by rintro k o e; simp at e; have := HG.out; have := HK.out.size; omega)).mono ?_
    rintro e w7 ⟨y, hy, rfl, Cu, K⟩
    have HC := hid Cu
    have HV := hid ((HV.out.old b2).keeps K (by have h := HN1.out; omega))
    have HU := hid ((HU.out.old b2).keeps K (by have h := HN1.out; omega))
    have HX := hid ((HX.out.old b2).keeps K (by have h := HN1.out; omega))
    have HY := hid ((HY.out.old b2).keeps K (by have h := HN1.out; omega))
    have HO := hid (((HO.out.old b2).keeps K (fun b _ _ e => by have h := HN1.out; have h2 := HL3.out; omega)).up (V := w7.heap.size) (Nat.le_trans HO.out.le (Nat.le_trans b2.size K.size)) (Nat.le_refl _))
    have HK := hid ((HK.out.trans (Keeps.of_below b2)).trans K)
    clear Cu K hy RR b2
    have x := HY.out.cell (j := 1) rfl
    have f := HY.out.frozen 1
    go_upto_region 12 with (fail)
    refine wp_world (fun w8 hw => ?_)
    have K := (HY.out.set 1 (.int .i64 y)).2
    have HY9 := hid (show Blk w8 p5 41 [.slice (some ⟨gb, 0, none⟩) rn rc, .int .i64 y] by rw [hw.out]; exact (HY.out.set 1 (.int .i64 y)).1)
    rw [← hw.out] at K
    have HC := hid (HC.out.keeps K (by have h := HN1.out; omega) (fun b o ha h0 => by have := HWH.out b o ha h0; have h := HN1.out; omega))
    have HV := hid (HV.out.keeps K (by have h := HN1.out; omega))
    have HU := hid (HU.out.keeps K (by have h := HN1.out; omega))
    have HX9 := hid (HX.out.keeps K (by have h := HN1.out; omega))
    have HR9 : Hid (RankR w8 ⟨some ⟨gb, 0, none⟩, rn, rc, rs, y⟩) := hid (RankR.keeps ⟨OwnF.reads encB_len (by decide) HO.out, HRN.out⟩ K (by intro b o e; simp at e; have h := HN1.out; omega))
    have HM9 := hid HR8.out.1
    have HA9 := hid (show ∀ b o, (some ⟨gb, 0, none⟩ : Option Addr) = some ⟨b, o, none⟩ → p4 ≤ b by intro b o e; simp at e; have h := HN1.out; omega)
    have HK := hid (HK.out.hide K (by have h := HN1.out; omega))
    clear hw K x f HX HY HO
    obtain ⟨a9, ha9⟩ : ∃ a9 : Option Addr, some ⟨gb, 0, none⟩ = a9 := ⟨_, rfl⟩
    rw [ha9] at HR9 HY9 HA9
    obtain ⟨n9, hn9⟩ : ∃ n9 : Nat, rn = n9 := ⟨_, rfl⟩
    rw [hn9] at HR9 HM9 HY9
    obtain ⟨c9, hc9⟩ : ∃ c9 : Nat, rc = c9 := ⟨_, rfl⟩
    rw [hc9] at HR9 HY9
    obtain ⟨s9, hs9⟩ : ∃ s9 : List (Bool × Int), rs = s9 := ⟨_, rfl⟩
    rw [hs9] at HR9
    obtain ⟨p9, hp9⟩ : ∃ p9 : Int, y = p9 := ⟨_, rfl⟩
    rw [hp9] at HR9 HY9
    clear ha9 hn9 hc9 hs9 hp9
    go_upto_region 12 with (fail)
    refine invS_of 3 (fr := ?fr1)
      (fun i v w' => match i with
          | 0 => v = .agg #[.int .i64 G.a, .int .i64 G.b, .int .i64 G.r, .int .i64 G.c]
          | 1 => v = .agg #[.slice a9 n9 c9, .int .i64 p9]
          | _ => Blk w' w.heap.size 25 [.int .i64 G.a, .int .i64 G.b, .int .i64 G.r, .int .i64 G.c]
        ) (fun w' => Keeps (fun b => b = w.heap.size) w8 w' ∧ ∃ y0 y1 y2 y3 : Value, Blk w' w.heap.size 25 [y0, y1, y2, y3]) (fun w' w'' => Keeps (fun b => b = w.heap.size) w' w'' ∧ (Blk w' w.heap.size 25 [.int .i64 G.a, .int .i64 G.b, .int .i64 G.r, .int .i64 G.c] → Blk w'' w.heap.size 25 [.int .i64 G.a, .int .i64 G.b, .int .i64 G.r, .int .i64 G.c])) (by kernel_rfl) (by kernel_rfl) (by decide) (by kernel_rfl) ?hfr1 ⟨fun _ => undef, ?h01⟩ ?hI1 ?hF1 ?hstep1 ?hend1
    case hfr1 => intro vs; simp only [frOf, List.take_succ_cons, List.take_zero]; go_simp; exact rfl
    case h01 => rfl
    case hI1 => exact ⟨Keeps.ofDrewN _ _ _, ⟨_, _, _, _, HV.out⟩⟩
    case hF1 =>
      intro i v w' w'' h hI hR
      match i, h with
      | 0, h => exact h
      | 1, h => exact h
      | n + 2, h => exact hR.2 h
    case hstep1 =>
      intro vs w' i o hin ho hI hd
      match i, ho, hin with
      | 0, ho, _ =>
        simp only [List.getElem?_cons_zero, Option.some.injEq] at ho
        subst ho
        refine ⟨wanted_none rfl, ?_⟩
        have HX2 := HX9.out.keeps hI.1 (by have h := HN1.out; omega)
        have c0 := HX2.cell (j := 0) rfl
        have c1 := HX2.cell (j := 1) rfl
        have c2 := HX2.cell (j := 2) rfl
        have c3 := HX2.cell (j := 3) rfl
        generalize hK : (fun (a' : Act) (w'' : World) => ∃ v : Value, _ ∧ _ ∧ _ ∧ _) = K
        go_simp
        rw [← hK]
        exact ⟨_, rfl, rfl, hI, ⟨Keeps.refl _ _, fun h => h⟩⟩
      | 1, ho, _ =>
        simp only [List.getElem?_cons_succ, List.getElem?_cons_zero, Option.some.injEq] at ho
        subst ho
        refine ⟨wanted_none rfl, ?_⟩
        have HY2 := HY9.out.keeps hI.1 (by have h := HN1.out; omega)
        have c0 := HY2.cell (j := 0) rfl
        have c1 := HY2.cell (j := 1) rfl
        generalize hK : (fun (a' : Act) (w'' : World) => ∃ v : Value, _ ∧ _ ∧ _ ∧ _) = K
        go_simp
        rw [← hK]
        exact ⟨_, rfl, rfl, hI, ⟨Keeps.refl _ _, fun h => h⟩⟩
      | 2, ho, _ =>
        simp only [List.getElem?_cons_succ, List.getElem?_cons_zero, Option.some.injEq] at ho
        subst ho
        refine ⟨wanted_none rfl, ?_⟩
        have x0 : vs 0 = .agg #[.int .i64 G.a, .int .i64 G.b, .int .i64 G.r, .int .i64 G.c] := hd 0 (by kernel_rfl)
        obtain ⟨y0, y1, y2, y3, hy⟩ := hI.2
        have v0 := hy.cell (j := 0) rfl
        have f0 := hy.frozen 0
        have v1 := hy.cell (j := 1) rfl
        have f1 := hy.frozen 1
        have v2 := hy.cell (j := 2) rfl
        have f2 := hy.frozen 2
        have v3 := hy.cell (j := 3) rfl
        have f3 := hy.frozen 3
        have XV : Blk ((((w'.setCell ⟨w.heap.size, 0, none⟩ (.int .i64 G.a)).setCell ⟨w.heap.size, 1, none⟩ (.int .i64 G.b)).setCell ⟨w.heap.size, 2, none⟩ (.int .i64 G.r)).setCell ⟨w.heap.size, 3, none⟩ (.int .i64 G.c)) w.heap.size 25 [.int .i64 G.a, .int .i64 G.b, .int .i64 G.r, .int .i64 G.c] := ((((hy.set 0 _).1.set 1 _).1.set 2 _).1.set 3 _).1
        have KV : Keeps (fun q => q = w.heap.size) w' ((((w'.setCell ⟨w.heap.size, 0, none⟩ (.int .i64 G.a)).setCell ⟨w.heap.size, 1, none⟩ (.int .i64 G.b)).setCell ⟨w.heap.size, 2, none⟩ (.int .i64 G.r)).setCell ⟨w.heap.size, 3, none⟩ (.int .i64 G.c)) := ((((Keeps.refl (fun q => q = w.heap.size) w').set ⟨w.heap.size, 0, none⟩ _ rfl).set ⟨w.heap.size, 1, none⟩ _ rfl).set ⟨w.heap.size, 2, none⟩ _ rfl).set ⟨w.heap.size, 3, none⟩ _ rfl
        have HKV := hid KV
        have HXV := hid XV
        clear KV XV hy
        generalize hK : (fun (a' : Act) (w'' : World) => ∃ v : Value, _ ∧ _ ∧ _ ∧ _) = K
        generalize hu0 : vs 0 = u0 at x0 ⊢
        subst x0
        go_simp
        rw [← hK]
        exact ⟨undef, by simp [upd, hu0], HXV.out, ⟨hI.1.trans HKV.out, ⟨_, _, _, _, HXV.out⟩⟩, ⟨HKV.out, fun _ => HXV.out⟩⟩
      | n + 3, _, hin => exact absurd hin (by omega)
    case hend1 =>
      intro vs wA hI hf
      have e1 : vs 1 = .agg #[.slice a9 n9 c9, .int .i64 p9] := hf 1 (by decide)
      have e2 : Blk wA w.heap.size 25 [.int .i64 G.a, .int .i64 G.b, .int .i64 G.r, .int .i64 G.c] := hf 2 (by decide)
      generalize vs 1 = u1 at e1 ⊢
      subst e1
      have HV := hid e2
      have HU := hid (HU.out.keeps hI.1 (by omega))
      have HC := hid (HC.out.keeps hI.1 (by have h := HN1.out; omega) (fun b o ha h0 => by have := HWH.out b o ha h0; omega))
      have HK := hid (HK.out.hide hI.1 (Nat.le_refl _))
      have HR9 := hid (HR9.out.keeps hI.1 (fun b o ha => by have h1 := HA9.out b o ha; have h := HN1.out; omega))
      clear hI hf e2
      have d0 := HU.out.cell (j := 0) rfl
      have d1 := HU.out.cell (j := 1) rfl
      have f0 := HU.out.frozen 0
      have f1 := HU.out.frozen 1
      have HKK := hid (stored2 wA (w.heap.size + 1) (.slice a9 n9 c9) (.int .i64 p9))
      have HUU := hid (HU.out.two (.slice a9 n9 c9) (.int .i64 p9))
      refine wpTail_plain rfl fun K hK => ?_
      go_simp
      refine hK _ _ (wpTail_nil ?_)
      clear hK K d0 d1 f0 f1
      have HV := hid (HV.out.keeps HKK.out (by omega))
      have HC := hid (HC.out.keeps HKK.out (by have h := HN1.out; omega) (fun b o ha h0 => by have := HWH.out b o ha h0; omega))
      have HK := hid (HK.out.hide HKK.out (by omega))
      have HR9 := hid (HR9.out.keeps HKK.out (fun b o ha => by have h1 := HA9.out b o ha; have h := HN1.out; omega))
      clear HU HKK
      generalize (wA.setCell ⟨w.heap.size + 1, 0, none⟩ (.slice a9 n9 c9)).setCell ⟨w.heap.size + 1, 1, none⟩ (.int .i64 p9) = wB at *
      have hl1 := load_geo HV.out
      have hl2 := load_rank HUU.out
      go_wp2_with fail
      exact bodyPost_ret (v := .tuple #[.agg #[.int .i64 G.a, .int .i64 G.b, .int .i64 G.r, .int .i64 G.c], .agg #[.slice a9 n9 c9, .int .i64 p9]]) (results_two (p := ⟨w.heap.size, 0, none⟩) (q := ⟨w.heap.size + 1, 0, none⟩) (by exact Try.results132) (by rfl) (by rfl) hl1 hl2) rfl ⟨G, ⟨a9, n9, c9, s9, p9⟩, rfl, HR9.out, HM9.out, fun b o ha => by have h1 := HA9.out b o ha; have h := HN1.out; omega, HC.out, HK.out⟩
  have t0 : (r == 0) = false := by simp [e0]
  clear e0
  by_cases e1 : r = 1
  · have t1 : (r == 1) = true := by simp [e1]
    clear e1
    go_upto_region 7 with (fail)
    refine invS_of 12 (fr := ?fr2)
      (fun i v w' => match i with
          | 0 => v = .pointer (some ⟨p5, 0, none⟩)
          | 1 => v = .slice (some ⟨gb, 0, none⟩) rn rc
          | 2 => v = .pointer (some ⟨g, 0, none⟩)
          | 3 => v = .pointer (some ⟨p5, 0, none⟩)
          | 4 => v = .slice (some ⟨gb, 0, none⟩) rn rc
          | 5 => v = .int .i64 rn
          | 6 => ∃ j : Nat, v = .int .i64 j ∧ j < rn
          | 7 => v = .pointer (some ⟨g, 0, none⟩)
          | 8 => ∃ h, v = .slice (some ⟨h, 0, none⟩) 3 3 ∧ w6.heap.size ≤ h ∧ IRow w' h 3 3 [(-1), 1, 16]
          | 9 => ∃ y : Int, v = .int .i64 y
          | 10 => ∃ j : Nat, v = .pointer (some ⟨gb, j * 2, none⟩) ∧ j < rn
          | _ => ∃ j : Nat, v = .pointer (some ⟨gb, j * 2 + 1, none⟩) ∧ j < rn
        ) (fun w' => Cur w' g a n c ∧ Keeps (fun b => b = g) w6 w') (Keeps (fun b => b = g)) (by kernel_rfl) (by kernel_rfl) (by decide) (by kernel_rfl) ?hfr2 ⟨fun _ => undef, ?h02⟩ ?hI2 ?hF2 ?hstep2 ?hend2
    case hfr2 => intro vs; simp only [frOf, List.take_succ_cons, List.take_zero]; go_simp; exact rfl
    case h02 => rfl
    case hI2 => exact ⟨HC.out.drewN 1, Keeps.ofDrewN _ _ _⟩
    case hF2 =>
      intro i v w' w'' h hI hR
      match i, h with
      | 0, h => exact h
      | 1, h => exact h
      | 2, h => exact h
      | 3, h => exact h
      | 4, h => exact h
      | 5, h => exact h
      | 6, h => exact h
      | 7, h => exact h
      | 8, h => obtain ⟨h, e, l, q⟩ := h; exact ⟨h, e, l, q.keeps hR (by have h1 := HN1.out; have h2 := HC.out.lt; omega)⟩
      | 9, h => exact h
      | 10, h => exact h
      | n + 11, h => exact h
    case hstep2 =>
      intro vs w' i o hin ho hI hd
      match i, ho, hin with
      | 0, ho, _ =>
        simp only [List.getElem?_cons_zero, Option.some.injEq] at ho
        subst ho
        refine ⟨wanted_none rfl, ?_⟩
        generalize hK : (fun (a' : Act) (w'' : World) => ∃ v : Value, _ ∧ _ ∧ _ ∧ _) = K
        go_simp
        rw [← hK]
        exact ⟨_, rfl, rfl, hI, Keeps.refl _ _⟩
      | 1, ho, _ =>
        simp only [List.getElem?_cons_succ, List.getElem?_cons_zero, Option.some.injEq] at ho
        subst ho
        refine ⟨wanted_none rfl, ?_⟩
        have x0 : vs 0 = .pointer (some ⟨p5, 0, none⟩) := hd 0 (by kernel_rfl)
        have hy0 := (HY.out.keeps hI.2 (by have h := HN1.out; omega)).cell (j := 0) rfl
        generalize hK : (fun (a' : Act) (w'' : World) => ∃ v : Value, _ ∧ _ ∧ _ ∧ _) = K
        generalize hu0 : vs 0 = u0 at x0 ⊢
        subst x0
        go_simp
        rw [← hK]
        exact ⟨_, by simp [upd, hu0], rfl, hI, Keeps.refl _ _⟩
      | 2, ho, _ =>
        simp only [List.getElem?_cons_succ, List.getElem?_cons_zero, Option.some.injEq] at ho
        subst ho
        refine ⟨wanted_none rfl, ?_⟩
        generalize hK : (fun (a' : Act) (w'' : World) => ∃ v : Value, _ ∧ _ ∧ _ ∧ _) = K
        go_simp
        rw [← hK]
        exact ⟨_, rfl, rfl, hI, Keeps.refl _ _⟩
      | 3, ho, _ =>
        simp only [List.getElem?_cons_succ, List.getElem?_cons_zero, Option.some.injEq] at ho
        subst ho
        refine ⟨wanted_none rfl, ?_⟩
        generalize hK : (fun (a' : Act) (w'' : World) => ∃ v : Value, _ ∧ _ ∧ _ ∧ _) = K
        go_simp
        rw [← hK]
        exact ⟨_, rfl, rfl, hI, Keeps.refl _ _⟩
      | 4, ho, _ =>
        simp only [List.getElem?_cons_succ, List.getElem?_cons_zero, Option.some.injEq] at ho
        subst ho
        refine ⟨wanted_none rfl, ?_⟩
        have x3 : vs 3 = .pointer (some ⟨p5, 0, none⟩) := hd 3 (by kernel_rfl)
        have hy0 := (HY.out.keeps hI.2 (by have h := HN1.out; omega)).cell (j := 0) rfl
        generalize hK : (fun (a' : Act) (w'' : World) => ∃ v : Value, _ ∧ _ ∧ _ ∧ _) = K
        generalize hu3 : vs 3 = u3 at x3 ⊢
        subst x3
        go_simp
        rw [← hK]
        exact ⟨_, by simp [upd, hu3], rfl, hI, Keeps.refl _ _⟩
      | 5, ho, _ =>
        simp only [List.getElem?_cons_succ, List.getElem?_cons_zero, Option.some.injEq] at ho
        subst ho
        refine ⟨wanted_none rfl, ?_⟩
        have x4 : vs 4 = .slice (some ⟨gb, 0, none⟩) rn rc := hd 4 (by kernel_rfl)
        generalize hK : (fun (a' : Act) (w'' : World) => ∃ v : Value, _ ∧ _ ∧ _ ∧ _) = K
        generalize hu4 : vs 4 = u4 at x4 ⊢
        subst x4
        go_simp
        rw [← hK]
        exact ⟨_, by simp [upd, hu4], rfl, hI, Keeps.refl _ _⟩
      | 6, ho, _ =>
        simp only [List.getElem?_cons_succ, List.getElem?_cons_zero, Option.some.injEq] at ho
        subst ho
        refine ⟨wanted_none rfl, ?_⟩
        have HP : Hid (vs 2 = .pointer (some ⟨g, 0, none⟩)) := hd 2 (by kernel_rfl)
        have HQ : Hid (vs 5 = .int .i64 rn) := hd 5 (by kernel_rfl)
        generalize hK : (fun (a' : Act) (w'' : World) => ∃ v : Value, _ ∧ _ ∧ _ ∧ _) = K
        go_simp
        refine (calls_args (by rw [HP.out, HQ.out]) (l01Below_any _ _ _ _ rn _ hI.1 (by have h := HR8.out; omega))).mono ?_
        rintro e w3 ⟨r, rfl, r0, r1, C3, KK⟩
        rw [← hK]
        exact ⟨_, rfl, ⟨r.toNat, by rw [Int.toNat_of_nonneg r0], by have h := HR8.out; have := r1 (by omega); omega⟩, ⟨C3, hI.2.trans KK⟩, KK⟩
      | 7, ho, _ =>
        simp only [List.getElem?_cons_succ, List.getElem?_cons_zero, Option.some.injEq] at ho
        subst ho
        refine ⟨wanted_none rfl, ?_⟩
        generalize hK : (fun (a' : Act) (w'' : World) => ∃ v : Value, _ ∧ _ ∧ _ ∧ _) = K
        go_simp
        rw [← hK]
        exact ⟨_, rfl, rfl, hI, Keeps.refl _ _⟩
      | 8, ho, _ =>
        simp only [List.getElem?_cons_succ, List.getElem?_cons_zero, Option.some.injEq] at ho
        subst ho
        refine ⟨wanted_none rfl, ?_⟩
        generalize hK : (fun (a' : Act) (w'' : World) => ∃ v : Value, _ ∧ _ ∧ _ ∧ _) = K
        go_simp
        rw [← hK]
        exact ⟨_, rfl, ⟨_, rfl, hI.2.size, irow_lit w' [(-1), 1, 16]⟩, ⟨hI.1.old (below_alloc _ _), hI.2.trans (Keeps.of_below (below_alloc _ _))⟩, Keeps.of_below (below_alloc _ _)⟩
      | 9, ho, _ =>
        simp only [List.getElem?_cons_succ, List.getElem?_cons_zero, Option.some.injEq] at ho
        subst ho
        refine ⟨wanted_none rfl, ?_⟩
        have HP : Hid (vs 7 = .pointer (some ⟨g, 0, none⟩)) := hd 7 (by kernel_rfl)
        obtain ⟨h, x8, l8, q8⟩ := hd 8 (by kernel_rfl)
        have HQ := hid x8
        clear x8
        generalize hK : (fun (a' : Act) (w'' : World) => ∃ v : Value, _ ∧ _ ∧ _ ∧ _) = K
        go_simp
        refine (calls_args (by rw [HP.out, HQ.out]) (l01PickInt_any g n c 3 3 a _ [(-1), 1, 16] _ hI.1 q8.reads rfl (by decide) (by decide) (by rintro k o e; simp at e; have h2 := HC.out.lt; omega))).mono ?_
        rintro e w3 ⟨y, _, rfl, C3, KK⟩
        rw [← hK]
        exact ⟨_, rfl, ⟨y, rfl⟩, ⟨C3, hI.2.trans KK⟩, KK⟩
      | 10, ho, _ =>
        simp only [List.getElem?_cons_succ, List.getElem?_cons_zero, Option.some.injEq] at ho
        subst ho
        refine ⟨wanted_none rfl, ?_⟩
        have x1 : vs 1 = .slice (some ⟨gb, 0, none⟩) rn rc := hd 1 (by kernel_rfl)
        obtain ⟨j, x6, hj⟩ := hd 6 (by kernel_rfl)
        have hj0 : (0 : Int) ≤ (j : Int) := by omega
        have hj1 : (j : Int) < (rn : Int) := by omega
        generalize hK : (fun (a' : Act) (w'' : World) => ∃ v : Value, _ ∧ _ ∧ _ ∧ _) = K
        generalize hu1 : vs 1 = u1 at x1 ⊢
        subst x1
        generalize hu6 : vs 6 = u6 at x6 ⊢
        subst x6
        go_simp
        rw [← hK]
        exact ⟨_, by simp [upd, hu1, hu6], ⟨j, rfl, hj⟩, hI, Keeps.refl _ _⟩
      | 11, ho, _ =>
        simp only [List.getElem?_cons_succ, List.getElem?_cons_zero, Option.some.injEq] at ho
        subst ho
        refine ⟨wanted_none rfl, ?_⟩
        obtain ⟨j, x10, hj⟩ := hd 10 (by kernel_rfl)
        generalize hK : (fun (a' : Act) (w'' : World) => ∃ v : Value, _ ∧ _ ∧ _ ∧ _) = K
        generalize hu10 : vs 10 = u10 at x10 ⊢
        subst x10
        go_simp
        rw [← hK]
        exact ⟨_, by simp [upd, hu10], ⟨j, rfl, hj⟩, hI, Keeps.refl _ _⟩
      | n + 12, _, hin => exact absurd hin (by omega)
    case hend2 =>
      intro vs w7 hI hf
      obtain ⟨y, e9⟩ := hf 9 (by decide)
      obtain ⟨j, e11, hj⟩ := hf 11 (by decide)
      generalize vs 9 = u9 at e9 ⊢
      subst e9
      generalize vs 11 = u11 at e11 ⊢
      subst e11
      have HC := hid hI.1
      have HV := hid (HV.out.keeps hI.2 (by have h := HN1.out; omega))
      have HU := hid (HU.out.keeps hI.2 (by have h := HN1.out; omega))
      have HX := hid (HX.out.keeps hI.2 (by have h := HN1.out; omega))
      have HY := hid (HY.out.keeps hI.2 (by have h := HN1.out; omega))
      have HO := hid ((HO.out.keeps hI.2 (fun b _ _ e => by have h := HN1.out; have h2 := HL3.out; omega)).up (V := w7.heap.size) (Nat.le_trans HO.out.le hI.2.size) (Nat.le_refl _))
      have HK := hid (HK.out.trans hI.2)
      clear hI hf
      obtain ⟨x, hx⟩ := some_at HRN.out hj
      obtain ⟨gq, hq, _, _, hcell⟩ := HO.out.at_ encB_len hx (show (encB x)[1]? = some (.int .i64 x.2) from rfl)
      simp only [Option.some.injEq, Addr.mk.injEq, and_true] at hq
      subst hq
      obtain ⟨HS1, HS2, hfz⟩ := HO.out.set encB_len (j := 1) (y := (x.1, y)) (v := .int .i64 y) hx (by decide) rfl
      have HO2 := hid HS1
      have HKS := hid HS2
      clear HS1 HS2 hx
      refine wpTail_plain rfl fun K hK => ?_
      go_simp
      refine hK _ _ (wpTail_nil ?_)
      clear hK K hcell hfz
      have HC := hid (HC.out.keeps HKS.out (by have h := HN1.out; omega) (fun b o ha h0 => by have := HWH.out b o ha h0; have h := HN1.out; omega))
      have HV := hid (HV.out.keeps HKS.out (by have h := HN1.out; omega))
      have HU := hid (HU.out.keeps HKS.out (by have h := HN1.out; omega))
      have HX9 := hid (HX.out.keeps HKS.out (by have h := HN1.out; omega))
      have HY9 := hid (HY.out.keeps HKS.out (by have h := HN1.out; omega))
      have HK := hid (HK.out.hide HKS.out (by have h := HN1.out; omega))
      have HR9 : Hid (RankR (w7.setCell ⟨gb, j * 2 + 1, none⟩ (.int .i64 y)) ⟨some ⟨gb, 0, none⟩, rn, rc, rs.set j (x.1, y), rp⟩) := hid ⟨OwnF.reads encB_len (by decide) HO2.out, by show rn = (rs.set j (x.1, y)).length; rw [List.length_set]; exact HRN.out⟩
      have HM9 := hid HR8.out.1
      have HA9 := hid (show ∀ b o, (some ⟨gb, 0, none⟩ : Option Addr) = some ⟨b, o, none⟩ → p4 ≤ b by intro b o e; simp at e; have h := HN1.out; omega)
      clear HX HY HO HO2 HKS
      generalize w7.setCell ⟨gb, j * 2 + 1, none⟩ (.int .i64 y) = w8 at *
      obtain ⟨a9, ha9⟩ : ∃ a9 : Option Addr, some ⟨gb, 0, none⟩ = a9 := ⟨_, rfl⟩
      rw [ha9] at HR9 HY9 HA9
      obtain ⟨n9, hn9⟩ : ∃ n9 : Nat, rn = n9 := ⟨_, rfl⟩
      rw [hn9] at HR9 HM9 HY9
      obtain ⟨c9, hc9⟩ : ∃ c9 : Nat, rc = c9 := ⟨_, rfl⟩
      rw [hc9] at HR9 HY9
      obtain ⟨s9, hs9⟩ : ∃ s9 : List (Bool × Int), rs.set j (x.1, y) = s9 := ⟨_, rfl⟩
      rw [hs9] at HR9
      obtain ⟨p9, hp9⟩ : ∃ p9 : Int, rp = p9 := ⟨_, rfl⟩
      rw [hp9] at HR9 HY9
      clear ha9 hn9 hc9 hs9 hp9
      go_upto_region 12 with (fail)
      refine invS_of 3 (fr := ?fr3)
        (fun i v w' => match i with
            | 0 => v = .agg #[.int .i64 G.a, .int .i64 G.b, .int .i64 G.r, .int .i64 G.c]
            | 1 => v = .agg #[.slice a9 n9 c9, .int .i64 p9]
            | _ => Blk w' w.heap.size 25 [.int .i64 G.a, .int .i64 G.b, .int .i64 G.r, .int .i64 G.c]
          ) (fun w' => Keeps (fun b => b = w.heap.size) w8 w' ∧ ∃ y0 y1 y2 y3 : Value, Blk w' w.heap.size 25 [y0, y1, y2, y3]) (fun w' w'' => Keeps (fun b => b = w.heap.size) w' w'' ∧ (Blk w' w.heap.size 25 [.int .i64 G.a, .int .i64 G.b, .int .i64 G.r, .int .i64 G.c] → Blk w'' w.heap.size 25 [.int .i64 G.a, .int .i64 G.b, .int .i64 G.r, .int .i64 G.c])) (by kernel_rfl) (by kernel_rfl) (by decide) (by kernel_rfl) ?hfr3 ⟨fun _ => undef, ?h03⟩ ?hI3 ?hF3 ?hstep3 ?hend3
      case hfr3 => intro vs; simp only [frOf, List.take_succ_cons, List.take_zero]; go_simp; exact rfl
      case h03 => rfl
      case hI3 => exact ⟨Keeps.ofDrewN _ _ _, ⟨_, _, _, _, HV.out⟩⟩
      case hF3 =>
        intro i v w' w'' h hI hR
        match i, h with
        | 0, h => exact h
        | 1, h => exact h
        | n + 2, h => exact hR.2 h
      case hstep3 =>
        intro vs w' i o hin ho hI hd
        match i, ho, hin with
        | 0, ho, _ =>
          simp only [List.getElem?_cons_zero, Option.some.injEq] at ho
          subst ho
          refine ⟨wanted_none rfl, ?_⟩
          have HX2 := HX9.out.keeps hI.1 (by have h := HN1.out; omega)
          have c0 := HX2.cell (j := 0) rfl
          have c1 := HX2.cell (j := 1) rfl
          have c2 := HX2.cell (j := 2) rfl
          have c3 := HX2.cell (j := 3) rfl
          generalize hK : (fun (a' : Act) (w'' : World) => ∃ v : Value, _ ∧ _ ∧ _ ∧ _) = K
          go_simp
          rw [← hK]
          exact ⟨_, rfl, rfl, hI, ⟨Keeps.refl _ _, fun h => h⟩⟩
        | 1, ho, _ =>
          simp only [List.getElem?_cons_succ, List.getElem?_cons_zero, Option.some.injEq] at ho
          subst ho
          refine ⟨wanted_none rfl, ?_⟩
          have HY2 := HY9.out.keeps hI.1 (by have h := HN1.out; omega)
          have c0 := HY2.cell (j := 0) rfl
          have c1 := HY2.cell (j := 1) rfl
          generalize hK : (fun (a' : Act) (w'' : World) => ∃ v : Value, _ ∧ _ ∧ _ ∧ _) = K
          go_simp
          rw [← hK]
          exact ⟨_, rfl, rfl, hI, ⟨Keeps.refl _ _, fun h => h⟩⟩
        | 2, ho, _ =>
          simp only [List.getElem?_cons_succ, List.getElem?_cons_zero, Option.some.injEq] at ho
          subst ho
          refine ⟨wanted_none rfl, ?_⟩
          have x0 : vs 0 = .agg #[.int .i64 G.a, .int .i64 G.b, .int .i64 G.r, .int .i64 G.c] := hd 0 (by kernel_rfl)
          obtain ⟨y0, y1, y2, y3, hy⟩ := hI.2
          have v0 := hy.cell (j := 0) rfl
          have f0 := hy.frozen 0
          have v1 := hy.cell (j := 1) rfl
          have f1 := hy.frozen 1
          have v2 := hy.cell (j := 2) rfl
          have f2 := hy.frozen 2
          have v3 := hy.cell (j := 3) rfl
          have f3 := hy.frozen 3
          have XV : Blk ((((w'.setCell ⟨w.heap.size, 0, none⟩ (.int .i64 G.a)).setCell ⟨w.heap.size, 1, none⟩ (.int .i64 G.b)).setCell ⟨w.heap.size, 2, none⟩ (.int .i64 G.r)).setCell ⟨w.heap.size, 3, none⟩ (.int .i64 G.c)) w.heap.size 25 [.int .i64 G.a, .int .i64 G.b, .int .i64 G.r, .int .i64 G.c] := ((((hy.set 0 _).1.set 1 _).1.set 2 _).1.set 3 _).1
          have KV : Keeps (fun q => q = w.heap.size) w' ((((w'.setCell ⟨w.heap.size, 0, none⟩ (.int .i64 G.a)).setCell ⟨w.heap.size, 1, none⟩ (.int .i64 G.b)).setCell ⟨w.heap.size, 2, none⟩ (.int .i64 G.r)).setCell ⟨w.heap.size, 3, none⟩ (.int .i64 G.c)) := ((((Keeps.refl (fun q => q = w.heap.size) w').set ⟨w.heap.size, 0, none⟩ _ rfl).set ⟨w.heap.size, 1, none⟩ _ rfl).set ⟨w.heap.size, 2, none⟩ _ rfl).set ⟨w.heap.size, 3, none⟩ _ rfl
          have HKV := hid KV
          have HXV := hid XV
          clear KV XV hy
          generalize hK : (fun (a' : Act) (w'' : World) => ∃ v : Value, _ ∧ _ ∧ _ ∧ _) = K
          generalize hu0 : vs 0 = u0 at x0 ⊢
          subst x0
          go_simp
          rw [← hK]
          exact ⟨undef, by simp [upd, hu0], HXV.out, ⟨hI.1.trans HKV.out, ⟨_, _, _, _, HXV.out⟩⟩, ⟨HKV.out, fun _ => HXV.out⟩⟩
        | n + 3, _, hin => exact absurd hin (by omega)
      case hend3 =>
        intro vs wA hI hf
        have e1 : vs 1 = .agg #[.slice a9 n9 c9, .int .i64 p9] := hf 1 (by decide)
        have e2 : Blk wA w.heap.size 25 [.int .i64 G.a, .int .i64 G.b, .int .i64 G.r, .int .i64 G.c] := hf 2 (by decide)
        generalize vs 1 = u1 at e1 ⊢
        subst e1
        have HV := hid e2
        have HU := hid (HU.out.keeps hI.1 (by omega))
        have HC := hid (HC.out.keeps hI.1 (by have h := HN1.out; omega) (fun b o ha h0 => by have := HWH.out b o ha h0; omega))
        have HK := hid (HK.out.hide hI.1 (Nat.le_refl _))
        have HR9 := hid (HR9.out.keeps hI.1 (fun b o ha => by have h1 := HA9.out b o ha; have h := HN1.out; omega))
        clear hI hf e2
        have d0 := HU.out.cell (j := 0) rfl
        have d1 := HU.out.cell (j := 1) rfl
        have f0 := HU.out.frozen 0
        have f1 := HU.out.frozen 1
        have HKK := hid (stored2 wA (w.heap.size + 1) (.slice a9 n9 c9) (.int .i64 p9))
        have HUU := hid (HU.out.two (.slice a9 n9 c9) (.int .i64 p9))
        refine wpTail_plain rfl fun K hK => ?_
        go_simp
        refine hK _ _ (wpTail_nil ?_)
        clear hK K d0 d1 f0 f1
        have HV := hid (HV.out.keeps HKK.out (by omega))
        have HC := hid (HC.out.keeps HKK.out (by have h := HN1.out; omega) (fun b o ha h0 => by have := HWH.out b o ha h0; omega))
        have HK := hid (HK.out.hide HKK.out (by omega))
        have HR9 := hid (HR9.out.keeps HKK.out (fun b o ha => by have h1 := HA9.out b o ha; have h := HN1.out; omega))
        clear HU HKK
        generalize (wA.setCell ⟨w.heap.size + 1, 0, none⟩ (.slice a9 n9 c9)).setCell ⟨w.heap.size + 1, 1, none⟩ (.int .i64 p9) = wB at *
        have hl1 := load_geo HV.out
        have hl2 := load_rank HUU.out
        go_wp2_with fail
        exact bodyPost_ret (v := .tuple #[.agg #[.int .i64 G.a, .int .i64 G.b, .int .i64 G.r, .int .i64 G.c], .agg #[.slice a9 n9 c9, .int .i64 p9]]) (results_two (p := ⟨w.heap.size, 0, none⟩) (q := ⟨w.heap.size + 1, 0, none⟩) (by exact Try.results132) (by rfl) (by rfl) hl1 hl2) rfl ⟨G, ⟨a9, n9, c9, s9, p9⟩, rfl, HR9.out, HM9.out, fun b o ha => by have h1 := HA9.out b o ha; have h := HN1.out; omega, HC.out, HK.out⟩
  have t1 : (r == 1) = false := by simp [e1]
  clear e1
  by_cases e2 : r = 2
  · have t2 : (r == 2) = true := by simp [e2]
    clear e2
    by_cases hc1 : rc = 1
    · have hrn1 : rn = 1 := by have h1 := OwnF.le_cap HO.out; have h2 := HR8.out; omega
      subst hc1 hrn1
      have x := HY.out.cell (j := 0) rfl
      have f := HY.out.frozen 0
      go_upto_region 12 with (fail)
      refine wp_world (fun w8 hw => ?_)
      have K := (HY.out.set 0 (.slice (some ⟨gb, 0, none⟩) 0 0)).2
      have HY9 := hid (show Blk w8 p5 41 [.slice (some ⟨gb, 0, none⟩) 0 0, .int .i64 rp] by rw [hw.out]; exact (HY.out.set 0 (.slice (some ⟨gb, 0, none⟩) 0 0)).1)
      rw [show w6.setCell ⟨p5, 0, none⟩ (.slice (some ⟨gb, 0, none⟩) 0 0) = w8 from hw.out.symm] at K
      have HC := hid (HC.out.keeps K (by have h := HN1.out; omega) (fun b o ha h0 => by have := HWH.out b o ha h0; have h := HN1.out; omega))
      have HV := hid (HV.out.keeps K (by have h := HN1.out; omega))
      have HU := hid (HU.out.keeps K (by have h := HN1.out; omega))
      have HX9 := hid (HX.out.keeps K (by have h := HN1.out; omega))
      have HR9 : Hid (RankR w8 ⟨some ⟨gb, 0, none⟩, 0, 0, [], rp⟩) := hid ⟨RecR.nil _, rfl⟩
      have HM9 := hid (show 0 ≤ 8 by decide)
      have HA9 := hid (show ∀ b o, (some ⟨gb, 0, none⟩ : Option Addr) = some ⟨b, o, none⟩ → p4 ≤ b by intro b o e; simp at e; have h := HN1.out; omega)
      have HK := hid (HK.out.hide K (by have h := HN1.out; omega))
      clear hw K x f HX HY HO
      
      obtain ⟨a9, ha9⟩ : ∃ a9 : Option Addr, some ⟨gb, 0, none⟩ = a9 := ⟨_, rfl⟩
      rw [ha9] at HR9 HY9 HA9
      obtain ⟨n9, hn9⟩ : ∃ n9 : Nat, 0 = n9 := ⟨_, rfl⟩
      rw [hn9] at HR9 HM9 HY9
      obtain ⟨s9, hs9⟩ : ∃ s9 : List (Bool × Int), [] = s9 := ⟨_, rfl⟩
      rw [hs9] at HR9
      obtain ⟨p9, hp9⟩ : ∃ p9 : Int, rp = p9 := ⟨_, rfl⟩
      rw [hp9] at HR9 HY9
      clear ha9 hn9 hs9 hp9
      go_upto_region 12 with (fail)
      refine invS_of 3 (fr := ?fr4)
        (fun i v w' => match i with
            | 0 => v = .agg #[.int .i64 G.a, .int .i64 G.b, .int .i64 G.r, .int .i64 G.c]
            | 1 => v = .agg #[.slice a9 n9 n9, .int .i64 p9]
            | _ => Blk w' w.heap.size 25 [.int .i64 G.a, .int .i64 G.b, .int .i64 G.r, .int .i64 G.c]
          ) (fun w' => Keeps (fun b => b = w.heap.size) w8 w' ∧ ∃ y0 y1 y2 y3 : Value, Blk w' w.heap.size 25 [y0, y1, y2, y3]) (fun w' w'' => Keeps (fun b => b = w.heap.size) w' w'' ∧ (Blk w' w.heap.size 25 [.int .i64 G.a, .int .i64 G.b, .int .i64 G.r, .int .i64 G.c] → Blk w'' w.heap.size 25 [.int .i64 G.a, .int .i64 G.b, .int .i64 G.r, .int .i64 G.c])) (by kernel_rfl) (by kernel_rfl) (by decide) (by kernel_rfl) ?hfr4 ⟨fun _ => undef, ?h04⟩ ?hI4 ?hF4 ?hstep4 ?hend4
      case hfr4 => intro vs; simp only [frOf, List.take_succ_cons, List.take_zero]; go_simp; exact rfl
      case h04 => rfl
      case hI4 => exact ⟨Keeps.ofDrewN _ _ _, ⟨_, _, _, _, HV.out⟩⟩
      case hF4 =>
        intro i v w' w'' h hI hR
        match i, h with
        | 0, h => exact h
        | 1, h => exact h
        | n + 2, h => exact hR.2 h
      case hstep4 =>
        intro vs w' i o hin ho hI hd
        match i, ho, hin with
        | 0, ho, _ =>
          simp only [List.getElem?_cons_zero, Option.some.injEq] at ho
          subst ho
          refine ⟨wanted_none rfl, ?_⟩
          have HX2 := HX9.out.keeps hI.1 (by have h := HN1.out; omega)
          have c0 := HX2.cell (j := 0) rfl
          have c1 := HX2.cell (j := 1) rfl
          have c2 := HX2.cell (j := 2) rfl
          have c3 := HX2.cell (j := 3) rfl
          generalize hK : (fun (a' : Act) (w'' : World) => ∃ v : Value, _ ∧ _ ∧ _ ∧ _) = K
          go_simp
          rw [← hK]
          exact ⟨_, rfl, rfl, hI, ⟨Keeps.refl _ _, fun h => h⟩⟩
        | 1, ho, _ =>
          simp only [List.getElem?_cons_succ, List.getElem?_cons_zero, Option.some.injEq] at ho
          subst ho
          refine ⟨wanted_none rfl, ?_⟩
          have HY2 := HY9.out.keeps hI.1 (by have h := HN1.out; omega)
          have c0 := HY2.cell (j := 0) rfl
          have c1 := HY2.cell (j := 1) rfl
          generalize hK : (fun (a' : Act) (w'' : World) => ∃ v : Value, _ ∧ _ ∧ _ ∧ _) = K
          go_simp
          rw [← hK]
          exact ⟨_, rfl, rfl, hI, ⟨Keeps.refl _ _, fun h => h⟩⟩
        | 2, ho, _ =>
          simp only [List.getElem?_cons_succ, List.getElem?_cons_zero, Option.some.injEq] at ho
          subst ho
          refine ⟨wanted_none rfl, ?_⟩
          have x0 : vs 0 = .agg #[.int .i64 G.a, .int .i64 G.b, .int .i64 G.r, .int .i64 G.c] := hd 0 (by kernel_rfl)
          obtain ⟨y0, y1, y2, y3, hy⟩ := hI.2
          have v0 := hy.cell (j := 0) rfl
          have f0 := hy.frozen 0
          have v1 := hy.cell (j := 1) rfl
          have f1 := hy.frozen 1
          have v2 := hy.cell (j := 2) rfl
          have f2 := hy.frozen 2
          have v3 := hy.cell (j := 3) rfl
          have f3 := hy.frozen 3
          have XV : Blk ((((w'.setCell ⟨w.heap.size, 0, none⟩ (.int .i64 G.a)).setCell ⟨w.heap.size, 1, none⟩ (.int .i64 G.b)).setCell ⟨w.heap.size, 2, none⟩ (.int .i64 G.r)).setCell ⟨w.heap.size, 3, none⟩ (.int .i64 G.c)) w.heap.size 25 [.int .i64 G.a, .int .i64 G.b, .int .i64 G.r, .int .i64 G.c] := ((((hy.set 0 _).1.set 1 _).1.set 2 _).1.set 3 _).1
          have KV : Keeps (fun q => q = w.heap.size) w' ((((w'.setCell ⟨w.heap.size, 0, none⟩ (.int .i64 G.a)).setCell ⟨w.heap.size, 1, none⟩ (.int .i64 G.b)).setCell ⟨w.heap.size, 2, none⟩ (.int .i64 G.r)).setCell ⟨w.heap.size, 3, none⟩ (.int .i64 G.c)) := ((((Keeps.refl (fun q => q = w.heap.size) w').set ⟨w.heap.size, 0, none⟩ _ rfl).set ⟨w.heap.size, 1, none⟩ _ rfl).set ⟨w.heap.size, 2, none⟩ _ rfl).set ⟨w.heap.size, 3, none⟩ _ rfl
          have HKV := hid KV
          have HXV := hid XV
          clear KV XV hy
          generalize hK : (fun (a' : Act) (w'' : World) => ∃ v : Value, _ ∧ _ ∧ _ ∧ _) = K
          generalize hu0 : vs 0 = u0 at x0 ⊢
          subst x0
          go_simp
          rw [← hK]
          exact ⟨undef, by simp [upd, hu0], HXV.out, ⟨hI.1.trans HKV.out, ⟨_, _, _, _, HXV.out⟩⟩, ⟨HKV.out, fun _ => HXV.out⟩⟩
        | n + 3, _, hin => exact absurd hin (by omega)
      case hend4 =>
        intro vs wA hI hf
        have e1 : vs 1 = .agg #[.slice a9 n9 n9, .int .i64 p9] := hf 1 (by decide)
        have e2 : Blk wA w.heap.size 25 [.int .i64 G.a, .int .i64 G.b, .int .i64 G.r, .int .i64 G.c] := hf 2 (by decide)
        generalize vs 1 = u1 at e1 ⊢
        subst e1
        have HV := hid e2
        have HU := hid (HU.out.keeps hI.1 (by omega))
        have HC := hid (HC.out.keeps hI.1 (by have h := HN1.out; omega) (fun b o ha h0 => by have := HWH.out b o ha h0; omega))
        have HK := hid (HK.out.hide hI.1 (Nat.le_refl _))
        have HR9 := hid (HR9.out.keeps hI.1 (fun b o ha => by have h1 := HA9.out b o ha; have h := HN1.out; omega))
        clear hI hf e2
        have d0 := HU.out.cell (j := 0) rfl
        have d1 := HU.out.cell (j := 1) rfl
        have f0 := HU.out.frozen 0
        have f1 := HU.out.frozen 1
        have HKK := hid (stored2 wA (w.heap.size + 1) (.slice a9 n9 n9) (.int .i64 p9))
        have HUU := hid (HU.out.two (.slice a9 n9 n9) (.int .i64 p9))
        refine wpTail_plain rfl fun K hK => ?_
        go_simp
        refine hK _ _ (wpTail_nil ?_)
        clear hK K d0 d1 f0 f1
        have HV := hid (HV.out.keeps HKK.out (by omega))
        have HC := hid (HC.out.keeps HKK.out (by have h := HN1.out; omega) (fun b o ha h0 => by have := HWH.out b o ha h0; omega))
        have HK := hid (HK.out.hide HKK.out (by omega))
        have HR9 := hid (HR9.out.keeps HKK.out (fun b o ha => by have h1 := HA9.out b o ha; have h := HN1.out; omega))
        clear HU HKK
        generalize (wA.setCell ⟨w.heap.size + 1, 0, none⟩ (.slice a9 n9 n9)).setCell ⟨w.heap.size + 1, 1, none⟩ (.int .i64 p9) = wB at *
        have hl1 := load_geo HV.out
        have hl2 := load_rank HUU.out
        go_wp2_with fail
        exact bodyPost_ret (v := .tuple #[.agg #[.int .i64 G.a, .int .i64 G.b, .int .i64 G.r, .int .i64 G.c], .agg #[.slice a9 n9 n9, .int .i64 p9]]) (results_two (p := ⟨w.heap.size, 0, none⟩) (q := ⟨w.heap.size + 1, 0, none⟩) (by exact Try.results132) (by rfl) (by rfl) hl1 hl2) rfl ⟨G, ⟨a9, n9, n9, s9, p9⟩, rfl, HR9.out, HM9.out, fun b o ha => by have h1 := HA9.out b o ha; have h := HN1.out; omega, HC.out, HK.out⟩
    · have hle : rn ≤ rc := OwnF.le_cap HO.out
      have h1r : (1 : Int) ≤ (rn : Int) := by have h2 := HR8.out; omega
      have hc2 : 1 < rc := by have h2 := HR8.out; omega
      have hc3 : ¬ rc ≤ 1 := by omega
      have x := HY.out.cell (j := 0) rfl
      have f := HY.out.frozen 0
      go_upto_region 12 with (fail)
      refine wp_world (fun w8 hw => ?_)
      have K := (HY.out.set 0 (.slice (some ⟨gb, 2, none⟩) (rn - 1) (rc - 1))).2
      have HY9 := hid (show Blk w8 p5 41 [.slice (some ⟨gb, 2, none⟩) (rn - 1) (rc - 1), .int .i64 rp] by rw [hw.out]; exact (HY.out.set 0 (.slice (some ⟨gb, 2, none⟩) (rn - 1) (rc - 1))).1)
      rw [show w6.setCell ⟨p5, 0, none⟩ (.slice (some ⟨gb, 2, none⟩) (rn - 1) (rc - 1)) = w8 from hw.out.symm] at K
      have HC := hid (HC.out.keeps K (by have h := HN1.out; omega) (fun b o ha h0 => by have := HWH.out b o ha h0; have h := HN1.out; omega))
      have HV := hid (HV.out.keeps K (by have h := HN1.out; omega))
      have HU := hid (HU.out.keeps K (by have h := HN1.out; omega))
      have HX9 := hid (HX.out.keeps K (by have h := HN1.out; omega))
      have HR9 : Hid (RankR w8 ⟨some ⟨gb, 2, none⟩, (rn - 1), (rc - 1), (rs.drop 1), rp⟩) := hid (RankR.keeps (w := w6) ⟨(OwnF.reads encB_len (by decide) HO.out).drop1, by show rn - 1 = (rs.drop 1).length; rw [List.length_drop, ← HRN.out]⟩ K (by intro b o e; simp at e; have h := HN1.out; omega))
      have HM9 := hid (show rn - 1 ≤ 8 by have h := HR8.out.1; omega)
      have HA9 := hid (show ∀ b o, (some ⟨gb, 2, none⟩ : Option Addr) = some ⟨b, o, none⟩ → p4 ≤ b by intro b o e; simp at e; have h := HN1.out; omega)
      have HK := hid (HK.out.hide K (by have h := HN1.out; omega))
      clear hw K x f HX HY HO
      
      obtain ⟨a9, ha9⟩ : ∃ a9 : Option Addr, some ⟨gb, 2, none⟩ = a9 := ⟨_, rfl⟩
      rw [ha9] at HR9 HY9 HA9
      obtain ⟨n9, hn9⟩ : ∃ n9 : Nat, (rn - 1) = n9 := ⟨_, rfl⟩
      rw [hn9] at HR9 HM9 HY9
      obtain ⟨c9, hc9⟩ : ∃ c9 : Nat, (rc - 1) = c9 := ⟨_, rfl⟩
      rw [hc9] at HR9 HY9
      obtain ⟨s9, hs9⟩ : ∃ s9 : List (Bool × Int), (rs.drop 1) = s9 := ⟨_, rfl⟩
      rw [hs9] at HR9
      obtain ⟨p9, hp9⟩ : ∃ p9 : Int, rp = p9 := ⟨_, rfl⟩
      rw [hp9] at HR9 HY9
      clear ha9 hn9 hc9 hs9 hp9
      go_upto_region 12 with (fail)
      refine invS_of 3 (fr := ?fr5)
        (fun i v w' => match i with
            | 0 => v = .agg #[.int .i64 G.a, .int .i64 G.b, .int .i64 G.r, .int .i64 G.c]
            | 1 => v = .agg #[.slice a9 n9 c9, .int .i64 p9]
            | _ => Blk w' w.heap.size 25 [.int .i64 G.a, .int .i64 G.b, .int .i64 G.r, .int .i64 G.c]
          ) (fun w' => Keeps (fun b => b = w.heap.size) w8 w' ∧ ∃ y0 y1 y2 y3 : Value, Blk w' w.heap.size 25 [y0, y1, y2, y3]) (fun w' w'' => Keeps (fun b => b = w.heap.size) w' w'' ∧ (Blk w' w.heap.size 25 [.int .i64 G.a, .int .i64 G.b, .int .i64 G.r, .int .i64 G.c] → Blk w'' w.heap.size 25 [.int .i64 G.a, .int .i64 G.b, .int .i64 G.r, .int .i64 G.c])) (by kernel_rfl) (by kernel_rfl) (by decide) (by kernel_rfl) ?hfr5 ⟨fun _ => undef, ?h05⟩ ?hI5 ?hF5 ?hstep5 ?hend5
      case hfr5 => intro vs; simp only [frOf, List.take_succ_cons, List.take_zero]; go_simp; exact rfl
      case h05 => rfl
      case hI5 => exact ⟨Keeps.ofDrewN _ _ _, ⟨_, _, _, _, HV.out⟩⟩
      case hF5 =>
        intro i v w' w'' h hI hR
        match i, h with
        | 0, h => exact h
        | 1, h => exact h
        | n + 2, h => exact hR.2 h
      case hstep5 =>
        intro vs w' i o hin ho hI hd
        match i, ho, hin with
        | 0, ho, _ =>
          simp only [List.getElem?_cons_zero, Option.some.injEq] at ho
          subst ho
          refine ⟨wanted_none rfl, ?_⟩
          have HX2 := HX9.out.keeps hI.1 (by have h := HN1.out; omega)
          have c0 := HX2.cell (j := 0) rfl
          have c1 := HX2.cell (j := 1) rfl
          have c2 := HX2.cell (j := 2) rfl
          have c3 := HX2.cell (j := 3) rfl
          generalize hK : (fun (a' : Act) (w'' : World) => ∃ v : Value, _ ∧ _ ∧ _ ∧ _) = K
          go_simp
          rw [← hK]
          exact ⟨_, rfl, rfl, hI, ⟨Keeps.refl _ _, fun h => h⟩⟩
        | 1, ho, _ =>
          simp only [List.getElem?_cons_succ, List.getElem?_cons_zero, Option.some.injEq] at ho
          subst ho
          refine ⟨wanted_none rfl, ?_⟩
          have HY2 := HY9.out.keeps hI.1 (by have h := HN1.out; omega)
          have c0 := HY2.cell (j := 0) rfl
          have c1 := HY2.cell (j := 1) rfl
          generalize hK : (fun (a' : Act) (w'' : World) => ∃ v : Value, _ ∧ _ ∧ _ ∧ _) = K
          go_simp
          rw [← hK]
          exact ⟨_, rfl, rfl, hI, ⟨Keeps.refl _ _, fun h => h⟩⟩
        | 2, ho, _ =>
          simp only [List.getElem?_cons_succ, List.getElem?_cons_zero, Option.some.injEq] at ho
          subst ho
          refine ⟨wanted_none rfl, ?_⟩
          have x0 : vs 0 = .agg #[.int .i64 G.a, .int .i64 G.b, .int .i64 G.r, .int .i64 G.c] := hd 0 (by kernel_rfl)
          obtain ⟨y0, y1, y2, y3, hy⟩ := hI.2
          have v0 := hy.cell (j := 0) rfl
          have f0 := hy.frozen 0
          have v1 := hy.cell (j := 1) rfl
          have f1 := hy.frozen 1
          have v2 := hy.cell (j := 2) rfl
          have f2 := hy.frozen 2
          have v3 := hy.cell (j := 3) rfl
          have f3 := hy.frozen 3
          have XV : Blk ((((w'.setCell ⟨w.heap.size, 0, none⟩ (.int .i64 G.a)).setCell ⟨w.heap.size, 1, none⟩ (.int .i64 G.b)).setCell ⟨w.heap.size, 2, none⟩ (.int .i64 G.r)).setCell ⟨w.heap.size, 3, none⟩ (.int .i64 G.c)) w.heap.size 25 [.int .i64 G.a, .int .i64 G.b, .int .i64 G.r, .int .i64 G.c] := ((((hy.set 0 _).1.set 1 _).1.set 2 _).1.set 3 _).1
          have KV : Keeps (fun q => q = w.heap.size) w' ((((w'.setCell ⟨w.heap.size, 0, none⟩ (.int .i64 G.a)).setCell ⟨w.heap.size, 1, none⟩ (.int .i64 G.b)).setCell ⟨w.heap.size, 2, none⟩ (.int .i64 G.r)).setCell ⟨w.heap.size, 3, none⟩ (.int .i64 G.c)) := ((((Keeps.refl (fun q => q = w.heap.size) w').set ⟨w.heap.size, 0, none⟩ _ rfl).set ⟨w.heap.size, 1, none⟩ _ rfl).set ⟨w.heap.size, 2, none⟩ _ rfl).set ⟨w.heap.size, 3, none⟩ _ rfl
          have HKV := hid KV
          have HXV := hid XV
          clear KV XV hy
          generalize hK : (fun (a' : Act) (w'' : World) => ∃ v : Value, _ ∧ _ ∧ _ ∧ _) = K
          generalize hu0 : vs 0 = u0 at x0 ⊢
          subst x0
          go_simp
          rw [← hK]
          exact ⟨undef, by simp [upd, hu0], HXV.out, ⟨hI.1.trans HKV.out, ⟨_, _, _, _, HXV.out⟩⟩, ⟨HKV.out, fun _ => HXV.out⟩⟩
        | n + 3, _, hin => exact absurd hin (by omega)
      case hend5 =>
        intro vs wA hI hf
        have e1 : vs 1 = .agg #[.slice a9 n9 c9, .int .i64 p9] := hf 1 (by decide)
        have e2 : Blk wA w.heap.size 25 [.int .i64 G.a, .int .i64 G.b, .int .i64 G.r, .int .i64 G.c] := hf 2 (by decide)
        generalize vs 1 = u1 at e1 ⊢
        subst e1
        have HV := hid e2
        have HU := hid (HU.out.keeps hI.1 (by omega))
        have HC := hid (HC.out.keeps hI.1 (by have h := HN1.out; omega) (fun b o ha h0 => by have := HWH.out b o ha h0; omega))
        have HK := hid (HK.out.hide hI.1 (Nat.le_refl _))
        have HR9 := hid (HR9.out.keeps hI.1 (fun b o ha => by have h1 := HA9.out b o ha; have h := HN1.out; omega))
        clear hI hf e2
        have d0 := HU.out.cell (j := 0) rfl
        have d1 := HU.out.cell (j := 1) rfl
        have f0 := HU.out.frozen 0
        have f1 := HU.out.frozen 1
        have HKK := hid (stored2 wA (w.heap.size + 1) (.slice a9 n9 c9) (.int .i64 p9))
        have HUU := hid (HU.out.two (.slice a9 n9 c9) (.int .i64 p9))
        refine wpTail_plain rfl fun K hK => ?_
        go_simp
        refine hK _ _ (wpTail_nil ?_)
        clear hK K d0 d1 f0 f1
        have HV := hid (HV.out.keeps HKK.out (by omega))
        have HC := hid (HC.out.keeps HKK.out (by have h := HN1.out; omega) (fun b o ha h0 => by have := HWH.out b o ha h0; omega))
        have HK := hid (HK.out.hide HKK.out (by omega))
        have HR9 := hid (HR9.out.keeps HKK.out (fun b o ha => by have h1 := HA9.out b o ha; have h := HN1.out; omega))
        clear HU HKK
        generalize (wA.setCell ⟨w.heap.size + 1, 0, none⟩ (.slice a9 n9 c9)).setCell ⟨w.heap.size + 1, 1, none⟩ (.int .i64 p9) = wB at *
        have hl1 := load_geo HV.out
        have hl2 := load_rank HUU.out
        go_wp2_with fail
        exact bodyPost_ret (v := .tuple #[.agg #[.int .i64 G.a, .int .i64 G.b, .int .i64 G.r, .int .i64 G.c], .agg #[.slice a9 n9 c9, .int .i64 p9]]) (results_two (p := ⟨w.heap.size, 0, none⟩) (q := ⟨w.heap.size + 1, 0, none⟩) (by exact Try.results132) (by rfl) (by rfl) hl1 hl2) rfl ⟨G, ⟨a9, n9, c9, s9, p9⟩, rfl, HR9.out, HM9.out, fun b o ha => by have h1 := HA9.out b o ha; have h := HN1.out; omega, HC.out, HK.out⟩
  have t2 : (r == 2) = false := by simp [e2]
  clear e2
  by_cases e3 : r = 3
  · have t3 : (r == 3) = true := by simp [e3]
    clear e3
    have x := HX.out.cell (j := 2) rfl
    have f := HX.out.frozen 2
    go_upto_region 12 with (fail)
    refine wp_world (fun w8 hw => ?_)
    have K := (HX.out.set 2 (.int .i64 1)).2
    obtain ⟨G9, hG9⟩ : ∃ G9 : Geo, (⟨G.a, G.b, 1, G.c⟩ : Geo) = G9 := ⟨_, rfl⟩
    have HX9 := hid (show Blk w8 p4 25 [.int .i64 G9.a, .int .i64 G9.b, .int .i64 G9.r, .int .i64 G9.c] by rw [hw.out, ← hG9]; exact (HX.out.set 2 (.int .i64 1)).1)
    rw [show w6.setCell ⟨p4, 2, none⟩ (.int .i64 1) = w8 from hw.out.symm] at K
    have HC := hid (HC.out.keeps K (by have h := HN1.out; omega) (fun b o ha h0 => by have := HWH.out b o ha h0; have h := HN1.out; omega))
    have HV := hid (HV.out.keeps K (by have h := HN1.out; omega))
    have HU := hid (HU.out.keeps K (by have h := HN1.out; omega))
    have HY9 := hid (HY.out.keeps K (by have h := HN1.out; omega))
    have HR9 : Hid (RankR w8 ⟨some ⟨gb, 0, none⟩, rn, rc, rs, rp⟩) := hid (RankR.keeps (w := w6) ⟨OwnF.reads encB_len (by decide) HO.out, HRN.out⟩ K (by intro b o e; simp at e; have h := HN1.out; omega))
    have HM9 := hid HR8.out.1
    have HA9 := hid (show ∀ b o, (some ⟨gb, 0, none⟩ : Option Addr) = some ⟨b, o, none⟩ → p4 ≤ b by intro b o e; simp at e; have h := HN1.out; omega)
    have HK := hid (HK.out.hide K (by have h := HN1.out; omega))
    clear hw K x f HX HY HO hG9
    obtain ⟨a9, ha9⟩ : ∃ a9 : Option Addr, some ⟨gb, 0, none⟩ = a9 := ⟨_, rfl⟩
    rw [ha9] at HR9 HY9 HA9
    obtain ⟨n9, hn9⟩ : ∃ n9 : Nat, rn = n9 := ⟨_, rfl⟩
    rw [hn9] at HR9 HM9 HY9
    obtain ⟨c9, hc9⟩ : ∃ c9 : Nat, rc = c9 := ⟨_, rfl⟩
    rw [hc9] at HR9 HY9
    obtain ⟨s9, hs9⟩ : ∃ s9 : List (Bool × Int), rs = s9 := ⟨_, rfl⟩
    rw [hs9] at HR9
    obtain ⟨p9, hp9⟩ : ∃ p9 : Int, rp = p9 := ⟨_, rfl⟩
    rw [hp9] at HR9 HY9
    clear ha9 hn9 hc9 hs9 hp9
    go_upto_region 12 with (fail)
    refine invS_of 3 (fr := ?fr6)
      (fun i v w' => match i with
          | 0 => v = .agg #[.int .i64 G9.a, .int .i64 G9.b, .int .i64 G9.r, .int .i64 G9.c]
          | 1 => v = .agg #[.slice a9 n9 c9, .int .i64 p9]
          | _ => Blk w' w.heap.size 25 [.int .i64 G9.a, .int .i64 G9.b, .int .i64 G9.r, .int .i64 G9.c]
        ) (fun w' => Keeps (fun b => b = w.heap.size) w8 w' ∧ ∃ y0 y1 y2 y3 : Value, Blk w' w.heap.size 25 [y0, y1, y2, y3]) (fun w' w'' => Keeps (fun b => b = w.heap.size) w' w'' ∧ (Blk w' w.heap.size 25 [.int .i64 G9.a, .int .i64 G9.b, .int .i64 G9.r, .int .i64 G9.c] → Blk w'' w.heap.size 25 [.int .i64 G9.a, .int .i64 G9.b, .int .i64 G9.r, .int .i64 G9.c])) (by kernel_rfl) (by kernel_rfl) (by decide) (by kernel_rfl) ?hfr6 ⟨fun _ => undef, ?h06⟩ ?hI6 ?hF6 ?hstep6 ?hend6
    case hfr6 => intro vs; simp only [frOf, List.take_succ_cons, List.take_zero]; go_simp; exact rfl
    case h06 => rfl
    case hI6 => exact ⟨Keeps.ofDrewN _ _ _, ⟨_, _, _, _, HV.out⟩⟩
    case hF6 =>
      intro i v w' w'' h hI hR
      match i, h with
      | 0, h => exact h
      | 1, h => exact h
      | n + 2, h => exact hR.2 h
    case hstep6 =>
      intro vs w' i o hin ho hI hd
      match i, ho, hin with
      | 0, ho, _ =>
        simp only [List.getElem?_cons_zero, Option.some.injEq] at ho
        subst ho
        refine ⟨wanted_none rfl, ?_⟩
        have HX2 := HX9.out.keeps hI.1 (by have h := HN1.out; omega)
        have c0 := HX2.cell (j := 0) rfl
        have c1 := HX2.cell (j := 1) rfl
        have c2 := HX2.cell (j := 2) rfl
        have c3 := HX2.cell (j := 3) rfl
        generalize hK : (fun (a' : Act) (w'' : World) => ∃ v : Value, _ ∧ _ ∧ _ ∧ _) = K
        go_simp
        rw [← hK]
        exact ⟨_, rfl, rfl, hI, ⟨Keeps.refl _ _, fun h => h⟩⟩
      | 1, ho, _ =>
        simp only [List.getElem?_cons_succ, List.getElem?_cons_zero, Option.some.injEq] at ho
        subst ho
        refine ⟨wanted_none rfl, ?_⟩
        have HY2 := HY9.out.keeps hI.1 (by have h := HN1.out; omega)
        have c0 := HY2.cell (j := 0) rfl
        have c1 := HY2.cell (j := 1) rfl
        generalize hK : (fun (a' : Act) (w'' : World) => ∃ v : Value, _ ∧ _ ∧ _ ∧ _) = K
        go_simp
        rw [← hK]
        exact ⟨_, rfl, rfl, hI, ⟨Keeps.refl _ _, fun h => h⟩⟩
      | 2, ho, _ =>
        simp only [List.getElem?_cons_succ, List.getElem?_cons_zero, Option.some.injEq] at ho
        subst ho
        refine ⟨wanted_none rfl, ?_⟩
        have x0 : vs 0 = .agg #[.int .i64 G9.a, .int .i64 G9.b, .int .i64 G9.r, .int .i64 G9.c] := hd 0 (by kernel_rfl)
        obtain ⟨y0, y1, y2, y3, hy⟩ := hI.2
        have v0 := hy.cell (j := 0) rfl
        have f0 := hy.frozen 0
        have v1 := hy.cell (j := 1) rfl
        have f1 := hy.frozen 1
        have v2 := hy.cell (j := 2) rfl
        have f2 := hy.frozen 2
        have v3 := hy.cell (j := 3) rfl
        have f3 := hy.frozen 3
        have XV : Blk ((((w'.setCell ⟨w.heap.size, 0, none⟩ (.int .i64 G9.a)).setCell ⟨w.heap.size, 1, none⟩ (.int .i64 G9.b)).setCell ⟨w.heap.size, 2, none⟩ (.int .i64 G9.r)).setCell ⟨w.heap.size, 3, none⟩ (.int .i64 G9.c)) w.heap.size 25 [.int .i64 G9.a, .int .i64 G9.b, .int .i64 G9.r, .int .i64 G9.c] := ((((hy.set 0 _).1.set 1 _).1.set 2 _).1.set 3 _).1
        have KV : Keeps (fun q => q = w.heap.size) w' ((((w'.setCell ⟨w.heap.size, 0, none⟩ (.int .i64 G9.a)).setCell ⟨w.heap.size, 1, none⟩ (.int .i64 G9.b)).setCell ⟨w.heap.size, 2, none⟩ (.int .i64 G9.r)).setCell ⟨w.heap.size, 3, none⟩ (.int .i64 G9.c)) := ((((Keeps.refl (fun q => q = w.heap.size) w').set ⟨w.heap.size, 0, none⟩ _ rfl).set ⟨w.heap.size, 1, none⟩ _ rfl).set ⟨w.heap.size, 2, none⟩ _ rfl).set ⟨w.heap.size, 3, none⟩ _ rfl
        have HKV := hid KV
        have HXV := hid XV
        clear KV XV hy
        generalize hK : (fun (a' : Act) (w'' : World) => ∃ v : Value, _ ∧ _ ∧ _ ∧ _) = K
        generalize hu0 : vs 0 = u0 at x0 ⊢
        subst x0
        go_simp
        rw [← hK]
        exact ⟨undef, by simp [upd, hu0], HXV.out, ⟨hI.1.trans HKV.out, ⟨_, _, _, _, HXV.out⟩⟩, ⟨HKV.out, fun _ => HXV.out⟩⟩
      | n + 3, _, hin => exact absurd hin (by omega)
    case hend6 =>
      intro vs wA hI hf
      have e1 : vs 1 = .agg #[.slice a9 n9 c9, .int .i64 p9] := hf 1 (by decide)
      have e2 : Blk wA w.heap.size 25 [.int .i64 G9.a, .int .i64 G9.b, .int .i64 G9.r, .int .i64 G9.c] := hf 2 (by decide)
      generalize vs 1 = u1 at e1 ⊢
      subst e1
      have HV := hid e2
      have HU := hid (HU.out.keeps hI.1 (by omega))
      have HC := hid (HC.out.keeps hI.1 (by have h := HN1.out; omega) (fun b o ha h0 => by have := HWH.out b o ha h0; omega))
      have HK := hid (HK.out.hide hI.1 (Nat.le_refl _))
      have HR9 := hid (HR9.out.keeps hI.1 (fun b o ha => by have h1 := HA9.out b o ha; have h := HN1.out; omega))
      clear hI hf e2
      have d0 := HU.out.cell (j := 0) rfl
      have d1 := HU.out.cell (j := 1) rfl
      have f0 := HU.out.frozen 0
      have f1 := HU.out.frozen 1
      have HKK := hid (stored2 wA (w.heap.size + 1) (.slice a9 n9 c9) (.int .i64 p9))
      have HUU := hid (HU.out.two (.slice a9 n9 c9) (.int .i64 p9))
      refine wpTail_plain rfl fun K hK => ?_
      go_simp
      refine hK _ _ (wpTail_nil ?_)
      clear hK K d0 d1 f0 f1
      have HV := hid (HV.out.keeps HKK.out (by omega))
      have HC := hid (HC.out.keeps HKK.out (by have h := HN1.out; omega) (fun b o ha h0 => by have := HWH.out b o ha h0; omega))
      have HK := hid (HK.out.hide HKK.out (by omega))
      have HR9 := hid (HR9.out.keeps HKK.out (fun b o ha => by have h1 := HA9.out b o ha; have h := HN1.out; omega))
      clear HU HKK
      generalize (wA.setCell ⟨w.heap.size + 1, 0, none⟩ (.slice a9 n9 c9)).setCell ⟨w.heap.size + 1, 1, none⟩ (.int .i64 p9) = wB at *
      have hl1 := load_geo HV.out
      have hl2 := load_rank HUU.out
      go_wp2_with fail
      exact bodyPost_ret (v := .tuple #[.agg #[.int .i64 G9.a, .int .i64 G9.b, .int .i64 G9.r, .int .i64 G9.c], .agg #[.slice a9 n9 c9, .int .i64 p9]]) (results_two (p := ⟨w.heap.size, 0, none⟩) (q := ⟨w.heap.size + 1, 0, none⟩) (by exact Try.results132) (by rfl) (by rfl) hl1 hl2) rfl ⟨G9, ⟨a9, n9, c9, s9, p9⟩, rfl, HR9.out, HM9.out, fun b o ha => by have h1 := HA9.out b o ha; have h := HN1.out; omega, HC.out, HK.out⟩
  have t3 : (r == 3) = false := by simp [e3]
  clear e3
  have HX9 := HX
  have HY9 := HY
  have HR9 : Hid (RankR w6 ⟨some ⟨gb, 0, none⟩, rn, rc, rs, rp⟩) := hid ⟨OwnF.reads encB_len (by decide) HO.out, HRN.out⟩
  have HM9 := hid HR8.out.1
  have HA9 := hid (show ∀ b o, (some ⟨gb, 0, none⟩ : Option Addr) = some ⟨b, o, none⟩ → p4 ≤ b by intro b o e; simp at e; have h := HN1.out; omega)
  clear HX HY HO
  obtain ⟨a9, ha9⟩ : ∃ a9 : Option Addr, some ⟨gb, 0, none⟩ = a9 := ⟨_, rfl⟩
  rw [ha9] at HR9 HY9 HA9
  obtain ⟨n9, hn9⟩ : ∃ n9 : Nat, rn = n9 := ⟨_, rfl⟩
  rw [hn9] at HR9 HM9 HY9
  obtain ⟨c9, hc9⟩ : ∃ c9 : Nat, rc = c9 := ⟨_, rfl⟩
  rw [hc9] at HR9 HY9
  obtain ⟨s9, hs9⟩ : ∃ s9 : List (Bool × Int), rs = s9 := ⟨_, rfl⟩
  rw [hs9] at HR9
  obtain ⟨p9, hp9⟩ : ∃ p9 : Int, rp = p9 := ⟨_, rfl⟩
  rw [hp9] at HR9 HY9
  clear ha9 hn9 hc9 hs9 hp9
  go_upto_region 12 with (fail)
  refine invS_of 3 (fr := ?fr7)
    (fun i v w' => match i with
        | 0 => v = .agg #[.int .i64 G.a, .int .i64 G.b, .int .i64 G.r, .int .i64 G.c]
        | 1 => v = .agg #[.slice a9 n9 c9, .int .i64 p9]
        | _ => Blk w' w.heap.size 25 [.int .i64 G.a, .int .i64 G.b, .int .i64 G.r, .int .i64 G.c]
      ) (fun w' => Keeps (fun b => b = w.heap.size) w6 w' ∧ ∃ y0 y1 y2 y3 : Value, Blk w' w.heap.size 25 [y0, y1, y2, y3]) (fun w' w'' => Keeps (fun b => b = w.heap.size) w' w'' ∧ (Blk w' w.heap.size 25 [.int .i64 G.a, .int .i64 G.b, .int .i64 G.r, .int .i64 G.c] → Blk w'' w.heap.size 25 [.int .i64 G.a, .int .i64 G.b, .int .i64 G.r, .int .i64 G.c])) (by kernel_rfl) (by kernel_rfl) (by decide) (by kernel_rfl) ?hfr7 ⟨fun _ => undef, ?h07⟩ ?hI7 ?hF7 ?hstep7 ?hend7
  case hfr7 => intro vs; simp only [frOf, List.take_succ_cons, List.take_zero]; go_simp; exact rfl
  case h07 => rfl
  case hI7 => exact ⟨Keeps.ofDrewN _ _ _, ⟨_, _, _, _, HV.out⟩⟩
  case hF7 =>
    intro i v w' w'' h hI hR
    match i, h with
    | 0, h => exact h
    | 1, h => exact h
    | n + 2, h => exact hR.2 h
  case hstep7 =>
    intro vs w' i o hin ho hI hd
    match i, ho, hin with
    | 0, ho, _ =>
      simp only [List.getElem?_cons_zero, Option.some.injEq] at ho
      subst ho
      refine ⟨wanted_none rfl, ?_⟩
      have HX2 := HX9.out.keeps hI.1 (by have h := HN1.out; omega)
      have c0 := HX2.cell (j := 0) rfl
      have c1 := HX2.cell (j := 1) rfl
      have c2 := HX2.cell (j := 2) rfl
      have c3 := HX2.cell (j := 3) rfl
      generalize hK : (fun (a' : Act) (w'' : World) => ∃ v : Value, _ ∧ _ ∧ _ ∧ _) = K
      go_simp
      rw [← hK]
      exact ⟨_, rfl, rfl, hI, ⟨Keeps.refl _ _, fun h => h⟩⟩
    | 1, ho, _ =>
      simp only [List.getElem?_cons_succ, List.getElem?_cons_zero, Option.some.injEq] at ho
      subst ho
      refine ⟨wanted_none rfl, ?_⟩
      have HY2 := HY9.out.keeps hI.1 (by have h := HN1.out; omega)
      have c0 := HY2.cell (j := 0) rfl
      have c1 := HY2.cell (j := 1) rfl
      generalize hK : (fun (a' : Act) (w'' : World) => ∃ v : Value, _ ∧ _ ∧ _ ∧ _) = K
      go_simp
      rw [← hK]
      exact ⟨_, rfl, rfl, hI, ⟨Keeps.refl _ _, fun h => h⟩⟩
    | 2, ho, _ =>
      simp only [List.getElem?_cons_succ, List.getElem?_cons_zero, Option.some.injEq] at ho
      subst ho
      refine ⟨wanted_none rfl, ?_⟩
      have x0 : vs 0 = .agg #[.int .i64 G.a, .int .i64 G.b, .int .i64 G.r, .int .i64 G.c] := hd 0 (by kernel_rfl)
      obtain ⟨y0, y1, y2, y3, hy⟩ := hI.2
      have v0 := hy.cell (j := 0) rfl
      have f0 := hy.frozen 0
      have v1 := hy.cell (j := 1) rfl
      have f1 := hy.frozen 1
      have v2 := hy.cell (j := 2) rfl
      have f2 := hy.frozen 2
      have v3 := hy.cell (j := 3) rfl
      have f3 := hy.frozen 3
      have XV : Blk ((((w'.setCell ⟨w.heap.size, 0, none⟩ (.int .i64 G.a)).setCell ⟨w.heap.size, 1, none⟩ (.int .i64 G.b)).setCell ⟨w.heap.size, 2, none⟩ (.int .i64 G.r)).setCell ⟨w.heap.size, 3, none⟩ (.int .i64 G.c)) w.heap.size 25 [.int .i64 G.a, .int .i64 G.b, .int .i64 G.r, .int .i64 G.c] := ((((hy.set 0 _).1.set 1 _).1.set 2 _).1.set 3 _).1
      have KV : Keeps (fun q => q = w.heap.size) w' ((((w'.setCell ⟨w.heap.size, 0, none⟩ (.int .i64 G.a)).setCell ⟨w.heap.size, 1, none⟩ (.int .i64 G.b)).setCell ⟨w.heap.size, 2, none⟩ (.int .i64 G.r)).setCell ⟨w.heap.size, 3, none⟩ (.int .i64 G.c)) := ((((Keeps.refl (fun q => q = w.heap.size) w').set ⟨w.heap.size, 0, none⟩ _ rfl).set ⟨w.heap.size, 1, none⟩ _ rfl).set ⟨w.heap.size, 2, none⟩ _ rfl).set ⟨w.heap.size, 3, none⟩ _ rfl
      have HKV := hid KV
      have HXV := hid XV
      clear KV XV hy
      generalize hK : (fun (a' : Act) (w'' : World) => ∃ v : Value, _ ∧ _ ∧ _ ∧ _) = K
      generalize hu0 : vs 0 = u0 at x0 ⊢
      subst x0
      go_simp
      rw [← hK]
      exact ⟨undef, by simp [upd, hu0], HXV.out, ⟨hI.1.trans HKV.out, ⟨_, _, _, _, HXV.out⟩⟩, ⟨HKV.out, fun _ => HXV.out⟩⟩
    | n + 3, _, hin => exact absurd hin (by omega)
  case hend7 =>
    intro vs wA hI hf
    have e1 : vs 1 = .agg #[.slice a9 n9 c9, .int .i64 p9] := hf 1 (by decide)
    have e2 : Blk wA w.heap.size 25 [.int .i64 G.a, .int .i64 G.b, .int .i64 G.r, .int .i64 G.c] := hf 2 (by decide)
    generalize vs 1 = u1 at e1 ⊢
    subst e1
    have HV := hid e2
    have HU := hid (HU.out.keeps hI.1 (by omega))
    have HC := hid (HC.out.keeps hI.1 (by have h := HN1.out; omega) (fun b o ha h0 => by have := HWH.out b o ha h0; omega))
    have HK := hid (HK.out.hide hI.1 (Nat.le_refl _))
    have HR9 := hid (HR9.out.keeps hI.1 (fun b o ha => by have h1 := HA9.out b o ha; have h := HN1.out; omega))
    clear hI hf e2
    have d0 := HU.out.cell (j := 0) rfl
    have d1 := HU.out.cell (j := 1) rfl
    have f0 := HU.out.frozen 0
    have f1 := HU.out.frozen 1
    have HKK := hid (stored2 wA (w.heap.size + 1) (.slice a9 n9 c9) (.int .i64 p9))
    have HUU := hid (HU.out.two (.slice a9 n9 c9) (.int .i64 p9))
    refine wpTail_plain rfl fun K hK => ?_
    go_simp
    refine hK _ _ (wpTail_nil ?_)
    clear hK K d0 d1 f0 f1
    have HV := hid (HV.out.keeps HKK.out (by omega))
    have HC := hid (HC.out.keeps HKK.out (by have h := HN1.out; omega) (fun b o ha h0 => by have := HWH.out b o ha h0; omega))
    have HK := hid (HK.out.hide HKK.out (by omega))
    have HR9 := hid (HR9.out.keeps HKK.out (fun b o ha => by have h1 := HA9.out b o ha; have h := HN1.out; omega))
    clear HU HKK
    generalize (wA.setCell ⟨w.heap.size + 1, 0, none⟩ (.slice a9 n9 c9)).setCell ⟨w.heap.size + 1, 1, none⟩ (.int .i64 p9) = wB at *
    have hl1 := load_geo HV.out
    have hl2 := load_rank HUU.out
    go_wp2_with fail
    exact bodyPost_ret (v := .tuple #[.agg #[.int .i64 G.a, .int .i64 G.b, .int .i64 G.r, .int .i64 G.c], .agg #[.slice a9 n9 c9, .int .i64 p9]]) (results_two (p := ⟨w.heap.size, 0, none⟩) (q := ⟨w.heap.size + 1, 0, none⟩) (by exact Try.results132) (by rfl) (by rfl) hl1 hl2) rfl ⟨G, ⟨a9, n9, c9, s9, p9⟩, rfl, HR9.out, HM9.out, fun b o ha => by have h1 := HA9.out b o ha; have h := HN1.out; omega, HC.out, HK.out⟩
end Go.Proofs.Ytggjheapjklhgaa
