/- The law 'FnTraceText', its tied card: for every input the program's function and the reference's agree, so the call returns true and leaves its arguments as they were. The listed tables read as their texts lay them: tied to the program's text. -/
import Derived.Test.YtggjheapjklhgaaDoorRows
import Derived.Test.YtggjheapjklhgaaDoorCards
import Derived.Test.YtggjheapjklhgaaDoorTie
import Derived.Test.YtggjheapjklhgaaDoorHead
import Derived.Test.YtggjheapjklhgaaDoorTxT
import Derived.WalkKit
import Derived.ProofKit
import Derived.OpenShut
import Derived.ShutString
import Derived.ChangeOld
import Derived.Below
import Derived.LaidMore
import Derived.LaidHandle
import Derived.Stop.Joined
import Derived.SevenTiedAt
namespace Go.Proofs.YtggjheapjklhgaaDoor.fnTraceText
open Go.ChangeShapes Go.WideShapes Go.ChangeAt Go.RowKit
set_option linter.unusedVariables false

theorem own : ownKnob Tryd.prog.godebug = none := by kernel_rfl
theorem laidOut : laidOutB Tryd.prog = true := by kernel_rfl

theorem run_index_mk (w : World) (l : List UInt8) (k : Nat) (b : UInt8) (h : l[k]? = some b) : (Instr.index 9 (.string ⟨l.toArray⟩) (.int .i64 (k : Int))).run Tryd.prog w = .ok (.int .u8 (b.toNat : Int)) w := by
  obtain ⟨hk, hb⟩ := List.getElem?_eq_some_iff.1 h
  rw [Go.run_index_string w 9 ⟨l.toArray⟩ .i64 (k : Int) Tryd.underlying9]
  have hs : (⟨l.toArray⟩ : ByteArray).size = l.length := rfl
  rw [dif_pos ⟨by omega, by rw [hs]; omega⟩]
  congr 3
  rw [← hb]
  simp [ByteArray.getElem_eq_getElem_data]
theorem u8_ten (b : UInt8) : ((b.toNat : Int) == 10) = decide (b = 10) := by
  by_cases h : b = 10
  · subst h; rfl
  · have hn : b.toNat ≠ 10 := fun e => h (UInt8.toNat_inj.1 (by rw [e]; rfl))
    have : ¬ (b.toNat : Int) = 10 := by omega
    simp [h, this]
theorem lit_ev (w : World) : EvsRd (w.alloc (.cells #[.int .i64 4, .int .i64 1, .int .i64 0, .int .i64 0, .int .i64 0] 42)) ⟨some ⟨w.heap.size, 0, none⟩, 1, 1, [⟨4, ⟨1, 0, 0, 0⟩⟩]⟩ := by
  refine ⟨fun i x hx => ?_, rfl⟩
  match i, hx with
  | 0, hx =>
    simp only [List.getElem?_cons_zero, Option.some.injEq] at hx
    subst hx
    refine ⟨w.heap.size, 0, rfl, by simp, fun j v hv => ?_⟩
    have h := box_at w [.int .i64 4, .int .i64 1, .int .i64 0, .int .i64 0, .int .i64 0] 42 j
    simp only [Nat.zero_mul, Nat.zero_add]
    rw [h]
    exact hv
  | i + 1, hx => simp at hx

set_option maxHeartbeats 4000000 in
set_option maxRecDepth 100000 in
theorem walk (w : World) (a0 : Option Addr) (len0 cap0 : Nat) (w0 : BytesR w a0 len0) (m0 : len0 ≤ maxLen) (hT : Tab w) :
    Calls Tryd.prog 4 #[.slice a0 len0 cap0] w fun e w' => e = .returned (.bool true) ∧ Below w.heap.size w w' := by
  by_cases hlen : 1048576 < len0
  · have hd : decide (1048576 < (len0 : Int)) = true := by simp; omega
    go_enter Tryd.func4, Tryd.ntmps4
    go_wp2_with fail
    refine (big_any _ _ _ _ m0).mono ?_
    rintro e w1 ⟨rfl, rfl⟩
    go_wp2_with fail
    go_ret
    exact ⟨rfl, Below.refl _ _⟩
  have hd : decide (1048576 < (len0 : Int)) = false := by simp; omega
  have HW := hid w0
  have HTB := hid hT
  clear w0 hT
  go_enter Tryd.func4, Tryd.ntmps4
  go_wp2_with fail
  refine (big_any _ _ _ _ m0).mono ?_
  rintro e w1 ⟨rfl, rfl⟩
  go_wp2_with fail
  refine (DrawTrace_any _ _ _ _ HW.out (by omega)).mono ?_
  rintro e w1 ⟨G, T, ⟨ea, en, ec, es⟩, rfl, hO, hl, ⟨b0, hb0⟩, ⟨D, hT⟩, B⟩
  dsimp only at hb0
  subst hb0
  have HTR := hid hT
  have HL := hid hl
  have HEN := hid (show en ≤ 1048576 ∧ en ≤ ec ∧ en = es.length from ⟨by have h1 : en = es.length := OwnF.length encE_len (by decide) hO; dsimp only at hl; omega, OwnF.le_cap hO, OwnF.length encE_len (by decide) hO⟩)
  have HE := hid (show EvsRd w1 ⟨some ⟨b0, 0, none⟩, en, ec, es⟩ from hO.reads)
  have HB := hid B
  dsimp only at HTR HL
  clear hd B hO hl hT HW
  have HT := hid (Blk.zeroT (w1.alloc (.cells #[.int .i64 G.a, .int .i64 G.b, .int .i64 G.r, .int .i64 G.c] 32)) 34)
  simp only [World.size_alloc] at HT
  have HTT := hid HT.out.there
  go_upto_region 4 with (refine wpList_store_tim2 (T := T) (by rfl) _ _ (by rfl) (by rfl) (by rfl) (by exact HTT.out) ?_)
  refine wp_world (fun w2 hw => ?_)
  have B : Below w1.heap.size w1 w2 := by rw [hw.out]; exact (below_alloc2 _ _ _).trans ((setCells_keeps (w1.heap.size + 1) (timV T) 0 _).below (by simp; omega) (fun k hk e => by omega))
  have HE := hid (EvsRd.old HE.out B)
  have HB := hid (below_step HB.out B (Nat.le_refl _))
  clear hw B HT HTT
  generalize w1.heap.size = p3 at *
  have HTI := hid (HTR.out.timesIn (by have := HL.out; omega))
  go_wp2_with fail
  refine (implFormatTrace_any _ _ HE.out (HEN.out.1) HTI.out (tab_below HTB.out HB.out)).mono ?_
  rintro e w3 ⟨rfl, B⟩
  dsimp only
  have HE := hid (EvsRd.old HE.out B)
  have HB := hid (below_step HB.out B (Nat.le_refl _))
  clear B
  have htl := trText_len HTI.out
  have hc := c10_tr es
  generalize htx : trText es = tx at htl hc ⊢
  have HTX := hid htx
  have HC := hid hc
  have htl : tx.length ≤ 2820 := by have := HL.out; omega
  clear hc htx
  go_wp2_with fail
  go_loopw [7, 8] (fun n i wr => ∃ k : Nat, k ≤ tx.length ∧ i = .int .i64 k ∧ n = .int .i64 (c10 (tx.take k) : Nat) ∧ Hid (wr = w3)) (fun _ i _ => tx.length - (intOf i).toNat)
  case atStart => exact ⟨0, Nat.zero_le _, rfl, rfl, hid rfl⟩
  case round =>
    obtain ⟨k, hk, rfl, rfl, hwr⟩ := hrel
    have hwr := hwr.out
    subst hwr
    by_cases hlt : k < tx.length
    · obtain ⟨b, hb⟩ : ∃ b, tx[k]? = some b := ⟨_, List.getElem?_eq_getElem hlt⟩
      have HS := hid (c10_at hb)
      have HI := run_index_mk wr tx k b hb
      have hle : c10 (tx.take k) ≤ k := by
        have h1 := List.countP_le_length (p := fun x : UInt8 => x == 10) (l := tx.take k)
        rw [List.length_take] at h1
        unfold c10
        omega
      have h10 := u8_ten b
      generalize c10 (tx.take k) = n at hle HS ⊢
      have hn1 : IntKind.i64.wrap ((n : Int) + 1) = (n : Int) + 1 := IntWalk.i64_in _ (by omega)
      have hk1 : IntKind.i64.wrap ((k : Int) + 1) = (k : Int) + 1 := IntWalk.i64_in _ (by omega)
      have hki : (k : Int) < (tx.length : Int) := by omega
      clear hb hle
      by_cases hbt : b = 10
      · rw [if_pos hbt] at HS
        rw [show decide (b = 10) = true by simp [hbt]] at h10
        clear hbt
        go_wp2_with fail
        go_roundw
        case rel => exact ⟨k + 1, by omega, by go_num, by rw [HS.out]; go_num, hid trivial⟩
        case measure => simp [intOf]; omega
      · rw [if_neg hbt] at HS
        rw [show decide (b = 10) = false by simp [hbt]] at h10
        clear hbt
        go_wp2_with fail
        go_roundw
        case rel => exact ⟨k + 1, by omega, by go_num, by rw [HS.out]; go_num, hid trivial⟩
        case measure => simp [intOf]; omega
    · have hkn : k = tx.length := by omega
      have hn : c10 (tx.take k) = en := by rw [hkn, List.take_length, HC.out]; exact HEN.out.2.2.symm
      rw [hn]
      have hki : ¬ (k : Int) < (tx.length : Int) := by omega
      clear hkn hn
      go_wp2_with fail
      refine (implActTimes_any _ _ HE.out HEN.out.1).mono ?_
      rintro e w4 ⟨a, m, c, rfl, O, B⟩
      have HE := hid (EvsRd.old HE.out B)
      have HB := hid (below_step HB.out B (Nat.le_refl _))
      have HXS := hid O.reads
      have HML := hid O.length
      have hm1 : m ≤ 1048576 := by
        have h1 := HML.out
        have h2 := actsOf_len es
        have h3 := HEN.out
        dsimp only at h1
        omega
      dsimp only at HXS HML
      clear O B
      go_wp2_with fail
      go_loopw [10] (fun i wr => ∃ j : Nat, (j + 1 ≤ m ∨ j = 0) ∧ i = .int .i64 (j + 1 : Nat) ∧ Hid (Below w4.heap.size w4 wr)) (fun i _ => m - (intOf i).toNat)
      case atStart => exact ⟨0, .inr rfl, rfl, hid (Below.refl _ _)⟩
      case round =>
        obtain ⟨j, hj, rfl, HK⟩ := hrel
        by_cases hjm : j + 1 < m
        · obtain ⟨x, hx⟩ := some_at HML.out (show j < m by omega)
          obtain ⟨y, hy⟩ := some_at HML.out hjm
          have hxy := HTR.out.asc_at hx hy
          obtain ⟨b1, o1, ha1, hb1, hc1⟩ := HXS.out j x hx
          obtain ⟨b2, o2, ha2, hb2, hc2⟩ := HXS.out (j + 1) y hy
          rw [ha1] at ha2
          simp only [Option.some.injEq, Addr.mk.injEq, and_true] at ha2
          obtain ⟨rfl, rfl⟩ := ha2
          have q1 := (HK.out.cell (p := ⟨b1, o1 + j, none⟩) hb1).trans hc1
          have q2 := (HK.out.cell (p := ⟨b1, o1 + (j + 1), none⟩) hb1).trans hc2
          have hbw : b1 < wr.heap.size := Nat.lt_of_lt_of_le hb1 HK.out.size
          obtain ⟨p, hp⟩ : ∃ p : Int, ((j + 1 : Nat) : Int) = p := ⟨_, rfl⟩
          rw [hp]
          have hp0 : IntKind.i64.wrap (p - 1) = (j : Int) := by rw [IntWalk.i64_in _ (by omega)]; omega
          have hp1 : p.toNat = j + 1 := by omega
          have hp2 : 0 ≤ p := by omega
          have hp3 : p < m := by omega
          have hp4 : (0 : Int) ≤ (j : Int) := by omega
          have hp5 : (j : Int) < m := by omega
          have hp6 : IntKind.i64.wrap (p + 1) = p + 1 := IntWalk.i64_in _ (by omega)
          have hge : decide (y ≤ x) = false := by simp; omega
          have HP := hid hp
          subst ha1
          clear hx hy hc1 hc2 hxy hp
          have hov := over_cell wr
          go_wp2_with fail
          refine wp_region_over (by kernel_rfl) (by kernel_rfl) ?_
          repeat (go_big_quiet_step (fail))
          refine wpQuiet_nil ?_
          intro w5 B5
          clear hov q1 q2
          have HK2 := hid (below_step HK.out B5 (Nat.le_refl _))
          go_wp2_with fail
          go_roundw
          case rel => exact ⟨j + 1, .inl (by omega), by rw [← HP.out]; go_num, HK2⟩
          case measure => simp [intOf]; omega
        · have HB := hid (below_step HB.out HK.out (Nat.le_refl _))
          have HE := hid (EvsRd.old HE.out HK.out)
          have hmi : ¬ ((j + 1 : Nat) : Int) < (m : Int) := by omega
          go_wp2_with fail
          refine (specFormatTrace_any _ _ HE.out HEN.out.1 HTI.out).mono ?_
          rintro e w5 ⟨rfl, B⟩
          have HB := hid (below_step HB.out B (Nat.le_refl _))
          clear B
          dsimp only
          rw [HTX.out]
          go_wp2_with fail
          refine (implActTimes_any ⟨some ⟨w5.heap.size, 0, none⟩, 1, 1, [⟨4, ⟨1, 0, 0, 0⟩⟩]⟩ _ (lit_ev w5) (show (1 : Nat) ≤ 1048576 by decide)).mono ?_
          rintro e w6 ⟨a2, m2, c2, rfl, O, B⟩
          have hm2 : m2 = 1 := O.length
          subst hm2
          have HB := hid (below_step (below_step HB.out (below_alloc _ _) (Nat.le_refl _)) B (Nat.le_refl _))
          clear O B
          go_wp2_with fail
          go_ret
          exact ⟨rfl, HB.out⟩

set_option maxRecDepth 100000 in
theorem lifted (os : Os) (started : os.Started) (H : Type) (enc : TypeId × Value → H) :
    ReturnsInHanded {} Tryd.checked os 4 .any (fun w args => (Rows.fnTraceTextSpec.pre enc Tryd.prog Tryd.f4 [] false w args ∧ laidMetH Tryd.prog laid3 w) ∧ sizedMet enc Tryd.prog Tryd.f4 (OpenSpec.ofChange Rows.fnTraceTextSpec) false w args)
      (Rows.fnTraceTextSpec.post enc Tryd.prog Tryd.f4 false true false false) := by
  refine returnsInHanded_of_change_and (C := Tryd.checked) (X := fun w _ => laidMetH Tryd.prog laid3 w) (fun _ _ _ hh h => h.of_heap hh) own started (by kernel_rfl) Tryd.func4
    (ChangeSpec.witness_shaped (enc := enc) (C := Tryd.checked) (os := os) (X := fun w _ => laidMetH Tryd.prog laid3 w) false (World.doorLaid Tryd.prog 400 os) #[.slice none 0 0] 8 rfl (World.shaped_of_RefB (by kernel_rfl) (by kernel_rfl)) (by kernel_rfl) (by kernel_rfl) (by kernel_rfl) (door_met os _)) ?_
  intro W base args ds gs before hval0 hW hcnd _ hL _
  have hval : ∀ (j : Nat) t v, Tryd.f4.params[j]? = some t → args[j]? = some v → Value.okWide Tryd.prog W .any base t v := hval0
  have hW' := hW
  obtain ⟨p, q, hA0, hV, rfl, hfz, hnd⟩ := hW
  have hA : DataW.TrodAll enc Tryd.prog W 0 (fun _ => true) true Tryd.f4.params.toList args.toList ds p := hA0
  rw [Tryd.params4] at hA hval
  obtain ⟨v0, vs0, d0, ds0, p0, q0, hargs, rfl, rfl, h0, r0⟩ := trodAll_cons hA
  obtain ⟨rfl, rfl, rfl⟩ := trodAll_nil r0
  obtain rfl : args = #[v0] := by cases args; simp_all
  obtain ⟨rfl, rfl⟩ := trodVars_none hV
  have k0 := h0
  have lt0 : ∀ x ∈ p0, x.block < W.heap.size := by obtain ⟨m, hm⟩ := k0; exact DataW.trod_lt m _ _ _ hm
  obtain ⟨a0, len0, cap0, rfl⟩ := okWide_slice Tryd.underlying29 (hval 0 29 v0 rfl rfl)
  obtain ⟨w0, m0⟩ : BytesR W a0 len0 ∧ len0 ≤ maxLen := by
    obtain ⟨fuel, hf⟩ := h0
    rcases open_ints Tryd.underlying29 Tryd.underlying5 (by kernel_rfl) hf with ⟨hcs, _⟩ | ⟨x, l, c, zs, hcs, _, hl, hm, hz, _, hcell, hwz⟩
    · simp [Value.cells] at hcs
      obtain ⟨rfl, rfl, rfl⟩ := hcs
      exact ⟨fun i hi => absurd hi (Nat.not_lt_zero _), Nat.zero_le _⟩
    · simp [Value.cells] at hcs
      obtain ⟨rfl, rfl, rfl⟩ := hcs
      exact ⟨BytesR.of_cells hl (by simpa using hz) hcell hwz, Nat.le_trans hl hm⟩
  clear hA0 hval0
  refine (walk W a0 len0 cap0 w0 m0 (tab_of_laid hL)).mono fun e W' ⟨he, bel⟩ => ?_
  subst he
  exact ⟨_, rfl, _, _, _, [], _, [], hW', trodAll_mk1 (shut_bool Tryd.underlying4 _), (trodAll_cons_mk (Below.trod laidOut (by kernel_rfl) (of_decide_eq_true (by kernel_rfl)) k0 bel lt0) trodAll_mk0), rfl, bel.frame _, fun h => by cases h⟩

theorem own_facts : joinedFacts Tryd.prog 4 Tryd.f4 Rows.fnTraceTextSpec Rows.fnTraceTextRow = true :=
  facts_of 4 Tryd.f4 Rows.fnTraceTextSpec Rows.fnTraceTextRow (by as_aux_lemma => kernel_rfl) (by as_aux_lemma => kernel_rfl) (by as_aux_lemma => kernel_rfl) rfl rfl
    (by as_aux_lemma => kernel_rfl) (by as_aux_lemma => kernel_rfl) (by as_aux_lemma => kernel_rfl) (by as_aux_lemma => kernel_rfl)
    (by as_aux_lemma => kernel_rfl) (by as_aux_lemma => kernel_rfl) (by as_aux_lemma => kernel_rfl) (by as_aux_lemma => kernel_rfl) (by as_aux_lemma => kernel_rfl)
    (by as_aux_lemma => kernel_rfl) (by as_aux_lemma => kernel_rfl) (by as_aux_lemma => kernel_rfl) (by as_aux_lemma => kernel_rfl)
    rfl rfl rfl rfl (by as_aux_lemma => kernel_rfl) (by as_aux_lemma => kernel_rfl) (by as_aux_lemma => kernel_rfl) (by as_aux_lemma => kernel_rfl)
theorem over : Rows.fnTraceTextRow.holds Tryd.pinned (OpenSpec.ofChange Rows.fnTraceTextSpec) :=
  OpenClaim.holds_of_wide 4 Tryd.f4 rfl rfl rfl rfl rfl rfl rfl ⟨rfl, rfl, rfl, rfl, rfl⟩ rfl rfl rfl rfl rfl (by as_aux_lemma => kernel_rfl) Tryd.func4 own_facts
    (of_decide_eq_true (by as_aux_lemma => kernel_rfl)) (by unfold Func.isWrapper; first | (rw [if_pos (by decide +kernel)]; kernel_rfl) | (rw [if_neg (by decide +kernel)]; exact ⟨rfl, rfl⟩))
    (fun os started H enc _ => lifted os started H enc)
theorem said : Rows.FnTraceTextSaid := over

/-- THE TIED CARD. -/
theorem proved : Rows.FnTraceTextCardSaid :=
  Claim7.holds_tied_plain_at .later [] [.data, .data, .data] true (true, "5f1b98a505da31d3cf722511ab1c26b5f9d369cb1988fb4d8e5d96087cc6231c") false
    said (fun _ h => by cases h) (by kernel_rfl) (fun _ h => by cases h) fnTraceText_row_tie rfl ⟨rfl, rfl⟩ (by kernel_rfl) rfl
    (fun f fn hf hfn => by
      obtain rfl : f = 4 := Option.some.inj ((show Tryd.prog.funcNamed "loop.example/g00977/laws.FnTraceText" = some 4 by kernel_rfl).symm.trans hf) |>.symm
      obtain rfl : fn = Tryd.f4 := (Option.some.inj (Tryd.func4.symm.trans hfn)).symm
      exact ⟨by kernel_rfl, fun j t ht => by
        rw [Tryd.params4] at ht
        have hm : t ∈ [29] := by simpa using Array.mem_of_getElem? ht
        have hall : ([29].all fun u => !Tryd.prog.wantsStandIn u) = true := by kernel_rfl
        exact (show Tryd.prog.wantsStandIn t = false by simpa using List.all_eq_true.1 hall t hm)⟩)
    (by kernel_rfl)
#print axioms proved
end Go.Proofs.YtggjheapjklhgaaDoor.fnTraceText
