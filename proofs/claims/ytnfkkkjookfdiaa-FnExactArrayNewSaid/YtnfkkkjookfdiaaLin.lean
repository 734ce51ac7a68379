/- Plain: the field on four bits; the code is additive; both ways to encode agree. -/
import Derived.Test.YtnfkkkjookfdiaaCodeP
namespace Go.Proofs.Ytnfkkkjookfdiaa
open Go.RowKit

/-- Four bits as a number. -/
def tI (b : BitVec 4) : Int := (b.toNat : Int)
def gmul (a b : BitVec 4) : BitVec 4 := BitVec.ofNat 4 (gfMul (tI a) (tI b)).toNat
theorem ofFin_cases {p : BitVec 4 → Prop} (h : ∀ i : Fin 16, p (BitVec.ofFin i)) (b : BitVec 4) : p b := h b.toFin
theorem tI_mul_fin : ∀ i j : Fin 16, gfMul (tI (BitVec.ofFin i)) (tI (BitVec.ofFin j)) = tI (gmul (BitVec.ofFin i) (BitVec.ofFin j)) := by decide +kernel
theorem tI_mul (a b : BitVec 4) : gfMul (tI a) (tI b) = tI (gmul a b) := tI_mul_fin a.toFin b.toFin
theorem tI_xor_fin : ∀ i j : Fin 16, bits .xor .i64 (tI (BitVec.ofFin i)) (tI (BitVec.ofFin j)) = tI (BitVec.ofFin i ^^^ BitVec.ofFin j) := by decide +kernel
theorem tI_xor (a b : BitVec 4) : bits .xor .i64 (tI a) (tI b) = tI (a ^^^ b) := tI_xor_fin a.toFin b.toFin
theorem tI_zero : tI 0#4 = 0 := rfl
theorem gmul_xor_fin : ∀ i j k : Fin 16, gmul (BitVec.ofFin i ^^^ BitVec.ofFin j) (BitVec.ofFin k) = gmul (BitVec.ofFin i) (BitVec.ofFin k) ^^^ gmul (BitVec.ofFin j) (BitVec.ofFin k) := by decide +kernel
theorem gmul_xor (a b c : BitVec 4) : gmul (a ^^^ b) c = gmul a c ^^^ gmul b c := gmul_xor_fin a.toFin b.toFin c.toFin
theorem gmul_comm_fin : ∀ i j : Fin 16, gmul (BitVec.ofFin i) (BitVec.ofFin j) = gmul (BitVec.ofFin j) (BitVec.ofFin i) := by decide +kernel
theorem gmul_comm (a b : BitVec 4) : gmul a b = gmul b a := gmul_comm_fin a.toFin b.toFin
theorem gmul_xor' (a b c : BitVec 4) : gmul a (b ^^^ c) = gmul a b ^^^ gmul a c := by rw [gmul_comm, gmul_xor, gmul_comm b, gmul_comm c]
theorem zero_gmul (a : BitVec 4) : gmul 0#4 a = 0#4 := by
  have : ∀ i : Fin 16, gmul 0#4 (BitVec.ofFin i) = 0#4 := by decide +kernel
  exact this a.toFin
theorem elem_tI {x : Int} (h : inB x 0 15 = true) : ∃ b : BitVec 4, x = tI b := by
  obtain ⟨i, rfl⟩ := elem_fin h
  exact ⟨BitVec.ofFin i, rfl⟩
theorem tI_elem (b : BitVec 4) : inB (tI b) 0 15 = true := by
  rw [inB_iff]; unfold tI; have := b.isLt; omega
theorem tI_inj {a b : BitVec 4} (h : tI a = tI b) : a = b := by
  unfold tI at h; exact BitVec.eq_of_toNat_eq (by omega)
theorem xor_ac (a b c d : BitVec 4) : (a ^^^ b) ^^^ (c ^^^ d) = (a ^^^ c) ^^^ (b ^^^ d) := by
  rw [BitVec.xor_assoc, BitVec.xor_assoc, ← BitVec.xor_assoc b c d, BitVec.xor_comm b c, BitVec.xor_assoc c b d]

/-- The power of 2 with exponent k*j on four bits. -/
def gp (k j : Nat) : BitVec 4 := BitVec.ofNat 4 (gfPow 2 ((k : Int) * (j : Int))).toNat
theorem tI_gp_fin : ∀ i : Fin 11, ∀ j : Fin 3, gfPow 2 ((i.val : Int) * (j.val : Int)) = tI (gp i.val j.val) := by decide +kernel
theorem tI_gp {k j : Nat} (hk : k < 11) (hj : j < 3) : gfPow 2 ((k : Int) * (j : Int)) = tI (gp k j) := tI_gp_fin ⟨k, hk⟩ ⟨j, hj⟩

/-- The syndromes on four bits. -/
def synB (ys : List (BitVec 4)) (j : Nat) : Nat → BitVec 4
  | 0 => 0#4
  | k + 1 => synB ys j k ^^^ gmul (ys[k]?.getD 0#4) (gp k j)
theorem getD_map_tI (ys : List (BitVec 4)) (k : Nat) : (ys.map tI)[k]?.getD 0 = tI (ys[k]?.getD 0#4) := by
  rw [List.getElem?_map]
  cases ys[k]? <;> rfl
theorem synN_tI (ys : List (BitVec 4)) (j k : Nat) (hk : k ≤ 11) (hj : j < 3) : synN (ys.map tI) j k = tI (synB ys j k) := by
  induction k with
  | zero => rfl
  | succ k ih => rw [synN, ih (by omega), getD_map_tI, tI_gp (by omega) hj, tI_mul, tI_xor]; rfl

/-- The sum of two words. -/
def xs2 (ys zs : List (BitVec 4)) : List (BitVec 4) := List.zipWith (· ^^^ ·) ys zs
theorem xs2_at (ys zs : List (BitVec 4)) (k : Nat) (h : ys.length = zs.length) : (xs2 ys zs)[k]?.getD 0#4 = (ys[k]?.getD 0#4) ^^^ (zs[k]?.getD 0#4) := by
  unfold xs2
  rw [List.getElem?_zipWith]
  by_cases hk : k < ys.length
  · rw [List.getElem?_eq_getElem hk, List.getElem?_eq_getElem (by omega : k < zs.length)]; rfl
  · rw [List.getElem?_eq_none (by omega), List.getElem?_eq_none (by omega)]; rfl
theorem length_xs2 (ys zs : List (BitVec 4)) (h : ys.length = zs.length) : (xs2 ys zs).length = ys.length := by
  unfold xs2; simp; omega
theorem synB_add (ys zs : List (BitVec 4)) (h : ys.length = zs.length) (j k : Nat) : synB (xs2 ys zs) j k = synB ys j k ^^^ synB zs j k := by
  induction k with
  | zero => simp [synB]
  | succ k ih => rw [synB, ih, xs2_at _ _ _ h, gmul_xor, synB, synB, xor_ac]

/-- The program's check symbols on four bits. -/
def b1 (s0 s1 s2 : BitVec 4) : BitVec 4 := gmul (gmul 2#4 (s0 ^^^ s1) ^^^ gmul 5#4 (s0 ^^^ s2)) 13#4
def b2 (s0 s1 s2 : BitVec 4) : BitVec 4 := gmul (gmul 3#4 (s0 ^^^ s2) ^^^ gmul 5#4 (s0 ^^^ s1)) 13#4
def b0 (s0 s1 s2 : BitVec 4) : BitVec 4 := s0 ^^^ b1 s0 s1 s2 ^^^ b2 s0 s1 s2
theorem inv4 : gfInv 4 = tI 13#4 := by decide +kernel
theorem encC1_tI (a b c : BitVec 4) : encC1 (tI a) (tI b) (tI c) = tI (b1 a b c) := by
  unfold encC1 b1
  rw [inv4, tI_xor, tI_xor, show (2 : Int) = tI 2#4 from rfl, show (5 : Int) = tI 5#4 from rfl, tI_mul, tI_mul, tI_xor, tI_mul]
theorem encC2_tI (a b c : BitVec 4) : encC2 (tI a) (tI b) (tI c) = tI (b2 a b c) := by
  unfold encC2 b2
  rw [inv4, tI_xor, tI_xor, show (3 : Int) = tI 3#4 from rfl, show (5 : Int) = tI 5#4 from rfl, tI_mul, tI_mul, tI_xor, tI_mul]
theorem encC0_tI (a b c : BitVec 4) : encC0 (tI a) (tI b) (tI c) = tI (b0 a b c) := by
  unfold encC0 b0
  rw [encC1_tI, encC2_tI, tI_xor, tI_xor]
theorem b1_add (a b c a' b' c' : BitVec 4) : b1 (a ^^^ a') (b ^^^ b') (c ^^^ c') = b1 a b c ^^^ b1 a' b' c' := by
  simp only [b1, xor_ac a a' b b', xor_ac a a' c c', gmul_xor, gmul_xor']; ac_rfl
theorem b2_add (a b c a' b' c' : BitVec 4) : b2 (a ^^^ a') (b ^^^ b') (c ^^^ c') = b2 a b c ^^^ b2 a' b' c' := by
  simp only [b2, xor_ac a a' b b', xor_ac a a' c c', gmul_xor, gmul_xor']; ac_rfl
theorem b0_add (a b c a' b' c' : BitVec 4) : b0 (a ^^^ a') (b ^^^ b') (c ^^^ c') = b0 a b c ^^^ b0 a' b' c' := by
  simp only [b0, b1_add, b2_add]; ac_rfl
def encB (ys : List (BitVec 4)) : List (BitVec 4) :=
  [b0 (synB ([0#4, 0#4, 0#4] ++ ys) 0 11) (synB ([0#4, 0#4, 0#4] ++ ys) 1 11) (synB ([0#4, 0#4, 0#4] ++ ys) 2 11),
   b1 (synB ([0#4, 0#4, 0#4] ++ ys) 0 11) (synB ([0#4, 0#4, 0#4] ++ ys) 1 11) (synB ([0#4, 0#4, 0#4] ++ ys) 2 11),
   b2 (synB ([0#4, 0#4, 0#4] ++ ys) 0 11) (synB ([0#4, 0#4, 0#4] ++ ys) 1 11) (synB ([0#4, 0#4, 0#4] ++ ys) 2 11)] ++ ys
theorem map_pad (ys : List (BitVec 4)) : [0, 0, 0] ++ ys.map tI = ([0#4, 0#4, 0#4] ++ ys).map tI := by simp [tI_zero]
theorem encI_tI (ys : List (BitVec 4)) : encI (ys.map tI) = (encB ys).map tI := by
  unfold encI encB
  rw [map_pad, synN_tI _ 0 11 (by omega) (by omega), synN_tI _ 1 11 (by omega) (by omega), synN_tI _ 2 11 (by omega) (by omega)]
  simp only [encC0_tI, encC1_tI, encC2_tI, List.map_append, List.map_cons, List.map_nil]
theorem xs2_pad (ys zs : List (BitVec 4)) : xs2 ([0#4, 0#4, 0#4] ++ ys) ([0#4, 0#4, 0#4] ++ zs) = [0#4, 0#4, 0#4] ++ xs2 ys zs := by
  simp [xs2]
theorem encB_add (ys zs : List (BitVec 4)) (h : ys.length = zs.length) : encB (xs2 ys zs) = xs2 (encB ys) (encB zs) := by
  have hp : ([0#4, 0#4, 0#4] ++ ys).length = ([0#4, 0#4, 0#4] ++ zs).length := by simp [h]
  unfold encB
  simp only [← xs2_pad, synB_add _ _ hp, b0_add, b1_add, b2_add]
  simp [xs2]
theorem length_encB (ys : List (BitVec 4)) : (encB ys).length = ys.length + 3 := by simp [encB]

/-- The reference's division on four bits. -/
def gen : List (BitVec 4) := [8#4, 14#4, 7#4, 1#4]
def rInB (l : List (BitVec 4)) (i : Nat) : Nat → List (BitVec 4)
  | 0 => l
  | k + 1 => (rInB l i k).set (i - 3 + k) (((rInB l i k)[i - 3 + k]?.getD 0#4) ^^^ (gmul (gen[k]?.getD 0#4) (l[i]?.getD 0#4)))
def rOutB (l : List (BitVec 4)) : Nat → List (BitVec 4)
  | 0 => l
  | n + 1 => rInB (rOutB l n) (10 - n) 4
def encSB (ys : List (BitVec 4)) : List (BitVec 4) := (rOutB ([0#4, 0#4, 0#4] ++ ys) 8).take 3 ++ ys
theorem gen_tI : byL 3 = gen.map tI := by rw [byL_three]; rfl
theorem rIn_tI (l : List (BitVec 4)) (i k : Nat) : rIn (l.map tI) i k = (rInB l i k).map tI := by
  induction k with
  | zero => rfl
  | succ k ih => rw [rIn, ih, gen_tI, getD_map_tI, getD_map_tI, getD_map_tI, tI_mul, tI_xor, rInB, List.map_set]
theorem rOut_tI (l : List (BitVec 4)) (n : Nat) : rOut (l.map tI) n = (rOutB l n).map tI := by
  induction n with
  | zero => rfl
  | succ n ih => rw [rOut, ih, rIn_tI, rOutB]
theorem encS_tI (ys : List (BitVec 4)) : encS (ys.map tI) = (encSB ys).map tI := by
  rw [encS_eq, map_pad, rOut_tI, encSB, List.map_append, List.map_take]
theorem length_rInB (l : List (BitVec 4)) (i k : Nat) : (rInB l i k).length = l.length := by
  induction k with
  | zero => rfl
  | succ k ih => simp [rInB, ih]
theorem length_rOutB (l : List (BitVec 4)) (n : Nat) : (rOutB l n).length = l.length := by
  induction n with
  | zero => rfl
  | succ n ih => simp [rOutB, length_rInB, ih]
theorem xs2_set (l m : List (BitVec 4)) (i : Nat) (a b : BitVec 4) (_h : l.length = m.length) : xs2 (l.set i a) (m.set i b) = (xs2 l m).set i (a ^^^ b) := by
  apply List.ext_getElem?
  intro j
  unfold xs2
  rw [List.getElem?_zipWith, List.getElem?_set, List.getElem?_set, List.getElem?_set, List.getElem?_zipWith]
  by_cases hij : i = j
  · subst hij
    by_cases hi : i < l.length
    · have hm : i < m.length := by omega
      have hn : i < min l.length m.length := by omega
      simp [hi, hm, hn]
    · have hn : ¬ i < min l.length m.length := by omega
      simp [hi]; omega
  · simp [hij]
theorem rInB_add (l m : List (BitVec 4)) (h : l.length = m.length) (i k : Nat) : rInB (xs2 l m) i k = xs2 (rInB l i k) (rInB m i k) := by
  induction k with
  | zero => rfl
  | succ k ih =>
    have hl : (rInB l i k).length = (rInB m i k).length := by rw [length_rInB, length_rInB, h]
    rw [rInB, ih, xs2_at _ _ _ hl, xs2_at _ _ _ h, gmul_xor', xor_ac, ← xs2_set _ _ _ _ _ hl]
    rfl
theorem rOutB_add (l m : List (BitVec 4)) (h : l.length = m.length) (n : Nat) : rOutB (xs2 l m) n = xs2 (rOutB l n) (rOutB m n) := by
  induction n with
  | zero => rfl
  | succ n ih => rw [rOutB, ih, rInB_add _ _ (by rw [length_rOutB, length_rOutB, h])]; rfl
theorem xs2_append (a b c d : List (BitVec 4)) (h : a.length = c.length) : xs2 (a ++ b) (c ++ d) = xs2 a c ++ xs2 b d := by
  unfold xs2; exact List.zipWith_append h
theorem xs2_take (l m : List (BitVec 4)) (n : Nat) : (xs2 l m).take n = xs2 (l.take n) (m.take n) := by
  unfold xs2; rw [List.take_zipWith]
theorem encSB_add (ys zs : List (BitVec 4)) (h : ys.length = zs.length) : encSB (xs2 ys zs) = xs2 (encSB ys) (encSB zs) := by
  have hp : ([0#4, 0#4, 0#4] ++ ys).length = ([0#4, 0#4, 0#4] ++ zs).length := by simp [h]
  have hr : ∀ n, (rOutB ([0#4, 0#4, 0#4] ++ ys) n).length = (rOutB ([0#4, 0#4, 0#4] ++ zs) n).length := fun n => by rw [length_rOutB, length_rOutB, hp]
  rw [encSB, ← xs2_pad, rOutB_add _ _ hp, xs2_take, encSB, encSB, xs2_append _ _ _ _ (by rw [List.length_take, List.length_take, hr])]

/-- One symbol at place i, the others zero. -/
def one (i : Nat) (b : BitVec 4) : List (BitVec 4) := (List.replicate 8 0#4).set i b
theorem enc_one : ∀ i : Fin 8, ∀ b : Fin 16, encSB (one i.val (BitVec.ofFin b)) = encB (one i.val (BitVec.ofFin b)) := by decide +kernel
theorem split8 (a b c d e f g h : BitVec 4) : [a, b, c, d, e, f, g, h] = xs2 (one 0 a) (xs2 (one 1 b) (xs2 (one 2 c) (xs2 (one 3 d) (xs2 (one 4 e) (xs2 (one 5 f) (xs2 (one 6 g) (one 7 h))))))) := by
  simp [xs2, one, List.replicate]
/-- What is additive on words of eight symbols is known by its values at single symbols. -/
theorem additive_ext {α : Type} (F G : List (BitVec 4) → α) (op : α → α → α) (hF : ∀ ys zs, ys.length = zs.length → F (xs2 ys zs) = op (F ys) (F zs)) (hG : ∀ ys zs, ys.length = zs.length → G (xs2 ys zs) = op (G ys) (G zs))
    (h1 : ∀ i : Fin 8, ∀ b : Fin 16, F (one i.val (BitVec.ofFin b)) = G (one i.val (BitVec.ofFin b))) (ys : List (BitVec 4)) (h8 : ys.length = 8) : F ys = G ys := by
  match ys, h8 with
  | [a, b, c, d, e, f, g, h], _ =>
    have k : ∀ (i : Fin 8) (b : BitVec 4), F (one i.val b) = G (one i.val b) := fun i b => h1 i b.toFin
    have l : ∀ i b, (one i b).length = 8 := fun i b => by simp [one]
    have e7 := k 7 h
    have e6 := k 6 g
    have e5 := k 5 f
    have e4 := k 4 e
    have e3 := k 3 d
    have e2 := k 2 c
    have e1 := k 1 b
    have e0 := k 0 a
    have l7 := l 7 h
    have l6 : (xs2 (one 6 g) (one 7 h)).length = 8 := by rw [length_xs2 _ _ (by rw [l, l]), l]
    have l5 : (xs2 (one 5 f) (xs2 (one 6 g) (one 7 h))).length = 8 := by rw [length_xs2 _ _ (by rw [l, l6]), l]
    have l4 : (xs2 (one 4 e) (xs2 (one 5 f) (xs2 (one 6 g) (one 7 h)))).length = 8 := by rw [length_xs2 _ _ (by rw [l, l5]), l]
    have l3 : (xs2 (one 3 d) (xs2 (one 4 e) (xs2 (one 5 f) (xs2 (one 6 g) (one 7 h))))).length = 8 := by rw [length_xs2 _ _ (by rw [l, l4]), l]
    have l2 : (xs2 (one 2 c) (xs2 (one 3 d) (xs2 (one 4 e) (xs2 (one 5 f) (xs2 (one 6 g) (one 7 h)))))).length = 8 := by rw [length_xs2 _ _ (by rw [l, l3]), l]
    have l1 : (xs2 (one 1 b) (xs2 (one 2 c) (xs2 (one 3 d) (xs2 (one 4 e) (xs2 (one 5 f) (xs2 (one 6 g) (one 7 h))))))).length = 8 := by rw [length_xs2 _ _ (by rw [l, l2]), l]
    rw [split8]
    rw [hF _ _ (by rw [l, l1]), hG _ _ (by rw [l, l1]), hF _ _ (by rw [l, l2]), hG _ _ (by rw [l, l2]), hF _ _ (by rw [l, l3]), hG _ _ (by rw [l, l3]), hF _ _ (by rw [l, l4]), hG _ _ (by rw [l, l4]),
      hF _ _ (by rw [l, l5]), hG _ _ (by rw [l, l5]), hF _ _ (by rw [l, l6]), hG _ _ (by rw [l, l6]), hF _ _ (by rw [l, l7]), hG _ _ (by rw [l, l7])]
    change F (one 0 a) = G (one 0 a) at e0
    change F (one 1 b) = G (one 1 b) at e1
    change F (one 2 c) = G (one 2 c) at e2
    change F (one 3 d) = G (one 3 d) at e3
    change F (one 4 e) = G (one 4 e) at e4
    change F (one 5 f) = G (one 5 f) at e5
    change F (one 6 g) = G (one 6 g) at e6
    change F (one 7 h) = G (one 7 h) at e7
    rw [e0, e1, e2, e3, e4, e5, e6, e7]
theorem encSB_eq (ys : List (BitVec 4)) (h8 : ys.length = 8) : encSB ys = encB ys := additive_ext encSB encB xs2 encSB_add encB_add enc_one ys h8
/-- A list of elements is a list of four bits each. -/
theorem list_tI (xs : List Int) (h : xs.all (fun x => inB x 0 15) = true) : ∃ ys : List (BitVec 4), xs = ys.map tI := by
  induction xs with
  | nil => exact ⟨[], rfl⟩
  | cons x r ih =>
    simp only [List.all_cons, Bool.and_eq_true] at h
    obtain ⟨b, rfl⟩ := elem_tI h.1
    obtain ⟨ys, rfl⟩ := ih h.2
    exact ⟨b :: ys, rfl⟩
/-- Both ways to encode give the same codeword. -/
theorem encS_encI (xs : List Int) (h : xs.all (fun x => inB x 0 15) = true) (h8 : xs.length = 8) : encS xs = encI xs := by
  obtain ⟨ys, rfl⟩ := list_tI xs h
  rw [encS_tI, encI_tI, encSB_eq ys (by simpa using h8)]
end Go.Proofs.Ytnfkkkjookfdiaa
