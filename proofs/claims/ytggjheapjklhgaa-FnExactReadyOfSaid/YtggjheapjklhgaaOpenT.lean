/- Arguments that came in: structs of ints. -/
import Derived.Test.YtggjheapjklhgaaOpen
import Derived.Test.YtggjheapjklhgaaTimP
namespace Go.Proofs.Ytggjheapjklhgaa
open Go.ChangeShapes Go.WideShapes Go.ChangeAt Go.RowKit Go.Joins Go.Deep
section
variable {H : Type} {enc : TypeId × Value → H} {w : World} {base : Nat} {spare : Nat → Bool} {held : Bool}
set_option maxRecDepth 100000 in
theorem open_geo {r : Reach} {b0 : Nat} {v : Value} {d : DataW H} {p : List MemPlace} (hv : Value.okWide Try.prog w r b0 48 v) (h : DataW.Trod enc Try.prog w base spare held 48 v d p) : ∃ G : Geo, v = .agg #[.int .i64 G.a, .int .i64 G.b, .int .i64 G.r, .int .i64 G.c] := by
  obtain ⟨xs, rfl, hl, _⟩ := open_struct_ints Try.underlying48 (by kernel_rfl) (by kernel_rfl) hv h
  match xs, hl with
  | [a, b, r, c], _ => exact ⟨⟨a, b, r, c⟩, rfl⟩
set_option maxRecDepth 100000 in
theorem open_cmd {r : Reach} {b0 : Nat} {v : Value} {d : DataW H} {p : List MemPlace} (hv : Value.okWide Try.prog w r b0 50 v) (h : DataW.Trod enc Try.prog w base spare held 50 v d p) : ∃ C : Cmd, v = .agg #[.int .i64 C.k, .int .i64 C.b, .int .i64 C.r, .int .i64 C.c] := by
  obtain ⟨xs, rfl, hl, _⟩ := open_struct_ints Try.underlying50 (by kernel_rfl) (by kernel_rfl) hv h
  match xs, hl with
  | [a, b, r, c], _ => exact ⟨⟨a, b, r, c⟩, rfl⟩
set_option maxRecDepth 100000 in
theorem open_tim {r : Reach} {b0 : Nat} {v : Value} {d : DataW H} {p : List MemPlace} (hv : Value.okWide Try.prog w r b0 84 v) (h : DataW.Trod enc Try.prog w base spare held 84 v d p) : ∃ T : Tim, v = .agg #[.int .i64 T.t0, .int .i64 T.t1, .int .i64 T.t2, .int .i64 T.t3, .int .i64 T.t4, .int .i64 T.t5, .int .i64 T.t6, .int .i64 T.t7, .int .i64 T.t8, .int .i64 T.t9, .int .i64 T.t10, .int .i64 T.t11, .int .i64 T.t12, .int .i64 T.t13, .int .i64 T.t14, .int .i64 T.t15, .int .i64 T.t16] := by
  obtain ⟨xs, rfl, hl, _⟩ := open_struct_ints Try.underlying84 (by kernel_rfl) (by kernel_rfl) hv h
  match xs, hl with
  | [a0, a1, a2, a3, a4, a5, a6, a7, a8, a9, a10, a11, a12, a13, a14, a15, a16], _ => exact ⟨⟨a0, a1, a2, a3, a4, a5, a6, a7, a8, a9, a10, a11, a12, a13, a14, a15, a16⟩, rfl⟩
end
end Go.Proofs.Ytggjheapjklhgaa
