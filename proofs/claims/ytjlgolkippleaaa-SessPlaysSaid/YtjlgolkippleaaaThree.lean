/-
  Three numbers that came in, as an array.
-/
import Derived.Test.YtjlgolkippleaaaScript
import Derived.Laws.IdiomArrays
namespace Go.Proofs.Ytjlgolkippleaaa
open Go.ChangeShapes Go.WideShapes Go.Deep Go.RowKit

theorem okWide_array {P : Program} {w : World} {r : Reach} {base : Nat} {t : TypeId} {v : Value} {n : Nat} {e : TypeId} (ht : P.underlying t = some (.array n e)) (h : Value.okWide P w r base t v) : ∃ cs, v = .agg cs ∧ cs.size = P.cellsOf t := by
  simp only [Value.okWide, ht] at h
  obtain ⟨cs, h1, h2, _⟩ := h
  exact ⟨cs, h1, h2⟩
section
variable {H : Type} {enc : TypeId × Value → H} {W : World} {r : Reach} {b0 : Nat}
set_option maxRecDepth 100000 in
theorem open_three {v : Value} {d : DataW H} {p : List MemPlace} (hv : Value.okWide Try.prog W r b0 58 v) (h : DataW.Trod enc Try.prog W 0 (fun _ => true) true 58 v d p) :
    ∃ a b c, v = .agg #[.int .i64 a, .int .i64 b, .int .i64 c] := by
  obtain ⟨cs, rfl, hsz⟩ := okWide_array Try.underlying58 hv
  have hsz' : cs.size = 3 := hsz.trans (by kernel_rfl)
  obtain ⟨l⟩ := cs
  match l, hsz' with
  | [c0, c1, c2], _ =>
    obtain ⟨fuel, hf⟩ := h
    obtain ⟨y0, y1, y2, n, -, t0, t1, t2⟩ := trod_array3 Try.underlying58 (by kernel_rfl) hf
    obtain ⟨k0, e0, -, -⟩ := DataW.trod_int Try.underlying3 t0
    obtain ⟨k1, e1, -, -⟩ := DataW.trod_int Try.underlying3 t1
    obtain ⟨k2, e2, -, -⟩ := DataW.trod_int Try.underlying3 t2
    simp only [List.cons.injEq, and_true] at e0 e1 e2
    exact ⟨k0, k1, k2, by rw [e0, e1, e2]⟩
end
end Go.Proofs.Ytjlgolkippleaaa
