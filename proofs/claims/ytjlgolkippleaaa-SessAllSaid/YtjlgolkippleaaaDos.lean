/-
  A script of deeds that came in.
-/
import Derived.Test.YtjlgolkippleaaaOpen
namespace Go.Proofs.Ytjlgolkippleaaa
open Go.ChangeShapes Go.WideShapes Go.Deep Go.RowKit

theorem dcells3 : Try.prog.cellsOf 3 = 1 := by kernel_rfl
theorem dcells5 : Try.prog.cellsOf 5 = 1 := by kernel_rfl
theorem dcells27 : Try.prog.cellsOf 27 = 1 := by kernel_rfl
theorem dcells29 : Try.prog.cellsOf 29 = 6 := by kernel_rfl
/-- a deed's cells -/
def dcells (kk side ix at_ by_ : Int) (lv : Value) : List Value := [.int .u8 kk, .int .i64 side, .int .i64 ix, .int .i64 at_, .int .u8 by_, lv]
section
variable {H : Type} {enc : TypeId × Value → H} {w : World} {base : Nat} {held : Bool}
set_option maxRecDepth 100000 in
theorem trod_do {fuel : Nat} {cs : List Value} {x : DataW H × List MemPlace} (h : DataW.trod enc Try.prog w base (fun _ => true) held fuel 29 cs = some x) :
    ∃ kk side ix at_ by_ lv l, cs = dcells kk side ix at_ by_ lv ∧ (0 ≤ kk ∧ kk ≤ 255) ∧ (0 ≤ by_ ∧ by_ ≤ 255) ∧ Bts w.heap.size w lv l := by
  obtain ⟨xs, f, -, -, hlen, hxl, hg⟩ := DataW.trod_struct Try.underlying29 h
  rw [dcells29] at hlen
  match cs, hlen with
  | [c0, c1, c2, c3, c4, c5], _ =>
    match xs, hxl with
    | [y0, y1, y2, y3, y4, y5], _ =>
      have t0 : DataW.trod enc Try.prog w base (fun _ => true) held f 5 ([c0, c1, c2, c3, c4, c5].take (Try.prog.cellsOf 5)) = some y0 := hg 0 _ rfl
      have t1 : DataW.trod enc Try.prog w base (fun _ => true) held f 3 ([c1, c2, c3, c4, c5].take (Try.prog.cellsOf 3)) = some y1 := hg 1 _ rfl
      have t2 : DataW.trod enc Try.prog w base (fun _ => true) held f 3 ([c2, c3, c4, c5].take (Try.prog.cellsOf 3)) = some y2 := hg 2 _ rfl
      have t3 : DataW.trod enc Try.prog w base (fun _ => true) held f 3 ([c3, c4, c5].take (Try.prog.cellsOf 3)) = some y3 := hg 3 _ rfl
      have t4 : DataW.trod enc Try.prog w base (fun _ => true) held f 5 ([c4, c5].take (Try.prog.cellsOf 5)) = some y4 := hg 4 _ rfl
      have t5 : DataW.trod enc Try.prog w base (fun _ => true) held f 27 ([c5].take (Try.prog.cellsOf 27)) = some y5 := hg 5 _ rfl
      rw [dcells5] at t0 t4
      rw [dcells3] at t1 t2 t3
      rw [dcells27] at t5
      obtain ⟨k0, e0, -, w0⟩ := DataW.trod_int Try.underlying5 t0
      obtain ⟨k1, e1, -, w1⟩ := DataW.trod_int Try.underlying3 t1
      obtain ⟨k2, e2, -, w2⟩ := DataW.trod_int Try.underlying3 t2
      obtain ⟨k3, e3, -, w3⟩ := DataW.trod_int Try.underlying3 t3
      obtain ⟨k4, e4, -, w4⟩ := DataW.trod_int Try.underlying5 t4
      obtain ⟨lv, l, e5, b5⟩ := trod_bytes t5
      simp at e0 e1 e2 e3 e4 e5
      subst e0 e1 e2 e3 e4 e5
      exact ⟨k0, k1, k2, k3, k4, _, l, rfl, bounds_u8 w0, bounds_u8 w4, b5⟩
end

/-- a script that came in -/
structure Dos (w : World) (ao : Option Addr) (len : Nat) : Prop where
  at_ : ∀ i, i < len → ∃ b off kk side ix at_ by_ lv l, ao = some ⟨b, off, none⟩ ∧ (∀ j, j < 6 → w.cell? ⟨b, off + (i * 6 + j), none⟩ = (dcells kk side ix at_ by_ lv)[j]?) ∧ (0 ≤ kk ∧ kk ≤ 255) ∧ (0 ≤ by_ ∧ by_ ≤ 255) ∧ Bts w.heap.size w lv l
section
variable {H : Type} {enc : TypeId × Value → H} {W : World} {r : Reach} {b0 : Nat}
set_option maxRecDepth 100000 in
theorem open_dos {v : Value} {d : DataW H} {p : List MemPlace} (hv : Value.okWide Try.prog W r b0 22 v) (h : DataW.Trod enc Try.prog W 0 (fun _ => true) true 22 v d p) :
    ∃ ao len cap, v = .slice ao len cap ∧ len ≤ cap ∧ Dos W ao len := by
  obtain ⟨a0, len, cap, rfl⟩ := okWide_slice Try.underlying22 hv
  obtain ⟨fuel, hf⟩ := h
  rcases open_slice Try.underlying22 (by simpa [Value.cells] using hf) with ⟨hcs, -⟩ | ⟨a, len', cap', m, n, D, Pl, hcs, -, hl, hmx, hm, hx, hi⟩
  · simp only [List.cons.injEq, Value.slice.injEq, and_true] at hcs
    obtain ⟨rfl, rfl, rfl⟩ := hcs
    exact ⟨_, _, _, rfl, Nat.le_refl _, ⟨fun i hi => absurd hi (Nat.not_lt_zero _)⟩⟩
  · simp only [List.cons.injEq, Value.slice.injEq, and_true] at hcs
    obtain ⟨rfl, rfl, rfl⟩ := hcs
    simp only [if_true] at hm
    refine ⟨_, _, _, rfl, hl, ⟨fun i hlt => ?_⟩⟩
    obtain ⟨cs', hc, ht'⟩ := hi i (by omega)
    rw [dcells29] at hc
    obtain ⟨kk, side, ix, at_, by_, lv, l, rfl, h1, h2, h3⟩ := trod_do ht'
    obtain ⟨_, _, hat⟩ := World.cells?_some hc
    have hs : a.spot = none := by
      obtain ⟨cs0, hc0, ht0⟩ := hi 0 (by omega)
      rw [dcells29] at hc0
      obtain ⟨_, _, _, _, _, _, _, rfl, -⟩ := trod_do ht0
      obtain ⟨_, _, hat0⟩ := World.cells?_some hc0
      have := hat0 0 (by omega)
      have e0 : ∀ x : Addr, x.add 0 = x := fun _ => rfl
      rw [Nat.zero_mul, e0, e0] at this
      exact spot_none (a := a) (this.trans rfl)
    refine ⟨a.block, a.off, kk, side, ix, at_, by_, lv, l, by cases a; simp at hs; simp [hs], fun j hj => ?_, h1, h2, h3⟩
    have := hat j hj
    rw [Go.Deep.add_add, addr_add _ _ hs] at this
    exact this
end
end Go.Proofs.Ytjlgolkippleaaa
