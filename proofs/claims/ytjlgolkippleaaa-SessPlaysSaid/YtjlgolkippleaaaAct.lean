/-
  Acts that came in.
-/
import Derived.Test.YtjlgolkippleaaaOpen
namespace Go.Proofs.Ytjlgolkippleaaa
open Go.ChangeShapes Go.WideShapes Go.Deep Go.RowKit

theorem cells3 : Try.prog.cellsOf 3 = 1 := by kernel_rfl
theorem cells5 : Try.prog.cellsOf 5 = 1 := by kernel_rfl
theorem cells27 : Try.prog.cellsOf 27 = 1 := by kernel_rfl
theorem cells47 : Try.prog.cellsOf 47 = 7 := by kernel_rfl
theorem cells65 : Try.prog.cellsOf 65 = 10 := by kernel_rfl

/-- an act's cells -/
def acells (k : Int) (lv : Value) (m : MS) (u : Value) (n : Int) : List Value := [.int .u8 k, lv, .int .i64 m.frm, .int .i64 m.to, .int .i64 m.kind, .int .i64 m.epoch, .int .i64 m.seq, .int .i64 m.ack, u, .int .i64 n]
section
variable {H : Type} {enc : TypeId × Value → H} {w : World} {base : Nat} {held : Bool}
set_option maxRecDepth 100000 in
theorem trod_act {fuel : Nat} {cs : List Value} {x : DataW H × List MemPlace} (h : DataW.trod enc Try.prog w base (fun _ => true) held fuel 65 cs = some x) :
    ∃ k lv l m u n, cs = acells k lv m u n ∧ 0 ≤ k ∧ k ≤ 255 ∧ Bts w.heap.size w lv l ∧ Bts w.heap.size w u m.load ∧ n ≤ 9223372036854775807 := by
  obtain ⟨xs, f, -, -, hlen, hxl, hg⟩ := DataW.trod_struct Try.underlying65 h
  rw [cells65] at hlen
  match cs, hlen with
  | [c0, c1, c2, c3, c4, c5, c6, c7, c8, c9], _ =>
    match xs, hxl with
    | [y0, y1, y2, y3], _ =>
      have t0 : DataW.trod enc Try.prog w base (fun _ => true) held f 5 ([c0, c1, c2, c3, c4, c5, c6, c7, c8, c9].take (Try.prog.cellsOf 5)) = some y0 := hg 0 _ rfl
      have t1 : DataW.trod enc Try.prog w base (fun _ => true) held f 27 ([c1, c2, c3, c4, c5, c6, c7, c8, c9].take (Try.prog.cellsOf 27)) = some y1 := hg 1 _ rfl
      have t2 : DataW.trod enc Try.prog w base (fun _ => true) held f 47 ([c2, c3, c4, c5, c6, c7, c8, c9].take (Try.prog.cellsOf 47)) = some y2 := hg 2 _ rfl
      have t3 : DataW.trod enc Try.prog w base (fun _ => true) held f 3 ([c9].take (Try.prog.cellsOf 3)) = some y3 := hg 3 _ rfl
      rw [cells5] at t0
      rw [cells27] at t1
      rw [cells47] at t2
      rw [cells3] at t3
      obtain ⟨k, e0, -, w0⟩ := DataW.trod_int Try.underlying5 t0
      obtain ⟨lv, l, e1, b1⟩ := trod_bytes t1
      obtain ⟨m, u, e2, b2⟩ := trod_msg t2
      obtain ⟨n, e3, -, w3⟩ := DataW.trod_int Try.underlying3 t3
      have hk := bounds_u8 w0
      simp [mcells] at e0 e1 e2 e3
      obtain ⟨a2, a3, a4, a5, a6, a7, a8⟩ := e2
      subst e0 e1 a2 a3 a4 a5 a6 a7 a8 e3
      exact ⟨k, _, l, m, _, n, rfl, hk.1, hk.2, b1, b2, (bounds_i64 w3).2⟩
end

section
variable {H : Type} {enc : TypeId × Value → H} {W : World} {r : Reach} {b0 : Nat}
set_option maxRecDepth 100000 in
theorem open_act {v : Value} {d : DataW H} {p : List MemPlace} (hv : Value.okWide Try.prog W r b0 65 v) (h : DataW.Trod enc Try.prog W 0 (fun _ => true) true 65 v d p) :
    ∃ (k : Int) (lv : Value) (l : List UInt8) (m : MS) (u : Value) (n : Int), v = .agg #[.int .u8 k, lv, .int .i64 m.frm, .int .i64 m.to, .int .i64 m.kind, .int .i64 m.epoch, .int .i64 m.seq, .int .i64 m.ack, u, .int .i64 n] ∧ Bts W.heap.size W lv l ∧ Bts W.heap.size W u m.load := by
  obtain ⟨cs, rfl, hsz⟩ := okWide_struct Try.underlying65 hv
  obtain ⟨fuel, hf⟩ := h
  obtain ⟨k, lv, l, m, u, n, e, -, -, b1, b2, -⟩ := trod_act hf
  refine ⟨k, lv, l, m, u, n, ?_, b1, b2⟩
  obtain ⟨c⟩ := cs
  have e' : c = acells k lv m u n := by simpa [Value.cells] using e
  rw [e']
  rfl
end
end Go.Proofs.Ytjlgolkippleaaa
