/-
  A script of acts that came in, three numbers that came in.
-/
import Derived.Test.YtjlgolkippleaaaAct
import Derived.SizedLaws
namespace Go.Proofs.Ytjlgolkippleaaa
open Go.ChangeShapes Go.WideShapes Go.Deep Go.RowKit

section
variable {H : Type} {enc : TypeId × Value → H} {w : World} {base : Nat} {held : Bool}
set_option maxRecDepth 100000 in
theorem trod_msg_seq {fuel : Nat} {cs : List Value} {x : DataW H × List MemPlace} (h : DataW.trod enc Try.prog w base (fun _ => true) held fuel 47 cs = some x) :
    ∃ s, cs[4]? = some (.int .i64 s) ∧ s ≤ 9223372036854775807 := by
  obtain ⟨-, hf⟩ := trod_fields Try.underlying47 (by kernel_rfl) (by kernel_rfl) h
  obtain ⟨v4, n4, y4, g4, t4⟩ := hf 4 _ rfl
  obtain ⟨k4, e4, -, w4⟩ := DataW.trod_int Try.underlying3 t4
  simp only [List.cons.injEq, and_true] at e4
  subst e4
  exact ⟨k4, g4, (bounds_i64 w4).2⟩
set_option maxRecDepth 100000 in
theorem trod_act_seq {fuel : Nat} {cs : List Value} {x : DataW H × List MemPlace} (h : DataW.trod enc Try.prog w base (fun _ => true) held fuel 65 cs = some x) :
    ∃ k lv l m u n, cs = acells k lv m u n ∧ 0 ≤ k ∧ k ≤ 255 ∧ Bts w.heap.size w lv l ∧ Bts w.heap.size w u m.load ∧ m.seq ≤ 9223372036854775807 := by
  obtain ⟨k, lv, l, m, u, n, e, h1, h2, h3, h4, -⟩ := trod_act h
  refine ⟨k, lv, l, m, u, n, e, h1, h2, h3, h4, ?_⟩
  obtain ⟨xs, f, -, -, hlen, hxl, hg⟩ := DataW.trod_struct Try.underlying65 h
  subst e
  match xs, hxl with
  | [y0, y1, y2, y3], _ =>
    have t2 : DataW.trod enc Try.prog w base (fun _ => true) held f 47 (([.int .i64 m.frm, .int .i64 m.to, .int .i64 m.kind, .int .i64 m.epoch, .int .i64 m.seq, .int .i64 m.ack, u, .int .i64 n] : List Value).take (Try.prog.cellsOf 47)) = some y2 := hg 2 _ rfl
    rw [cells47] at t2
    obtain ⟨s, hs, hb⟩ := trod_msg_seq t2
    simp at hs
    omega
end

/-- a script that came in -/
structure Acts (w : World) (ao : Option Addr) (len : Nat) : Prop where
  at_ : ∀ i, i < len → ∃ b off k lv l m u n, ao = some ⟨b, off, none⟩ ∧ (∀ j, j < 10 → w.cell? ⟨b, off + (i * 10 + j), none⟩ = (acells k lv m u n)[j]?) ∧ 0 ≤ k ∧ k ≤ 255 ∧ Bts w.heap.size w lv l ∧ Bts w.heap.size w u m.load ∧ m.seq ≤ 9223372036854775807
section
variable {H : Type} {enc : TypeId × Value → H} {W : World} {r : Reach} {b0 : Nat}
set_option maxRecDepth 100000 in
theorem open_acts {v : Value} {d : DataW H} {p : List MemPlace} (hv : Value.okWide Try.prog W r b0 59 v) (h : DataW.Trod enc Try.prog W 0 (fun _ => true) true 59 v d p) :
    ∃ ao len cap, v = .slice ao len cap ∧ Acts W ao len ∧ (len = 0 ∨ ∃ el sp, d = .slice el sp ∧ el.length = len) := by
  obtain ⟨a0, len, cap, rfl⟩ := okWide_slice Try.underlying59 hv
  obtain ⟨fuel, hf⟩ := h
  rcases open_slice Try.underlying59 (by simpa [Value.cells] using hf) with ⟨hcs, -⟩ | ⟨a, len', cap', m, n, D, Pl, hcs, -, hl, hmx, hm, hx, hi⟩
  · simp only [List.cons.injEq, Value.slice.injEq, and_true] at hcs
    obtain ⟨rfl, rfl, rfl⟩ := hcs
    exact ⟨_, _, _, rfl, ⟨fun i hi => absurd hi (Nat.not_lt_zero _)⟩, .inl rfl⟩
  · simp only [List.cons.injEq, Value.slice.injEq, and_true] at hcs
    obtain ⟨rfl, rfl, rfl⟩ := hcs
    simp only [if_true] at hm
    simp only [Prod.mk.injEq] at hx
    refine ⟨_, _, _, rfl, ⟨fun i hlt => ?_⟩, .inr ⟨_, _, hx.1, by simp⟩⟩
    obtain ⟨cs', hc, ht'⟩ := hi i (by omega)
    rw [cells65] at hc
    obtain ⟨k, lv, l, mm, u, nn, rfl, h1, h2, h3, h4, h5⟩ := trod_act_seq ht'
    obtain ⟨_, _, hat⟩ := World.cells?_some hc
    have hs : a.spot = none := by
      obtain ⟨cs0, hc0, ht0⟩ := hi 0 (by omega)
      rw [cells65] at hc0
      obtain ⟨_, _, _, _, _, _, rfl, -⟩ := trod_act_seq ht0
      obtain ⟨_, _, hat0⟩ := World.cells?_some hc0
      have := hat0 0 (by omega)
      have e0 : ∀ x : Addr, x.add 0 = x := fun _ => rfl
      rw [Nat.zero_mul, e0, e0] at this
      exact spot_none (a := a) (this.trans rfl)
    refine ⟨a.block, a.off, k, lv, l, mm, u, nn, by cases a; simp at hs; simp [hs], fun j hj => ?_, h1, h2, h3, h4, h5⟩
    have := hat j hj
    rw [Go.Deep.add_add, addr_add _ _ hs] at this
    exact this
end
end Go.Proofs.Ytjlgolkippleaaa
