/-
  Arguments that came in: bytes, rows of bytes, messages.
-/
import Derived.Test.YtjlgolkippleaaaStep
import Derived.Test.YtjlgolkippleaaaPost
import Derived.Deep.Slices
import Derived.Deep.Fields
import Derived.ChangeSame
namespace Go.Proofs.Ytjlgolkippleaaa
open Go.ChangeShapes Go.WideShapes Go.Deep Go.RowKit

theorem addr_add (a : Addr) (n : Nat) (h : a.spot = none) : a.add n = ⟨a.block, a.off + n, none⟩ := by
  unfold Addr.add
  split
  · subst n; cases a; simp at h; simp [h]
  · rfl
theorem spot_none {w : World} {a : Addr} {v : Value} (h : w.cell? a = some v) : a.spot = none := by
  unfold World.cell? at h
  cases hs : a.spot with
  | none => rfl
  | some x => rw [hs] at h; split at h <;> simp at h

section
variable {H : Type} {enc : TypeId × Value → H} {w : World} {base : Nat} {held : Bool}
theorem trod_bytes {fuel : Nat} {cs : List Value} {x : DataW H × List MemPlace} (h : DataW.trod enc Try.prog w base (fun _ => true) held fuel 27 cs = some x) :
    ∃ v xs, cs = [v] ∧ Bts w.heap.size w v xs := by
  rcases open_slice1 Try.underlying27 (by kernel_rfl) h with ⟨rfl, -⟩ | ⟨a, len, cap, m, n, V, D, Pl, rfl, -, hl, -, hm, -, hi⟩
  · exact ⟨_, [], rfl, Bts.nil _ _⟩
  · simp only [if_true] at hm
    have hV : ∀ i, i < len → ∃ y : UInt8, V i = .int .u8 (y.toNat : Int) := by
      intro i hlt
      obtain ⟨_, ht⟩ := hi i (by omega)
      obtain ⟨k, e, -, hw⟩ := DataW.trod_int Try.underlying5 ht
      simp only [List.cons.injEq, and_true] at e
      have hb := bounds_u8 hw
      refine ⟨UInt8.ofNat k.toNat, ?_⟩
      rw [e, UInt8.toNat_ofNat']
      congr 1
      omega
    obtain ⟨Y, hY⟩ := choose_lt (α := UInt8) (p := fun i y => V i = .int .u8 (y.toNat : Int)) hV
    refine ⟨_, (List.range len).map Y, rfl, some a, cap, by simp, fun hp => ?_⟩
    simp at hp
    have hs : a.spot = none := by
      have := (hi 0 (by omega)).1
      exact spot_none (a := a.add 0) this
    refine ⟨a.block, a.off, by cases a; simp at hs; simp [hs], .inl ?_, fun j hj => ?_⟩
    · have := cell_lt (hi 0 (by omega)).1
      rw [addr_add _ _ hs] at this
      exact this
    · have hj' : j < len := by simpa using hj
      have := (hi j (by omega)).1
      rw [addr_add _ _ hs, hY j hj'] at this
      rw [this]
      simp

/-- a row of rows of bytes that came in -/
structure Loads (w : World) (ao : Option Addr) (len : Nat) (xs : List (List UInt8)) : Prop where
  hlen : xs.length = len
  at_ : 0 < len → ∃ b off, ao = some ⟨b, off, none⟩ ∧ ∀ i (h : i < xs.length), ∃ u, w.cell? ⟨b, off + i, none⟩ = some u ∧ Bts w.heap.size w u xs[i]
theorem trod_fields {t : TypeId} {fs : Array Field} {fuel : Nat} {cs : List Value} {x : DataW H × List MemPlace} (he : Try.prog.underlying t = some (.struct fs))
    (hone : oneCellFields Try.prog fs = true) (hC : Try.prog.cellsOf t = fs.size) (h : DataW.trod enc Try.prog w base (fun _ => true) held fuel t cs = some x) :
    cs.length = fs.size ∧ ∀ (j : Nat) (f : Field), fs[j]? = some f → ∃ (v : Value) (n : Nat) (y : DataW H × List MemPlace), cs[j]? = some v ∧ DataW.trod enc Try.prog w base (fun _ => true) held n f.type [v] = some y := by
  obtain ⟨ys, n', -, -, hlen, hyl, hf⟩ := DataW.trod_struct he h
  rw [hC] at hlen
  refine ⟨hlen, fun j f hj => ?_⟩
  obtain ⟨ho, hk⟩ := hone_of hone j f hj
  have hjl : j < fs.size := (Array.getElem?_eq_some_iff.1 hj).1
  have hv : cs[j]? = some (cs[j]'(by omega)) := List.getElem?_eq_getElem (by omega)
  have h1 := hf j f hj
  rw [ho, hk] at h1
  have hone' : (cs.drop j).take 1 = [cs[j]'(by omega)] := by
    rw [List.drop_eq_getElem_cons (by omega)]
    rfl
  rw [hone'] at h1
  exact ⟨_, n', ys[j]'(by omega), hv, h1.trans (List.getElem?_eq_getElem (by omega))⟩

theorem trod_msg {fuel : Nat} {cs : List Value} {x : DataW H × List MemPlace} (h : DataW.trod enc Try.prog w base (fun _ => true) held fuel 47 cs = some x) :
    ∃ m u, cs = mcells m u ∧ Bts w.heap.size w u m.load := by
  obtain ⟨hlen, hf⟩ := trod_fields Try.underlying47 (by kernel_rfl) (by kernel_rfl) h
  have h7 : cs.length = 7 := hlen
  obtain ⟨v0, n0, y0, g0, t0⟩ := hf 0 _ rfl
  obtain ⟨v1, n1, y1, g1, t1⟩ := hf 1 _ rfl
  obtain ⟨v2, n2, y2, g2, t2⟩ := hf 2 _ rfl
  obtain ⟨v3, n3, y3, g3, t3⟩ := hf 3 _ rfl
  obtain ⟨v4, n4, y4, g4, t4⟩ := hf 4 _ rfl
  obtain ⟨v5, n5, y5, g5, t5⟩ := hf 5 _ rfl
  obtain ⟨v6, n6, y6, g6, t6⟩ := hf 6 _ rfl
  obtain ⟨k0, e0, -⟩ := DataW.trod_int Try.underlying3 t0
  obtain ⟨k1, e1, -⟩ := DataW.trod_int Try.underlying3 t1
  obtain ⟨k2, e2, -⟩ := DataW.trod_int Try.underlying3 t2
  obtain ⟨k3, e3, -⟩ := DataW.trod_int Try.underlying3 t3
  obtain ⟨k4, e4, -⟩ := DataW.trod_int Try.underlying3 t4
  obtain ⟨k5, e5, -⟩ := DataW.trod_int Try.underlying3 t5
  obtain ⟨u, l, e6, hb⟩ := trod_bytes t6
  simp only [List.cons.injEq, and_true] at e0 e1 e2 e3 e4 e5 e6
  subst e0 e1 e2 e3 e4 e5 e6
  refine ⟨⟨k0, k1, k2, k3, k4, k5, l⟩, _, ?_, hb⟩
  match cs, h7 with
  | [c0, c1, c2, c3, c4, c5, c6], _ =>
    simp at g0 g1 g2 g3 g4 g5 g6
    subst g0 g1 g2 g3 g4 g5 g6
    rfl
end

section
variable {H : Type} {enc : TypeId × Value → H} {W : World} {r : Reach} {b0 : Nat}
set_option maxRecDepth 100000 in
theorem open_loads {v : Value} {d : DataW H} {p : List MemPlace} (hv : Value.okWide Try.prog W r b0 37 v) (h : DataW.Trod enc Try.prog W 0 (fun _ => true) true 37 v d p) :
    ∃ ao len cap xs, v = .slice ao len cap ∧ len ≤ cap ∧ cap ≤ maxLen ∧ Loads W ao len xs := by
  obtain ⟨a0, len, cap, rfl⟩ := okWide_slice Try.underlying37 hv
  obtain ⟨fuel, hf⟩ := h
  rcases open_slice1 Try.underlying37 (by kernel_rfl) (by simpa [Value.cells] using hf) with ⟨hcs, -⟩ | ⟨a, len', cap', m, n, V, D, Pl, hcs, -, hl, hmx, hm, -, hi⟩
  · simp only [List.cons.injEq, Value.slice.injEq, and_true] at hcs
    obtain ⟨rfl, rfl, rfl⟩ := hcs
    exact ⟨_, _, _, [], rfl, Nat.le_refl _, by simp [maxLen], rfl, fun h => absurd h (Nat.lt_irrefl _)⟩
  · simp only [List.cons.injEq, Value.slice.injEq, and_true] at hcs
    obtain ⟨rfl, rfl, rfl⟩ := hcs
    simp only [if_true] at hm
    have hX : ∀ i, i < len → ∃ l, Bts W.heap.size W (V i) l := by
      intro i hlt
      obtain ⟨_, ht⟩ := hi i (by omega)
      obtain ⟨u, l, e, hb⟩ := trod_bytes ht
      simp only [List.cons.injEq, and_true] at e
      exact ⟨l, by rw [e]; exact hb⟩
    obtain ⟨X, hX⟩ := choose_lt (α := List UInt8) (p := fun i l => Bts W.heap.size W (V i) l) hX
    refine ⟨_, _, _, (List.range len).map X, rfl, hl, hmx, by simp, fun hp => ?_⟩
    have hs : a.spot = none := by
      have := (hi 0 (by omega)).1
      exact spot_none (a := a.add 0) this
    refine ⟨a.block, a.off, by cases a; simp at hs; simp [hs], fun i hlt => ?_⟩
    simp at hlt
    have := (hi i (by omega)).1
    rw [addr_add _ _ hs] at this
    exact ⟨_, this, by simpa using hX i hlt⟩
set_option maxRecDepth 100000 in
theorem open_msg {v : Value} {d : DataW H} {p : List MemPlace} (hv : Value.okWide Try.prog W r b0 47 v) (h : DataW.Trod enc Try.prog W 0 (fun _ => true) true 47 v d p) :
    ∃ m u, v = mV m u ∧ Bts W.heap.size W u m.load := by
  obtain ⟨cs, rfl, hsz⟩ := okWide_struct Try.underlying47 hv
  obtain ⟨fuel, hf⟩ := h
  obtain ⟨m, u, e, hb⟩ := trod_msg hf
  refine ⟨m, u, ?_, hb⟩
  obtain ⟨l⟩ := cs
  have e' : l = mcells m u := by simpa [Value.cells] using e
  rw [e']
  rfl
end

end Go.Proofs.Ytjlgolkippleaaa
