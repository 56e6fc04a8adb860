/-
  A script of acts that came in: what its cells hold.
-/
import Derived.Test.YtompkoihmjenjaaAll
import Derived.Test.YtompkoihmjenjaaPost
import Derived.Deep.Slices
import Derived.Deep.Fields
import Derived.ChangeSame
namespace Go.Proofs.Ytompkoihmjenjaa
open Go.ChangeShapes Go.WideShapes Go.Deep Go.RowKit

section
variable {H : Type} {enc : TypeId × Value → H} {P : Program} {w : World} {base : Nat} {spare : Nat → Bool} {held : Bool}
theorem open_slice_fields {t e : TypeId} {fs : Array Field} {fuel : Nat} {cs : List Value} {x : DataW H × List MemPlace} (ht : P.underlying t = some (.slice e)) (he : P.underlying e = some (.struct fs))
    (hone : oneCellFields P fs = true) (hC : P.cellsOf e = fs.size) (h : DataW.trod enc P w base spare held fuel t cs = some x) :
    (cs = [.slice none 0 0] ∧ x = (.nil, [])) ∨
    ∃ (a : Addr) (len cap m : Nat) (D : Nat → DataW H) (Pl : Nat → List MemPlace), cs = [.slice (some a) len cap] ∧ base ≤ a.block ∧ len ≤ cap ∧ cap ≤ maxLen ∧ m = (if spare a.block then cap else len) ∧
      x = (.slice ((List.range len).map D) ((List.range (m - len)).map fun j => D (len + j)), MemPlace.row a (m * fs.size) ++ (List.range m).flatMap Pl) ∧
      ∀ i, i < m → ∃ (ys : List (DataW H × List MemPlace)) (n : Nat), D i = .agg (ys.map (·.1)) ∧ Pl i = ys.flatMap (·.2) ∧ ys.length = fs.size ∧
        ∀ (j : Nat) (f : Field), fs[j]? = some f → ∃ (v : Value) (y : DataW H × List MemPlace), w.cell? (a.add (i * fs.size + j)) = some v ∧ ys[j]? = some y ∧ DataW.trod enc P w base spare held n f.type [v] = some y := by
  rcases open_slice ht h with h0 | ⟨a, len, cap, m, n, D, Pl, hcs, hb, hl, hm, hmm, hx, hi⟩
  · exact .inl h0
  · refine .inr ⟨a, len, cap, m, D, Pl, hcs, hb, hl, hm, hmm, by rw [hC] at hx; exact hx, fun i him => ?_⟩
    obtain ⟨cs', hc, ht'⟩ := hi i him
    rw [hC] at hc
    obtain ⟨ys, n', hn', hy, hlen, hyl, hf⟩ := DataW.trod_struct he ht'
    obtain ⟨_, hcl, hat⟩ := World.cells?_some hc
    simp only [Prod.mk.injEq] at hy
    refine ⟨ys, n', hy.1, hy.2, hyl, fun j f hj => ?_⟩
    obtain ⟨ho, hk⟩ := hone_of hone j f hj
    have hjl : j < fs.size := (Array.getElem?_eq_some_iff.1 hj).1
    have hcell := hat j hjl
    have hv : cs'[j]? = some (cs'[j]'(by omega)) := List.getElem?_eq_getElem (by omega)
    have h1 := hf j f hj
    rw [ho, hk] at h1
    have hone' : (cs'.drop j).take 1 = [cs'[j]'(by omega)] := by
      rw [List.drop_eq_getElem_cons (by omega)]
      rfl
    rw [hone'] at h1
    have hys : ys[j]? = some (ys[j]'(by omega)) := List.getElem?_eq_getElem (by omega)
    refine ⟨_, _, ?_, hys, h1.trans hys⟩
    rw [← Go.Deep.add_add, hcell, hv]
end

theorem cells36 : Try.prog.cellsOf 36 = 3 := by kernel_rfl
/-- the number in a cell -/
def numAt (w : World) (a : Addr) : Int := intOf ((w.cell? a).getD undef)
theorem addr_add (a : Addr) (n : Nat) (h : a.spot = none) : a.add n = ⟨a.block, a.off + n, none⟩ := by
  unfold Addr.add
  split
  · subst n; cases a; simp at h; simp [h]
  · rfl
theorem spot_none {w : World} {a : Addr} {v : Value} (h : w.cell? a = some v) : a.spot = none := by
  unfold World.cell? at h
  cases hs : a.spot with
  | none => rfl
  | some x => rw [hs] at h; split at h <;> simp at h

theorem open_script {H : Type} {enc : TypeId × Value → H} {W : World} {r : Reach} {b0 : Nat} {v : Value} {d : DataW H} {p : List MemPlace}
    (hv : Value.okWide Try.prog W r b0 33 v) (h : DataW.Trod enc Try.prog W 0 (fun _ => true) true 33 v d p) :
    ∃ (ao : Option Addr) (len cap : Nat) (K F N : Nat → Int), v = .slice ao len cap ∧ Script W ao len K F N := by
  obtain ⟨a0, len, cap, rfl⟩ := okWide_slice Try.underlying33 hv
  obtain ⟨fuel, hf⟩ := h
  rcases open_slice_fields Try.underlying33 Try.underlying36 (by kernel_rfl) (by kernel_rfl) (by simpa [Value.cells] using hf) with ⟨hcs, _⟩ | ⟨a, len', cap', m, D, Pl, hcs, _, hl, hm, hmm, _, hi⟩
  · simp only [List.cons.injEq, Value.slice.injEq, and_true] at hcs
    obtain ⟨rfl, rfl, rfl⟩ := hcs
    exact ⟨_, _, _, fun _ => 0, fun _ => 0, fun _ => 0, rfl, by omega, fun i hi => absurd hi (Nat.not_lt_zero _)⟩
  · simp only [List.cons.injEq, Value.slice.injEq, and_true] at hcs
    obtain ⟨rfl, rfl, rfl⟩ := hcs
    unfold maxLen at hm
    simp only [if_true] at hmm
    refine ⟨_, _, _, fun i => numAt W ⟨a.block, a.off + i * 3, none⟩, fun i => numAt W ⟨a.block, a.off + i * 3 + 1, none⟩, fun i => numAt W ⟨a.block, a.off + i * 3 + 2, none⟩, rfl, by omega, fun i hlt => ?_⟩
    obtain ⟨ys, n, _, _, _, hfld⟩ := hi i (by omega)
    obtain ⟨u0, y0, c0, _, t0⟩ := hfld 0 _ rfl
    obtain ⟨u1, y1, c1, _, t1⟩ := hfld 1 _ rfl
    obtain ⟨u2, y2, c2, _, t2⟩ := hfld 2 _ rfl
    obtain ⟨k, e0, _, w0⟩ := DataW.trod_int Try.underlying5 t0
    obtain ⟨f, e1, _, w1⟩ := DataW.trod_int Try.underlying3 t1
    obtain ⟨g, e2, _, w2⟩ := DataW.trod_int Try.underlying3 t2
    simp only [List.cons.injEq, and_true] at e0 e1 e2
    subst e0 e1 e2
    have hs : a.spot = none := by
      obtain ⟨ys', n', _, _, _, hfld'⟩ := hi 0 (by omega)
      obtain ⟨u, y, c, _, _⟩ := hfld' 0 _ rfl
      have c' : W.cell? (a.add 0) = some u := by simpa using c
      have : a.add 0 = a := rfl
      rw [this] at c'; exact spot_none c'
    rw [addr_add _ _ hs] at c0 c1 c2
    simp only [List.size_toArray, List.length_cons, List.length_nil, Nat.add_zero, Nat.zero_add, Nat.reduceAdd] at c0 c1 c2
    have b0 := bounds_u8 w0
    have b1 := bounds_i64 w1
    have b2 := bounds_i64 w2
    have ea : a = ⟨a.block, a.off, none⟩ := by cases a; simp at hs; simp [hs]
    refine ⟨a.block, a.off, by rw [← ea], ?_, ?_, ?_, ?_⟩
    · simp only [numAt]; rw [c0]; rfl
    · simp only [numAt]; rw [show a.off + i * 3 + 1 = a.off + (i * 3 + 1) by omega, c1]; rfl
    · simp only [numAt]; rw [show a.off + i * 3 + 2 = a.off + (i * 3 + 2) by omega, c2]; rfl
    · simp only [numAt]
      rw [show a.off + i * 3 + 1 = a.off + (i * 3 + 1) by omega, show a.off + i * 3 + 2 = a.off + (i * 3 + 2) by omega, c0, c1, c2]
      simp only [Option.getD_some, intOf]
      omega
end Go.Proofs.Ytompkoihmjenjaa
