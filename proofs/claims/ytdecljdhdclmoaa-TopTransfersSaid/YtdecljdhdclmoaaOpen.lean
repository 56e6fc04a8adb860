/-
  Arguments that came in: bytes, losses.
-/
import Derived.Test.YtdecljdhdclmoaaTop
import Derived.Test.YtdecljdhdclmoaaPost
import Derived.Deep.Slices
import Derived.Deep.Fields
import Derived.ChangeSame
namespace Go.Proofs.Ytdecljdhdclmoaa
open Go.ChangeShapes Go.WideShapes Go.Deep Go.RowKit

theorem addr_add (a : Addr) (n : Nat) (h : a.spot = none) : a.add n = ⟨a.block, a.off + n, none⟩ := by
  unfold Addr.add
  split
  · subst n; cases a; simp at h; simp [h]
  · rfl
theorem spot_none {w : World} {a : Addr} {v : Value} (h : w.cell? a = some v) : a.spot = none := by
  unfold World.cell? at h
  cases hs : a.spot with
  | none => rfl
  | some x => rw [hs] at h; split at h <;> simp at h

section
variable {H : Type} {enc : TypeId × Value → H} {w : World} {base : Nat} {held : Bool}
theorem int_byte {t : TypeId} {fuel : Nat} {v : Value} {x : DataW H × List MemPlace} (ht : Try.prog.underlying t = some (.int .u8)) (h : DataW.trod enc Try.prog w base (fun _ => true) held fuel t [v] = some x) : ∃ y : UInt8, v = .int .u8 (y.toNat : Int) := by
  obtain ⟨k, e, -, hw⟩ := DataW.trod_int ht h
  simp only [List.cons.injEq, and_true] at e
  have hb := bounds_u8 hw
  refine ⟨UInt8.ofNat k.toNat, ?_⟩
  rw [e, UInt8.toNat_ofNat']
  congr 1
  omega
theorem trod_bytes {fuel : Nat} {cs : List Value} {x : DataW H × List MemPlace} (h : DataW.trod enc Try.prog w base (fun _ => true) held fuel 22 cs = some x) :
    ∃ ao len cap xs, cs = [.slice ao len cap] ∧ len ≤ cap ∧ xs.length = len ∧ Bts w.heap.size w (.slice ao len cap) xs := by
  rcases open_slice1 Try.underlying22 (by kernel_rfl) h with ⟨rfl, -⟩ | ⟨a, len, cap, m, n, V, D, Pl, rfl, -, hl, -, hm, -, hi⟩
  · exact ⟨_, _, _, [], rfl, Nat.le_refl _, rfl, Bts.nil _ _⟩
  · simp only [if_true] at hm
    have hV : ∀ i, i < len → ∃ y : UInt8, V i = .int .u8 (y.toNat : Int) := fun i hlt => int_byte Try.underlying5 (hi i (by omega)).2
    obtain ⟨Y, hY⟩ := choose_lt (α := UInt8) (p := fun i y => V i = .int .u8 (y.toNat : Int)) hV
    refine ⟨some a, len, cap, (List.range len).map Y, rfl, hl, by simp, some a, cap, by simp, fun hp => ?_⟩
    simp at hp
    have hs : a.spot = none := by
      have := (hi 0 (by omega)).1
      exact spot_none (a := a.add 0) this
    refine ⟨a.block, a.off, by cases a; simp at hs; simp [hs], .inl ?_, fun j hj => ?_⟩
    · have := cell_lt (hi 0 (by omega)).1
      rw [addr_add _ _ hs] at this
      exact this
    · have hj' : j < len := by simpa using hj
      have := (hi j (by omega)).1
      rw [addr_add _ _ hs, hY j hj'] at this
      rw [this]
      simp
theorem trod_bools {fuel : Nat} {cs : List Value} {x : DataW H × List MemPlace} (h : DataW.trod enc Try.prog w base (fun _ => true) held fuel 39 cs = some x) :
    ∃ v ks, cs = [v] ∧ BoolsAt w.heap.size w v ks := by
  rcases open_slice1 Try.underlying39 (by kernel_rfl) h with ⟨rfl, -⟩ | ⟨a, len, cap, m, n, V, D, Pl, rfl, -, hl, -, hm, -, hi⟩
  · exact ⟨_, [], rfl, bools_nil _ _⟩
  · simp only [if_true] at hm
    have hV : ∀ i, i < len → ∃ y : Bool, V i = .bool y := fun i hlt => by
      obtain ⟨k, e, -⟩ := DataW.trod_bool Try.underlying4 (hi i (by omega)).2
      simp only [List.cons.injEq, and_true] at e
      exact ⟨k, e⟩
    obtain ⟨Y, hY⟩ := choose_lt (α := Bool) (p := fun i y => V i = .bool y) hV
    refine ⟨_, (List.range len).map Y, rfl, some a, cap, by simp, fun hp => ?_⟩
    simp at hp
    have hs : a.spot = none := by
      have := (hi 0 (by omega)).1
      exact spot_none (a := a.add 0) this
    refine ⟨a.block, a.off, by cases a; simp at hs; simp [hs], ?_, fun j hj => ?_⟩
    · have := cell_lt (hi 0 (by omega)).1
      rw [addr_add _ _ hs] at this
      exact this
    · have hj' : j < len := by simpa using hj
      have := (hi j (by omega)).1
      rw [addr_add _ _ hs, hY j hj'] at this
      rw [this]
      simp
theorem trod_fields {t : TypeId} {fs : Array Field} {fuel : Nat} {cs : List Value} {x : DataW H × List MemPlace} (he : Try.prog.underlying t = some (.struct fs))
    (hone : oneCellFields Try.prog fs = true) (hC : Try.prog.cellsOf t = fs.size) (h : DataW.trod enc Try.prog w base (fun _ => true) held fuel t cs = some x) :
    cs.length = fs.size ∧ ∀ (j : Nat) (f : Field), fs[j]? = some f → ∃ (v : Value) (n : Nat) (y : DataW H × List MemPlace), cs[j]? = some v ∧ DataW.trod enc Try.prog w base (fun _ => true) held n f.type [v] = some y := by
  obtain ⟨ys, n', -, -, hlen, hyl, hf⟩ := DataW.trod_struct he h
  rw [hC] at hlen
  refine ⟨hlen, fun j f hj => ?_⟩
  obtain ⟨ho, hk⟩ := hone_of hone j f hj
  have hjl : j < fs.size := (Array.getElem?_eq_some_iff.1 hj).1
  have hv : cs[j]? = some (cs[j]'(by omega)) := List.getElem?_eq_getElem (by omega)
  have h1 := hf j f hj
  rw [ho, hk] at h1
  have hone' : (cs.drop j).take 1 = [cs[j]'(by omega)] := by
    rw [List.drop_eq_getElem_cons (by omega)]
    rfl
  rw [hone'] at h1
  exact ⟨_, n', ys[j]'(by omega), hv, h1.trans (List.getElem?_eq_getElem (by omega))⟩

theorem trod_losses {fuel : Nat} {cs : List Value} {x : DataW H × List MemPlace} (h : DataW.trod enc Try.prog w base (fun _ => true) held fuel 23 cs = some x) :
    ∃ ao len cap, cs = [.slice ao len cap] ∧ len ≤ cap ∧ Losses w ao len := by
  rcases open_slice Try.underlying23 h with ⟨rfl, -⟩ | ⟨a, len, cap, m, n, D, Pl, rfl, -, hl, -, hm, -, hi⟩
  · exact ⟨_, _, _, rfl, Nat.le_refl _, ⟨fun i hi => absurd hi (Nat.not_lt_zero _)⟩⟩
  · simp only [if_true] at hm
    refine ⟨_, _, _, rfl, hl, ⟨fun i hlt => ?_⟩⟩
    obtain ⟨cs', hc, ht'⟩ := hi i (by omega)
    rw [show Try.prog.cellsOf 41 = 2 by kernel_rfl] at hc
    obtain ⟨-, hf⟩ := trod_fields Try.underlying41 (by kernel_rfl) (by kernel_rfl) ht'
    obtain ⟨_, hcl, hat⟩ := World.cells?_some hc
    obtain ⟨v0, n0, y0, g0, t0⟩ := hf 0 _ rfl
    obtain ⟨v1, n1, y1, g1, t1⟩ := hf 1 _ rfl
    obtain ⟨s, rfl⟩ := int_byte Try.underlying5 t0
    obtain ⟨u, ks, e1, hb⟩ := trod_bools t1
    simp only [List.cons.injEq, and_true] at e1
    subst e1
    have c0 := (hat 0 (by omega)).trans g0
    have c1 := (hat 1 (by omega)).trans g1
    rw [Go.Deep.add_add] at c0 c1
    have hs : a.spot = none := by
      obtain ⟨cs0, hc0, -⟩ := hi 0 (by omega)
      rw [show Try.prog.cellsOf 41 = 2 by kernel_rfl] at hc0
      obtain ⟨_, hcl0, hat0⟩ := World.cells?_some hc0
      have := hat0 0 (by omega)
      rw [Go.Deep.add_add, List.getElem?_eq_getElem (by omega)] at this
      exact spot_none (a := a.add (0 * 2 + 0)) this
    rw [addr_add _ _ hs] at c0 c1
    exact ⟨a.block, a.off, s, v1, ks, by cases a; simp at hs; simp [hs], by have := cell_lt c0; exact this, c0, c1, hb⟩
end

section
variable {H : Type} {enc : TypeId × Value → H} {W : World} {r : Reach} {b0 : Nat}
set_option maxRecDepth 100000 in
theorem open_moves {v : Value} {d : DataW H} {p : List MemPlace} (hv : Value.okWide Try.prog W r b0 22 v) (h : DataW.Trod enc Try.prog W 0 (fun _ => true) true 22 v d p) :
    ∃ ao len cap xs, v = .slice ao len cap ∧ len ≤ cap ∧ xs.length = len ∧ Bts W.heap.size W (.slice ao len cap) xs := by
  obtain ⟨a0, len, cap, rfl⟩ := okWide_slice Try.underlying22 hv
  obtain ⟨fuel, hf⟩ := h
  obtain ⟨ao, len', cap', xs, e, h1, h2, h3⟩ := trod_bytes hf
  simp [Value.cells] at e
  obtain ⟨rfl, rfl, rfl⟩ := e
  exact ⟨_, _, _, xs, rfl, h1, h2, h3⟩
set_option maxRecDepth 100000 in
theorem open_losses {v : Value} {d : DataW H} {p : List MemPlace} (hv : Value.okWide Try.prog W r b0 23 v) (h : DataW.Trod enc Try.prog W 0 (fun _ => true) true 23 v d p) :
    ∃ ao len cap, v = .slice ao len cap ∧ len ≤ cap ∧ Losses W ao len := by
  obtain ⟨a0, len, cap, rfl⟩ := okWide_slice Try.underlying23 hv
  obtain ⟨fuel, hf⟩ := h
  obtain ⟨ao, len', cap', e, h1, h2⟩ := trod_losses hf
  simp [Value.cells] at e
  obtain ⟨rfl, rfl, rfl⟩ := e
  exact ⟨_, _, _, rfl, h1, h2⟩
end
end Go.Proofs.Ytdecljdhdclmoaa
