/-
  A map with integer keys, by its block: look-up, store, the rounds of a range. No Go text in sight.
-/
import Derived.Test.YtdecljdhdclmoaaKit
import Derived.Maps.RangeRun
import Derived.Maps.Keyed
namespace Go.Proofs.Ytdecljdhdclmoaa
open Go.RowKit Go.Maps Go.WideShapes
open Go.ChangeMaps (setBlock)

theorem nodup_inj {α : Type} {l : List α} (h : l.Nodup) {i j : Nat} {hi : i < l.length} {hj : j < l.length} (e : l[i] = l[j]) : i = j := by
  have hp := List.pairwise_iff_getElem.1 h
  rcases Nat.lt_trichotomy i j with h1 | h1 | h1
  · exact absurd e (hp i j hi hj h1)
  · exact h1
  · exact absurd e.symm (hp j i hj hi h1)
/-- the entries es stand for f -/
structure MapFit (es : Array MapEntry) (clock : Nat) (f : Int → Option Value) : Prop where
  keys : ∀ e ∈ es.toList, ∃ i, e.key = .int .i64 i ∧ (Lit.int .i64 i).wf = true
  apart : es.toList.Pairwise (fun a b => a.key ≠ b.key)
  born : ∀ e ∈ es.toList, e.born < clock
  once : (es.toList.map (·.born)).Nodup
  has : ∀ i v, f i = some v ↔ ∃ e ∈ es.toList, e.key = .int .i64 i ∧ e.val = v
/-- the map at block b stands for f -/
def MapAt (w : World) (b : Nat) (f : Int → Option Value) : Prop := ∃ es clock, w.heap[b]? = some (.map es clock) ∧ MapFit es clock f
theorem MapAt.made (w : World) : MapAt (w.alloc (.map #[] 0)) w.heap.size (fun _ => none) :=
  ⟨#[], 0, heap_new _ _, ⟨fun e h => by simp at h, by simp, fun e h => by simp at h, by simp, fun i v => by simp⟩⟩
theorem MapAt.keep {S : Nat → Prop} {w w' : World} {b : Nat} {f : Int → Option Value} (h : MapAt w b f) (k : Keep S w w') (hb : ¬ S b) : MapAt w' b f := by
  obtain ⟨es, clock, h1, h2⟩ := h
  exact ⟨es, clock, k.row h1 hb, h2⟩
theorem keep_setBlock {w : World} {b : Nat} {o : Obj} : Keep (One b) w (setBlock w b o) :=
  ⟨rfl, rfl, rfl, by simp [setBlock], fun k hk hs => by
    show (w.heap.setIfInBounds b o)[k]? = _
    rw [Array.getElem?_setIfInBounds_ne (fun e => hs e.symm)]⟩
theorem setBlock_row {w : World} {b : Nat} {o o' : Obj} (h : w.heap[b]? = some o') : (setBlock w b o).heap[b]? = some o := by
  show (w.heap.setIfInBounds b o)[b]? = _
  rw [Array.getElem?_setIfInBounds_self_of_lt (row_lt h)]

section
variable {P : Program} {w : World} {b : Nat} {f : Int → Option Value} {t k e : TypeId}
theorem run_look (h : MapAt w b f) (hk : P.underlying k = some (.int .i64)) (ht : P.underlying t = some (.map k e)) {z : Value} (hz : (zeroValue e).run P w = .ok z w) (i : Int) (hi : (Lit.int .i64 i).wf = true) (c : Bool) :
    (Instr.lookup t (.map (some b)) (.int .i64 i) c).run P w = .ok (if c then .tuple #[(f i).getD z, .bool (f i).isSome] else (f i).getD z) w := by
  obtain ⟨es, clock, hb, F⟩ := h
  have K := int_keyed (P := P) hk
  have hkey := keyOf_int_mk (P := P) hk hi
  have hkeys : ∀ x ∈ es.toList, ∃ l, keyOf P k x.key = some l := fun x hx => by
    obtain ⟨j, hj, hw⟩ := F.keys x hx
    rw [hj]; exact ⟨_, keyOf_int_mk hk hw⟩
  rcases K.find w hkey es.toList hkeys with ⟨h1, h2⟩ | ⟨j, e0, h1, h2, h3⟩
  · have hn : f i = none := by
      cases hx : f i with
      | none => rfl
      | some v =>
        obtain ⟨x, hx1, hx2, -⟩ := (F.has i v).1 hx
        exact absurd hx2 (h2 x hx1)
    rw [hn]
    simp [Instr.lookup, run_underlying ht, MapKept.run_getObj_map hb, K.check w _ hkey, h1, hz, Result.andThen]
  · have hs : f i = some e0.val := (F.has i _).2 ⟨e0, List.mem_of_getElem? h2, h3, rfl⟩
    rw [hs]
    simp [Instr.lookup, run_underlying ht, MapKept.run_getObj_map hb, K.check w _ hkey, h1, Result.andThen]
def put (f : Int → Option Value) (i : Int) (v : Value) : Int → Option Value := fun j => if j = i then some v else f j
theorem run_put (h : MapAt w b f) (hk : P.underlying k = some (.int .i64)) (ht : P.underlying t = some (.map k e)) (i : Int) (hi : (Lit.int .i64 i).wf = true) (v : Value) :
    ∃ w', (Instr.mapUpdate t (.map (some b)) (.int .i64 i) v).run P w = .ok () w' ∧ MapAt w' b (put f i v) ∧ Keep (One b) w w' := by
  obtain ⟨es, clock, hb, F⟩ := h
  have K := int_keyed (P := P) hk
  have hkey := keyOf_int_mk (P := P) hk hi
  have hkeys : ∀ x ∈ es.toList, ∃ l, keyOf P k x.key = some l := fun x hx => by
    obtain ⟨j, hj, hw⟩ := F.keys x hx
    rw [hj]; exact ⟨_, keyOf_int_mk hk hw⟩
  rcases K.find w hkey es.toList hkeys with ⟨h1, h2⟩ | ⟨j, e0, h1, h2, h3⟩
  · refine ⟨setBlock w b (.map (es.push ⟨.int .i64 i, v, clock⟩) (clock + 1)), ?_, ⟨_, _, setBlock_row hb, ?_⟩, keep_setBlock⟩
    · simp [Instr.mapUpdate, run_underlying ht, MapKept.run_getObj_map hb, K.check w false hkey, h1, MapKept.run_setObj_map _ hb, Result.andThen, setBlock]
    · refine ⟨fun x hx => ?_, ?_, fun x hx => ?_, ?_, fun j u => ?_⟩
      · simp only [Array.toList_push, List.mem_append, List.mem_singleton] at hx
        rcases hx with hx | rfl
        · exact F.keys x hx
        · exact ⟨i, rfl, hi⟩
      · rw [Array.toList_push, List.pairwise_append]
        exact ⟨F.apart, by simp, fun x hx y hy => by simp at hy; subst hy; exact h2 x hx⟩
      · simp only [Array.toList_push, List.mem_append, List.mem_singleton] at hx
        rcases hx with hx | rfl
        · exact Nat.lt_succ_of_lt (F.born x hx)
        · exact Nat.lt_succ_self _
      · rw [Array.toList_push, List.map_append, List.nodup_append]
        refine ⟨F.once, by simp, fun x hx y hy => ?_⟩
        obtain ⟨x0, hx0, rfl⟩ := List.mem_map.1 hx
        simp at hy; subst hy
        exact Nat.ne_of_lt (F.born x0 hx0)
      · unfold put
        by_cases hji : j = i
        · subst hji
          rw [if_pos rfl]
          constructor
          · intro e1
            exact ⟨⟨.int .i64 j, v, clock⟩, by simp, rfl, Option.some.inj e1⟩
          · rintro ⟨x, hx, hx1, rfl⟩
            simp only [Array.toList_push, List.mem_append, List.mem_singleton] at hx
            rcases hx with hx | rfl
            · exact absurd hx1 (h2 x hx)
            · rfl
        · rw [if_neg hji, F.has]
          constructor
          · rintro ⟨x, hx, hx1, hx2⟩
            exact ⟨x, by simp only [Array.toList_push, List.mem_append]; exact .inl hx, hx1, hx2⟩
          · rintro ⟨x, hx, hx1, hx2⟩
            simp only [Array.toList_push, List.mem_append, List.mem_singleton] at hx
            rcases hx with hx | rfl
            · exact ⟨x, hx, hx1, hx2⟩
            · simp at hx1; exact absurd hx1.symm hji
  · have hj : es[j]? = some e0 := by simpa using h2
    have hjl : j < es.size := (Array.getElem?_eq_some_iff.1 hj).1
    have hj2 : es[j] = e0 := (Array.getElem?_eq_some_iff.1 hj).2
    have hl : (es.modify j fun x => { x with key := .int .i64 i, val := v }).toList = es.toList.set j ⟨.int .i64 i, v, e0.born⟩ := by
      apply List.ext_getElem?
      intro n
      rw [Array.getElem?_toList, Array.getElem?_modify, List.getElem?_set]
      by_cases hn : j = n
      · subst hn
        simp [hjl, hj2]
      · simp [hn]
    have hkm : (es.toList.set j ⟨.int .i64 i, v, e0.born⟩).map (·.key) = es.toList.map (·.key) := by
      rw [List.map_set]
      show (es.toList.map (·.key)).set j (.int .i64 i) = _
      rw [← h3]
      apply List.ext_getElem?
      intro n
      rw [List.getElem?_set]
      by_cases hn : j = n
      · subst hn; simp [hjl, hj2]
      · simp [hn]
    have hbm : (es.toList.set j ⟨.int .i64 i, v, e0.born⟩).map (·.born) = es.toList.map (·.born) := by
      rw [List.map_set]
      show (es.toList.map (·.born)).set j e0.born = _
      apply List.ext_getElem?
      intro n
      rw [List.getElem?_set]
      by_cases hn : j = n
      · subst hn; simp [hjl, hj2]
      · simp [hn]
    have hap : (es.toList.map (·.key)).Nodup := List.pairwise_map.2 F.apart
    refine ⟨setBlock w b (.map (es.modify j fun x => { x with key := .int .i64 i, val := v }) clock), ?_, ⟨_, _, setBlock_row hb, ?_⟩, keep_setBlock⟩
    · have hst := K.stays w hkey
      simp [Instr.mapUpdate, run_underlying ht, MapKept.run_getObj_map hb, K.check w false hkey, h1, hj, h3, hst, MapKept.run_setObj_map _ hb, Result.andThen, setBlock]
    · rw [show (MapFit (es.modify j fun x => { x with key := .int .i64 i, val := v }) clock (put f i v)) = (MapFit (es.modify j fun x => { x with key := .int .i64 i, val := v }) clock (put f i v)) from rfl]
      refine ⟨?_, ?_, ?_, ?_, ?_⟩ <;> rw [hl]
      · intro x hx
        rcases List.mem_or_eq_of_mem_set hx with hx | rfl
        · exact F.keys x hx
        · exact ⟨i, rfl, hi⟩
      · exact (List.pairwise_map (R := fun a b => a ≠ b) (f := MapEntry.key)).1 (by rw [hkm]; exact hap)
      · intro x hx
        rcases List.mem_or_eq_of_mem_set hx with hx | rfl
        · exact F.born x hx
        · exact F.born e0 (List.mem_of_getElem? h2)
      · rw [hbm]; exact F.once
      · intro m u
        have huniq : ∀ x ∈ es.toList, x.key = .int .i64 i → x = e0 := by
          intro x hx hxk
          obtain ⟨n, hn, hxn⟩ := List.mem_iff_getElem.1 hx
          have hn' : n < es.size := by simpa using hn
          have e1 : (es.toList.map (·.key))[n]'(by simpa using hn') = (es.toList.map (·.key))[j]'(by simpa using hjl) := by
            simp only [List.getElem_map]
            rw [hxn, hxk, ← h3]
            simp [hj2]
          have := nodup_inj hap e1
          subst this
          rw [← hxn]; simpa using hj2
        unfold put
        by_cases hm : m = i
        · subst hm
          rw [if_pos rfl]
          constructor
          · intro e1
            exact ⟨⟨.int .i64 m, v, e0.born⟩, List.mem_iff_getElem.2 ⟨j, by simpa using hjl, by simp⟩, rfl, Option.some.inj e1⟩
          · rintro ⟨x, hx, hx1, rfl⟩
            obtain ⟨n, hn, hxn⟩ := List.mem_iff_getElem.1 hx
            have hn' : n < es.size := by simpa using hn
            by_cases hnj : j = n
            · subst hnj
              rw [List.getElem_set_self] at hxn
              rw [← hxn]
            · rw [List.getElem_set_ne hnj] at hxn
              have hx' : x ∈ es.toList := List.mem_iff_getElem.2 ⟨n, by simpa using hn', hxn⟩
              have h0 := huniq x hx' hx1
              exfalso
              have e1 : (es.toList.map (·.key))[n]'(by simpa using hn') = (es.toList.map (·.key))[j]'(by simpa using hjl) := by
                simp only [List.getElem_map]
                rw [hxn, hx1, ← h3]
                simp [hj2]
              exact hnj (nodup_inj hap e1).symm
        · rw [if_neg hm, F.has]
          constructor
          · rintro ⟨x, hx, hx1, hx2⟩
            obtain ⟨n, hn, hxn⟩ := List.mem_iff_getElem.1 hx
            have hnj : j ≠ n := by
              intro e1
              subst e1
              have : x = e0 := by rw [← hxn]; simpa using hj2
              rw [this, h3] at hx1
              simp at hx1
              exact hm hx1.symm
            exact ⟨x, List.mem_iff_getElem.2 ⟨n, by simpa using hn, by rw [List.getElem_set_ne hnj]; exact hxn⟩, hx1, hx2⟩
          · rintro ⟨x, hx, hx1, hx2⟩
            rcases List.mem_or_eq_of_mem_set hx with hx | rfl
            · exact ⟨x, hx, hx1, hx2⟩
            · simp at hx1; exact absurd hx1.symm hm
end
end Go.Proofs.Ytdecljdhdclmoaa
