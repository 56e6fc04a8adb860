/-
  A range over a map with integer keys under way; clear. No Go text in sight.
-/
import Derived.Test.YtdecljdhdclmoaaMap
import Derived.Deep.Upon
namespace Go.Proofs.Ytdecljdhdclmoaa
open Go.RowKit
open Go.ChangeMaps (setBlock)

/-- block c is a map that stands for f, block r an iterator over it: left i: the entry at i is still to come -/
def Ranges (w : World) (c r : Nat) (f : Int → Option Value) (left : Int → Bool) (cnt : Nat) : Prop :=
  ∃ es clock since seen c0, w.heap[c]? = some (.map es clock) ∧ MapFit es clock f ∧ w.heap[r]? = some (.mapIter (some c) since seen c0) ∧
    (∀ x ∈ es.toList, x.born < since) ∧ since ≤ c0 ∧ since ≤ clock ∧ (leftOf es seen).size = cnt ∧ (∀ x ∈ es.toList, ∀ i, x.key = .int .i64 i → left i = !seen.contains x.born) ∧ (∀ i, left i = true → (f i).isSome = true)
def iterLeft (w : World) (c r : Nat) : Nat :=
  match w.heap[c]?, w.heap[r]? with
  | some (.map es _), some (.mapIter _ _ seen _) => (leftOf es seen).size
  | _, _ => 0
section
variable {P : Program} {w w' : World} {c r cnt : Nat} {f : Int → Option Value} {left : Int → Bool} {t k e : TypeId}
theorem Ranges.left_eq (h : Ranges w c r f left cnt) : iterLeft w c r = cnt := by
  obtain ⟨es, clock, since, seen, c0, h1, h2, h3, h4, h5, h6, h7, h8, h9⟩ := h
  simp only [iterLeft, h1, h3]; exact h7
theorem Ranges.map (h : Ranges w c r f left cnt) : MapAt w c f := by
  obtain ⟨es, clock, since, seen, c0, h1, h2, h3, h4, h5, h6, h7, h8, h9⟩ := h
  exact ⟨es, clock, h1, h2⟩
theorem Ranges.ne (h : Ranges w c r f left cnt) : r ≠ c := by
  obtain ⟨es, clock, since, seen, c0, h1, h2, h3, h4⟩ := h
  intro e
  rw [e, h1] at h3
  cases h3
theorem Ranges.keep {S : Nat → Prop} (h : Ranges w c r f left cnt) (kp : Keep S w w') (hc : ¬ S c) (hr : ¬ S r) : Ranges w' c r f left cnt := by
  obtain ⟨es, clock, since, seen, c0, h1, h2, h3, h4⟩ := h
  exact ⟨es, clock, since, seen, c0, kp.row h1 hc, h2, kp.row h3 hr, h4⟩
theorem run_range (h : MapAt w c f) (ht : P.underlying t = some (.map k e)) :
    ∃ w' cnt, (Instr.range t (.map (some c))).run P w = .ok (.pointer (some ⟨w.heap.size, 0, none⟩)) w' ∧ Ranges w' c w.heap.size f (fun i => (f i).isSome) cnt ∧ Keep Nil w w' ∧ w'.heap.size = w.heap.size + 1 := by
  obtain ⟨es, clock, hb, F⟩ := h
  refine ⟨_, _, run_range_map w t k e c es clock ht hb, ⟨es, clock, clock, #[], clock, row_alloc hb _, F, heap_new _ _, F.born, Nat.le_refl _, Nat.le_refl _, rfl, fun x hx i hi => ?_, fun i h => h⟩, (Keep.refl w).alloc _, by simp⟩
  have : f i = some x.val := (F.has i _).2 ⟨x, hx, hi, rfl⟩
  simp [this]
theorem run_next (h : Ranges w c r f left cnt) (ty : TypeId) :
    (cnt = 0 ∧ (∀ i, left i = false) ∧ (Instr.next (.pointer (some ⟨r, 0, none⟩)) false ty).run P w = .ok (.tuple #[.bool false]) w) ∨
    ∃ i v w' cnt', left i = true ∧ f i = some v ∧ (Instr.next (.pointer (some ⟨r, 0, none⟩)) false ty).run P w = .ok (.tuple #[.bool true, .int .i64 i, v]) w' ∧
      Ranges w' c r f (fun j => left j && !(j == i)) cnt' ∧ cnt' < cnt ∧ Keep (One r) w w' ∧ w'.heap.size = w.heap.size ∧ (Instr.entry (.pointer (some ⟨r, 0, none⟩))).run P w' = .ok (.tuple #[.int .i64 i, v]) w' := by
  have hne := h.ne
  obtain ⟨es, clock, since, seen, c0, h1, F, h3, h4, h5, h6, rfl, h8, h9⟩ := h
  rcases run_next_at (P := P) w ty r c since c0 seen es clock h3 h1 h4 h5 with ⟨h0, hrun⟩ | ⟨x, hx, w1, hal, hrun⟩
  · refine .inl ⟨h0, fun i => ?_, hrun⟩
    cases hk : left i
    · rfl
    · obtain ⟨v, hv⟩ := Option.isSome_iff_exists.1 (h9 i hk)
      obtain ⟨y, hy, hyk, -⟩ := (F.has i v).1 hv
      rw [h8 y hy i hyk, all_seen es seen h0 y hy] at hk
      cases hk
  · obtain ⟨hxm, hxs⟩ := mem_left hx
    obtain ⟨i, hi, hwf⟩ := F.keys x hxm
    have hfi : f i = some x.val := (F.has i _).2 ⟨x, hxm, hi, rfl⟩
    have kw1 : Keep (One r) w w1 := by rcases hal with rfl | rfl; exact Keep.refl _; exact (Keep.refl w).drew
    have hr1 : w1.heap[r]? = some (.mapIter (some c) since seen c0) := by rcases hal with rfl | rfl <;> exact h3
    have hc1 : w1.heap[c]? = some (.map es clock) := by rcases hal with rfl | rfl <;> exact h1
    have hs1 : w1.heap.size = w.heap.size := by rcases hal with rfl | rfl <;> rfl
    have hrr := setBlock_row (o := .mapIter (some c) since (seen.push x.born) clock) hr1
    have kk : Keep (One r) w1 (setBlock w1 r (.mapIter (some c) since (seen.push x.born) clock)) := keep_setBlock
    have hcc := kk.row hc1 (fun e => hne e.symm)
    refine .inr ⟨i, x.val, setBlock w1 r (.mapIter (some c) since (seen.push x.born) clock), _, ?_, hfi, by rw [← hi]; exact hrun,
      ⟨es, clock, since, seen.push x.born, clock, hcc, F, hrr, h4, h6, h6, rfl, fun y hy j hj => ?_, fun j hj => ?_⟩, left_shrinks es seen x hx, kw1.trans kk, by simp [setBlock, hs1], ?_⟩
    · rw [h8 x hxm i hi, hxs]; rfl
    · simp only
      rw [h8 y hy j hj, contains_push]
      by_cases hji : j = i
      · subst hji
        have hyx : y = x := by
          obtain ⟨a, ha, e1⟩ := List.mem_iff_getElem.1 hy
          obtain ⟨b, hb, e2⟩ := List.mem_iff_getElem.1 hxm
          have hap : (es.toList.map (·.key)).Nodup := List.pairwise_map.2 F.apart
          have : (es.toList.map (·.key))[a]'(by simpa using ha) = (es.toList.map (·.key))[b]'(by simpa using hb) := by
            simp only [List.getElem_map]; rw [e1, e2, hj, hi]
          have := nodup_inj hap this
          subst this
          rw [← e1, ← e2]
        subst hyx
        simp
      · have hb : (y.born == x.born) = false := by
          cases hbb : (y.born == x.born) with
          | false => rfl
          | true =>
            have := born_inj F.once hy hxm (by simpa using hbb)
            subst this
            rw [hi] at hj
            cases hj
            exact absurd rfl hji
        have hjj : (j == i) = false := by simpa using hji
        rw [hb, hjj]
        simp
    · simp only [Bool.and_eq_true] at hj
      exact h9 j hj.1
    · rw [← hi]
      exact run_entry_at _ r c since seen es clock x hrr hcc hxm F.once
theorem run_clear (h : MapAt w c f) (ht : P.underlying t = some (.map k e)) (ty : TypeId) :
    ∃ w', (Builtin.clear_ #[t] ty #[.map (some c)]).run P w = .ok (.tuple #[]) w' ∧ MapAt w' c (fun _ => none) ∧ Keep (One c) w w' := by
  obtain ⟨es, clock, hb, F⟩ := h
  refine ⟨setBlock w c (.map #[] clock), ?_, ⟨#[], clock, setBlock_row hb, ⟨fun e h => by simp at h, by simp, fun e h => by simp at h, by simp, fun i v => by simp⟩⟩, keep_setBlock⟩
  simp [Builtin.clear_, run_underlying ht, MapKept.run_getObj_map hb, MapKept.run_setObj_map _ hb, Result.andThen, setBlock]
/-- clear as a law of the walk -/
theorem wpList_clear {ops : Array Oper} {rest : List Oper} {o : Oper} {a : Act} {Q : Exit → Act → World → Prop} (hgd : o.guard = none) (x : Operand) (t k e : TypeId)
    (ho : o.op = .call { callee := .builtin .clear, args := #[x], argTypes := #[t] }) (hx : a.eval x = .map (some c)) (h : MapAt w c f) (ht : P.underlying t = some (.map k e))
    (hK : ∀ w', MapAt w' c (fun _ => none) → Keep (One c) w w' → wpList P ops Q rest (a.put o.dst (.tuple #[])) w') : wpList P ops Q (o :: rest) a w := by
  refine wpList_plain hgd fun K hK' => ?_
  obtain ⟨w', hrun, h1, h2⟩ := run_clear h ht o.type
  unfold Oper.wp
  simp [execOp, ho, resolve, invoke, builtin, hx, hrun, Result.andThen]
  exact hK' _ _ (hK w' h1 h2)
end
end Go.Proofs.Ytdecljdhdclmoaa
