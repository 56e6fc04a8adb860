/-
  Log.commit: one round of its loop; the loop.
-/
import Derived.Test.YtdecljdhdclmoaaCommitK
namespace Go.Proofs.Ytdecljdhdclmoaa
open Go.RowKit
variable {w w' : World} {b p c : Nat} {d d1 d2 : DS}

/-- the sectors that were made lie in a row -/
def SecsAt (w : World) (v : Value) (q : Nat) (xss : List (List UInt8)) : Prop := ∃ us : List Value, us.length = xss.length ∧ RowAt w 22 1 q v xss.length us ∧ ∀ j (h : j < us.length) (h' : j < xss.length), Bts 0 w us[j] xss[j]
theorem SecsAt.keep {S : Nat → Prop} {v : Value} {q : Nat} {l : List (List UInt8)} (h : SecsAt w v q l) (k : Keep S w w') (hq : ¬ S q) (hS : Mut 0 w S) : SecsAt w' v q l := by
  obtain ⟨us, h1, h2, h3⟩ := h
  exact ⟨us, h1, h2.keep k hq, fun j a b => (h3 j a b).keep k hS⟩
theorem SecsAt.rows {S : Nat → Prop} {v : Value} {q : Nat} {l : List (List UInt8)} (h : SecsAt w v q l) (hS : ¬ S q) : ∃ us, Rows S w v us ∧ AllBts w us l := by
  obtain ⟨us, h1, h2, h3⟩ := h
  obtain ⟨ao, cap, rfl⟩ := h2.shape
  refine ⟨us, ⟨ao, cap, by rw [h1], fun hp => ?_⟩, h1, h3⟩
  rcases h2 with ⟨h0, -⟩ | ⟨off, _, cur, e, hb, hl, -, -, -, hc⟩
  · omega
  · cases e
    exact ⟨q, off, rfl, hS, fun j hj => by rw [row_cell hb, hc j (by omega), List.getElem?_eq_getElem hj]⟩
theorem Typ.mut {q e : Nat} (he : e ≠ 5) : Mut 0 w (Typ w q e) := by
  rintro i ⟨rfl, cur, e1⟩
  exact ⟨Nat.zero_le _, fun cur' fr e' => by rw [e1] at e'; simp at e'; exact he e'.2.1⟩
/-- one more -/
theorem SecsAt.snoc {q q' : Nat} {l : List (List UInt8)} {us : List Value} {u v' : Value} {xs : List UInt8} {w1 : World} (h1 : us.length = l.length) (h3 : ∀ j (h : j < us.length) (h' : j < l.length), Bts 0 w us[j] l[j])
    (k : Keep (Typ w q 22) w w1) (hr : RowAt w1 22 1 q' v' (l.length + 1) (us ++ [u])) (hb : Bts 0 w u xs) : SecsAt w1 v' q' (l ++ [xs]) := by
  have hm : Mut 0 w (Typ w q 22) := Typ.mut (by decide)
  refine ⟨us ++ [u], by simp [h1], by simpa using hr, fun j a b => ?_⟩
  by_cases hj : j < us.length
  · rw [List.getElem_append_left hj, List.getElem_append_left (by omega)]
    exact (h3 j hj (by omega)).keep k hm
  · have e1 : j = us.length := by simp at a; omega
    subst e1
    rw [List.getElem_append_right (by omega), List.getElem_append_right (by omega)]
    simp only [h1, Nat.sub_self, List.getElem_cons_zero]
    exact hb.keep k hm
theorem UpsAt.snoc {q q' : Nat} {l : List (Nat × List UInt8)} {us : List Value} {u v' : Value} {a : Nat} {xs : List UInt8} {w1 : World} (h1 : us.length = l.length) (h3 : ∀ j (h : j < us.length) (h' : j < l.length), Bts 0 w us[j] l[j].2)
    (k : Keep (Typ w q 35) w w1) (hr : RowAt w1 35 2 q' v' (l.length + 1) (upCells l us ++ [.int .i64 (a : Nat), u])) (hb : Bts 0 w u xs) : UpsAt w1 v' q' (l ++ [(a, xs)]) := by
  have hm : Mut 0 w (Typ w q 35) := Typ.mut (by decide)
  refine ⟨us ++ [u], by simp [h1], by rw [upCells_snoc _ _ _ _ h1]; simpa using hr, fun j h h' => ?_⟩
  by_cases hj : j < us.length
  · rw [List.getElem_append_left hj, List.getElem_append_left (by omega)]
    exact (h3 j hj (by omega)).keep k hm
  · have e1 : j = us.length := by simp at h; omega
    subst e1
    rw [List.getElem_append_right (by omega), List.getElem_append_right (by omega)]
    simp only [h1, Nat.sub_self, List.getElem_cons_zero]
    exact hb.keep k hm
/-- a row of another type is not written -/
theorem RowAt.keepTyp {e s q n q' e' : Nat} {v : Value} {xs : List Value} (h : RowAt w e s q v n xs) (k : Keep (Typ w q' e') w w') (he : e ≠ e') : RowAt w' e s q v n xs := by
  rcases h with h | ⟨off, cap, cur, h1, h2, h3⟩
  · exact .inl h
  · refine .inr ⟨off, cap, cur, h1, k.row h2 ?_, h3⟩
    rintro ⟨rfl, cur', e1⟩
    rw [h2] at e1
    simp at e1
    exact he e1.2
theorem UpsAt.keepTyp {v : Value} {q q' : Nat} {l : List (Nat × List UInt8)} (h : UpsAt w v q l) (k : Keep (Typ w q' 22) w w') : UpsAt w' v q l := by
  obtain ⟨us, h1, h2, h3⟩ := h
  exact ⟨us, h1, h2.keepTyp k (by decide), fun j a b => (h3 j a b).keep k (Typ.mut (by decide))⟩
theorem SecsAt.keepTyp {v : Value} {q q' : Nat} {l : List (List UInt8)} (h : SecsAt w v q l) (k : Keep (Typ w q' 35) w w') : SecsAt w' v q l := by
  obtain ⟨us, h1, h2, h3⟩ := h
  exact ⟨us, h1, h2.keepTyp k (by decide), fun j a b => (h3 j a b).keep k (Typ.mut (by decide))⟩
end Go.Proofs.Ytdecljdhdclmoaa
