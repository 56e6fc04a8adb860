/-
  Rows of updates; wal.journal where the journal has what it should.
-/
import Derived.Test.YtdecljdhdclmoaaTold
namespace Go.Proofs.Ytdecljdhdclmoaa
open Go.RowKit
variable {w w' : World} {b p c : Nat} {d : DS}

theorem info35 : (Try.prog.info? 35).map (fun i => (i.zero, i.size, i.bytes)) = some (some (.agg #[.int .i64 0, .slice none 0 0]), 2, 32) := by kernel_rfl
/-- updates' cells: a place and a slice of bytes each -/
def upCells : List (Nat × List UInt8) → List Value → List Value
  | a :: l, u :: us => .int .i64 (a.1 : Nat) :: u :: upCells l us
  | _, _ => []
theorem upCells_length : ∀ (l : List (Nat × List UInt8)) (us : List Value), us.length = l.length → (upCells l us).length = l.length * 2
  | [], [], _ => rfl
  | a :: l, u :: us, h => by
    have := upCells_length l us (by simpa using h)
    simp only [upCells, List.length_cons, this]; omega
  | [], u :: us, h => by simp at h
  | a :: l, [], h => by simp at h
theorem upCells_snoc (a : Nat × List UInt8) (u : Value) : ∀ (l : List (Nat × List UInt8)) (us : List Value), us.length = l.length → upCells (l ++ [a]) (us ++ [u]) = upCells l us ++ [.int .i64 (a.1 : Nat), u]
  | [], [], _ => rfl
  | a' :: l, u' :: us, h => by
    have := upCells_snoc a u l us (by simpa using h)
    simp only [List.cons_append, upCells, this]
  | [], u :: us, h => by simp at h
  | a :: l, [], h => by simp at h
theorem upCells_get : ∀ (l : List (Nat × List UInt8)) (us : List Value) (j : Nat) (h : j < l.length) (h' : j < us.length), (upCells l us)[j * 2]? = some (.int .i64 ((l[j].1 : Nat) : Int)) ∧ (upCells l us)[j * 2 + 1]? = some us[j]
  | a :: l, u :: us, 0, _, _ => ⟨rfl, rfl⟩
  | a :: l, u :: us, j + 1, h, h' => by
    have := upCells_get l us j (by simpa using h) (by simpa using h')
    simp only [upCells, List.getElem_cons_succ]
    rw [show (j + 1) * 2 = j * 2 + 1 + 1 by omega, show j * 2 + 1 + 1 + 1 = j * 2 + 1 + 2 by omega]
    exact this
/-- a row of updates in block q -/
def UpsAt (w : World) (v : Value) (q : Nat) (l : List (Nat × List UInt8)) : Prop :=
  ∃ us : List Value, us.length = l.length ∧ RowAt w 35 2 q v l.length (upCells l us) ∧ ∀ j (h : j < us.length) (h' : j < l.length), Bts 0 w us[j] l[j].2
theorem UpsAt.keep {S : Nat → Prop} {v : Value} {q : Nat} {l : List (Nat × List UInt8)} (h : UpsAt w v q l) (k : Keep S w w') (hq : ¬ S q) (hS : Mut 0 w S) : UpsAt w' v q l := by
  obtain ⟨us, h1, h2, h3⟩ := h
  exact ⟨us, h1, h2.keep k hq, fun j a b => (h3 j a b).keep k hS⟩
theorem UpsAt.shape {v : Value} {q : Nat} {l : List (Nat × List UInt8)} (h : UpsAt w v q l) : ∃ ao cap, v = .slice ao l.length cap := by
  obtain ⟨us, h1, h2, h3⟩ := h
  exact h2.shape
theorem UpsAt.cell {ao : Option Addr} {n cap q : Nat} {l : List (Nat × List UInt8)} (h : UpsAt w (.slice ao n cap) q l) (j : Nat) (hj : j < l.length) :
    ∃ off u ao' cap', ao = some ⟨q, off, none⟩ ∧ w.cell? ⟨q, off + j * 2, none⟩ = some (.int .i64 ((l[j].1 : Nat) : Int)) ∧ w.cell? ⟨q, off + j * 2 + 1, none⟩ = some u ∧ u = .slice ao' l[j].2.length cap' ∧ Bts 0 w u l[j].2 := by
  obtain ⟨us, h1, h2, h3⟩ := h
  obtain ⟨off, e1, e2⟩ := h2.cell (j * 2) (by omega)
  obtain ⟨off', e1', e3⟩ := h2.cell (j * 2 + 1) (by omega)
  rw [e1] at e1'
  cases e1'
  obtain ⟨g1, g2⟩ := upCells_get l us j hj (by omega)
  have hb := h3 j (by omega) hj
  obtain ⟨ao', cap', e4, -⟩ := id hb
  exact ⟨off, us[j]'(by omega), ao', cap', e1, e2.trans g1, by rw [Nat.add_assoc]; exact e3.trans g2, e4, hb⟩
theorem src_up (w : World) (a : Int) (v : Value) (hv : v.oneCell' = true) : Src Try.prog 2 56 (.slice (some ⟨w.heap.size, 0, none⟩) 1 1) 1 [.int .i64 a, v] (w.alloc (.cells #[.int .i64 a, v] 35)) := by
  refine Src.ofSlice _ Try.underlying56 _ _ _ _ rfl (fun j u hu => ?_) (by intro u hu; simp at hu; rcases hu with rfl | rfl; rfl; exact hv)
  rw [Addr.add_lit, row_cell (heap_new _ _), Nat.zero_add, ← hu]
  simp
theorem Bts.cut {B : Nat} {b off cap : Nat} {xs : List UInt8} (h : Bts B w (.slice (some ⟨b, off, none⟩) xs.length cap) xs) (k n : Nat) (c : Nat) (hk : k + n ≤ xs.length) : Bts B w (.slice (some ⟨b, off + k, none⟩) n c) ((xs.drop k).take n) := by
  obtain ⟨_, _, e, hc⟩ := h
  cases e
  have hl : ((xs.drop k).take n).length = n := by rw [List.length_take, List.length_drop]; omega
  refine ⟨_, c, by rw [hl], fun hp => ?_⟩
  obtain ⟨b', off', e, h1, h2⟩ := hc (by omega)
  cases e
  refine ⟨b, off + k, rfl, h1, fun j hj => ?_⟩
  rw [Nat.add_assoc, h2 (k + j) (by omega), List.getElem_take, List.getElem_drop]
/-- an entry of the journal -/
def entryL (a : Nat) (xs : List UInt8) : List UInt8 := putL [a] ++ xs
theorem entry_has (a : Nat) (xs : List UInt8) (h : xs.length = 48) : Has8 (padL (entryL a xs)) 0 a ∧ ((padL (entryL a xs)).drop 8).take 48 = xs ∧ (padL (entryL a xs)).length = 64 := by
  have hl : (entryL a xs).length = 56 := by rw [entryL, List.length_append, putL_length, h]; rfl
  have e : padL (entryL a xs) = le8 a ++ (xs ++ List.replicate 8 0) := by
    unfold padL
    rw [hl]
    simp [entryL, putL]
  refine ⟨?_, ?_, padL_length _ (by omega)⟩
  · have := has8_at [] (xs ++ List.replicate 8 0) a
    rw [e]; simpa using this
  · rw [e, List.drop_left' (le8_length a), List.take_left' h]
end Go.Proofs.Ytdecljdhdclmoaa
