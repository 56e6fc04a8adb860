/-
  What Log.commit makes: rows, padded data.
-/
import Derived.Test.YtdecljdhdclmoaaConcat
namespace Go.Proofs.Ytdecljdhdclmoaa
open Go.RowKit
variable {w w' : World} {b p c : Nat} {d d1 d2 : DS}

def Z48 : List UInt8 := List.replicate 48 0
def pad48 (xs : List UInt8) : List UInt8 := xs ++ List.replicate (48 - xs.length) 0
theorem pad48_length (xs : List UInt8) (h : xs.length ≤ 48) : (pad48 xs).length = 48 := by simp [pad48]; omega
theorem pad48_splice (xs : List UInt8) : splice (bcells Z48) 0 (bcells xs) = bcells (pad48 xs) := by
  simp only [splice, pad48, bcells, Z48, List.map_append, List.map_replicate, List.take_zero, List.nil_append, List.drop_replicate, List.length_map, Nat.zero_add]
theorem run_make48 (w : World) : (Instr.makeSlice 22 (.int .i64 48) (.int .i64 48)).run Try.prog w = .ok (.slice (some ⟨w.heap.size, 0, none⟩) 48 48) (w.alloc (.cells (secC Z48) 5)) := by
  obtain ⟨i, hi, hz, hs, hb⟩ := info5'
  have hw : IntKind.i64.wrap 48 = 48 := by decide
  simp [Instr.makeSlice, go_sem, run_underlying Try.underlying22, sizeOf, typeInfo, zeroValue, hi, hz, hs, hb, asInt, asIntOf, hw]
  rfl
/-- the updates as the journal has them -/
def fullL (l : List (Nat × List UInt8)) : List (Nat × List UInt8) := l.map fun a => (a.1, pad48 a.2)
def secsL (l : List (Nat × List UInt8)) : List (List UInt8) := l.map fun a => entryL a.1 (pad48 a.2)
theorem src_sl (w : World) (v : Value) (hv : v.oneCell' = true) : Src Try.prog 1 50 (.slice (some ⟨w.heap.size, 0, none⟩) 1 1) 1 [v] (w.alloc (.cells #[v] 22)) := by
  refine Src.ofSlice _ Try.underlying50 _ _ _ _ rfl (fun j u hu => ?_) (by intro u hu; simp at hu; subst hu; exact hv)
  rw [Addr.add_lit, row_cell (heap_new _ _), Nat.zero_add, ← hu]
  simp
theorem rows_two (w : World) (u v : Value) (t : TypeId) : Rows Nil (w.alloc (.cells #[u, v] t)) (.slice (some ⟨w.heap.size, 0, none⟩) 2 2) [u, v] :=
  ⟨_, 2, rfl, fun _ => ⟨_, 0, rfl, fun e => e, fun j hj => by
    rw [row_cell (heap_new _ _)]
    rcases (by simp at hj; omega : j = 0 ∨ j = 1) with rfl | rfl <;> rfl⟩⟩
theorem AllBts.two {u v : Value} {xs ys : List UInt8} (h : Bts 0 w u xs) (k : Bts 0 w v ys) : AllBts w [u, v] [xs, ys] := ⟨rfl, fun j h1 h2 => by
  rcases (by simp at h1; omega : j = 0 ∨ j = 1) with rfl | rfl
  · exact h
  · exact k⟩
end Go.Proofs.Ytdecljdhdclmoaa
