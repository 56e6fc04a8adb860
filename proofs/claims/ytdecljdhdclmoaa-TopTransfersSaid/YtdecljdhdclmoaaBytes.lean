/-
  Rows of bytes that nobody writes any more, appends as laws of the walk, slices.Clone, Same.
-/
import Derived.Test.YtdecljdhdclmoaaKit
import Derived.Test.YtdecljdhdclmoaaProg
import Derived.OwnWalk
import Derived.Laws.BytesArg
import Derived.Laws.IdiomStrings
import Derived.Deep.RegionLawGrows
namespace Go.Proofs.Ytdecljdhdclmoaa
open Go.RowKit

theorem info5 : (Try.prog.info? 5).map (fun i => (i.zero, i.size, i.bytes)) = some (some (.int .u8 0), 1, 1) := by kernel_rfl
theorem info22 : (Try.prog.info? 22).map (fun i => (i.zero, i.size, i.bytes)) = some (some (.slice none 0 0), 1, 24) := by kernel_rfl

section
variable {P : Program}
/-- append as a law of the walk -/
theorem wpList_append_row (w : World) {ops : Array Oper} {rest : List Oper} {o : Oper} {a : Act} {Q : Exit → Act → World → Prop} (hgd : o.guard = none) (sl x : Operand) (t tx : TypeId)
    (ho : o.op = .call { callee := .builtin .append, args := #[sl, x], argTypes := #[t, tx] })
    (e : TypeId) (z : Value) (s bytes : Nat) (ht : P.underlying t = some (.slice e)) (info : (P.info? e).map (fun i => (i.zero, i.size, i.bytes)) = some (some z, s, bytes)) (hzs : z.cells.size = s)
    (q : Nat) (v : Value) (n : Nat) (xs : List Value) (hv : a.eval sl = v) (h : RowAt w e s q v n xs)
    (xv : Value) (m : Nat) (news : List Value) (hxv : a.eval x = xv) (hx : Src P s tx xv m news w) (b1 : n + m ≤ maxLen) (b2 : (n + m) * bytes ≤ 140737488355328)
    (hK : ∀ q' ao cap w', RowAt w' e s q' (.slice ao (n + m) cap) (n + m) (xs ++ news) → Keep (Typ w q e) w w' → (q' = q ∨ (w.heap.size ≤ q' ∧ ∃ cur, w'.heap[q']? = some (.cells cur e (0, 0)))) →
      wpList P ops Q rest (a.put o.dst (.slice ao (n + m) cap)) w') : wpList P ops Q (o :: rest) a w := by
  refine wpList_plain hgd fun K hK' => ?_
  obtain ⟨i, hi, hz0, hz1, hz2⟩ := info_parts info
  obtain ⟨q', ao, cap, w', hrun, r1, r2, r3⟩ := run_append_row (P := P) w t tx o.type e i z s bytes ht hi hz0 hz1 hz2 hzs q v n xs h xv m news hx b1 b2
  unfold Oper.wp
  simp [execOp, ho, resolve, invoke, builtin, hv, hxv, hrun, Result.andThen]
  exact hK' _ _ (hK q' ao cap w' r1 r2 r3)
/-- .. as a step of a region that draws -/
theorem step_append_row (w : World) {ops : Array Oper} {o : Oper} {a : Act} {K : Act → World → Prop} {Q : Exit → Act → World → Prop} {E : Prop} (hgd : o.guard = none) (sl x : Operand) (t tx : TypeId)
    (ho : o.op = .call { callee := .builtin .append, args := #[sl, x], argTypes := #[t, tx] })
    (e : TypeId) (z : Value) (s bytes : Nat) (ht : P.underlying t = some (.slice e)) (info : (P.info? e).map (fun i => (i.zero, i.size, i.bytes)) = some (some z, s, bytes)) (hzs : z.cells.size = s)
    (q : Nat) (v : Value) (n : Nat) (xs : List Value) (hv : a.eval sl = v) (h : RowAt w e s q v n xs)
    (xv : Value) (m : Nat) (news : List Value) (hxv : a.eval x = xv) (hx : Src P s tx xv m news w) (b1 : n + m ≤ maxLen) (b2 : (n + m) * bytes ≤ 140737488355328)
    (hK : ∀ q' ao cap w', RowAt w' e s q' (.slice ao (n + m) cap) (n + m) (xs ++ news) → Keep (Typ w q e) w w' → (q' = q ∨ (w.heap.size ≤ q' ∧ ∃ cur, w'.heap[q']? = some (.cells cur e (0, 0)))) →
      K (a.put o.dst (.slice ao (n + m) cap)) w') : if Region.wanted o (yielded ops a.tmps) = true then Oper.wp P o a w K Q else E := by
  have hw : Region.wanted o (yielded ops a.tmps) = true := by simp [Region.wanted, hgd]
  rw [if_pos hw]
  obtain ⟨i, hi, hz0, hz1, hz2⟩ := info_parts info
  obtain ⟨q', ao, cap, w', hrun, r1, r2, r3⟩ := run_append_row (P := P) w t tx o.type e i z s bytes ht hi hz0 hz1 hz2 hzs q v n xs h xv m news hx b1 b2
  unfold Oper.wp
  simp [execOp, ho, resolve, invoke, builtin, hv, hxv, hrun, Result.andThen]
  exact hK q' ao cap w' r1 r2 r3
end

def bcells (xs : List UInt8) : List Value := xs.map fun b => .int .u8 (b.toNat : Int)
theorem bcells_length (xs : List UInt8) : (bcells xs).length = xs.length := by simp [bcells]
theorem bcells_get (xs : List UInt8) (j : Nat) (h : j < xs.length) : (bcells xs)[j]? = some (.int .u8 (xs[j].toNat : Int)) := by simp [bcells, h]
theorem bcells_one (xs : List UInt8) : ∀ u ∈ bcells xs, u.oneCell' = true := by
  intro u hu
  obtain ⟨x, _, rfl⟩ := List.mem_map.1 hu
  rfl

/-- bytes that lie in w where nobody writes: below B, or in a row of bytes -/
def Bts (B : Nat) (w : World) (v : Value) (xs : List UInt8) : Prop :=
  ∃ ao cap, v = .slice ao xs.length cap ∧ (0 < xs.length → ∃ b off, ao = some ⟨b, off, none⟩ ∧ (b < B ∨ ∃ cur fr, w.heap[b]? = some (.cells cur 5 fr)) ∧ ∀ j (h : j < xs.length), w.cell? ⟨b, off + j, none⟩ = some (.int .u8 (xs[j].toNat : Int)))

/-- what may be written without any bytes being lost -/
def Mut (B : Nat) (w : World) (S : Nat → Prop) : Prop := ∀ k, S k → B ≤ k ∧ ∀ cur fr, w.heap[k]? ≠ some (.cells cur 5 fr)
theorem Mut.nil {B : Nat} {w : World} : Mut B w Nil := fun _ h => h.elim
theorem cell_lt {w : World} {a : Addr} {v : Value} (h : w.cell? a = some v) : a.block < w.heap.size := by
  rcases Nat.lt_or_ge a.block w.heap.size with h' | h'
  · exact h'
  · simp [World.cell?, Array.getElem?_eq_none h'] at h
theorem Keep.cell {S : Nat → Prop} {w w' : World} {a : Addr} {v : Value} (k : Keep S w w') (h : w.cell? a = some v) (hs : ¬ S a.block) : w'.cell? a = some v := by
  rw [← h]
  exact World.cell?_of_block (k.block _ (cell_lt h) hs)
theorem Bts.keep {B : Nat} {w w' : World} {v : Value} {xs : List UInt8} {S : Nat → Prop} (h : Bts B w v xs) (k : Keep S w w') (hS : Mut B w S) : Bts B w' v xs := by
  obtain ⟨ao, cap, rfl, hc⟩ := h
  refine ⟨ao, cap, rfl, fun hp => ?_⟩
  obtain ⟨b, off, rfl, ht, hc⟩ := hc hp
  have hs : ¬ S b := fun hs => by
    have hm := hS b hs
    rcases ht with ht | ⟨cur, fr, ht⟩
    · omega
    · exact hm.2 cur fr ht
  refine ⟨b, off, rfl, ?_, fun j hj => k.cell (hc j hj) hs⟩
  rcases ht with ht | ⟨cur, fr, ht⟩
  · exact .inl ht
  · exact .inr ⟨cur, fr, k.row ht hs⟩
theorem Bts.length {B : Nat} {w : World} {xs : List UInt8} {ao : Option Addr} {n cap : Nat} (h : Bts B w (.slice ao n cap) xs) : n = xs.length := by
  obtain ⟨_, _, h, _⟩ := h
  cases h; rfl
theorem Bts.nil (B : Nat) (w : World) : Bts B w (.slice none 0 0) [] := ⟨none, 0, rfl, fun h => absurd h (Nat.lt_irrefl _)⟩
theorem Bts.of_row {B : Nat} {w : World} {q n : Nat} {v : Value} {xs : List UInt8} (h : RowAt w 5 1 q v n (bcells xs)) : Bts B w v xs := by
  have hl := h.length
  rw [bcells_length] at hl
  rcases h with ⟨rfl, hx, ao, rfl⟩ | ⟨off, cap, cur, rfl, hb, _, hle, hm, hfit, hc⟩
  · obtain rfl : xs = [] := List.eq_nil_of_length_eq_zero (by omega)
    exact ⟨ao, 0, rfl, fun h => absurd h (Nat.lt_irrefl _)⟩
  · obtain rfl : n = xs.length := by omega
    exact ⟨_, cap, rfl, fun _ => ⟨q, off, rfl, .inr ⟨cur, _, hb⟩, fun j hj => by rw [row_cell hb, hc j (by omega), bcells_get xs j hj]⟩⟩
theorem Bts.src {B : Nat} {w : World} {v : Value} {xs : List UInt8} (h : Bts B w v xs) : Src Try.prog 1 22 v xs.length (bcells xs) w := by
  obtain ⟨ao, cap, rfl, hc⟩ := h
  by_cases hp : 0 < xs.length
  · obtain ⟨b, off, rfl, _, hc⟩ := hc hp
    refine Src.ofSlice w Try.underlying22 _ _ _ _ (by rw [bcells_length, Nat.mul_one]) (fun j u hu => ?_) (bcells_one xs)
    have hj : j < xs.length := by have := (List.getElem?_eq_some_iff.1 hu).1; rwa [bcells_length] at this
    rw [Addr.add_lit, hc j hj, ← hu, bcells_get xs j hj]
  · obtain rfl : xs = [] := List.eq_nil_of_length_eq_zero (by omega)
    cases ao with
    | none => exact Src.ofNil w Try.underlying22 cap
    | some a => exact Src.ofSlice w Try.underlying22 a 0 cap [] (by simp) (fun j u hu => by simp at hu) (by simp)
theorem Bts.convert {B : Nat} {w : World} {v : Value} {xs : List UInt8} (h : Bts B w v xs) : (convert 22 9 v).run Try.prog w = .ok (.string ⟨xs.toArray⟩) w := by
  obtain ⟨ao, cap, rfl, hc⟩ := h
  by_cases hp : 0 < xs.length
  · obtain ⟨b, off, rfl, _, hc⟩ := hc hp
    exact run_convert_bytes_back w 22 9 5 _ cap xs Try.underlying22 Try.underlying5 Try.underlying9 (fun j hj => by rw [Addr.add_lit]; exact hc j hj)
  · obtain rfl : xs = [] := List.eq_nil_of_length_eq_zero (by omega)
    cases ao with
    | none => exact run_convert_bytes_nil w 22 5 Try.underlying22 Try.underlying5 0 cap 9 Try.underlying9
    | some a => exact run_convert_bytes_back w 22 9 5 a cap [] Try.underlying22 Try.underlying5 Try.underlying9 (fun j hj => absurd hj (Nat.not_lt_zero _))

end Go.Proofs.Ytdecljdhdclmoaa
