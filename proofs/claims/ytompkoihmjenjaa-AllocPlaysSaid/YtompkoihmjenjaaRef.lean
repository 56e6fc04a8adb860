/-
  The reference's allocator: what its functions answer and write, told by the counts of the program's own.
-/
import Derived.Test.YtompkoihmjenjaaFirst
import Derived.BigQuiet
namespace Go.Proofs.Ytompkoihmjenjaa
open Go.RowKit

/-- the reference's allocator at block r: its counts in block rc, its marks in block rm; cs: as the program's own counts would be -/
structure Ref (w : World) (r rc rm : Nat) (cs : List Int) : Prop where
  ptr : w.heap[r]? = some (.cells #[.slice (some ⟨rc, 0, none⟩) cs.length cs.length, .slice (some ⟨rm, 0, none⟩) cs.length cs.length] 42 (0, 0))
  row : w.heap[rc]? = some (.cells (ints (cs.map settleG)) 3 (0, 0))
  marks : w.heap[rm]? = some (.cells (bools (cs.map (· == -1))) 4 (0, 0))
  len : cs.length ≤ 4096
namespace Ref
variable {w : World} {r rc rm : Nat} {cs : List Int}
theorem p0 (h : Ref w r rc rm cs) : w.cell? ⟨r, 0, none⟩ = some (.slice (some ⟨rc, 0, none⟩) cs.length cs.length) := by
  rw [row_cell h.ptr]; rfl
theorem p1 (h : Ref w r rc rm cs) : w.cell? ⟨r, 1, none⟩ = some (.slice (some ⟨rm, 0, none⟩) cs.length cs.length) := by
  rw [row_cell h.ptr]; rfl
theorem at_ (h : Ref w r rc rm cs) (i : Nat) (hi : i < cs.length) : w.cell? ⟨rc, i, none⟩ = some (.int .i64 (settleG (cs.getD i 0))) := by
  rw [row_cell h.row, ints_get _ _ (by simpa using hi)]; simp [List.getD, hi]
theorem mark (h : Ref w r rc rm cs) (i : Nat) (hi : i < cs.length) : w.cell? ⟨rm, i, none⟩ = some (.bool (cs.getD i 0 == -1)) := by
  rw [row_cell h.marks, bools_get _ _ (by simpa using hi)]; simp [List.getD, hi]
theorem free1 (h : Ref w r rc rm cs) (i : Nat) : w.frozen? ⟨rc, i, none⟩ = false := row_free h.row i
theorem free2 (h : Ref w r rc rm cs) (i : Nat) : w.frozen? ⟨rm, i, none⟩ = false := row_free h.marks i
theorem n1 (h : Ref w r rc rm cs) : r ≠ rc := by intro e; have h1 := h.ptr; rw [e, h.row] at h1; simp at h1
theorem n2 (h : Ref w r rc rm cs) : r ≠ rm := by intro e; have h1 := h.ptr; rw [e, h.marks] at h1; simp at h1
theorem n3 (h : Ref w r rc rm cs) : rc ≠ rm := by intro e; have h1 := h.row; rw [e, h.marks] at h1; simp at h1
/-- a store that leaves the marks -/
theorem set (h : Ref w r rc rm cs) (i : Nat) (y v : Int) (hv : v = settleG y) (hm : (y == -1) = (cs.getD i 0 == -1)) : Ref (w.setCell ⟨rc, i, none⟩ (.int .i64 v)) r rc rm (cs.set i y) := by
  refine ⟨?_, ?_, ?_, by simpa using h.len⟩
  · rw [List.length_set]; exact row_other h.ptr h.n1 _
  · rw [row_set h.row, ints_set, hv, List.map_set]
  · have : (cs.set i y).map (· == -1) = cs.map (· == -1) := by
      rw [List.map_set, hm]
      apply List.ext_getElem
      · simp
      · intro j h1 h2
        rw [List.getElem_set]
        by_cases e : i = j
        · subst e
          have : i < cs.length := by simpa using h2
          simp [List.getD, this]
        · rw [if_neg e]
    rw [this]
    exact row_other h.marks (fun e => h.n3 e.symm) _
/-- a unit that comes to 0 waits -/
theorem wait (h : Ref w r rc rm cs) (i : Nat) : Ref ((w.setCell ⟨rc, i, none⟩ (.int .i64 0)).setCell ⟨rm, i, none⟩ (.bool true)) r rc rm (cs.set i (-1)) := by
  refine ⟨?_, ?_, ?_, by simpa using h.len⟩
  · rw [List.length_set]; exact row_other (row_other h.ptr h.n1 _) h.n2 _
  · refine row_other ?_ h.n3 _
    rw [row_set h.row, ints_set, List.map_set]; rfl
  · rw [row_set (row_other h.marks (fun e => h.n3 e.symm) _), bools_set, List.map_set]; rfl
end Ref
/-- the blocks of the reference's allocator -/
abbrev Three (r rc rm : Nat) : Nat → Prop := fun k => k = r ∨ k = rc ∨ k = rm

set_option maxHeartbeats 400000 in
theorem rfree_any (w : World) (r rc rm : Nat) (cs : List Int) (H : Ref w r rc rm cs) (i : Nat) (hi : i < cs.length) (hlo : -1 ≤ cs.getD i 0) :
    Calls Try.prog 32 #[.pointer (some ⟨r, 0, none⟩), .int .i64 i] w fun e w' => e = .returned (.bool (cs.getD i 0 == 0)) ∧ w = w' := by
  have h0 := H.p0
  have h1 := H.p1
  have h2 := H.at_ i hi
  have h3 := H.mark i hi
  have hl := H.len
  generalize cs.getD i 0 = y at *
  rcases (by omega : y = -1 ∨ y = 0 ∨ 1 ≤ y) with rfl | rfl | hy
  · rw [show settleG (-1) = 0 from rfl] at h2
    go_enter Try.func32, Try.ntmps32
    go_wp2
    go_ret
    exact ⟨rfl, rfl⟩
  · rw [show settleG 0 = 0 from rfl] at h2
    go_enter Try.func32, Try.ntmps32
    go_wp2
    go_ret
    exact ⟨rfl, rfl⟩
  · rw [show settleG y = y by unfold settleG; omega] at h2
    have e1 : (y == 0) = false := beq_eq_false_iff_ne.2 (by omega)
    have e2 : (y == -1) = false := beq_eq_false_iff_ne.2 (by omega)
    rw [e1]
    go_enter Try.func32, Try.ntmps32
    go_wp2
    go_ret
    exact ⟨rfl, rfl⟩

set_option maxHeartbeats 400000 in
theorem rcount_any (w : World) (r rc rm : Nat) (cs : List Int) (i : Int) (H : Ref w r rc rm cs) :
   Calls Try.prog 25 #[.pointer (some ⟨r, 0, none⟩), .int .i64 i] w fun e w' => e = .returned (.int .i64 (countAt cs i)) ∧ w = w' := by
  have h := H.p0
  have hl := H.len
  by_cases h1 : i < 0
  · have e : countAt cs i = 0 := if_neg (by omega)
    rw [e]; clear e
    go_enter Try.func25, Try.ntmps25
    go_wp2
    go_ret
    exact ⟨rfl, rfl⟩
  · obtain ⟨n, rfl⟩ := Int.eq_ofNat_of_zero_le (by omega : 0 ≤ i)
    by_cases h2 : cs.length ≤ n
    · have e : countAt cs n = 0 := if_neg (by omega)
      rw [e]; clear e
      go_enter Try.func25, Try.ntmps25
      go_wp2
      go_ret
      exact ⟨rfl, rfl⟩
    · have hc := H.at_ n (by omega)
      have e : countAt cs n = settleG (cs.getD n 0) := if_pos (by omega)
      rw [e]; clear e
      generalize settleG (cs.getD n 0) = v at *
      go_enter Try.func25, Try.ntmps25
      go_wp2
      go_ret
      exact ⟨rfl, rfl⟩

/-- of the first k -/
theorem cnt_step (v : Int) (cs : List Int) (k : Nat) (hk : k < cs.length) : cnt v (cs.take (k + 1)) = cnt v (cs.take k) + (if cs.getD k 0 = v then 1 else 0) := by
  have e0 : cs.getD k 0 = cs[k] := by simp [List.getD, hk]
  by_cases e : cs.getD k 0 = v
  · rw [if_pos e]; exact cnt_hit v cs k hk (by rw [← e0, e]; simp)
  · rw [if_neg e]; exact cnt_miss v cs k hk (by rw [← e0]; simpa using e)

set_option maxHeartbeats 400000 in
theorem rfreecount (w : World) (r rc rm : Nat) (cs : List Int) (hlo : ∀ x ∈ cs, -1 ≤ x) (H : Ref w r rc rm cs) :
   Calls Try.prog 22 #[.pointer (some ⟨r, 0, none⟩)] w fun e w' => e = .returned (.int .i64 (cnt 0 cs)) ∧ w = w' := by
  have h := H.p0
  have hl := H.len
  go_enter Try.func22, Try.ntmps22
  go_wp2
  go_loop [3, 4] (fun n i => ∃ k : Nat, k ≤ cs.length ∧ i = .int .i64 k ∧ n = .int .i64 (cnt 0 (cs.take k))) (fun _ i => cs.length - (intOf i).toNat)
  case atStart => exact ⟨0, Nat.zero_le _, rfl, rfl⟩
  case round =>
    obtain ⟨k, hk, rfl, rfl⟩ := hrel
    by_cases hkl : k < cs.length
    · have hfr := hid (rfree_any w r rc rm cs H k hkl (hlo _ (getD_mem hkl)))
      have hst := cnt_step 0 cs k hkl
      have hd := cnt_le 0 (cs.take k)
      have hd2 : (cs.take k).length ≤ k := List.length_take_le _ _
      by_cases e : cs.getD k 0 = 0
      · rw [if_pos e] at hst
        rw [e] at hfr
        have HST := hid hst
        clear hst e
        go_wp2_with (go_at_call 32; refine hfr.out.mono ?_; rintro e w' ⟨rfl, rfl⟩)
        go_round
        case rel => exact ⟨k + 1, by omega, by go_num, by rw [HST.out]; go_num⟩
        case measure => simp [intOf] <;> omega
      · rw [if_neg e] at hst
        have e' : (cs.getD k 0 == 0) = false := beq_eq_false_iff_ne.2 e
        rw [e'] at hfr
        have HST := hid hst
        clear hst e e'
        go_wp2_with (go_at_call 32; refine hfr.out.mono ?_; rintro e w' ⟨rfl, rfl⟩)
        go_round
        case rel => exact ⟨k + 1, by omega, by go_num, by rw [HST.out]; rfl⟩
        case measure => simp [intOf] <;> omega
    · go_wp2
      go_ret
      exact ⟨ret_int (by rw [List.take_of_length_le (by omega)]), rfl⟩

set_option maxHeartbeats 400000 in
theorem rwaiting (w : World) (r rc rm : Nat) (cs : List Int) (H : Ref w r rc rm cs) :
   Calls Try.prog 24 #[.pointer (some ⟨r, 0, none⟩)] w fun e w' => e = .returned (.int .i64 (cnt (-1) cs)) ∧ w = w' := by
  have h := H.p1
  have hl := H.len
  go_enter Try.func24, Try.ntmps24
  go_wp2
  go_loop [3, 4] (fun n i => ∃ k : Nat, k ≤ cs.length ∧ i = .int .i64 k ∧ n = .int .i64 (cnt (-1) (cs.take k))) (fun _ i => cs.length - (intOf i).toNat)
  case atStart => exact ⟨0, Nat.zero_le _, rfl, rfl⟩
  case round =>
    obtain ⟨k, hk, rfl, rfl⟩ := hrel
    by_cases hkl : k < cs.length
    · have hm := H.mark k hkl
      have hst := cnt_step (-1) cs k hkl
      have hd := cnt_le (-1) (cs.take k)
      have hd2 : (cs.take k).length ≤ k := List.length_take_le _ _
      by_cases e : cs.getD k 0 = -1
      · rw [if_pos e] at hst
        rw [e] at hm
        have HST := hid hst
        clear hst e
        go_wp2
        go_round
        case rel => exact ⟨k + 1, by omega, by go_num, by rw [HST.out]; go_num⟩
        case measure => simp [intOf] <;> omega
      · rw [if_neg e] at hst
        have e' : (cs.getD k 0 == -1) = false := beq_eq_false_iff_ne.2 e
        rw [e'] at hm
        have HST := hid hst
        clear hst e e'
        go_wp2
        go_round
        case rel => exact ⟨k + 1, by omega, by go_num, by rw [HST.out]; rfl⟩
        case measure => simp [intOf] <;> omega
    · go_wp2
      go_ret
      exact ⟨ret_int (by rw [List.take_of_length_le (by omega)]), rfl⟩
end Go.Proofs.Ytompkoihmjenjaa
