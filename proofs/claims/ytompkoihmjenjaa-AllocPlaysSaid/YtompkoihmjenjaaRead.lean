import Derived.Test.YtompkoihmjenjaaProg
import Derived.Test.YtompkoihmjenjaaKit
namespace Go.Proofs.Ytompkoihmjenjaa
open Go.RowKit

/-- the allocator at block p: its counts are xs, in block c -/
structure Has (w : World) (p c : Nat) (xs : List Int) : Prop where
  ptr : w.heap[p]? = some (.cells #[.slice (some ⟨c, 0, none⟩) xs.length xs.length] 50 (0, 0))
  row : w.heap[c]? = some (.cells (ints xs) 3 (0, 0))
  len : xs.length ≤ 4096
theorem Has.cell {w : World} {p c : Nat} {xs : List Int} (h : Has w p c xs) : w.cell? ⟨p, 0, none⟩ = some (.slice (some ⟨c, 0, none⟩) xs.length xs.length) := by
  rw [row_cell h.ptr]; rfl
theorem Has.at {w : World} {p c : Nat} {xs : List Int} (h : Has w p c xs) (i : Nat) (hi : i < xs.length) : w.cell? ⟨c, i, none⟩ = some (.int .i64 (xs.getD i 0)) := by
  rw [row_cell h.row]; exact ints_get _ _ hi

theorem ok_nil (w : World) : Calls Try.prog 26 #[.pointer none] w fun e w' => e = .returned (.bool false) ∧ w = w' := by
  go_enter Try.func26, Try.ntmps26
  go_wp2
  go_ret
  exact ⟨rfl, rfl⟩
theorem ok_bare (w : World) (p : Nat) (h : w.cell? ⟨p, 0, none⟩ = some (.slice none 0 0)) : Calls Try.prog 26 #[.pointer (some ⟨p, 0, none⟩)] w fun e w' => e = .returned (.bool false) ∧ w = w' := by
  have k := fun ww a n c => run_neq_slice_nil_any (P := Try.prog) ww 37 3 a n c 0 0 Try.underlying37
  go_enter Try.func26, Try.ntmps26
  go_wp2
  go_ret
  exact ⟨rfl, rfl⟩
theorem ok_some (w : World) (p : Nat) (c : Nat) (n m : Nat) (h : w.cell? ⟨p, 0, none⟩ = some (.slice (some ⟨c, 0, none⟩) n m)) : Calls Try.prog 26 #[.pointer (some ⟨p, 0, none⟩)] w fun e w' => e = .returned (.bool true) ∧ w = w' := by
  have k := fun ww a n c => run_neq_slice_nil_any (P := Try.prog) ww 37 3 a n c 0 0 Try.underlying37
  go_enter Try.func26, Try.ntmps26
  go_wp2
  go_ret
  exact ⟨rfl, rfl⟩

theorem nz_any (w : World) (x : Int) : Calls Try.prog 28 #[.int .i64 x] w fun e w' => e = .returned (.bool (x != 0)) ∧ w = w' := by
  go_enter Try.func28, Try.ntmps28
  go_wp2
  go_ret
  exact ⟨rfl, rfl⟩
theorem np_any (w : World) (x : Int) : Calls Try.prog 35 #[.int .i64 x] w fun e w' => e = .returned (.bool (decide (x ≤ 0))) ∧ w = w' := by
  go_enter Try.func35, Try.ntmps35
  go_wp2
  go_ret
  exact ⟨rfl, rfl⟩

/-- the index that IndexFunc answers -/
def idxOf (q : Int → Bool) (l : List Int) : Int := if l.findIdx q < l.length then l.findIdx q else -1

theorem findIdx_step {q : Int → Bool} {l : List Int} {k : Nat} (hk : k ≤ l.findIdx q) (hl : k < l.length) (h : q l[k] = false) : k + 1 ≤ l.findIdx q := by
  rcases Nat.lt_or_ge k (l.findIdx q) with h' | h'
  · exact h'
  · have e : k = l.findIdx q := by omega
    subst e
    have := List.findIdx_getElem (p := q) (xs := l) (w := hl)
    rw [h] at this; simp at this

theorem ret_int {k : IntKind} {a b : Int} (h : a = b) : Ending.returned (.int k a) = .returned (.int k b) := by rw [h]
theorem idx_hit {q : Int → Bool} {l : List Int} {k : Nat} (hk : k ≤ l.findIdx q) (hl : k < l.length) (h : q l[k] = true) : (k : Int) = idxOf q l := by
  have : l.findIdx q = k := by
    rcases Nat.lt_or_ge k (l.findIdx q) with h' | h'
    · have := List.not_of_lt_findIdx h'; rw [h] at this; simp at this
    · omega
  unfold idxOf; rw [this, if_pos hl]
theorem idx_miss {q : Int → Bool} {l : List Int} {k : Nat} (hk : k ≤ l.findIdx q) (hl : ¬ k < l.length) : (-1 : Int) = idxOf q l := by
  unfold idxOf; rw [if_neg (by omega)]

set_option maxHeartbeats 400000 in
theorem index_nz (w : World) (c o m : Nat) (l : List Int) (hl : l.length ≤ 4096)
   (hc : ∀ i, i < l.length → w.cell? ⟨c, o + i, none⟩ = some (.int .i64 (l.getD i 0))) :
   Calls Try.prog 27 #[.slice (some ⟨c, o, none⟩) l.length m, .func (.func 28) #[] #[]] w fun e w' => e = .returned (.int .i64 (idxOf (· != 0) l)) ∧ w = w' := by
  go_enter Try.func27, Try.ntmps27
  go_wp2
  go_loop [8] (fun i => ∃ k : Nat, k ≤ l.findIdx (· != 0) ∧ i = .int .i64 k) (fun i => l.length - (intOf i).toNat)
  case atStart => exact ⟨0, Nat.zero_le _, rfl⟩
  case round =>
    obtain ⟨k, hk, rfl⟩ := hrel
    have hle := List.findIdx_le_length (p := (· != 0)) (xs := l)
    have hcell : k < l.length → w.cell? ⟨c, o + k, none⟩ = some (.int .i64 (l.getD k 0)) := fun _ => hc k (by omega)
    go_wp2_with (go_at_call 28; refine (nz_any _ _).mono ?_; rintro e w' ⟨rfl, rfl⟩)
    · have hlt : k < l.length := by assumption
      have hq : (l[k] != 0) = true := by assumption
      go_ret
      exact ⟨ret_int (idx_hit (q := (· != 0)) hk hlt hq), rfl⟩
    · have hlt : k < l.length := by assumption
      have hq : (l[k] != 0) = false := by assumption
      go_round
      case rel => exact ⟨k + 1, findIdx_step (q := (· != 0)) hk hlt hq, by go_num⟩
      case measure => simp [intOf]; omega
    · have hlt : ¬ k < l.length := by assumption
      go_ret
      exact ⟨ret_int (idx_miss hk hlt), rfl⟩
set_option maxHeartbeats 400000 in
theorem index_np (w : World) (c o m : Nat) (l : List Int) (hl : l.length ≤ 4096)
   (hc : ∀ i, i < l.length → w.cell? ⟨c, o + i, none⟩ = some (.int .i64 (l.getD i 0))) :
   Calls Try.prog 27 #[.slice (some ⟨c, o, none⟩) l.length m, .func (.func 35) #[] #[]] w fun e w' => e = .returned (.int .i64 (idxOf (fun x => decide (x ≤ 0)) l)) ∧ w = w' := by
  go_enter Try.func27, Try.ntmps27
  go_wp2
  go_loop [8] (fun i => ∃ k : Nat, k ≤ l.findIdx (fun x => decide (x ≤ 0)) ∧ i = .int .i64 k) (fun i => l.length - (intOf i).toNat)
  case atStart => exact ⟨0, Nat.zero_le _, rfl⟩
  case round =>
    obtain ⟨k, hk, rfl⟩ := hrel
    have hle := List.findIdx_le_length (p := (fun x : Int => decide (x ≤ 0))) (xs := l)
    have hcell : k < l.length → w.cell? ⟨c, o + k, none⟩ = some (.int .i64 (l.getD k 0)) := fun _ => hc k (by omega)
    go_wp2_with (go_at_call 35; refine (np_any _ _).mono ?_; rintro e w' ⟨rfl, rfl⟩)
    · have hlt : k < l.length := by assumption
      have hq : l[k] ≤ 0 := by assumption
      go_ret
      exact ⟨ret_int (idx_hit (q := (fun x => decide (x ≤ 0))) hk hlt (by simpa using hq)), rfl⟩
    · have hlt : k < l.length := by assumption
      have hq : 0 < l[k] := by assumption
      go_round
      case rel => exact ⟨k + 1, findIdx_step (q := (fun x => decide (x ≤ 0))) hk hlt (by simpa using hq), by go_num⟩
      case measure => simp [intOf]; omega
    · have hlt : ¬ k < l.length := by assumption
      go_ret
      exact ⟨ret_int (idx_miss hk hlt), rfl⟩

/-- ContainsFunc of 'not held' -/
theorem contains_np (w : World) (c o m : Nat) (l : List Int) (hl : l.length ≤ 4096)
   (hc : ∀ i, i < l.length → w.cell? ⟨c, o + i, none⟩ = some (.int .i64 (l.getD i 0))) :
   Calls Try.prog 34 #[.slice (some ⟨c, o, none⟩) l.length m, .func (.func 35) #[] #[]] w fun e w' => e = .returned (.bool (decide (0 ≤ idxOf (fun x => decide (x ≤ 0)) l))) ∧ w = w' := by
  go_enter Try.func34, Try.ntmps34
  go_wp2_with (go_at_call 27; refine (index_np _ _ _ _ _ hl hc).mono ?_; rintro e w' ⟨rfl, rfl⟩)
  go_ret
  exact ⟨rfl, rfl⟩

def cnt (v : Int) (cs : List Int) : Nat := (cs.filter (· == v)).length
theorem cnt_le (v : Int) (cs : List Int) : cnt v cs ≤ cs.length := List.length_filter_le _ _
theorem cnt_hit (v : Int) (cs : List Int) (k : Nat) (hk : k < cs.length) (h : (cs[k] == v) = true) : cnt v (cs.take (k + 1)) = cnt v (cs.take k) + 1 := by
  unfold cnt
  rw [List.take_succ_eq_append_getElem hk, List.filter_append]
  simp [h]
theorem cnt_miss (v : Int) (cs : List Int) (k : Nat) (hk : k < cs.length) (h : (cs[k] == v) = false) : cnt v (cs.take (k + 1)) = cnt v (cs.take k) := by
  unfold cnt
  rw [List.take_succ_eq_append_getElem hk, List.filter_append]
  simp [h]

set_option maxHeartbeats 400000 in
theorem many_some (w : World) (p c : Nat) (cs : List Int) (v : Int) (H : Has w p c cs) :
   Calls Try.prog 31 #[.pointer (some ⟨p, 0, none⟩), .int .i64 v] w fun e w' => e = .returned (.int .i64 (cnt v cs)) ∧ w = w' := by
  have h := H.cell
  have hc := H.at
  have hl := H.len
  go_enter Try.func31, Try.ntmps31
  go_wp2_with (go_at_call 26; refine (ok_some _ _ _ _ _ h).mono ?_; rintro e w' ⟨rfl, rfl⟩)
  go_loop [5, 14] (fun n i => ∃ k : Nat, k ≤ cs.length ∧ i = .int .i64 k ∧ n = .int .i64 (cnt v (cs.take k))) (fun _ i => cs.length - (intOf i).toNat)
  case atStart => exact ⟨0, Nat.zero_le _, rfl, rfl⟩
  case round =>
    obtain ⟨k, hk, rfl, rfl⟩ := hrel
    have hcell : k < cs.length → w.cell? ⟨c, k, none⟩ = some (.int .i64 (cs.getD k 0)) := fun _ => hc k (by omega)
    have hd := cnt_le v (cs.take k)
    have hd2 : (cs.take k).length ≤ k := List.length_take_le _ _
    go_wp2
    · have hlt : k < cs.length := by assumption
      have hq : (cs[k] == v) = true := by assumption
      go_round
      case rel => exact ⟨k + 1, by omega, by go_num, by rw [cnt_hit v cs k hlt hq]; go_num⟩
      case measure => simp [intOf]; omega
    · have hlt : k < cs.length := by assumption
      have hq : (cs[k] == v) = false := by assumption
      go_round
      case rel => exact ⟨k + 1, by omega, by go_num, by rw [cnt_miss v cs k hlt hq]⟩
      case measure => simp [intOf]; omega
    · have hlt : ¬ k < cs.length := by assumption
      go_ret
      exact ⟨ret_int (by rw [List.take_of_length_le (by omega)]), rfl⟩
theorem many_nil (w : World) (v : Int) : Calls Try.prog 31 #[.pointer none, .int .i64 v] w fun e w' => e = .returned (.int .i64 0) ∧ w = w' := by
  go_enter Try.func31, Try.ntmps31
  go_wp2_with (go_at_call 26; refine (ok_nil _).mono ?_; rintro e w' ⟨rfl, rfl⟩)
  go_ret
  exact ⟨rfl, rfl⟩
theorem many_bare (w : World) (p : Nat) (v : Int) (h : w.cell? ⟨p, 0, none⟩ = some (.slice none 0 0)) : Calls Try.prog 31 #[.pointer (some ⟨p, 0, none⟩), .int .i64 v] w fun e w' => e = .returned (.int .i64 0) ∧ w = w' := by
  go_enter Try.func31, Try.ntmps31
  go_wp2_with (go_at_call 26; refine (ok_bare _ _ h).mono ?_; rintro e w' ⟨rfl, rfl⟩)
  go_ret
  exact ⟨rfl, rfl⟩
theorem free_some (w : World) (p c : Nat) (cs : List Int) (H : Has w p c cs) :
   Calls Try.prog 14 #[.pointer (some ⟨p, 0, none⟩)] w fun e w' => e = .returned (.int .i64 (cnt 0 cs)) ∧ w = w' := by
  go_enter Try.func14, Try.ntmps14
  go_wp2_with (go_at_call 31; refine (many_some _ _ _ _ _ H).mono ?_; rintro e w' ⟨rfl, rfl⟩)
  go_ret
  exact ⟨rfl, rfl⟩
theorem free_nil (w : World) : Calls Try.prog 14 #[.pointer none] w fun e w' => e = .returned (.int .i64 0) ∧ w = w' := by
  go_enter Try.func14, Try.ntmps14
  go_wp2_with (go_at_call 31; refine (many_nil _ _).mono ?_; rintro e w' ⟨rfl, rfl⟩)
  go_ret
  exact ⟨rfl, rfl⟩
theorem free_bare (w : World) (p : Nat) (h : w.cell? ⟨p, 0, none⟩ = some (.slice none 0 0)) : Calls Try.prog 14 #[.pointer (some ⟨p, 0, none⟩)] w fun e w' => e = .returned (.int .i64 0) ∧ w = w' := by
  go_enter Try.func14, Try.ntmps14
  go_wp2_with (go_at_call 31; refine (many_bare _ _ _ h).mono ?_; rintro e w' ⟨rfl, rfl⟩)
  go_ret
  exact ⟨rfl, rfl⟩
theorem waiting_some (w : World) (p c : Nat) (cs : List Int) (H : Has w p c cs) :
   Calls Try.prog 23 #[.pointer (some ⟨p, 0, none⟩)] w fun e w' => e = .returned (.int .i64 (cnt (-1) cs)) ∧ w = w' := by
  go_enter Try.func23, Try.ntmps23
  go_wp2_with (go_at_call 31; refine (many_some _ _ _ _ _ H).mono ?_; rintro e w' ⟨rfl, rfl⟩)
  go_ret
  exact ⟨rfl, rfl⟩
theorem waiting_nil (w : World) : Calls Try.prog 23 #[.pointer none] w fun e w' => e = .returned (.int .i64 0) ∧ w = w' := by
  go_enter Try.func23, Try.ntmps23
  go_wp2_with (go_at_call 31; refine (many_nil _ _).mono ?_; rintro e w' ⟨rfl, rfl⟩)
  go_ret
  exact ⟨rfl, rfl⟩
theorem waiting_bare (w : World) (p : Nat) (h : w.cell? ⟨p, 0, none⟩ = some (.slice none 0 0)) : Calls Try.prog 23 #[.pointer (some ⟨p, 0, none⟩)] w fun e w' => e = .returned (.int .i64 0) ∧ w = w' := by
  go_enter Try.func23, Try.ntmps23
  go_wp2_with (go_at_call 31; refine (many_bare _ _ _ h).mono ?_; rintro e w' ⟨rfl, rfl⟩)
  go_ret
  exact ⟨rfl, rfl⟩
end Go.Proofs.Ytompkoihmjenjaa
