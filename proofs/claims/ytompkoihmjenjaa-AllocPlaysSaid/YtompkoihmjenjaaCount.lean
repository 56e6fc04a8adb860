/-
  What Count, held, Share and Drop of the seat's allocator do, and the loops below them.
-/
import Derived.Test.YtompkoihmjenjaaRead
namespace Go.Proofs.Ytompkoihmjenjaa
open Go.RowKit

/-- what Count answers -/
def countAt (cs : List Int) (i : Int) : Int := if 0 ≤ i ∧ i < cs.length then max (cs.getD i.toNat 0) 0 else 0

theorem count_nil (w : World) (i : Int) : Calls Try.prog 16 #[.pointer none, .int .i64 i] w fun e w' => e = .returned (.int .i64 0) ∧ w = w' := by
  go_enter Try.func16, Try.ntmps16
  go_wp2_with (go_at_call 26; refine (ok_nil _).mono ?_; rintro e w' ⟨rfl, rfl⟩)
  go_ret
  exact ⟨rfl, rfl⟩
theorem count_bare (w : World) (p : Nat) (i : Int) (h : w.cell? ⟨p, 0, none⟩ = some (.slice none 0 0)) : Calls Try.prog 16 #[.pointer (some ⟨p, 0, none⟩), .int .i64 i] w fun e w' => e = .returned (.int .i64 0) ∧ w = w' := by
  go_enter Try.func16, Try.ntmps16
  go_wp2_with (go_at_call 26; refine (ok_bare _ _ h).mono ?_; rintro e w' ⟨rfl, rfl⟩)
  go_ret
  exact ⟨rfl, rfl⟩
set_option maxHeartbeats 400000 in
theorem count_some (w : World) (p c : Nat) (cs : List Int) (i : Int) (H : Has w p c cs) :
   Calls Try.prog 16 #[.pointer (some ⟨p, 0, none⟩), .int .i64 i] w fun e w' => e = .returned (.int .i64 (countAt cs i)) ∧ w = w' := by
  have h := H.cell
  have hl := H.len
  by_cases h1 : i < 0
  · have e : countAt cs i = 0 := if_neg (by omega)
    rw [e]; clear e
    go_enter Try.func16, Try.ntmps16
    go_wp2_with (go_at_call 26; refine (ok_some _ _ _ _ _ h).mono ?_; rintro e w' ⟨rfl, rfl⟩)
    go_ret
    exact ⟨rfl, rfl⟩
  · obtain ⟨n, rfl⟩ := Int.eq_ofNat_of_zero_le (by omega : 0 ≤ i)
    by_cases h2 : cs.length ≤ n
    · have e : countAt cs n = 0 := if_neg (by omega)
      rw [e]; clear e
      go_enter Try.func16, Try.ntmps16
      go_wp2_with (go_at_call 26; refine (ok_some _ _ _ _ _ h).mono ?_; rintro e w' ⟨rfl, rfl⟩)
      go_ret
      exact ⟨rfl, rfl⟩
    · have hc := H.at n (by omega)
      have e : countAt cs n = max (cs.getD n 0) 0 := if_pos (by omega)
      rw [e]; clear e
      generalize cs.getD n 0 = v at *
      go_enter Try.func16, Try.ntmps16
      go_wp2_with (go_at_call 26; refine (ok_some _ _ _ _ _ h).mono ?_; rintro e w' ⟨rfl, rfl⟩)
      all_goals
        go_ret
        exact ⟨ret_int (by omega), rfl⟩

/-- may the units be held once more, or less? the error -/
def heldErr (cs : List Int) (f n : Int) : Int :=
  if n < 1 ∨ f < 0 ∨ (cs.length : Int) < n ∨ (cs.length : Int) - n < f then 1
  else if ((cs.drop f.toNat).take n.toNat).any (fun x => decide (x ≤ 0)) then 9 else 0

theorem idx_any (l : List Int) (q : Int → Bool) : (0 ≤ idxOf q l) ↔ l.any q = true := by
  unfold idxOf
  constructor
  · intro h
    split at h
    · rename_i h'
      rw [List.any_eq_true]
      exact ⟨_, List.getElem_mem h', List.findIdx_getElem⟩
    · omega
  · intro h
    rw [List.any_eq_true] at h
    obtain ⟨x, hx, hq⟩ := h
    have := List.findIdx_lt_length_of_exists ⟨x, hx, hq⟩
    rw [if_pos this]; omega

theorem seg_get (cs : List Int) (f n i : Nat) (_h : f + n ≤ cs.length) (hi : i < ((cs.drop f).take n).length) : ((cs.drop f).take n).getD i 0 = cs.getD (f + i) 0 := by
  have hi' : i < n := by simp at hi; omega
  simp [List.getD, hi']
theorem seg_len (cs : List Int) (f n : Nat) (h : f + n ≤ cs.length) : ((cs.drop f).take n).length = n := by simp; omega

/-- what held answers, by its error -/
def heldVal (c : Nat) (cs : List Int) (f n : Int) : Value :=
  if heldErr cs f n = 0 then .slice (some ⟨c, f.toNat, none⟩) n.toNat (cs.length - f.toNat) else .slice none 0 0

set_option maxHeartbeats 1000000 in
theorem held_some (w : World) (p c : Nat) (cs : List Int) (f n : Int) (hn : n ≤ 9223372036854775807) (H : Has w p c cs) :
   Calls Try.prog 29 #[.pointer (some ⟨p, 0, none⟩), .int .i64 f, .int .i64 n] w fun e w' => e = .returned (.tuple #[heldVal c cs f n, .int .i64 (heldErr cs f n)]) ∧ w = w' := by
  have h := H.cell
  have hl := H.len
  by_cases hbad : n < 1 ∨ f < 0 ∨ (cs.length : Int) < n ∨ (cs.length : Int) - n < f
  · have e : heldErr cs f n = 1 := if_pos hbad
    unfold heldVal
    rw [e]; clear e
    simp only [if_neg (by omega : ¬ (1 : Int) = 0)]
    by_cases h1 : n < 1
    · go_enter Try.func29, Try.ntmps29
      go_wp2_with (go_at_call 26; refine (ok_some _ _ _ _ _ h).mono ?_; rintro e w' ⟨rfl, rfl⟩)
      go_ret2
      exact ⟨rfl, rfl⟩
    · by_cases h2 : f < 0
      · go_enter Try.func29, Try.ntmps29
        go_wp2_with (go_at_call 26; refine (ok_some _ _ _ _ _ h).mono ?_; rintro e w' ⟨rfl, rfl⟩)
        go_ret2
        exact ⟨rfl, rfl⟩
      · by_cases h3 : (cs.length : Int) < n
        · go_enter Try.func29, Try.ntmps29
          go_wp2_with (go_at_call 26; refine (ok_some _ _ _ _ _ h).mono ?_; rintro e w' ⟨rfl, rfl⟩)
          go_ret2
          exact ⟨rfl, rfl⟩
        · have h4 : (cs.length : Int) - n < f := by omega
          go_enter Try.func29, Try.ntmps29
          go_wp2_with (go_at_call 26; refine (ok_some _ _ _ _ _ h).mono ?_; rintro e w' ⟨rfl, rfl⟩)
          go_ret2
          exact ⟨rfl, rfl⟩
  · obtain ⟨f, rfl⟩ := Int.eq_ofNat_of_zero_le (by omega : 0 ≤ f)
    obtain ⟨n, rfl⟩ := Int.eq_ofNat_of_zero_le (by omega : 0 ≤ n)
    have hfn : f + n ≤ cs.length := by omega
    have hn1 : 1 ≤ n := by omega
    have hc : ∀ i, i < ((cs.drop f).take n).length → w.cell? ⟨c, f + i, none⟩ = some (.int .i64 (((cs.drop f).take n).getD i 0)) := by
      intro i hi
      rw [seg_get _ _ _ _ hfn hi]
      exact H.at _ (by simp at hi; omega)
    have hsl := seg_len cs f n hfn
    have hk := contains_np w c f (cs.length - f) ((cs.drop f).take n) (by omega) hc
    rw [hsl] at hk
    clear hsl hc
    have hee : heldErr cs f n = if ((cs.drop f).take n).any (fun x => decide (x ≤ 0)) then 9 else 0 := if_neg hbad
    have hia := idx_any ((cs.drop f).take n) (fun x => decide (x ≤ 0))
    clear hbad
    by_cases ha : ((cs.drop f).take n).any (fun x => decide (x ≤ 0)) = true
    · rw [decide_eq_true (hia.2 ha)] at hk
      rw [if_pos ha] at hee
      unfold heldVal
      rw [hee]
      clear hee hia ha
      have HK := hid hk; clear hk
      go_enter Try.func29, Try.ntmps29
      go_wp2_with (first | (go_at_call 26; refine (ok_some _ _ _ _ _ h).mono ?_; rintro e w' ⟨rfl, rfl⟩) | (go_at_call 34; refine (HK.out).mono ?_; rintro e w' ⟨rfl, rfl⟩))
      go_ret2
      exact ⟨rfl, rfl⟩
    · rw [decide_eq_false (fun h => ha (hia.1 h))] at hk
      rw [if_neg ha] at hee
      unfold heldVal
      rw [hee]
      clear hee hia ha
      have HK := hid hk; clear hk
      go_enter Try.func29, Try.ntmps29
      go_wp2_with (first | (go_at_call 26; refine (ok_some _ _ _ _ _ h).mono ?_; rintro e w' ⟨rfl, rfl⟩) | (go_at_call 34; refine (HK.out).mono ?_; rintro e w' ⟨rfl, rfl⟩))
      go_ret2
      exact ⟨rfl, rfl⟩
theorem held_nil (w : World) (f n : Int) :
   Calls Try.prog 29 #[.pointer none, .int .i64 f, .int .i64 n] w fun e w' => e = .returned (.tuple #[.slice none 0 0, .int .i64 2]) ∧ w = w' := by
  go_enter Try.func29, Try.ntmps29
  go_wp2_with (go_at_call 26; refine (ok_nil _).mono ?_; rintro e w' ⟨rfl, rfl⟩)
  go_ret2
  exact ⟨rfl, rfl⟩
theorem held_bare (w : World) (p : Nat) (f n : Int) (h : w.cell? ⟨p, 0, none⟩ = some (.slice none 0 0)) :
   Calls Try.prog 29 #[.pointer (some ⟨p, 0, none⟩), .int .i64 f, .int .i64 n] w fun e w' => e = .returned (.tuple #[.slice none 0 0, .int .i64 2]) ∧ w = w' := by
  go_enter Try.func29, Try.ntmps29
  go_wp2_with (go_at_call 26; refine (ok_bare _ _ h).mono ?_; rintro e w' ⟨rfl, rfl⟩)
  go_ret2
  exact ⟨rfl, rfl⟩
end Go.Proofs.Ytompkoihmjenjaa
