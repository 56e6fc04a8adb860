/-
  AllocNobody: an allocator that nobody made answers an error: the walk.
-/
import Derived.Test.YtompkoihmjenjaaAlive
namespace Go.Proofs.Ytompkoihmjenjaa
open Go.RowKit

set_option maxHeartbeats 2000000 in
theorem nobody_any (w : World) (k f n : Int) : Calls Try.prog 8 #[.agg #[.int .u8 k, .int .i64 f, .int .i64 n]] w fun e w' => e = .returned (.bool true) ∧ Below w.heap.size w w' := by
  go_enter Try.func8, Try.ntmps8
  go_wp2
  refine wp_loop_rounds 3 ?_
  iterate 2 (rw [rounds_succ]; go_wp2_with (first
    | (go_at_call 11; (first | (with_reducible refine (take_nil _ _).mono ?_) | (with_reducible refine (take_bare _ _ _ (by simp [go_sem])).mono ?_)); rintro e w' ⟨rfl, rfl⟩)
    | (go_at_call 12; (first | (with_reducible refine (share_nil _ _ _).mono ?_) | (with_reducible refine (share_bare _ _ _ _ (by simp [go_sem])).mono ?_)); rintro e w' ⟨rfl, rfl⟩)
    | (go_at_call 13; (first | (with_reducible refine (drop_nil _ _ _).mono ?_) | (with_reducible refine (drop_bare _ _ _ _ (by simp [go_sem])).mono ?_)); rintro e w' ⟨rfl, rfl⟩)
    | (go_at_call 14; (first | (with_reducible refine (free_nil _).mono ?_) | (with_reducible refine (free_bare _ _ (by simp [go_sem])).mono ?_)); rintro e w' ⟨rfl, rfl⟩)
    | (go_at_call 15; (first | (with_reducible refine (settle_nil _).mono ?_) | (with_reducible refine (settle_bare _ _ (by simp [go_sem])).mono ?_)); rintro e w' ⟨rfl, rfl⟩)
    | (go_at_call 16; (first | (with_reducible refine (count_nil _ _).mono ?_) | (with_reducible refine (count_bare _ _ _ (by simp [go_sem])).mono ?_)); rintro e w' ⟨rfl, rfl⟩)
    | (go_at_call 23; (first | (with_reducible refine (waiting_nil _).mono ?_) | (with_reducible refine (waiting_bare _ _ (by simp [go_sem])).mono ?_)); rintro e w' ⟨rfl, rfl⟩)))
  rw [rounds_succ]
  go_wp2_with fail
  refine (alive_any _).mono ?_
  rintro e w1 ⟨rfl, hb⟩
  go_wp2
  go_ret
  refine ⟨rfl, Below.trans ?_ (hb.mono (by simp; omega))⟩
  exact (((Below.refl _ _).alloc (by simp) _).alloc (by simp) _).alloc (by simp; omega) _
end Go.Proofs.Ytompkoihmjenjaa
