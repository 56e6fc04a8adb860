/-
  The probe of the seat's laws: units are taken, dropped, settled, and taken again: it answers true.
-/
import Derived.Test.YtompkoihmjenjaaTake
namespace Go.Proofs.Ytompkoihmjenjaa
open Go.RowKit

theorem take_exact {p c : Nat} {cs : List Int} {n : Nat} {w : World} (f : Nat) (hn : 1 ≤ n) (hn2 : n ≤ 9223372036854775807) (H : Has w p c cs) (hf : freeAt cs n f) (hb : ∀ g, g < f → ¬ freeAt cs n g) :
    Calls Try.prog 11 #[.pointer (some ⟨p, 0, none⟩), .int .i64 n] w fun e w' => e = .returned (.tuple #[.int .i64 f, .int .i64 0]) ∧ Wrote c (upd cs f n (fun _ => 1)) w w' := by
  refine (take_some w p c cs n hn hn2 H).mono ?_
  rintro e w' (⟨g, he, hg, hgb, hw⟩ | ⟨_, hno, _⟩)
  · obtain rfl : g = f := by
      rcases Nat.lt_trichotomy g f with h | h | h
      · exact absurd hg (hb g h)
      · exact h
      · exact absurd hf (hgb f h)
    exact ⟨he, hw⟩
  · exact absurd hf (hno f)
theorem take_none {p c : Nat} {cs : List Int} {n : Nat} {w : World} (hn : 1 ≤ n) (hn2 : n ≤ 9223372036854775807) (H : Has w p c cs) (hb : ∀ g, ¬ freeAt cs n g) :
    Calls Try.prog 11 #[.pointer (some ⟨p, 0, none⟩), .int .i64 n] w fun e w' => e = .returned (.tuple #[.int .i64 0, .int .i64 7]) ∧ w = w' := by
  refine (take_some w p c cs n hn hn2 H).mono ?_
  rintro e w' (⟨g, _, hg, _⟩ | ⟨he, _, hw⟩)
  · exact absurd hg (hb g)
  · exact ⟨he, hw⟩

theorem Wrote.below {c B : Nat} {xs : List Int} {w w' : World} (h : Wrote c xs w w') (hc : B ≤ c) (hB : B ≤ w.heap.size) : Below B w w' :=
  h.keep.below (fun _ e => by rw [e]; exact hc) hB
theorem Made.below {n B p c : Nat} {w w' : World} (h : Made n w w' p c) (hB : B ≤ w.heap.size) : Below B w w' :=
  h.keep.below (fun _ e => e.elim) hB

theorem Has.below {w w' : World} {p c : Nat} {cs : List Int} (h : Has w p c cs) (hb : Below w.heap.size w w') : Has w' p c cs :=
  ⟨by rw [hb.block _ (row_lt h.ptr)]; exact h.ptr, by rw [hb.block _ (row_lt h.row)]; exact h.row, h.len⟩

/-- no row of one free unit, where none is free -/
theorem none_free {cs : List Int} (h : ∀ i, i < cs.length → cs.getD i 0 ≠ 0) (g : Nat) : ¬ freeAt cs 1 g := by
  rintro ⟨h1, h2⟩
  exact h g (by omega) (h2 0 (by omega))

set_option maxHeartbeats 1000000 in
theorem alive_any (w : World) : Calls Try.prog 10 #[] w fun e w' => e = .returned (.bool true) ∧ Below w.heap.size w w' := by
  go_enter Try.func10, Try.ntmps10
  go_wp2_with fail
  refine (new_good _ 4 (by omega) (by omega)).mono ?_
  rintro e w1 ⟨p, c, rfl, h1⟩
  have H1 : Has w1 p c [0, 0, 0, 0] := h1.has
  have hc := h1.cnew
  have b1 := h1.below (Nat.le_refl _)
  clear h1
  go_wp2_with fail
  refine (take_exact (n := 2) 0 (by omega) (by omega) H1 (by unfold freeAt; decide) (fun g hg => absurd hg (Nat.not_lt_zero _))).mono ?_
  rintro e w2 ⟨rfl, h2⟩
  have H2 : Has w2 p c [1, 1, 0, 0] := h2.has H1 rfl
  have b2 := b1.trans (h2.below hc b1.size)
  clear h2 b1 H1
  go_wp2_with fail
  refine (take_exact (n := 2) 2 (by omega) (by omega) H2 (by unfold freeAt; decide) (by unfold freeAt; decide)).mono ?_
  rintro e w3 ⟨rfl, h3⟩
  have H3 : Has w3 p c [1, 1, 1, 1] := h3.has H2 rfl
  have b3 := b2.trans (h3.below hc b2.size)
  clear h3 b2 H2
  go_wp2_with fail
  refine (take_none (n := 1) (by omega) (by omega) H3 (none_free (by decide))).mono ?_
  rintro e w4 ⟨rfl, rfl⟩
  go_wp2_with fail
  refine (drop_some _ p c _ 0 1 (by omega) (by decide) H3).mono ?_
  rintro e w4 ⟨rfl, h4⟩
  rw [show goneOf [1, 1, 1, 1] 0 1 = 1 from by decide, show heldErr [1, 1, 1, 1] 0 1 = 0 from by decide]
  have H4 : Has w4 p c [-1, 1, 1, 1] := h4.has H3 rfl
  have b4 := b3.trans (h4.below hc b3.size)
  clear h4 b3 H3
  go_wp2_with fail
  refine (take_none (n := 1) (by omega) (by omega) H4 (none_free (by decide))).mono ?_
  rintro e w5 ⟨rfl, rfl⟩
  go_wp2_with fail
  refine (settle_some _ p c _ (by decide) H4).mono ?_
  rintro e w5 ⟨rfl, h5⟩
  rw [show cnt (-1) [-1, 1, 1, 1] = 1 from by decide]
  have H5 : Has w5 p c [0, 1, 1, 1] := h5.has H4 rfl
  have b5 := b4.trans (h5.below hc b4.size)
  clear h5 b4 H4
  go_wp2_with fail
  refine (take_exact (n := 1) 0 (by omega) (by omega) H5 (by unfold freeAt; decide) (fun g hg => absurd hg (Nat.not_lt_zero _))).mono ?_
  rintro e w6 ⟨rfl, h6⟩
  have b6 := b5.trans (h6.below hc b5.size)
  clear h6 b5 H5
  go_wp2
  go_ret
  exact ⟨rfl, b6⟩
end Go.Proofs.Ytompkoihmjenjaa
