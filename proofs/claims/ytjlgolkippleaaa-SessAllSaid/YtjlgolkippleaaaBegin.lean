/-
  The sessions' End: Begin.
-/
import Derived.Test.YtjlgolkippleaaaTake
namespace Go.Proofs.Ytjlgolkippleaaa
open Go.RowKit

theorem EndAt.field {B p q : Nat} {w : World} {E E' : ES} (h : EndAt B w p q E) (i : Nat) (v : Value) (hE : ∀ u, (endCells E u).setIfInBounds i v = endCells E' u) (ho : E'.opened = E.opened) :
    EndAt B (w.setCell ⟨p, i, none⟩ v) p q E' := by
  obtain ⟨u, vs, hb, hr, hx⟩ := h.block
  have hm : Mut B w (One p) := mut_one h.pB hb
  refine ⟨h.pB, h.qB, ⟨u, vs, by rw [← hE]; exact row_set hb i v, by rw [ho]; exact hr.store hb (by decide), fun j hj => ?_⟩, ?_⟩
  · simp only [ho] at hj ⊢
    obtain ⟨x, hx1, hx2⟩ := hx j hj
    exact ⟨x, hx1, hx2.keep ((Keep.refl w).setCell (S := One p) (p := ⟨p, i, none⟩) (fun _ => rfl) _) hm⟩
  · refine h.qt.imp id (fun ⟨c, e⟩ => ⟨c, row_other e (fun e' => ?_) _⟩)
    have e'' : q = p := e'
    rw [e'', hb] at e; simp at e
theorem EndAt.setOwes {B p q : Nat} {w : World} {E : ES} (h : EndAt B w p q E) (b : Bool) : EndAt B (w.setCell ⟨p, 6, none⟩ (.bool b)) p q { E with owes := b } := h.field 6 _ (fun _ => rfl) rfl
theorem EndAt.setCame {B p q : Nat} {w : World} {E : ES} (h : EndAt B w p q E) (n : Int) : EndAt B (w.setCell ⟨p, 5, none⟩ (.int .i64 n)) p q { E with came := n } := h.field 5 _ (fun _ => rfl) rfl

/-- Begin -/
def beginTo (E : ES) (n : Int) : ES := if n ≤ E.epoch ∨ 2147483648 < n then E else newE E.node E.peer n
def beginErr (E : ES) (n : Int) : Int := if n ≤ E.epoch ∨ 2147483648 < n then 1 else 0
theorem begin_none {w : World} {a : Option Addr} (n : Int) (h : NoEnd w a) : Calls Try.prog 21 #[.pointer a, .int .i64 n] w fun e w' => e = .returned (.int .i64 2) ∧ w = w' := by
  have hk := hid (ok_none h)
  clear h
  go_enter Try.func21, Try.ntmps21
  go_wp2_with (go_at_call 36; refine hk.out.mono ?_; rintro e w' ⟨rfl, rfl⟩)
  go_ret
  exact ⟨rfl, rfl⟩
theorem set7E (E : ES) (v v0 v1 v2 v3 v4 v5 v6 : Value) :
    (((((((endCells E v).setIfInBounds 0 v0).setIfInBounds 1 v1).setIfInBounds 2 v2).setIfInBounds 3 v3).setIfInBounds 4 v4).setIfInBounds 5 v5).setIfInBounds 6 v6 = #[v0, v1, v2, v3, v4, v5, v6] := by
  simp [endCells]
set_option maxHeartbeats 1000000 in
theorem begin_some (w : World) (B p q : Nat) (E : ES) (n : Int) (H : EndAt B w p q E) (he : 0 < E.epoch) :
    Calls Try.prog 21 #[.pointer (some ⟨p, 0, none⟩), .int .i64 n] w fun e w' => e = .returned (.int .i64 (beginErr E n)) ∧ EndAt B w' p q (beginTo E n) ∧ Keep (Two p q) w w' := by
  have hk := hid (ok_end H he)
  obtain ⟨c0, c1, c2, c3, ⟨ao, cap, c4⟩, c5, c6⟩ := H.cells
  have HE := hid H
  by_cases h1 : n ≤ E.epoch
  · rw [show beginErr E n = 1 from if_pos (.inl h1), show beginTo E n = E from if_pos (.inl h1)]
    clear H
    go_enter Try.func21, Try.ntmps21
    go_wp2_with (go_at_call 36; refine hk.out.mono ?_; rintro e w' ⟨rfl, rfl⟩)
    go_ret
    exact ⟨rfl, HE.out, Keep.refl _⟩
  by_cases h2 : 2147483648 < n
  · rw [show beginErr E n = 1 from if_pos (.inr h2), show beginTo E n = E from if_pos (.inr h2)]
    clear H
    go_enter Try.func21, Try.ntmps21
    go_wp2_with (go_at_call 36; refine hk.out.mono ?_; rintro e w' ⟨rfl, rfl⟩)
    go_ret
    exact ⟨rfl, HE.out, Keep.refl _⟩
  rw [show beginErr E n = 0 from if_neg (by omega), show beginTo E n = newE E.node E.peer n from if_neg (by omega)]
  obtain ⟨v, vs, hb, -, -⟩ := H.block
  have f0 := row_free hb 0
  have f1 := row_free hb 1
  have f2 := row_free hb 2
  have f3 := row_free hb 3
  have f4 := row_free hb 4
  have f5 := row_free hb 5
  have f6 := row_free hb 6
  have HB := hid hb
  clear H hb
  go_enter Try.func21, Try.ntmps21
  go_wp2_with (go_at_call 36; refine hk.out.mono ?_; rintro e w' ⟨rfl, rfl⟩)
  go_region
  go_wp2
  go_ret
  have KK : ∀ (v0 v1 v2 v3 v4 v5 v6 : Value), Keep (One p) w (((((((w.setCell ⟨p, 0, none⟩ v0).setCell ⟨p, 1, none⟩ v1).setCell ⟨p, 2, none⟩ v2).setCell ⟨p, 3, none⟩ v3).setCell ⟨p, 4, none⟩ v4).setCell ⟨p, 5, none⟩ v5).setCell ⟨p, 6, none⟩ v6) := by
    intro v0 v1 v2 v3 v4 v5 v6
    have hs : p < w.heap.size → One p p := fun _ => rfl
    exact (((((((Keep.refl w).set hs 0 v0).set hs 1 v1).set hs 2 v2).set hs 3 v3).set hs 4 v4).set hs 5 v5).set hs 6 v6
  have hr : ∀ (v0 v1 v2 v3 v4 v5 v6 : Value), (((((((w.setCell ⟨p, 0, none⟩ v0).setCell ⟨p, 1, none⟩ v1).setCell ⟨p, 2, none⟩ v2).setCell ⟨p, 3, none⟩ v3).setCell ⟨p, 4, none⟩ v4).setCell ⟨p, 5, none⟩ v5).setCell ⟨p, 6, none⟩ v6).heap[p]? = some (.cells #[v0, v1, v2, v3, v4, v5, v6] 76 (0, 0)) := by
    intro v0 v1 v2 v3 v4 v5 v6
    have h := row_set (row_set (row_set (row_set (row_set (row_set (row_set HB.out 0 v0) 1 v1) 2 v2) 3 v3) 4 v4) 5 v5) 6 v6
    rw [set7E] at h
    exact h
  have hk1 := KK (.int .i64 E.node) (.int .i64 E.peer) (.int .i64 n) (.int .i64 0) (.slice none 0 0) (.int .i64 0) (.bool false)
  have hr1 := hr (.int .i64 E.node) (.int .i64 E.peer) (.int .i64 n) (.int .i64 0) (.slice none 0 0) (.int .i64 0) (.bool false)
  generalize ((((((w.setCell ⟨p, 0, none⟩ (.int .i64 E.node)).setCell ⟨p, 1, none⟩ (.int .i64 E.peer)).setCell ⟨p, 2, none⟩ (.int .i64 n)).setCell ⟨p, 3, none⟩ (.int .i64 0)).setCell ⟨p, 4, none⟩ (.slice none 0 0)).setCell ⟨p, 5, none⟩ (.int .i64 0)).setCell ⟨p, 6, none⟩ (.bool false) = W at *
  have hE : EndAt B W p q (newE E.node E.peer n) := by
    refine ⟨HE.out.pB, HE.out.qB, ⟨_, _, hr1, RowAt.nil _ _ _ _, fun i hi => absurd hi (Nat.not_lt_zero _)⟩, ?_⟩
    refine HE.out.qt.imp id (fun ⟨c, e⟩ => ?_)
    by_cases hqp : q = p
    · rw [hqp, HB.out] at e; simp at e
    · exact ⟨c, hk1.row e hqp⟩
  exact ⟨rfl, hE.drew, (hk1.mono (fun _ _ e => .inl e)).drew⟩

end Go.Proofs.Ytjlgolkippleaaa
