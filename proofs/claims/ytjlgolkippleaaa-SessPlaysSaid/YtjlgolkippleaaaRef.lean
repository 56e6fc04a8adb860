/-
  The reference's End: what it stands for, Send, Begin.
-/
import Derived.Test.YtjlgolkippleaaaAlive
namespace Go.Proofs.Ytjlgolkippleaaa
open Go.RowKit

/-- the reference's End that stands where E does -/
def refCells (E : ES) (v : Value) : Array Value := #[.int .i64 E.node, .int .i64 E.peer, .int .i64 E.epoch, v, .int .i64 E.base, .int .i64 E.came, .bool E.owes]
structure RefAt (B : Nat) (w : World) (r rq : Nat) (E : ES) (ls : List (List UInt8)) : Prop where
  pB : B ≤ r
  qB : B ≤ rq
  block : ∃ v vs, w.heap[r]? = some (.cells (refCells E v) 61 (0, 0)) ∧ RowAt w 27 1 rq v ls.length vs ∧ ∀ i (h : i < ls.length), ∃ u, vs[i]? = some u ∧ Bts B w u ls[i]
  qt : rq = r ∨ ∃ cur, w.heap[rq]? = some (.cells cur 27 (0, 0))
  base : 0 ≤ E.base
  len : (ls.length : Int) = E.base + E.opened.length
  drop : ls.drop E.base.toNat = E.opened
section
variable {B p q : Nat} {w w' : World} {E : ES} {ls : List (List UInt8)}
theorem RefAt.mut (h : RefAt B w p q E ls) : Mut B w (Two p q) := by
  obtain ⟨v, vs, hb, _⟩ := h.block
  rintro k (rfl | rfl)
  · exact ⟨h.pB, fun cur fr e => by rw [hb] at e; simp at e⟩
  · refine ⟨h.qB, fun cur fr e => ?_⟩
    rcases h.qt with rfl | ⟨cur', hq⟩
    · rw [hb] at e; simp at e
    · rw [hq] at e; simp at e
theorem RefAt.lt (h : RefAt B w p q E ls) : p < w.heap.size ∧ q < w.heap.size := by
  obtain ⟨v, vs, hb, _⟩ := h.block
  have hp := row_lt hb
  refine ⟨hp, ?_⟩
  rcases h.qt with rfl | ⟨cur', hq⟩
  · exact hp
  · exact row_lt hq
theorem RefAt.keep {S : Nat → Prop} (h : RefAt B w p q E ls) (k : Keep S w w') (hS : Mut B w S) (hp : ¬ S p) (hq : ¬ S q) : RefAt B w' p q E ls := by
  obtain ⟨v, vs, hb, hr, hx⟩ := h.block
  refine ⟨h.pB, h.qB, ⟨v, vs, k.row hb hp, hr.keep k hq, fun i hi => ?_⟩, h.qt.imp id (fun ⟨cur, e⟩ => ⟨cur, k.row e hq⟩), h.base, h.len, h.drop⟩
  obtain ⟨u, hu, hbt⟩ := hx i hi
  exact ⟨u, hu, hbt.keep k hS⟩
theorem RefAt.alloc (h : RefAt B w p q E ls) (o : Obj) : RefAt B (w.alloc o) p q E ls := h.keep ((Keep.refl w).alloc o) Mut.nil (fun e => e) (fun e => e)
theorem RefAt.drewN {n : Nat} (h : RefAt B w p q E ls) : RefAt B (w.drewN n) p q E ls := ⟨h.pB, h.qB, h.block, h.qt, h.base, h.len, h.drop⟩
theorem RefAt.drew (h : RefAt B w p q E ls) : RefAt B w.drew p q E ls := ⟨h.pB, h.qB, h.block, h.qt, h.base, h.len, h.drop⟩
theorem RefAt.cells (h : RefAt B w p q E ls) : w.cell? ⟨p, 0, none⟩ = some (.int .i64 E.node) ∧ w.cell? ⟨p, 1, none⟩ = some (.int .i64 E.peer) ∧ w.cell? ⟨p, 2, none⟩ = some (.int .i64 E.epoch) ∧
    (∃ ao cap, w.cell? ⟨p, 3, none⟩ = some (.slice ao ls.length cap)) ∧ w.cell? ⟨p, 4, none⟩ = some (.int .i64 E.base) ∧ w.cell? ⟨p, 5, none⟩ = some (.int .i64 E.came) ∧ w.cell? ⟨p, 6, none⟩ = some (.bool E.owes) := by
  obtain ⟨v, vs, hb, hr, _⟩ := h.block
  obtain ⟨ao, cap, rfl⟩ := hr.shape
  have k := row_cell hb
  exact ⟨by rw [k]; rfl, by rw [k]; rfl, by rw [k]; rfl, ⟨ao, cap, by rw [k]; rfl⟩, by rw [k]; rfl, by rw [k]; rfl, by rw [k]; rfl⟩
theorem RefAt.free (h : RefAt B w p q E ls) (i : Nat) : w.frozen? ⟨p, i, none⟩ = false := by
  obtain ⟨v, vs, hb, hr, _⟩ := h.block
  exact row_free hb i
theorem rmut_one {c : Array Value} (hp : B ≤ p) (h : w.heap[p]? = some (.cells c 61 (0, 0))) : Mut B w (One p) := by
  rintro k rfl
  exact ⟨hp, fun cur fr e => by rw [h] at e; simp at e⟩
/-- one field alone is written -/
theorem RefAt.field {E' : ES} (h : RefAt B w p q E ls) (i : Nat) (v : Value) (hE : ∀ u, (refCells E u).setIfInBounds i v = refCells E' u) (h1 : 0 ≤ E'.base) (h2 : (ls.length : Int) = E'.base + E'.opened.length) (h3 : ls.drop E'.base.toNat = E'.opened) :
    RefAt B (w.setCell ⟨p, i, none⟩ v) p q E' ls := by
  obtain ⟨u, vs, hb, hr, hx⟩ := h.block
  have hm : Mut B w (One p) := rmut_one h.pB hb
  refine ⟨h.pB, h.qB, ⟨u, vs, by rw [← hE]; exact row_set hb i v, hr.store hb (by decide), fun j hj => ?_⟩, ?_, h1, h2, h3⟩
  · obtain ⟨x, hx1, hx2⟩ := hx j hj
    exact ⟨x, hx1, hx2.keep ((Keep.refl w).setCell (S := One p) (p := ⟨p, i, none⟩) (fun _ => rfl) _) hm⟩
  · refine h.qt.imp id (fun ⟨c, e⟩ => ⟨c, row_other e (fun e' => ?_) _⟩)
    have e'' : q = p := e'
    rw [e'', hb] at e; simp at e
theorem RefAt.setOwes (h : RefAt B w p q E ls) (b : Bool) : RefAt B (w.setCell ⟨p, 6, none⟩ (.bool b)) p q { E with owes := b } ls := h.field 6 _ (fun _ => rfl) h.base h.len h.drop
theorem RefAt.setCame (h : RefAt B w p q E ls) (n : Int) : RefAt B (w.setCell ⟨p, 5, none⟩ (.int .i64 n)) p q { E with came := n } ls := h.field 5 _ (fun _ => rfl) h.base h.len h.drop
/-- the loads are written -/
theorem RefAt.setLoads {q' : Nat} {v v' : Value} {vs : List Value} {xs : List (List UInt8)} {ys : List (List UInt8)} (pB : B ≤ p) (qB : B ≤ q') (hb : w.heap[p]? = some (.cells (refCells E v) 61 (0, 0)))
    (hr : RowAt w 27 1 q' v' xs.length vs) (hx : ∀ i (h : i < xs.length), ∃ u, vs[i]? = some u ∧ Bts B w u xs[i]) (hq : q' = p ∨ ∃ cur, w.heap[q']? = some (.cells cur 27 (0, 0)))
    (h1 : 0 ≤ E.base) (h2 : (xs.length : Int) = E.base + ys.length) (h3 : xs.drop E.base.toNat = ys) :
    RefAt B (w.setCell ⟨p, 3, none⟩ v') p q' { E with opened := ys } xs := by
  have hm : Mut B w (One p) := rmut_one pB hb
  have hk : Keep (One p) w (w.setCell ⟨p, 3, none⟩ v') := (Keep.refl w).setCell (S := One p) (p := ⟨p, 3, none⟩) (fun _ => rfl) v'
  refine ⟨pB, qB, ⟨v', vs, row_set hb 3 v', hr.store hb (by decide), fun i hi => ?_⟩, ?_, h1, h2, h3⟩
  · obtain ⟨u, hu, hbt⟩ := hx i hi
    exact ⟨u, hu, hbt.keep hk hm⟩
  · rcases hq with rfl | ⟨cur, hq⟩
    · exact .inl rfl
    · refine .inr ⟨cur, row_other hq (fun e => ?_) _⟩
      have : q' = p := e
      rw [this, hb] at hq
      simp at hq
end

/-- what a call leaves of the reference's End -/
def RefTo (B p q : Nat) (E : ES) (w w' : World) : Prop := ∃ q' ls, RefAt B w' p q' E ls ∧ Keep (Two p q) w w' ∧ (q' = q ∨ w.heap.size ≤ q')
theorem RefTo.same {B p q : Nat} {w : World} {E : ES} {ls : List (List UInt8)} (h : RefAt B w p q E ls) : RefTo B p q E w w := ⟨q, ls, h, Keep.refl _, .inl rfl⟩

/-! ### Begin -/
theorem set7R (E : ES) (v v0 v1 v2 v3 v4 v5 v6 : Value) :
    (((((((refCells E v).setIfInBounds 0 v0).setIfInBounds 1 v1).setIfInBounds 2 v2).setIfInBounds 3 v3).setIfInBounds 4 v4).setIfInBounds 5 v5).setIfInBounds 6 v6 = #[v0, v1, v2, v3, v4, v5, v6] := by
  simp [refCells]
set_option maxHeartbeats 1000000 in
theorem rbegin_some (w : World) (B p q : Nat) (E : ES) (ls : List (List UInt8)) (n : Int) (H : RefAt B w p q E ls) :
    Calls Try.prog 29 #[.pointer (some ⟨p, 0, none⟩), .int .i64 n] w fun e w' => e = .returned (.int .i64 (beginErr E n)) ∧ RefTo B p q (beginTo E n) w w' := by
  obtain ⟨c0, c1, c2, ⟨ao, cap, c3⟩, c4, c5, c6⟩ := H.cells
  have HE := hid H
  by_cases h1 : n ≤ E.epoch
  · rw [show beginErr E n = 1 from if_pos (.inl h1), show beginTo E n = E from if_pos (.inl h1)]
    clear H
    go_enter Try.func29, Try.ntmps29
    go_wp2
    go_ret
    exact ⟨rfl, RefTo.same HE.out⟩
  by_cases h2 : 2147483648 < n
  · rw [show beginErr E n = 1 from if_pos (.inr h2), show beginTo E n = E from if_pos (.inr h2)]
    clear H
    go_enter Try.func29, Try.ntmps29
    go_wp2
    go_ret
    exact ⟨rfl, RefTo.same HE.out⟩
  rw [show beginErr E n = 0 from if_neg (by omega), show beginTo E n = newE E.node E.peer n from if_neg (by omega)]
  obtain ⟨v, vs, hb, -, -⟩ := H.block
  have f0 := row_free hb 0
  have f1 := row_free hb 1
  have f2 := row_free hb 2
  have f3 := row_free hb 3
  have f4 := row_free hb 4
  have f5 := row_free hb 5
  have f6 := row_free hb 6
  have HB := hid hb
  clear H hb
  go_enter Try.func29, Try.ntmps29
  go_wp2_with fail
  go_region
  go_wp2
  go_ret
  have KK : ∀ (v0 v1 v2 v3 v4 v5 v6 : Value), Keep (One p) w (((((((w.setCell ⟨p, 0, none⟩ v0).setCell ⟨p, 1, none⟩ v1).setCell ⟨p, 2, none⟩ v2).setCell ⟨p, 3, none⟩ v3).setCell ⟨p, 4, none⟩ v4).setCell ⟨p, 5, none⟩ v5).setCell ⟨p, 6, none⟩ v6) := by
    intro v0 v1 v2 v3 v4 v5 v6
    have hs : p < w.heap.size → One p p := fun _ => rfl
    exact (((((((Keep.refl w).set hs 0 v0).set hs 1 v1).set hs 2 v2).set hs 3 v3).set hs 4 v4).set hs 5 v5).set hs 6 v6
  have hr : ∀ (v0 v1 v2 v3 v4 v5 v6 : Value), (((((((w.setCell ⟨p, 0, none⟩ v0).setCell ⟨p, 1, none⟩ v1).setCell ⟨p, 2, none⟩ v2).setCell ⟨p, 3, none⟩ v3).setCell ⟨p, 4, none⟩ v4).setCell ⟨p, 5, none⟩ v5).setCell ⟨p, 6, none⟩ v6).heap[p]? = some (.cells #[v0, v1, v2, v3, v4, v5, v6] 61 (0, 0)) := by
    intro v0 v1 v2 v3 v4 v5 v6
    have h := row_set (row_set (row_set (row_set (row_set (row_set (row_set HB.out 0 v0) 1 v1) 2 v2) 3 v3) 4 v4) 5 v5) 6 v6
    rw [set7R] at h
    exact h
  have hk1 := KK (.int .i64 E.node) (.int .i64 E.peer) (.int .i64 n) (.slice none 0 0) (.int .i64 0) (.int .i64 0) (.bool false)
  have hr1 := hr (.int .i64 E.node) (.int .i64 E.peer) (.int .i64 n) (.slice none 0 0) (.int .i64 0) (.int .i64 0) (.bool false)
  generalize ((((((w.setCell ⟨p, 0, none⟩ (.int .i64 E.node)).setCell ⟨p, 1, none⟩ (.int .i64 E.peer)).setCell ⟨p, 2, none⟩ (.int .i64 n)).setCell ⟨p, 3, none⟩ (.slice none 0 0)).setCell ⟨p, 4, none⟩ (.int .i64 0)).setCell ⟨p, 5, none⟩ (.int .i64 0)).setCell ⟨p, 6, none⟩ (.bool false) = W at *
  have hE : RefAt B W p q (newE E.node E.peer n) [] := by
    refine ⟨HE.out.pB, HE.out.qB, ⟨_, _, hr1, RowAt.nil _ _ _ _, fun i hi => absurd hi (Nat.not_lt_zero _)⟩, ?_, Int.le_refl _, rfl, rfl⟩
    refine HE.out.qt.imp id (fun ⟨c, e⟩ => ?_)
    by_cases hqp : q = p
    · rw [hqp, HB.out] at e; simp at e
    · exact ⟨c, hk1.row e hqp⟩
  exact ⟨rfl, q, [], hE.drew, (hk1.mono (fun _ _ e => .inl e)).drew, .inl rfl⟩

end Go.Proofs.Ytjlgolkippleaaa
