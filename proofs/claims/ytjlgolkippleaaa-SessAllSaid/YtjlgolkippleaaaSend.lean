/-
  The sessions' End: put, Send.
-/
import Derived.Test.YtjlgolkippleaaaEnd
namespace Go.Proofs.Ytjlgolkippleaaa
open Go.RowKit

theorem RowAt.alloc {w : World} {e s q n : Nat} {v : Value} {xs : List Value} (h : RowAt w e s q v n xs) (o : Obj) : RowAt (w.alloc o) e s q v n xs :=
  h.keep (S := Nil) ((Keep.refl w).alloc o) (fun e => e)
theorem endCells_v (E : ES) (v v' : Value) (xs : List (List UInt8)) : (endCells E v).setIfInBounds 4 v' = endCells { E with opened := xs } v' := rfl
theorem RowAt.store {w : World} {e s q n p i : Nat} {v u : Value} {xs : List Value} {c : Array Value} {t : TypeId} (h : RowAt w e s q v n xs) (hp : w.heap[p]? = some (.cells c t (0, 0))) (ht : t ≠ e) :
    RowAt (w.setCell ⟨p, i, none⟩ u) e s q v n xs := by
  rcases h with h | ⟨off, cap, cur, h1, h2, h3⟩
  · exact .inl h
  · refine .inr ⟨off, cap, cur, h1, row_other h2 (fun e' => ?_) _, h3⟩
    have : q = p := e'
    rw [this, hp] at h2
    simp at h2
    exact ht h2.2
theorem EndAt.opened' {B p q' : Nat} {w : World} {E : ES} {v v' : Value} {vs : List Value} {xs : List (List UInt8)} (pB : B ≤ p) (qB : B ≤ q') (hb : w.heap[p]? = some (.cells (endCells E v) 76 (0, 0)))
    (hr : RowAt w 27 1 q' v' xs.length vs) (hx : ∀ i (h : i < xs.length), ∃ u, vs[i]? = some u ∧ Bts B w u xs[i]) (hq : q' = p ∨ ∃ cur, w.heap[q']? = some (.cells cur 27 (0, 0))) :
    EndAt B (w.setCell ⟨p, 4, none⟩ v') p q' { E with opened := xs } := by
  have hm : Mut B w (One p) := by
    rintro k rfl
    exact ⟨pB, fun cur fr e => by rw [hb] at e; simp at e⟩
  have hk : Keep (One p) w (w.setCell ⟨p, 4, none⟩ v') := (Keep.refl w).setCell (S := One p) (p := ⟨p, 4, none⟩) (fun _ => rfl) v'
  refine ⟨pB, qB, ⟨v', vs, row_set hb 4 v', hr.store hb (by decide), fun i hi => ?_⟩, ?_⟩
  · obtain ⟨u, hu, hbt⟩ := hx i hi
    exact ⟨u, hu, hbt.keep hk hm⟩
  · rcases hq with rfl | ⟨cur, hq⟩
    · exact .inl rfl
    · refine .inr ⟨cur, row_other hq (fun e => ?_) _⟩
      have : q' = p := e
      rw [this, hb] at hq
      simp at hq

/-- put -/
theorem put_some (w : World) (B p q : Nat) (E : ES) (v : Value) (l : List UInt8) (H : EndAt B w p q E) (hv : Bts B w v l) (hlen : E.opened.length ≤ 8) :
    Calls Try.prog 38 #[.pointer (some ⟨p, 3, none⟩), v] w fun e w' => e = .returned (.tuple #[]) ∧ ∃ q', EndAt B w' p q' { E with opened := E.opened ++ [l] } ∧ Keep (Two p q) w w' ∧ (q' = q ∨ w.heap.size ≤ q') := by
  obtain ⟨o, vs, hb, hr, hx⟩ := H.block
  obtain ⟨ao, cap, rfl⟩ := hr.shape
  obtain ⟨ao', cap', rfl, hv'⟩ := id hv
  have hpc := row_cell hb 4
  have hpf := row_free hb 4
  simp [endCells] at hpc
  have HB := hid hb
  have HR := hid hr
  have HX := hid hx
  have HV := hid hv
  have HE := hid H
  have hlen' := hid hlen
  clear hb hr hx hv hv' H hlen
  go_enter Try.func38, Try.ntmps38
  go_wp2_with (at_builtin; go_loud (refine wpList_append_row _ rfl _ _ 37 37 rfl 27 (.slice none 0 0) 1 24 Try.underlying37 info27 rfl q (.slice ao E.opened.length cap) E.opened.length vs rfl (HR.out.alloc _) _ 1 [.slice ao' l.length cap'] rfl ?src ?b1 ?b2 ?_))
  case src => exact Src.ofSlice _ Try.underlying37 _ 1 1 _ rfl (fun j u hu => by
    cases j with
    | zero => rw [Addr.add_lit]; rw [row_cell (heap_new _ _)]; simpa using hu
    | succ j => simp at hu) (by simp [Value.oneCell'])
  case b1 => have := hlen'.out; simp [maxLen]; omega
  case b2 => have := hlen'.out; omega
  intro q' ao2 cap2 w1 h1 k1 h2
  have hw1 := k1.row (row_alloc HB.out _) (fun e => by obtain ⟨_, cur, e⟩ := e; rw [row_alloc HB.out] at e; simp at e)
  have hpf1 := row_free hw1 4
  have hpc1 := row_cell hw1 4
  simp [endCells] at hpc1
  go_wp2
  refine bodyPost_end (v := .tuple #[]) (by simp [results, Try.results38, go_sem]) rfl ⟨rfl, q', ?_, ?_, ?_⟩
  · have hT : Mut B (w.alloc (.cells #[.slice ao' l.length cap'] 27)) (Typ (w.alloc (.cells #[.slice ao' l.length cap'] 27)) q 27) := by
      rintro k ⟨rfl, cur, e⟩
      exact ⟨HE.out.qB, fun cur' fr e' => by rw [e] at e'; simp at e'⟩
    have hn := h1.length
    refine EndAt.opened' HE.out.pB ?_ hw1 (xs := E.opened ++ [l]) (vs := vs ++ [.slice ao' l.length cap']) ?_ (fun i hi => ?_) ?_
    · rcases h2 with rfl | ⟨h2, _⟩
      · exact HE.out.qB
      · have := HE.out.qB; have := HE.out.lt; omega
    · simpa using h1
    · have hvl := HR.out.length
      rw [Nat.mul_one] at hvl
      by_cases hin : i < E.opened.length
      · obtain ⟨u, hu, hbt⟩ := HX.out i hin
        refine ⟨u, by rw [List.getElem?_append_left (by omega)]; exact hu, ?_⟩
        rw [List.getElem_append_left hin]
        exact (hbt.alloc _).keep k1 hT
      · have hi' : i = E.opened.length := by simp at hi; omega
        subst hi'
        refine ⟨.slice ao' l.length cap', by rw [List.getElem?_append_right (by omega)]; simp [hvl], ?_⟩
        rw [List.getElem_append_right (by omega)]
        simpa using (HV.out.alloc _).keep k1 hT
    · rcases h2 with rfl | ⟨_, h2⟩
      · rcases HE.out.qt with h | ⟨cur, h⟩
        · exact .inl h
        · rcases h1 with ⟨h0, _⟩ | ⟨_, _, cur1, _, h3, _⟩
          · omega
          · exact .inr ⟨cur1, h3⟩
      · exact .inr h2
  · exact (((Keep.refl w).alloc _).andThen k1 (fun k _ e => .inr e.1)).andThen ((Keep.refl w1).setCell (S := One p) (p := ⟨p, 4, none⟩) (fun _ => rfl) _) (fun k _ e => .inl e)
  · rcases h2 with h2 | ⟨h2, _⟩
    · exact .inl h2
    · exact .inr (by omega)

/-- Send: what stands behind it, and its error -/
def sendTo (E : ES) (l : List UInt8) : ES := if 1200 < l.length then E else if E.opened.length = 8 then E else { E with opened := E.opened ++ [l] }
def sendErr (E : ES) (l : List UInt8) : Int := if 1200 < l.length then 1 else if E.opened.length = 8 then 15 else 0
theorem send_none {w : World} {a : Option Addr} (v : Value) (h : NoEnd w a) : Calls Try.prog 19 #[.pointer a, v] w fun e w' => e = .returned (.int .i64 2) ∧ w = w' := by
  have hk := hid (ok_none h)
  clear h
  go_enter Try.func19, Try.ntmps19
  go_wp2_with (go_at_call 36; refine hk.out.mono ?_; rintro e w' ⟨rfl, rfl⟩)
  go_ret
  exact ⟨rfl, rfl⟩
theorem EndAt.drew {B p q : Nat} {w : World} {E : ES} (h : EndAt B w p q E) : EndAt B w.drew p q E := ⟨h.pB, h.qB, h.block, h.qt⟩
/-- what a call leaves of an End -/
def EndTo (B p q : Nat) (E : ES) (w w' : World) : Prop := ∃ q', EndAt B w' p q' E ∧ Keep (Two p q) w w' ∧ (q' = q ∨ w.heap.size ≤ q')
theorem EndTo.same {B p q : Nat} {w : World} {E : ES} (h : EndAt B w p q E) : EndTo B p q E w w := ⟨q, h, Keep.refl _, .inl rfl⟩
theorem EndTo.before {B p q : Nat} {w w1 w' : World} {E : ES} (k : Keep Nil w w1) (h : EndTo B p q E w1 w') : EndTo B p q E w w' := by
  obtain ⟨q', h1, h2, h3⟩ := h
  exact ⟨q', h1, (k.mono (fun _ _ e => e.elim)).trans h2, h3.imp id (fun h => Nat.le_trans k.size h)⟩
theorem send_some (w : World) (B p q : Nat) (E : ES) (v : Value) (l : List UInt8) (H : EndAt B w p q E) (he : 0 < E.epoch) (hlen : E.opened.length ≤ 8) (hv : Bts B w v l) :
    Calls Try.prog 19 #[.pointer (some ⟨p, 0, none⟩), v] w fun e w' => e = .returned (.int .i64 (sendErr E l)) ∧ EndTo B p q (sendTo E l) w w' := by
  have hk := hid (ok_end H he)
  obtain ⟨c0, c1, c2, c3, ⟨ao, cap, c4⟩, c5, c6⟩ := H.cells
  obtain ⟨ao', cap', rfl, hv'⟩ := id hv
  have HE := hid H
  have HV := hid hv
  have HL := hid hlen
  clear H hv hv' hlen
  by_cases h1 : 1200 < l.length
  · have e1 : sendErr E l = 1 := if_pos h1
    have e2 : sendTo E l = E := if_pos h1
    rw [e1, e2]
    go_enter Try.func19, Try.ntmps19
    go_wp2_with (go_at_call 36; refine hk.out.mono ?_; rintro e w' ⟨rfl, rfl⟩)
    go_ret
    exact ⟨rfl, EndTo.same HE.out⟩
  by_cases h2 : E.opened.length = 8
  · have e1 : sendErr E l = 15 := (if_neg h1).trans (if_pos h2)
    have e2 : sendTo E l = E := (if_neg h1).trans (if_pos h2)
    rw [e1, e2]
    rw [h2] at c4
    go_enter Try.func19, Try.ntmps19
    go_wp2_with (go_at_call 36; refine hk.out.mono ?_; rintro e w' ⟨rfl, rfl⟩)
    go_ret
    exact ⟨rfl, EndTo.same HE.out⟩
  have e1 : sendErr E l = 0 := (if_neg h1).trans (if_neg h2)
  have e2 : sendTo E l = { E with opened := E.opened ++ [l] } := (if_neg h1).trans (if_neg h2)
  rw [e1, e2]
  have h2' : ((E.opened.length : Int) == 8) = false := beq_eq_false_iff_ne.2 (by omega)
  have HE2 := hid HE.out.drew
  have HC := hid (clone_some w.drew B _ l HV.out.drew (by omega))
  have hk0 : Keep Nil w w.drew := (Keep.refl w).drew
  clear e1 e2
  go_enter Try.func19, Try.ntmps19
  go_wp2_with (go_at_call 36; refine hk.out.mono ?_; rintro e w' ⟨rfl, rfl⟩)
  go_region_held3 (fun _ => True) (exact trivial)
    ((first
      | (go_at_call 39; refine HC.out.mono ?_; rintro e w1 ⟨qc, aoc, capc, rfl, hrow, hqc, k1⟩; have E1 := hid (HE2.out.keep k1 Mut.nil (fun e => e) (fun e => e)); have V1 := hid (Bts.of_row (B := B) hrow); have K1 := hid k1; clear hrow k1)
      | (go_at_call 38; refine (put_some _ B p q E _ l E1.out V1.out HL.out).mono ?_; rintro e w2 ⟨rfl, ht⟩; have T2 := hid ht; clear ht)))
  go_wp2
  go_ret
  exact ⟨rfl, EndTo.before (hk0.andThen K1.out (fun _ _ e => e)) T2.out⟩

theorem msg_cells {w : World} {z : Nat} (h : w.heap[z]? = some (.cells #[.int .i64 0, .int .i64 0, .int .i64 0, .int .i64 0, .int .i64 0, .int .i64 0, .slice none 0 0] 47 (0, 0))) :
    w.cell? ⟨z, 0, none⟩ = some (.int .i64 0) ∧ w.cell? ⟨z, 1, none⟩ = some (.int .i64 0) ∧ w.cell? ⟨z, 2, none⟩ = some (.int .i64 0) ∧ w.cell? ⟨z, 3, none⟩ = some (.int .i64 0) ∧
    w.cell? ⟨z, 4, none⟩ = some (.int .i64 0) ∧ w.cell? ⟨z, 5, none⟩ = some (.int .i64 0) ∧ w.cell? ⟨z, 6, none⟩ = some (.slice none 0 0) ∧
    w.frozen? ⟨z, 0, none⟩ = false ∧ w.frozen? ⟨z, 1, none⟩ = false ∧ w.frozen? ⟨z, 2, none⟩ = false ∧ w.frozen? ⟨z, 3, none⟩ = false ∧ w.frozen? ⟨z, 4, none⟩ = false ∧ w.frozen? ⟨z, 5, none⟩ = false ∧ w.frozen? ⟨z, 6, none⟩ = false := by
  have k := row_cell h
  have f := row_free h
  exact ⟨k 0, k 1, k 2, k 3, k 4, k 5, k 6, f 0, f 1, f 2, f 3, f 4, f 5, f 6⟩
theorem far7 {w : World} {p z i : Nat} {u v0 v1 v2 v3 v4 v5 v6 : Value} (h : w.cell? ⟨p, i, none⟩ = some u) (hne : p ≠ z) :
    (((((((w.setCell ⟨z, 0, none⟩ v0).setCell ⟨z, 1, none⟩ v1).setCell ⟨z, 2, none⟩ v2).setCell ⟨z, 3, none⟩ v3).setCell ⟨z, 4, none⟩ v4).setCell ⟨z, 5, none⟩ v5).setCell ⟨z, 6, none⟩ v6).cell? ⟨p, i, none⟩ = some u := by
  have k : ∀ (w : World) (j : Nat) (v : Value), (w.setCell ⟨z, j, none⟩ v).cell? ⟨p, i, none⟩ = w.cell? ⟨p, i, none⟩ := fun w j v => World.cell?_setCell_other _ _ _ _ (by intro e; cases e; exact hne rfl)
  simp only [k, h]
theorem Keep.set {S : Nat → Prop} {w w1 : World} {z : Nat} (k : Keep S w w1) (hs : z < w.heap.size → S z) (i : Nat) (v : Value) : Keep S w (w1.setCell ⟨z, i, none⟩ v) := k.setCell (p := ⟨z, i, none⟩) hs v
theorem set7 (a0 a1 a2 a3 a4 a5 a6 v0 v1 v2 v3 v4 v5 v6 : Value) :
    (((((((#[a0, a1, a2, a3, a4, a5, a6] : Array Value).setIfInBounds 0 v0).setIfInBounds 1 v1).setIfInBounds 2 v2).setIfInBounds 3 v3).setIfInBounds 4 v4).setIfInBounds 5 v5).setIfInBounds 6 v6 = #[v0, v1, v2, v3, v4, v5, v6] := by
  simp
theorem wrote_msg {w1 : World} {z : Nat} {a0 a1 a2 a3 a4 a5 a6 : Value} (v0 v1 v2 v3 v4 v5 v6 : Value) (h : w1.heap[z]? = some (.cells #[a0, a1, a2, a3, a4, a5, a6] 47 (0, 0))) :
    ∃ W, W = (((((((w1.setCell ⟨z, 0, none⟩ v0).setCell ⟨z, 1, none⟩ v1).setCell ⟨z, 2, none⟩ v2).setCell ⟨z, 3, none⟩ v3).setCell ⟨z, 4, none⟩ v4).setCell ⟨z, 5, none⟩ v5).setCell ⟨z, 6, none⟩ v6) ∧
      W.heap[z]? = some (.cells #[v0, v1, v2, v3, v4, v5, v6] 47 (0, 0)) ∧ (∀ (S : Nat → Prop) (w : World), Keep S w w1 → (z < w.heap.size → S z) → Keep S w W) ∧
      (∀ e s q v n xs, RowAt w1 e s q v n xs → q ≠ z → RowAt W e s q v n xs) := by
  have KK : ∀ (S : Nat → Prop) (w : World), Keep S w w1 → (z < w.heap.size → S z) → Keep S w (((((((w1.setCell ⟨z, 0, none⟩ v0).setCell ⟨z, 1, none⟩ v1).setCell ⟨z, 2, none⟩ v2).setCell ⟨z, 3, none⟩ v3).setCell ⟨z, 4, none⟩ v4).setCell ⟨z, 5, none⟩ v5).setCell ⟨z, 6, none⟩ v6) := by
    intro S w k hs
    exact ((((((k.set hs 0 v0).set hs 1 v1).set hs 2 v2).set hs 3 v3).set hs 4 v4).set hs 5 v5).set hs 6 v6
  have hr := row_set (row_set (row_set (row_set (row_set (row_set (row_set h 0 v0) 1 v1) 2 v2) 3 v3) 4 v4) 5 v5) 6 v6
  rw [set7] at hr
  refine ⟨_, rfl, hr, KK, fun e s q v n xs hr hq => ?_⟩
  exact hr.keep (KK (One z) w1 (Keep.refl _) (fun _ => rfl)) hq
theorem size_alloc (w : World) (o : Obj) : (w.alloc o).heap.size = w.heap.size + 1 := by simp
/-! ### message -/
/-- what message answers -/
def msgV (E : ES) (kind seq : Int) (v : Value) : Value := .agg #[.int .i64 E.node, .int .i64 E.peer, .int .i64 kind, .int .i64 E.epoch, .int .i64 seq, .int .i64 E.came, v]
def MsgTo (E : ES) (kind seq : Int) (l : List UInt8) (w : World) (e : Ending) (w' : World) : Prop :=
  ∃ q ao cap, e = .returned (msgV E kind seq (.slice ao l.length cap)) ∧ RowAt w' 5 1 q (.slice ao l.length cap) l.length (bcells l) ∧ w.heap.size ≤ q ∧ Keep Nil w w'
set_option maxHeartbeats 1000000 in
theorem message_some (w : World) (B p q : Nat) (E : ES) (kind seq : Int) (v : Value) (l : List UInt8) (H : EndAt B w p q E) (hl : l.length ≤ 1200) (hv : Bts B w v l) :
    Calls Try.prog 42 #[.pointer (some ⟨p, 0, none⟩), .int .i64 kind, .int .i64 seq, v] w (MsgTo E kind seq l w) := by
  obtain ⟨ao', cap', rfl, hv'⟩ := id hv
  have HE := hid H
  have HV := hid hv
  have AL := hid (fun o => HV.out.alloc o)
  have AE := hid (fun o => HE.out.alloc o)
  clear H hv hv'
  go_enter Try.func42, Try.ntmps42
  have hzA := hid (heap_new w (.cells #[.int .i64 0, .int .i64 0, .int .i64 0, .int .i64 0, .int .i64 0, .int .i64 0, .slice none 0 0] 47 (0, 0)))
  have hAE := hid (AE.out (.cells #[.int .i64 0, .int .i64 0, .int .i64 0, .int .i64 0, .int .i64 0, .int .i64 0, .slice none 0 0] 47 (0, 0)))
  have hAL := hid (AL.out (.cells #[.int .i64 0, .int .i64 0, .int .i64 0, .int .i64 0, .int .i64 0, .int .i64 0, .slice none 0 0] 47 (0, 0)))
  have hAK := hid ((Keep.refl (S := Nil) w).alloc (.cells #[.int .i64 0, .int .i64 0, .int .i64 0, .int .i64 0, .int .i64 0, .int .i64 0, .slice none 0 0] 47 (0, 0)))
  have hAz := hid (size_alloc w (.cells #[.int .i64 0, .int .i64 0, .int .i64 0, .int .i64 0, .int .i64 0, .int .i64 0, .slice none 0 0] 47 (0, 0)))
  have hpz : Hid (p < w.heap.size) := hid HE.out.lt.1
  clear AE AL HE HV
  go_wp2_with fail
  generalize hwa : w.alloc (.cells #[.int .i64 0, .int .i64 0, .int .i64 0, .int .i64 0, .int .i64 0, .int .i64 0, .slice none 0 0] 47) = wa at *
  clear hwa
  obtain ⟨d0, d1, d2, d3, ⟨ao, cap, d4⟩, d5, d6⟩ := hAE.out.drew.cells
  have HC := hid (clone_some wa.drew B _ l hAL.out.drew (by omega))
  have hzB : Hid (wa.drew.heap[w.heap.size]? = _) := hzA
  generalize hz : w.heap.size = z at *
  have hne : Hid (p ≠ z) := hid (Nat.ne_of_lt hpz.out)
  go_region_held3 (fun w' => w'.cell? ⟨p, 0, none⟩ = some (.int .i64 E.node) ∧ w'.cell? ⟨p, 1, none⟩ = some (.int .i64 E.peer) ∧ w'.cell? ⟨p, 2, none⟩ = some (.int .i64 E.epoch) ∧ w'.cell? ⟨p, 5, none⟩ = some (.int .i64 E.came))
    (first | (with_reducible exact ⟨d0, d1, d2, d5⟩) | (with_reducible exact ⟨e0, e1, e2, e5⟩) | exact ⟨far7 e0 hne.out, far7 e1 hne.out, far7 e2 hne.out, far7 e5 hne.out⟩)
    ((first
      | (go_at_call 39; refine HC.out.mono ?_; rintro e w1 ⟨qc, aoc, capc, rfl, hrow, hqc, k1⟩; have e0 := k1.cell d0 (fun e => e); have e1 := k1.cell d1 (fun e => e); have e2 := k1.cell d2 (fun e => e); have e5 := k1.cell d5 (fun e => e); have hz1 := k1.row hzB.out (fun e => e); obtain ⟨f0, f1, f2, f3, f4, f5, f6, g0, g1, g2, g3, g4, g5, g6⟩ := msg_cells hz1; have R1 := hid hrow; have K1 := hid k1; have Q1 := hid hqc; have Z1 := hid hz1; clear hrow k1 hqc hz1)))
  go_wp2_with fail
  obtain ⟨W, hW, KR, KK, RR⟩ := wrote_msg (.int .i64 E.node) (.int .i64 E.peer) (.int .i64 kind) (.int .i64 E.epoch) (.int .i64 seq) (.int .i64 E.came) (.slice aoc l.length capc) Z1.out
  rw [← hW]
  clear hW
  have k := row_cell KR
  have c0 : W.cell? ⟨z, 0, none⟩ = some (.int .i64 E.node) := k 0
  have c1 : W.cell? ⟨z, 1, none⟩ = some (.int .i64 E.peer) := k 1
  have c2 : W.cell? ⟨z, 2, none⟩ = some (.int .i64 kind) := k 2
  have c3 : W.cell? ⟨z, 3, none⟩ = some (.int .i64 E.epoch) := k 3
  have c4 : W.cell? ⟨z, 4, none⟩ = some (.int .i64 seq) := k 4
  have c5 : W.cell? ⟨z, 5, none⟩ = some (.int .i64 E.came) := k 5
  have c6 : W.cell? ⟨z, 6, none⟩ = some (.slice aoc l.length capc) := k 6
  clear k KR
  have hq : z + 1 ≤ qc := by rw [← hAz.out]; exact Q1.out
  have RR' := RR _ _ _ _ _ _ R1.out (by omega)
  have KK' := KK _ _ (hAK.out.drew.trans K1.out) (fun h => by omega)
  refine bodyPost_ret (v := msgV E kind seq (.slice aoc l.length capc)) ?_ rfl ⟨qc, aoc, capc, rfl, RR', ?_, KK'⟩
  · clear RR RR' KK KK' R1 K1 Q1 Z1 HC
    simp [results, Try.results42, go_sem, c0, c1, c2, c3, c4, c5, c6, msgV]
  · omega

end Go.Proofs.Ytjlgolkippleaaa
