/-
  The reference's End: Send.
-/
import Derived.Test.YtjlgolkippleaaaRef
namespace Go.Proofs.Ytjlgolkippleaaa
open Go.RowKit

theorem Bts.one {B : Nat} {w : World} {v : Value} {xs : List UInt8} (h : Bts B w v xs) : v.oneCell' = true := by
  obtain ⟨ao, cap, rfl, -⟩ := h
  rfl
theorem items_one {B : Nat} {w : World} {vs : List Value} {ls : List (List UInt8)} (hl : vs.length = ls.length) (hx : ∀ i (h : i < ls.length), ∃ u, vs[i]? = some u ∧ Bts B w u ls[i]) : ∀ u ∈ vs, u.oneCell' = true := by
  intro u hu
  obtain ⟨i, hi, rfl⟩ := List.mem_iff_getElem.1 hu
  obtain ⟨u', h1, h2⟩ := hx i (by omega)
  rw [List.getElem?_eq_getElem hi] at h1
  cases h1
  exact h2.one

theorem src_slice (w : World) (ao : Option Addr) (n cap : Nat) : Src Try.prog 1 37 (.slice (some ⟨w.heap.size, 0, none⟩) 1 1) 1 [.slice ao n cap] (w.alloc (.cells #[.slice ao n cap] 27)) :=
  Src.ofSlice _ Try.underlying37 _ 1 1 _ rfl (fun j u hu => by
    cases j with
    | zero => rw [Addr.add_lit]; rw [row_cell (heap_new _ _)]; simpa using hu
    | succ j => simp at hu) (by simp [Value.oneCell'])
set_option maxHeartbeats 1000000 in
theorem rsend_some (w : World) (B p q : Nat) (E : ES) (ls : List (List UInt8)) (v : Value) (l : List UInt8) (H : RefAt B w p q E ls) (hlen : E.opened.length ≤ 8) (hbig : E.base ≤ 2199023255552) (hv : Bts B w v l) :
    Calls Try.prog 24 #[.pointer (some ⟨p, 0, none⟩), v] w fun e w' => e = .returned (.int .i64 (sendErr E l)) ∧ RefTo B p q (sendTo E l) w w' := by
  obtain ⟨c0, c1, c2, -, c4, c5, c6⟩ := H.cells
  obtain ⟨ov, vs, hb, hr, hx⟩ := H.block
  obtain ⟨ao, cap, rfl⟩ := hr.shape
  have c3 : w.cell? ⟨p, 3, none⟩ = some (.slice ao ls.length cap) := by rw [row_cell hb]; rfl
  have hll := H.len
  have hb0 := H.base
  obtain ⟨ao', cap', rfl, hv'⟩ := id hv
  have hw : IntKind.i64.wrap ((ls.length : Int) - E.base) = E.opened.length := by rw [hll, show E.base + (E.opened.length : Int) - E.base = E.opened.length by omega]; exact IntWalk.i64_in _ (by omega)
  have HE := hid H
  have HV := hid hv
  have HB := hid hb
  have HR := hid hr
  have HX := hid hx
  clear H hv hv' hb hr hx
  by_cases h1 : 1200 < l.length
  · have e1 : sendErr E l = 1 := if_pos h1
    have e2 : sendTo E l = E := if_pos h1
    rw [e1, e2]
    go_enter Try.func24, Try.ntmps24
    go_wp2
    go_ret
    exact ⟨rfl, RefTo.same HE.out⟩
  by_cases h2 : E.opened.length = 8
  · have e1 : sendErr E l = 15 := (if_neg h1).trans (if_pos h2)
    have e2 : sendTo E l = E := (if_neg h1).trans (if_pos h2)
    rw [e1, e2]
    have hd : decide (8 ≤ (E.opened.length : Int)) = true := by simp; omega
    go_enter Try.func24, Try.ntmps24
    go_wp2_with fail
    go_quiet (fail)
    go_wp2
    go_ret
    exact ⟨rfl, q, ls, HE.out.drewN, keep_drewN _ (Keep.refl _), .inl rfl⟩
  have e1 : sendErr E l = 0 := (if_neg h1).trans (if_neg h2)
  have e2 : sendTo E l = { E with opened := E.opened ++ [l] } := (if_neg h1).trans (if_neg h2)
  rw [e1, e2]
  have hd : decide (8 ≤ (E.opened.length : Int)) = false := by simp; omega
  have hd' : (E.opened.length : Int) < 8 := by omega
  have h9 : ls.length ≤ 4398046511104 := by omega
  clear e1 e2 h2 hlen
  go_enter Try.func24, Try.ntmps24
  go_wp2_with fail
  go_quiet (fail)
  have K0 : Keep Nil w (w.drewN nq) := keep_drewN _ (Keep.refl _)
  have HE' := hid (HE.out.drewN (n := nq))
  have HV' := hid (HV.out.drewN (n := nq))
  have HB' : Hid ((w.drewN nq).heap[p]? = some (.cells (refCells E (.slice ao ls.length cap)) 61 (0, 0))) := HB
  have HR' : Hid (RowAt (w.drewN nq) 27 1 q (.slice ao ls.length cap) ls.length vs) := hid (HR.out.keep K0 (fun e => e))
  have HX' : Hid (∀ i (h : i < ls.length), ∃ u, vs[i]? = some u ∧ Bts B (w.drewN nq) u ls[i]) := HX
  have c3' : (w.drewN nq).cell? ⟨p, 3, none⟩ = some (.slice ao ls.length cap) := c3
  have K0 := hid K0
  have hvl : Hid (vs.length = ls.length) := hid (by have := HR.out.length; omega)
  clear HE HV HB HR HX c0 c1 c2 c3 c4 c5 c6
  generalize w.drewN nq = wd at *
  go_wp2_with (at_builtin; refine wpList_append_row _ rfl _ _ 37 37 rfl 27 (.slice none 0 0) 1 24 Try.underlying37 info27 rfl wd.heap.size (.slice none 0 0) 0 [] rfl (RowAt.nil _ _ _ _) _ ls.length vs rfl (HR'.out.src Try.underlying37 (items_one hvl.out HX'.out)) (by simp only [maxLen]; omega) (by omega) ?_)
  intro q1 ao1 cap1 w1 r1 k1 h1
  have K1 : Keep Nil wd w1 := k1.mono (fun k hk e => by have := e.1; omega)
  have HE1 := hid (HE'.out.keep K1 Mut.nil (fun e => e) (fun e => e))
  have hq1 : wd.heap.size ≤ q1 := by rcases h1 with h | ⟨h, -⟩ <;> omega
  have R1 := hid r1
  have V1 := hid (HV'.out.keep K1 Mut.nil)
  have KK1 := hid K1
  clear r1 k1 h1 K1
  have hq1' : Hid (q1 < w1.heap.size ∨ ls.length = 0) := hid (by
    rcases R1.out with ⟨h, -⟩ | ⟨_, _, _, _, h, _⟩
    · exact .inr h
    · exact .inl (row_lt h))
  go_wp2_with (at_builtin; refine wpList_append_row _ rfl _ _ 27 27 rfl 5 (.int .u8 0) 1 1 Try.underlying27 info5 rfl w1.heap.size (.slice none 0 0) 0 [] rfl (RowAt.nil _ _ _ _) _ l.length (bcells l) rfl V1.out.src (by simp only [maxLen]; omega) (by omega) ?_)
  intro q2 ao2 cap2 w2 r2 k2 h2
  have K2 : Keep Nil w1 w2 := k2.mono (fun k hk e => by have := e.1; omega)
  have HE2 := hid (HE1.out.keep K2 Mut.nil (fun e => e) (fun e => e))
  have R2 := hid (R1.out.keep K2 (fun e => e))
  have V2 := hid (Bts.of_row (B := B) r2)
  have KK2 := hid (KK1.out.trans K2)
  clear r2 k2 h2 K2 HE1 R1 V1 KK1
  go_wp2_with (at_builtin; refine wpList_append_row _ rfl _ _ 37 37 rfl 27 (.slice none 0 0) 1 24 Try.underlying37 info27 rfl q1 (.slice ao1 ls.length cap1) ls.length vs rfl (R2.out.alloc _) _ 1 [.slice ao2 l.length cap2] rfl (src_slice w2 ao2 l.length cap2) (by simp only [maxLen]; omega) (by omega) ?_)
  intro q3 ao3 cap3 w3 r3 k3 h3
  have hT : Mut B (w2.alloc (.cells #[.slice ao2 l.length cap2] 27)) (Typ (w2.alloc (.cells #[.slice ao2 l.length cap2] 27)) q1 27) := by
    rintro k ⟨rfl, cur, e⟩
    exact ⟨by have := HE'.out.pB; have := HE'.out.lt; omega, fun cur' fr e' => by rw [e] at e'; simp at e'⟩
  have K3 : Keep Nil wd w3 := (KK2.out.alloc _).andThen k3 (fun k hk e => by have := e.1; omega)
  have HB3 := hid (K3.row HB'.out (fun e => e))
  have f33 := row_free HB3.out 3
  have HX3 : Hid (∀ i (h : i < (ls ++ [l]).length), ∃ u, (vs ++ [Value.slice ao2 l.length cap2])[i]? = some u ∧ Bts B w3 u (ls ++ [l])[i]) := hid (fun i hi => by
    by_cases hin : i < ls.length
    · obtain ⟨u, hu, hbt⟩ := HX'.out i hin
      refine ⟨u, by rw [List.getElem?_append_left (by have := hvl.out; omega)]; exact hu, ?_⟩
      rw [List.getElem_append_left hin]
      exact hbt.keep K3 Mut.nil
    · have hi' : i = ls.length := by simp at hi; omega
      subst hi'
      have hh := hvl.out
      refine ⟨.slice ao2 l.length cap2, by rw [List.getElem?_append_right (by omega)]; simp [hh], ?_⟩
      rw [List.getElem_append_right (by omega)]
      simpa using (V2.out.alloc _).keep k3 hT)
  have Q3 : Hid (wd.heap.size ≤ q3 ∧ (q3 = p ∨ ∃ cur, w3.heap[q3]? = some (.cells cur 27 (0, 0)))) := hid (by
    rcases h3 with h | ⟨h, h'⟩
    · refine ⟨by omega, ?_⟩
      rcases r3 with ⟨h0, _⟩ | ⟨_, _, cur, _, h0, _⟩
      · omega
      · exact .inr ⟨cur, h0⟩
    · have := KK2.out.size
      exact ⟨by omega, .inr h'⟩)
  have R3 := hid r3
  have K3 := hid K3
  have c33 : w3.cell? ⟨p, 3, none⟩ = some (.slice ao ls.length cap) := by rw [row_cell HB3.out]; rfl
  clear hT r3 k3 h3 HE2 R2 V2 KK2 c3'
  go_wp2
  go_ret
  refine ⟨rfl, q3, ls ++ [l], ?_, ?_, .inr ?_⟩
  · refine RefAt.setLoads (ys := E.opened ++ [l]) HE'.out.pB ?_ HB3.out (by simpa using R3.out) HX3.out Q3.out.2 HE'.out.base ?_ ?_
    · have := Q3.out.1; have := HE'.out.pB; have := HE'.out.lt; omega
    · have := HE'.out.len; simp; omega
    · have h1 := HE'.out.drop
      have h2 := HE'.out.len
      have h3 := HE'.out.base
      rw [List.drop_append_of_le_length (by omega), h1]
  · exact ((K0.out.trans K3.out).mono (fun _ _ e => e.elim)).setCell (p := ⟨p, 3, none⟩) (fun _ => .inl rfl) _
  · have := K0.out.size; have := Q3.out.1; omega

end Go.Proofs.Ytjlgolkippleaaa
