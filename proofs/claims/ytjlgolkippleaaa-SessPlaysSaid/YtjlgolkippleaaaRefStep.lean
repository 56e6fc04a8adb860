/-
  The reference's End: Step.
-/
import Derived.Test.YtjlgolkippleaaaRef
namespace Go.Proofs.Ytjlgolkippleaaa
open Go.RowKit

theorem cell_alloc_drew {w : World} {a : Addr} {v : Value} (o : Obj) (h : w.drew.cell? a = some v) : (w.alloc o).drew.cell? a = some v := cell_alloc (w := w.drew) o h
set_option maxHeartbeats 2000000 in
theorem rstep_some (w : World) (B p q : Nat) (E : ES) (ls : List (List UInt8)) (H : RefAt B w p q E ls) (hok : E.Ok) :
    Calls Try.prog 26 #[.pointer (some ⟨p, 0, none⟩)] w (StepPost p E w) := by
  obtain ⟨c0, c1, c2, -, c4, c5, c6⟩ := H.cells
  obtain ⟨v, vs, hb, hr, hx⟩ := H.block
  obtain ⟨ao, cap, rfl⟩ := hr.shape
  have c3 : w.cell? ⟨p, 3, none⟩ = some (.slice ao ls.length cap) := by rw [row_cell hb]; rfl
  obtain ⟨bn, hbn⟩ : ∃ bn : Nat, E.base = bn := ⟨E.base.toNat, (Int.toNat_of_nonneg H.base).symm⟩
  rw [hbn] at c4
  have hll : ls.length = bn + E.opened.length := by have := H.len; omega
  have hdr := H.drop
  rw [hbn, show (bn : Int).toNat = bn from rfl] at hdr
  have HE := hid H
  have HB := hid hb
  have HR := hid hr
  have HO := hid hok
  have HBN := hid hbn
  have HX' : Hid (∀ i, i < E.opened.length → ∃ u, vs[bn + i]? = some u ∧ Bts B w u (E.opened.getD i []) ∧ (E.opened.getD i []).length ≤ 1200) := hid (fun i hi => by
    obtain ⟨u, h1, h2⟩ := hx (bn + i) (by omega)
    have e : E.opened.getD i [] = ls[bn + i]'(by omega) := by
      rw [← hdr]
      simp [List.getD, show bn + i < ls.length by omega]
    have e2 : E.opened.getD i [] = E.opened[i] := by simp [List.getD, hi]
    exact ⟨u, h1, by rw [e]; exact h2, by rw [e2]; exact hok.loads _ (List.getElem_mem hi)⟩)
  have l8 := hok.len
  have b2 := hok.base2
  rw [hbn] at b2
  have HLL := hid hll
  have h9 : ls.length ≤ 1152921504606846984 := by omega
  have hlen2 : (ls.length : Int) = (bn : Int) + E.opened.length := by omega
  clear H hb hr hx hok hbn hll hdr
  go_enter Try.func26, Try.ntmps26
  go_wp2_with fail
  go_loopw [3, 4] (fun out i wr => ∃ (k q' cap' : Nat) (ao' : Option Addr), k ≤ E.opened.length ∧ i = .int .i64 ((bn : Int) + k) ∧ out = .slice ao' k cap' ∧ MsgsAt w.heap.size wr q' (.slice ao' k cap') ((List.range k).map (dataM E)) ∧ Keep Nil w wr) (fun _ i _ => E.opened.length - (intOf i - bn).toNat)
  case atStart => exact ⟨0, _, 0, none, Nat.zero_le _, by simp, rfl, MsgsAt.nil _ _, Keep.refl _⟩
  case round =>
    obtain ⟨k, q', cap', ao', hk, rfl, rfl, hms, hkp⟩ := hrel
    have HM := hid hms
    have HK := hid hkp
    have d0 := hkp.drew.cell c0 (fun e => e)
    have d1 := hkp.drew.cell c1 (fun e => e)
    have d2 := hkp.drew.cell c2 (fun e => e)
    have d3 := hkp.drew.cell c3 (fun e => e)
    have d5 := hkp.drew.cell c5 (fun e => e)
    have d6 := hkp.drew.cell c6 (fun e => e)
    have d3' : wr.cell? ⟨p, 3, none⟩ = some (.slice ao ls.length cap) := d3
    have d6' : wr.cell? ⟨p, 6, none⟩ = some (.bool E.owes) := d6
    clear hms hkp
    by_cases hkn : k < E.opened.length
    · obtain ⟨u, hu, hbt, hul⟩ := HX'.out k hkn
      obtain ⟨aou, capu, rfl, -⟩ := id hbt
      obtain ⟨off, hao, hcu⟩ := HR.out.cell (bn + k) (by have := HLL.out; omega)
      subst hao
      rw [hu] at hcu
      have dv := HK.out.drew.cell hcu (fun e => e)
      have wr2 : IntKind.i64.wrap ((bn : Int) + k + 1) = (bn : Int) + k + 1 := IntWalk.i64_in _ (by omega)
      have i1 : (0 : Int) ≤ (bn : Int) + k := by omega
      have i2 : ((bn : Int) + k).toNat = bn + k := by omega
      have i3 : (bn : Int) + k < (ls.length : Int) := by omega
      have VB := hid (hbt.keep HK.out.drew Mut.nil)
      obtain ⟨us, hus1, hus2, hus3, hus4⟩ := HM.out
      rw [List.length_map, List.length_range] at hus2
      have U1 := hid hus1
      have U2 : Hid (RowAt wr.drew 47 7 q' (.slice ao' k cap') k (msgCells ((List.range k).map (dataM E)) us)) := hid hus2
      have U3 := hid hus3
      have U4 := hid hus4
      have DM : Hid (dataM E k = ⟨E.node, E.peer, 1, E.epoch, (bn : Int) + k + 1, E.came, E.opened.getD k []⟩) := hid (by unfold dataM; rw [HBN.out])
      have C0 := hid c0
      have C1 := hid c1
      have C2 := hid c2
      have C3 := hid c3
      have C5 := hid c5
      have CV := hid hcu
      clear hbt hu hcu hus1 hus2 hus3 hus4 hk HR HX' c0 c1 c2 c3 c4 c5 c6
      generalize E.opened.getD k [] = l at *
      go_wp2_with fail
      go_region_held3 (fun w' => w'.cell? ⟨p, 0, none⟩ = some (.int .i64 E.node) ∧ w'.cell? ⟨p, 1, none⟩ = some (.int .i64 E.peer) ∧ w'.cell? ⟨p, 2, none⟩ = some (.int .i64 E.epoch) ∧ w'.cell? ⟨p, 3, none⟩ = some (.slice (some ⟨q, off, none⟩) ls.length cap) ∧ w'.cell? ⟨p, 5, none⟩ = some (.int .i64 E.came) ∧ w'.cell? ⟨q, off + (bn + k), none⟩ = some (.slice aou l.length capu))
        (first | (with_reducible exact ⟨d0, d1, d2, d3, d5, dv⟩) | (with_reducible exact ⟨e0, e1, e2, e3, e5, ev⟩) | (with_reducible exact ⟨cell_alloc _ e0, cell_alloc _ e1, cell_alloc _ e2, cell_alloc _ e3, cell_alloc _ e5, cell_alloc _ ev⟩) | (with_reducible exact ⟨g0, g1, g2, g3, g5, gv⟩))
        ((first
          | (refine step_append_row _ rfl _ _ 27 27 rfl 5 (.int .u8 0) 1 1 Try.underlying27 info5 rfl wr.drew.heap.size (.slice none 0 0) 0 [] rfl (RowAt.nil _ _ _ _) _ l.length (bcells l) rfl VB.out.src (by simp only [maxLen]; omega) (by omega) ?_; intro qc aoc capc w1 hrow kk1 hqc; have K1 := hid (show Keep Nil wr.drew w1 from kk1.mono (fun k hk e => by have := e.1; omega)); have e0 := K1.out.cell d0 (fun e => e); have e1 := K1.out.cell d1 (fun e => e); have e2 := K1.out.cell d2 (fun e => e); have e3 := K1.out.cell d3 (fun e => e); have e5 := K1.out.cell d5 (fun e => e); have ev := K1.out.cell dv (fun e => e); have R1 := hid hrow; have Q1 : Hid (wr.drew.heap.size ≤ qc) := hid (by rcases hqc with h | ⟨h, -⟩ <;> omega); clear hrow hqc kk1)
          | (refine step_append_row _ rfl _ _ 55 55 rfl 47 (.agg #[.int .i64 0, .int .i64 0, .int .i64 0, .int .i64 0, .int .i64 0, .int .i64 0, .slice none 0 0]) 7 72 Try.underlying55 info47 rfl q' (.slice ao' k cap') k (msgCells ((List.range k).map (dataM E)) us) rfl ((RowAt.keep (S := Nil) U2.out K1.out (fun e => e)).alloc _) _ 1 _ rfl (src_msg w1 E.node E.peer 1 E.epoch ((bn : Int) + k + 1) E.came aoc l.length capc) (by simp only [maxLen]; omega) (by omega) ?_; intro q2 ao2 cap2 w2 r2 k2 h2; have KW := hid (((HK.out.drew.trans K1.out).alloc _).andThen k2 (fun i hi e => by have e1 := e.1; have e2 := U3.out; omega)); have g0 := KW.out.cell C0.out (fun e => e); have g1 := KW.out.cell C1.out (fun e => e); have g2 := KW.out.cell C2.out (fun e => e); have g3 := KW.out.cell C3.out (fun e => e); have g5 := KW.out.cell C5.out (fun e => e); have gv := KW.out.cell CV.out (fun e => e); have R2 := hid r2; have K2 := hid k2; have H2 := hid h2; clear r2 k2 h2)))
      go_wp2_with fail
      go_roundw
      case rel =>
        refine ⟨k + 1, q2, cap2, ao2, by omega, by go_num, rfl, ?_, KW.out⟩
        rw [List.range_succ, List.map_append]
        have h := MsgsAt.append (N := w.heap.size) (w1 := w1) (w2 := w2) (q := q') (q' := q2) (ms := (List.range k).map (dataM E)) (m := dataM E k) (u := .slice aoc l.length capc) (us := us) (qi := qc) (ao := ao2) (cap := cap2) U1.out U3.out (fun i hi => ?_) (Nat.le_trans HK.out.size Q1.out) ?_ ?_ K2.out H2.out (Nat.le_trans HK.out.size K1.out.size)
        · simpa using h
        · obtain ⟨a, b, h1, h2, h3⟩ := U4.out i hi
          exact ⟨a, b, h1, h2, RowAt.keep (S := Nil) (w := wr.drew) h3 K1.out (fun e => e)⟩
        · rw [DM.out]; simpa using R1.out
        · rw [DM.out]; have h := R2.out; simpa [mcells] using h
      case measure => simp [intOf] <;> omega
    · obtain rfl : k = E.opened.length := by omega
      have C6 := hid c6
      have hlast : ∀ (W : World) (q2 : Nat) (v : Value), MsgsAt w.heap.size W q2 v (stepMs E) → Keep Nil w W → StepPost p E w (.returned v) (W.setCell ⟨p, 6, none⟩ (.bool false)) := by
        intro W q2 v hm hk
        refine ⟨q2, v, rfl, hm.keep ((Keep.refl W).setCell (S := One p) (p := ⟨p, 6, none⟩) (fun _ => rfl) _) (fun k e => by rw [e]; exact HE.out.lt.1), ?_⟩
        exact Keep.set_both hk
      have HLA := hid hlast
      clear hlast HX' HR
      have hfz := (row_free (HK.out.row HB.out (fun e => e)) 6)
      by_cases h0 : E.opened.length = 0
      · have hM0 : MsgsAt w.heap.size wr q' (.slice ao' 0 cap') [] := by have h := HM.out; rw [h0] at h; exact h
        by_cases ho : E.owes = true
        · have e1 : stepMs E = [ackM E] := (if_pos h0).trans (if_pos ho)
          rw [ho] at d6'
          obtain ⟨us, hus1, hus2, hus3, -⟩ := hM0
          obtain rfl : us = [] := List.eq_nil_of_length_eq_zero hus1
          have U2 : Hid (RowAt wr.drew 47 7 q' (.slice ao' 0 cap') 0 []) := hid hus2
          have U3 := hid hus3
          have S1 := hid e1
          have hz0 : (E.opened.length : Int) = 0 := by omega
          have C0 := hid c0
          have C1 := hid c1
          have C2 := hid c2
          have C5 := hid c5
          have HN := hid (RowAt.nil wr 5 1 wr.heap.size)
          clear e1 hus1 hus2 hus3 HM ho c0 c1 c2 c3 c4 c5 c6
          go_wp2_with fail
          go_region_held3 (fun w' => w'.cell? ⟨p, 0, none⟩ = some (.int .i64 E.node) ∧ w'.cell? ⟨p, 1, none⟩ = some (.int .i64 E.peer) ∧ w'.cell? ⟨p, 2, none⟩ = some (.int .i64 E.epoch) ∧ w'.cell? ⟨p, 5, none⟩ = some (.int .i64 E.came))
            (first | (with_reducible exact ⟨d0, d1, d2, d5⟩) | (with_reducible exact ⟨cell_alloc_drew _ d0, cell_alloc_drew _ d1, cell_alloc_drew _ d2, cell_alloc_drew _ d5⟩) | (with_reducible exact ⟨g0, g1, g2, g5⟩))
            ((first
              | (refine step_append_row _ rfl _ _ 55 55 rfl 47 (.agg #[.int .i64 0, .int .i64 0, .int .i64 0, .int .i64 0, .int .i64 0, .int .i64 0, .slice none 0 0]) 7 72 Try.underlying55 info47 rfl q' (.slice ao' 0 cap') 0 [] rfl (show RowAt (wr.alloc _).drew 47 7 q' (.slice ao' 0 cap') 0 [] from U2.out.alloc _) _ 1 _ rfl (src_msg wr.drew E.node E.peer 2 E.epoch 0 E.came none 0 0) (by simp only [maxLen]; omega) (by omega) ?_; intro q2 ao2 cap2 w2 r2 k2 h2; have KW := hid ((HK.out.alloc _).drew.andThen k2 (fun i hi e => by have e1 := e.1; have e2 := U3.out; omega)); have g0 := KW.out.cell C0.out (fun e => e); have g1 := KW.out.cell C1.out (fun e => e); have g2 := KW.out.cell C2.out (fun e => e); have g5 := KW.out.cell C5.out (fun e => e); have g6 := KW.out.cell C6.out (fun e => e); have gf6 := (row_free (KW.out.row HB.out (fun e => e)) 6); have R2 := hid r2; have K2 := hid k2; have H2 := hid h2; clear r2 k2 h2)))
          have h := MsgsAt.append (N := w.heap.size) (w1 := wr.drew) (w2 := w2) (q := q') (q' := q2) (ms := []) (m := ackM E) (u := .slice none 0 0) (us := []) (qi := wr.heap.size) (ao := ao2) (cap := cap2) rfl U3.out (fun i hi => absurd hi (Nat.not_lt_zero _)) HK.out.size (HN.out.keep (Keep.refl (S := Nil) wr).drew (fun e => e)) (by have h := R2.out; simpa [mcells, ackM, msgCells] using h) K2.out H2.out HK.out.size
          have H := hid (show MsgsAt w.heap.size w2 q2 (.slice ao2 1 cap2) (stepMs E) by rw [S1.out]; exact h)
          clear h R2 K2 H2
          go_wp2
          go_ret
          exact HLA.out _ _ _ H.out KW.out
        · have e1 : stepMs E = [] := (if_pos h0).trans (if_neg ho)
          have ho' : E.owes = false := by simpa using ho
          rw [ho'] at d6'
          have HM' : Hid (MsgsAt w.heap.size wr q' (.slice ao' E.opened.length cap') (stepMs E)) := hid (by rw [e1, h0]; exact hM0)
          clear e1 ho hM0 HM
          go_wp2
          go_ret
          exact HLA.out _ _ _ HM'.out HK.out
      · have e1 : stepMs E = (List.range E.opened.length).map (dataM E) := if_neg h0
        have HM' : Hid (MsgsAt w.heap.size wr q' (.slice ao' E.opened.length cap') (stepMs E)) := hid (by rw [e1]; exact HM.out)
        have h0' : ((E.opened.length : Int) == 0) = false := beq_f (by omega)
        clear e1
        go_wp2
        go_ret
        exact HLA.out _ _ _ HM'.out HK.out

end Go.Proofs.Ytjlgolkippleaaa
