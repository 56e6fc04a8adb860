/-
  The sessions' End: Step.
-/
import Derived.Test.YtjlgolkippleaaaRecv
namespace Go.Proofs.Ytjlgolkippleaaa
open Go.RowKit

theorem info47 : (Try.prog.info? 47).map (fun i => (i.zero, i.size, i.bytes)) = some (some (.agg #[.int .i64 0, .int .i64 0, .int .i64 0, .int .i64 0, .int .i64 0, .int .i64 0, .slice none 0 0]), 7, 72) := by kernel_rfl
def mcells (m : MS) (v : Value) : List Value := [.int .i64 m.frm, .int .i64 m.to, .int .i64 m.kind, .int .i64 m.epoch, .int .i64 m.seq, .int .i64 m.ack, v]
def msgCells (ms : List MS) (us : List Value) : List Value := (ms.zip us).flatMap fun x => mcells x.1 x.2
theorem msgCells_snoc (ms : List MS) (us : List Value) (m : MS) (u : Value) (h : us.length = ms.length) : msgCells (ms ++ [m]) (us ++ [u]) = msgCells ms us ++ mcells m u := by
  unfold msgCells
  rw [List.zip_append h.symm]
  simp
/-- a row of messages, in memory of N and behind -/
def MsgsAt (N : Nat) (w : World) (q : Nat) (v : Value) (ms : List MS) : Prop :=
  ∃ us : List Value, us.length = ms.length ∧ RowAt w 47 7 q v ms.length (msgCells ms us) ∧ N ≤ q ∧ ∀ i (h : i < ms.length), ∃ qi u, us[i]? = some u ∧ N ≤ qi ∧ RowAt w 5 1 qi u ms[i].load.length (bcells ms[i].load)
theorem MsgsAt.nil (N : Nat) (w : World) : MsgsAt N w N (.slice none 0 0) [] := ⟨[], rfl, RowAt.nil _ _ _ _, Nat.le_refl _, fun _ h => absurd h (Nat.not_lt_zero _)⟩
theorem MsgsAt.shape {N : Nat} {w : World} {q : Nat} {v : Value} {ms : List MS} (h : MsgsAt N w q v ms) : ∃ ao cap, v = .slice ao ms.length cap := by
  obtain ⟨us, _, h, _⟩ := h
  exact h.shape
theorem MsgsAt.keep {N : Nat} {S : Nat → Prop} {w w' : World} {q : Nat} {v : Value} {ms : List MS} (h : MsgsAt N w q v ms) (k : Keep S w w') (hs : ∀ k, S k → k < N) : MsgsAt N w' q v ms := by
  obtain ⟨us, h1, h2, h3, h4⟩ := h
  refine ⟨us, h1, h2.keep k (fun e => by have := hs _ e; omega), h3, fun i hi => ?_⟩
  obtain ⟨qi, u, h5, h6, h7⟩ := h4 i hi
  exact ⟨qi, u, h5, h6, h7.keep k (fun e => by have := hs _ e; omega)⟩
theorem MsgsAt.drewN {N n : Nat} {w : World} {q : Nat} {v : Value} {ms : List MS} (h : MsgsAt N w q v ms) : MsgsAt N (w.drewN n) q v ms := h
theorem MsgsAt.drew {N : Nat} {w : World} {q : Nat} {v : Value} {ms : List MS} (h : MsgsAt N w q v ms) : MsgsAt N w.drew q v ms := h

/-- the load with number i of those that are open, as a message; the ack -/
def dataM (E : ES) (i : Nat) : MS := ⟨E.node, E.peer, 1, E.epoch, E.base + i + 1, E.came, E.opened.getD i []⟩
def ackM (E : ES) : MS := ⟨E.node, E.peer, 2, E.epoch, 0, E.came, []⟩
def stepMs (E : ES) : List MS := if E.opened.length = 0 then (if E.owes then [ackM E] else []) else (List.range E.opened.length).map (dataM E)

theorem step_none {w : World} {a : Option Addr} (h : NoEnd w a) : Calls Try.prog 22 #[.pointer a] w fun e w' => e = .returned (.slice none 0 0) ∧ w = w' := by
  have hk := hid (ok_none h)
  clear h
  go_enter Try.func22, Try.ntmps22
  go_wp2_with (go_at_call 36; refine hk.out.mono ?_; rintro e w' ⟨rfl, rfl⟩)
  go_ret
  exact ⟨rfl, rfl⟩

/-- an append of one message that was made -/
theorem MsgsAt.append {N : Nat} {w1 w2 : World} {q q' : Nat} {ms : List MS} {m : MS} {u : Value} {us : List Value} {qi : Nat} {ao : Option Addr} {cap : Nat} {o : Obj}
    (h1 : us.length = ms.length) (hq : N ≤ q) (hrow : ∀ i (h : i < ms.length), ∃ qi u, us[i]? = some u ∧ N ≤ qi ∧ RowAt w1 5 1 qi u ms[i].load.length (bcells ms[i].load))
    (hqi : N ≤ qi) (hu : RowAt w1 5 1 qi u m.load.length (bcells m.load))
    (hr : RowAt w2 47 7 q' (.slice ao (ms.length + 1) cap) (ms.length + 1) (msgCells ms us ++ mcells m u)) (k : Keep (Typ (w1.alloc o) q 47) (w1.alloc o) w2) (hq' : q' = q ∨ (w1.alloc o).heap.size ≤ q' ∧ ∃ cur, w2.heap[q']? = some (.cells cur 47 (0, 0))) (hN : N ≤ w1.heap.size) :
    MsgsAt N w2 q' (.slice ao (ms.length + 1) cap) (ms ++ [m]) := by
  have hk : ∀ {a : Value} {z n : Nat} {xs : List Value}, RowAt w1 5 1 z a n xs → RowAt w2 5 1 z a n xs := by
    intro a z n xs h
    have h' := h.alloc o
    rcases h' with h' | ⟨off, cap, cur, e1, e2, e3⟩
    · exact .inl h'
    · refine .inr ⟨off, cap, cur, e1, k.row e2 (fun e => ?_), e3⟩
      obtain ⟨_, cur', e4⟩ := e
      rw [e2] at e4
      simp at e4
  refine ⟨us ++ [u], by simp [h1], ?_, ?_, fun i hi => ?_⟩
  · rw [msgCells_snoc _ _ _ _ h1]
    simpa using hr
  · rcases hq' with rfl | ⟨h, _⟩
    · exact hq
    · rw [size_alloc] at h; omega
  · by_cases hin : i < ms.length
    · obtain ⟨z, a, e1, e2, e3⟩ := hrow i hin
      refine ⟨z, a, by rw [List.getElem?_append_left (by omega)]; exact e1, e2, ?_⟩
      rw [List.getElem_append_left hin]
      exact hk e3
    · have hi' : i = ms.length := by simp at hi; omega
      subst hi'
      refine ⟨qi, u, by rw [List.getElem?_append_right (by omega)]; simp [h1], hqi, ?_⟩
      rw [List.getElem_append_right (by omega)]
      simpa using hk hu

/-- what Step answers and leaves -/
def StepPost (p : Nat) (E : ES) (w : World) (e : Ending) (w' : World) : Prop :=
  ∃ q v, e = .returned v ∧ MsgsAt w.heap.size w' q v (stepMs E) ∧ Keep Nil (w.setCell ⟨p, 6, none⟩ (.bool false)) w'

theorem Keep.set_both {w W : World} {p i : Nat} {v : Value} (h : Keep Nil w W) : Keep Nil (w.setCell ⟨p, i, none⟩ v) (W.setCell ⟨p, i, none⟩ v) := by
  refine ⟨h.os, h.tape, h.output, by simpa using h.size, fun k hk _ => ?_⟩
  simp only [World.setCell, Array.getElem?_modify]
  have hk' : k < w.heap.size := by simpa using hk
  rw [h.block k hk' (fun e => e)]
theorem cell_alloc {w : World} {a : Addr} {v : Value} (o : Obj) (h : w.cell? a = some v) : (w.alloc o).cell? a = some v := ((Keep.refl (S := Nil) w).alloc o).cell h (fun e => e)

theorem src_msg (w : World) (x0 x1 x2 x3 x4 x5 : Int) (ao : Option Addr) (n cap : Nat) :
    Src Try.prog 7 55 (.slice (some ⟨w.heap.size, 0, none⟩) 1 1) 1 [.int .i64 x0, .int .i64 x1, .int .i64 x2, .int .i64 x3, .int .i64 x4, .int .i64 x5, .slice ao n cap] (w.alloc (.cells #[.int .i64 x0, .int .i64 x1, .int .i64 x2, .int .i64 x3, .int .i64 x4, .int .i64 x5, .slice ao n cap] 47)) := by
  refine Src.ofSlice _ Try.underlying55 _ _ _ _ rfl (fun j u hu => ?_) (by simp [Value.oneCell'])
  rw [Addr.add_lit, row_cell (heap_new _ _), Nat.zero_add, ← hu]
  simp
set_option maxHeartbeats 2000000 in
theorem step_some (w : World) (B p q : Nat) (E : ES) (H : EndAt B w p q E) (hok : E.Ok) :
    Calls Try.prog 22 #[.pointer (some ⟨p, 0, none⟩)] w (StepPost p E w) := by
  have hk := hid (ok_end H hok.epoch)
  obtain ⟨c0, c1, c2, c3, -, c5, c6⟩ := H.cells
  obtain ⟨v, vs, hb, hr, hx⟩ := H.block
  obtain ⟨ao, cap, rfl⟩ := hr.shape
  have c4 : w.cell? ⟨p, 4, none⟩ = some (.slice ao E.opened.length cap) := by rw [row_cell hb]; rfl
  have HE := hid H
  have HB := hid hb
  have HR := hid hr
  have HX := hid hx
  have HO := hid hok
  have l8 := hok.len
  have b1 := hok.base
  have b2 := hok.base2
  clear H hb hr hx hok
  have HX' : Hid (∀ i, i < E.opened.length → ∃ u, vs[i]? = some u ∧ Bts B w u (E.opened.getD i []) ∧ (E.opened.getD i []).length ≤ 1200) := hid (fun i hi => by
    obtain ⟨u, h1, h2⟩ := HX.out i hi
    have e : E.opened.getD i [] = E.opened[i] := by simp [List.getD, hi]
    exact ⟨u, h1, by rw [e]; exact h2, by rw [e]; exact HO.out.loads _ (List.getElem_mem hi)⟩)
  clear HX
  go_enter Try.func22, Try.ntmps22
  go_wp2_with (go_at_call 36; refine hk.out.mono ?_; rintro e w' ⟨rfl, rfl⟩)
  go_loopw [3, 14] (fun out i wr => ∃ (k q' cap' : Nat) (ao' : Option Addr), k ≤ E.opened.length ∧ i = .int .i64 k ∧ out = .slice ao' k cap' ∧ MsgsAt w.heap.size wr q' (.slice ao' k cap') ((List.range k).map (dataM E)) ∧ Keep Nil w wr) (fun _ i _ => E.opened.length - (intOf i).toNat)
  case atStart => exact ⟨0, _, 0, none, Nat.zero_le _, rfl, rfl, MsgsAt.nil _ _, Keep.refl _⟩
  case round =>
    obtain ⟨k, q', cap', ao', hk, rfl, rfl, hms, hkp⟩ := hrel
    have HM := hid hms
    have HK := hid hkp
    have d3 := hkp.drew.cell c3 (fun e => e)
    have d4 := hkp.drew.cell c4 (fun e => e)
    have d6 := hkp.drew.cell c6 (fun e => e)
    have d6' : wr.cell? ⟨p, 6, none⟩ = some (.bool E.owes) := d6
    clear hms hkp
    by_cases hkn : k < E.opened.length
    · obtain ⟨u, hu, hbt, hul⟩ := HX'.out k hkn
      obtain ⟨aou, capu, rfl, -⟩ := id hbt
      obtain ⟨off, hao, hcu⟩ := HR.out.cell k (by omega)
      subst hao
      rw [hu] at hcu
      have dv := HK.out.drew.cell hcu (fun e => e)
      have wr1 : IntKind.i64.wrap (E.base + k) = E.base + k := IntWalk.i64_in _ (by omega)
      have wr2 : IntKind.i64.wrap (E.base + k + 1) = E.base + k + 1 := IntWalk.i64_in _ (by omega)
      have HMS := message_some wr.drew B p q E 1 (E.base + k + 1) _ _ (HE.out.keep HK.out.drew Mut.nil (fun e => e) (fun e => e)) hul (hbt.keep HK.out.drew Mut.nil)
      unfold MsgTo msgV at HMS
      have HMS := hid HMS
      obtain ⟨us, hus1, hus2, hus3, hus4⟩ := HM.out
      have U1 := hid hus1
      rw [List.length_map, List.length_range] at hus2
      have U2 : Hid (RowAt wr.drew 47 7 q' (.slice ao' k cap') k (msgCells ((List.range k).map (dataM E)) us)) := hid hus2
      have U3 := hid hus3
      have U4 := hid hus4
      have DM : Hid (dataM E k = ⟨E.node, E.peer, 1, E.epoch, E.base + k + 1, E.came, E.opened.getD k []⟩) := hid rfl
      have C3 := hid c3
      have C4 := hid c4
      have CV := hid hcu
      clear hbt hu hcu hus1 hus2 hus3 hus4 hk HR HX' c0 c1 c2 c3 c4 c5 c6
      generalize E.opened.getD k [] = l at *
      go_wp2_with fail
      go_region_held3 (fun w' => w'.cell? ⟨p, 3, none⟩ = some (.int .i64 E.base) ∧ w'.cell? ⟨p, 4, none⟩ = some (.slice (some ⟨q, off, none⟩) E.opened.length cap) ∧ w'.cell? ⟨q, off + k, none⟩ = some (.slice aou l.length capu))
        (first | (with_reducible exact ⟨d3, d4, dv⟩) | (with_reducible exact ⟨e3, e4, ev⟩) | (with_reducible exact ⟨cell_alloc _ e3, cell_alloc _ e4, cell_alloc _ ev⟩) | (with_reducible exact ⟨g3, g4, gv⟩))
        ((first
          | (go_at_call 42; refine HMS.out.mono ?_; rintro e w1 ⟨qc, aoc, capc, rfl, hrow, hqc, k1⟩; have e3 := k1.cell d3 (fun e => e); have e4 := k1.cell d4 (fun e => e); have ev := k1.cell dv (fun e => e); have R1 := hid hrow; have Q1 := hid hqc; have K1 := hid k1; clear hrow hqc k1)
          | ((refine step_append_row _ rfl _ _ 55 55 rfl 47 (.agg #[.int .i64 0, .int .i64 0, .int .i64 0, .int .i64 0, .int .i64 0, .int .i64 0, .slice none 0 0]) 7 72 Try.underlying55 info47 rfl q' (.slice ao' k cap') k (msgCells ((List.range k).map (dataM E)) us) rfl ((RowAt.keep (S := Nil) U2.out K1.out (fun e => e)).alloc _) _ 1 _ rfl (src_msg w1 E.node E.peer 1 E.epoch (E.base + k + 1) E.came aoc l.length capc) (by simp only [maxLen]; omega) (by omega) ?_); intro q2 ao2 cap2 w2 r2 k2 h2; have KW := hid (((HK.out.drew.trans K1.out).alloc _).andThen k2 (fun i hi e => by have e1 := e.1; have e2 := U3.out; omega)); have g3 := KW.out.cell C3.out (fun e => e); have g4 := KW.out.cell C4.out (fun e => e); have gv := KW.out.cell CV.out (fun e => e); have R2 := hid r2; have K2 := hid k2; have H2 := hid h2; clear r2 k2 h2)))
      go_wp2_with fail
      go_roundw
      case rel =>
        refine ⟨k + 1, q2, cap2, ao2, by omega, by go_num, rfl, ?_, KW.out⟩
        rw [List.range_succ, List.map_append]
        have h := MsgsAt.append (N := w.heap.size) (w1 := w1) (w2 := w2) (q := q') (q' := q2) (ms := (List.range k).map (dataM E)) (m := dataM E k) (u := .slice aoc l.length capc) (us := us) (qi := qc) (ao := ao2) (cap := cap2) U1.out U3.out (fun i hi => ?_) (Nat.le_trans HK.out.size Q1.out) ?_ ?_ K2.out H2.out (Nat.le_trans HK.out.size K1.out.size)
        · simpa using h
        · obtain ⟨a, b, h1, h2, h3⟩ := U4.out i hi
          exact ⟨a, b, h1, h2, RowAt.keep (S := Nil) (w := wr.drew) h3 K1.out (fun e => e)⟩
        · rw [DM.out]; exact R1.out
        · rw [DM.out]; have h := R2.out; simpa [mcells] using h
      case measure => simp [intOf] <;> omega
    · obtain rfl : k = E.opened.length := by omega
      have C3 := hid c3
      have C6 := hid c6
      have hlast : ∀ (W : World) (q2 : Nat) (v : Value), MsgsAt w.heap.size W q2 v (stepMs E) → Keep Nil w W → StepPost p E w (.returned v) (W.setCell ⟨p, 6, none⟩ (.bool false)) := by
        intro W q2 v hm hk
        refine ⟨q2, v, rfl, hm.keep ((Keep.refl W).setCell (S := One p) (p := ⟨p, 6, none⟩) (fun _ => rfl) _) (fun k e => by rw [e]; exact HE.out.lt.1), ?_⟩
        exact Keep.set_both hk
      have HLA := hid hlast
      clear hlast HX' HR c0 c1 c2 c3 c4 c5
      have hfz := (row_free (HK.out.row HB.out (fun e => e)) 6)
      by_cases h0 : E.opened.length = 0
      · have hM0 : MsgsAt w.heap.size wr q' (.slice ao' 0 cap') [] := by have h := HM.out; rw [h0] at h; exact h
        by_cases ho : E.owes = true
        · have e1 : stepMs E = [ackM E] := (if_pos h0).trans (if_pos ho)
          rw [ho] at d6'
          have HMS := message_some wr B p q E 2 0 _ _ (HE.out.keep HK.out Mut.nil (fun e => e) (fun e => e)) (by simp) (Bts.nil B wr)
          unfold MsgTo msgV at HMS
          have HMS := hid HMS
          obtain ⟨us, hus1, hus2, hus3, -⟩ := hM0
          obtain rfl : us = [] := List.eq_nil_of_length_eq_zero hus1
          have U2 : Hid (RowAt wr 47 7 q' (.slice ao' 0 cap') 0 []) := hid hus2
          have U3 := hid hus3
          have E1 := hid e1
          have hz0 : (E.opened.length : Int) = 0 := by omega
          have CB := hid HB.out
          clear e1 hus1 hus2 hus3 HM ho
          go_wp2_with fail
          refine HMS.out.mono ?_
          rintro e w1 ⟨qc, aoc, capc, rfl, hrow, hqc, k1⟩
          have R1 := hid hrow
          have Q1 := hid hqc
          have K1 := hid k1
          clear hrow hqc k1
          go_wp2_with (at_builtin; refine wpList_append_row _ rfl _ _ 55 55 rfl 47 (.agg #[.int .i64 0, .int .i64 0, .int .i64 0, .int .i64 0, .int .i64 0, .int .i64 0, .slice none 0 0]) 7 72 Try.underlying55 info47 rfl q' (.slice ao' 0 cap') 0 [] rfl ((RowAt.keep (S := Nil) U2.out K1.out (fun e => e)).alloc _) _ 1 _ rfl (src_msg w1 E.node E.peer 2 E.epoch 0 E.came aoc 0 capc) (by simp only [maxLen]; omega) (by omega) ?_)
          intro q2 ao2 cap2 w2 r2 k2 h2
          have KW : Keep Nil w w2 := ((HK.out.trans K1.out).alloc _).andThen k2 (fun i hi e => by have e1 := e.1; have e2 := U3.out; omega)
          have hfz := (row_free (KW.row HB.out (fun e => e)) 6)
          have g6 := KW.cell C6.out (fun e => e)
          have h := MsgsAt.append (N := w.heap.size) (w1 := w1) (w2 := w2) (q := q') (q' := q2) (ms := []) (m := ackM E) (u := .slice aoc 0 capc) (us := []) (qi := qc) (ao := ao2) (cap := cap2) rfl U3.out (fun i hi => absurd hi (Nat.not_lt_zero _)) (Nat.le_trans HK.out.size Q1.out) R1.out (by simpa [mcells, ackM, msgCells] using r2) k2 (by rw [size_alloc]; exact h2) (Nat.le_trans HK.out.size K1.out.size)
          have H := hid (show MsgsAt w.heap.size w2 q2 (.slice ao2 1 cap2) (stepMs E) by rw [E1.out]; exact h)
          have KW := hid KW
          clear r2 k2 h2 h
          go_wp2
          go_ret
          exact HLA.out _ _ _ H.out KW.out
        · have e1 : stepMs E = [] := (if_pos h0).trans (if_neg ho)
          have ho' : E.owes = false := by simpa using ho
          rw [ho'] at d6'
          have HM' : Hid (MsgsAt w.heap.size wr q' (.slice ao' E.opened.length cap') (stepMs E)) := hid (by rw [e1, h0]; exact hM0)
          clear e1 ho hM0 HM
          go_wp2
          go_ret
          exact HLA.out _ _ _ HM'.out HK.out
      · have e1 : stepMs E = (List.range E.opened.length).map (dataM E) := if_neg h0
        have HM' : Hid (MsgsAt w.heap.size wr q' (.slice ao' E.opened.length cap') (stepMs E)) := hid (by rw [e1]; exact HM.out)
        have h0' : ((E.opened.length : Int) == 0) = false := beq_f (by omega)
        clear e1
        go_wp2
        go_ret
        exact HLA.out _ _ _ HM'.out HK.out

end Go.Proofs.Ytjlgolkippleaaa
