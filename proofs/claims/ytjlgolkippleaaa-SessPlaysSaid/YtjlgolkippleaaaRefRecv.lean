/-
  The reference's End: Recv.
-/
import Derived.Test.YtjlgolkippleaaaRef
import Derived.BigRegion
namespace Go.Proofs.Ytjlgolkippleaaa
open Go.RowKit

theorem RefAt.take {B p q : Nat} {w : World} {E : ES} {ls : List (List UInt8)} (h : RefAt B w p q E ls) (n : Int) (hn : n ≤ E.base + E.opened.length) :
    RefAt B (w.setCell ⟨p, 4, none⟩ (.int .i64 (if E.base < n then n else E.base))) p q (takeTo E n) ls := by
  have h1 := h.base
  have h2 := h.len
  have h3 := h.drop
  unfold takeTo
  by_cases hk : E.base < n
  · rw [if_pos hk, if_pos hk]
    refine h.field 4 _ (fun _ => rfl) (by show 0 ≤ n; omega) ?_ ?_
    · show (ls.length : Int) = n + ((E.opened.drop (n - E.base).toNat).length : Nat)
      simp; omega
    · show ls.drop n.toNat = E.opened.drop (n - E.base).toNat
      rw [← h3, List.drop_drop]
      congr 1
      omega
  · rw [if_neg hk, if_neg hk]
    exact h.field 4 _ (fun _ => rfl) h1 h2 h3

/-- what Recv answers -/
def RRecvPost (B p q : Nat) (E : ES) (m : MS) (w : World) (e : Ending) (w' : World) : Prop :=
  ∃ v, e = .returned (.tuple #[v, .bool (comes E m), .int .i64 (wrongE E m)]) ∧ Bts B w' v (if comes E m then m.load else []) ∧ RefTo B p q (recvTo E m) w w'

set_option maxHeartbeats 2000000 in
theorem rrecv_some (w : World) (B p q : Nat) (E : ES) (ls : List (List UInt8)) (m : MS) (v : Value) (H : RefAt B w p q E ls) (hok : E.Ok) (hseq : m.seq ≤ 9223372036854775807) (hv : Bts B w v m.load)
    (hwr : ∀ o cap ao, Calls Try.prog 44 #[.pointer (some ⟨p, 0, none⟩), mV m (.slice ao m.load.length cap)] (w.alloc o) fun e w' => e = .returned (.int .i64 (wrongE E m)) ∧ Keep Nil (w.alloc o) w') :
    Calls Try.prog 27 #[.pointer (some ⟨p, 0, none⟩), mV m v] w (RRecvPost B p q E m w) := by
  obtain ⟨ao, cap, rfl, hv'⟩ := id hv
  have HA := hid (fun o => H.alloc o)
  have HW := hid (fun o => hwr o cap ao)
  have HV := hid (fun o => hv.alloc o)
  have HK := hid (fun o => (Keep.refl (S := Nil) w).alloc o)
  have HL := hid H.lt
  have HO := hid hok
  clear H hv hv' hok hwr
  obtain ⟨frm, to, kind, epoch, seq, ack, load⟩ := m
  unfold mV at HW ⊢
  simp only at HW HV hseq ⊢
  have hz := hid (heap_new w (.cells #[.int .i64 frm, .int .i64 to, .int .i64 kind, .int .i64 epoch, .int .i64 seq, .int .i64 ack, .slice ao load.length cap] 47 (0, 0)))
  by_cases hbad : wrongE E ⟨frm, to, kind, epoch, seq, ack, load⟩ ≠ 0
  · have e1 : recvTo E ⟨frm, to, kind, epoch, seq, ack, load⟩ = E := if_pos hbad
    have e2 : comes E ⟨frm, to, kind, epoch, seq, ack, load⟩ = false := decide_eq_false (fun e => hbad e.1)
    unfold RRecvPost
    rw [e1, e2]
    have b1 := bne_t hbad
    clear e1 e2 hbad
    generalize wrongE E ⟨frm, to, kind, epoch, seq, ack, load⟩ = r at *
    go_enter Try.func27, Try.ntmps27
    go_wp2_with fail
    refine (HW.out _).mono ?_
    rintro e w1 ⟨rfl, k1⟩
    have K1 := hid ((HK.out _).andThen k1 (fun _ _ e => e))
    have E1 := hid ((HA.out _).keep k1 Mut.nil (fun e => e) (fun e => e))
    clear k1
    go_wp2
    refine bodyPost_ret (v := .tuple #[.slice none 0 0, .bool false, .int .i64 r]) (by simp [results, Try.results27, go_sem]) rfl ⟨_, rfl, by simpa using Bts.nil B w1, q, ls, E1.out, K1.out.mono (fun _ _ e => e.elim), .inl rfl⟩
  have h0 : wrongE E ⟨frm, to, kind, epoch, seq, ack, load⟩ = 0 := Decidable.not_not.1 hbad
  obtain ⟨r1, r2, r3, r4, -, -, -, r5, r6⟩ := wrong_range h0
  simp only at r1 r2 r3 r4 r5 r6
  have hto : recvTo E ⟨frm, to, kind, epoch, seq, ack, load⟩ = if kind = 2 then takeTo E ack else if seq ≠ E.came + 1 then { takeTo E ack with owes := true } else { takeTo E ack with owes := true, came := E.came + 1 } := if_neg hbad
  have hco : comes E ⟨frm, to, kind, epoch, seq, ack, load⟩ = decide (kind ≠ 2 ∧ seq = E.came + 1) := by unfold comes; rw [h0]; simp
  have FIN := hid (show ∀ (c : Bool) (E' : ES) (W : World) (v : Value), comes E ⟨frm, to, kind, epoch, seq, ack, load⟩ = c → recvTo E ⟨frm, to, kind, epoch, seq, ack, load⟩ = E' → Bts B W v (if c then load else []) → RefTo B p q E' w W →
      RRecvPost B p q E ⟨frm, to, kind, epoch, seq, ack, load⟩ w (.returned (.tuple #[v, .bool c, .int .i64 0])) W from by
    intro c E' W v e1 e2 e3 e4
    exact ⟨v, by rw [e1, h0], by rw [e1]; exact e3, by rw [e2]; exact e4⟩)
  rw [h0] at HW
  have HTO := hid hto
  have HCO := hid hco
  clear hto hco hbad h0
  have b1 := HO.out.came
  have b2 := HO.out.came2
  go_enter Try.func27, Try.ntmps27
  go_wp2_with fail
  refine (HW.out _).mono ?_
  rintro e w1 ⟨rfl, k1⟩
  have K1 := hid ((HK.out _).andThen k1 (fun _ _ e => e))
  have E1 := hid ((HA.out _).keep k1 Mut.nil (fun e => e) (fun e => e))
  have V1 := hid ((HV.out _).keep k1 Mut.nil)
  have Z1 := hid (k1.row hz.out (fun e => e))
  clear k1 HW HA HV HK hz
  have hzp : Hid (w.heap.size ≠ p ∧ w.heap.size ≠ q) := hid (by have := HL.out; omega)
  generalize w.heap.size = z at *
  have a5 : w1.cell? ⟨z, 5, none⟩ = some (.int .i64 ack) := row_cell Z1.out 5
  have d4 := E1.out.cells.2.2.2.2.1
  have g4 := E1.out.free 4
  go_wp2_with fail
  go_region
  have hnp : Hid (z ≠ p) := hid hzp.out.1
  have E2 := hid ((E1.out.take ack r2).drew)
  have K2 := hid (((K1.out.mono (T := Two p q) (fun _ _ e => e.elim)).setCell (p := ⟨p, 4, none⟩) (fun _ => .inl rfl) (.int .i64 (if E.base < ack then ack else E.base))).drew)
  have Z2 : Hid ((w1.setCell ⟨p, 4, none⟩ (.int .i64 (if E.base < ack then ack else E.base))).drew.heap[z]? = _) := hid (row_other Z1.out (a := ⟨p, 4, none⟩) hnp.out (.int .i64 (if E.base < ack then ack else E.base)))
  have V2 := hid ((V1.out.keep ((Keep.refl w1).setCell (S := Two p q) (p := ⟨p, 4, none⟩) (fun _ => .inl rfl) (.int .i64 (if E.base < ack then ack else E.base))) E1.out.mut).drew)
  clear a5 d4 g4 E1 K1 Z1 V1
  generalize (w1.setCell ⟨p, 4, none⟩ (.int .i64 (if E.base < ack then ack else E.base))).drew = w2 at *
  generalize (if E.base < ack then ack else E.base) = mx at *
  have t1 := hid (takeTo_fields E ack).1
  generalize takeTo E ack = E2s at *
  have f2 : w2.cell? ⟨z, 2, none⟩ = some (.int .i64 kind) := row_cell Z2.out 2
  have g6 := E2.out.free 6
  have c6 := E2.out.cells.2.2.2.2.2.2
  by_cases hk2 : kind = 2
  · have q2 := beq_t hk2
    have d1 := hid (HCO.out.trans (decide_eq_false (fun e => e.1 hk2)))
    have d2 := hid (HTO.out.trans (if_pos hk2))
    clear hk2 r4 r5 r6
    go_wp2
    refine bodyPost_ret (v := .tuple #[.slice none 0 0, .bool false, .int .i64 0]) (by simp [results, Try.results27, go_sem]) rfl (FIN.out false _ _ _ d1.out d2.out (by simpa using Bts.nil B w2) ⟨q, ls, E2.out, K2.out, .inl rfl⟩)
  have q2 := beq_f hk2
  have hdec : decide (kind ≠ 2 ∧ seq = E.came + 1) = decide (seq = E.came + 1) := by simp [hk2]
  have d1 := hid (HCO.out.trans hdec)
  have d2 := hid (HTO.out.trans (if_neg hk2))
  have hs1 : 1 ≤ seq := r5 (by omega)
  clear hdec hk2 r4 r5 r6
  go_wp2_with fail
  have E3 := hid (E2.out.setOwes true)
  have K3 := hid (K2.out.setCell (p := ⟨p, 6, none⟩) (fun _ => .inl rfl) (.bool true))
  have Z3 := hid (row_other Z2.out (a := ⟨p, 6, none⟩) hnp.out (.bool true))
  have V3 := hid (V2.out.keep ((Keep.refl w2).setCell (S := Two p q) (p := ⟨p, 6, none⟩) (fun _ => .inl rfl) (.bool true)) E2.out.mut)
  clear f2 g6 c6 E2 K2 Z2 V2
  generalize w2.setCell ⟨p, 6, none⟩ (.bool true) = w3 at *
  have m4 : w3.cell? ⟨z, 4, none⟩ = some (.int .i64 seq) := row_cell Z3.out 4
  have m6 : w3.cell? ⟨z, 6, none⟩ = some (.slice ao load.length cap) := row_cell Z3.out 6
  have c5 : w3.cell? ⟨p, 5, none⟩ = some (.int .i64 E.came) := by rw [← t1.out]; exact E3.out.cells.2.2.2.2.2.1
  have g5 := E3.out.free 5
  have wr : IntKind.i64.wrap (E.came + 1) = E.came + 1 := IntWalk.i64_in _ (by omega)
  have ws : IntKind.i64.wrap (seq - 1) = seq - 1 := IntWalk.i64_in _ (by omega)
  by_cases hs : seq = E.came + 1
  · have d3 := hid (d1.out.trans (decide_eq_true hs))
    have d4 := hid (d2.out.trans (if_neg (show ¬ (seq ≠ E.came + 1) from fun e => e hs)))
    have s1 : (seq - 1 != E.came) = false := bne_f (by omega)
    have HS := hid hs
    clear hs
    go_quiet (fail)
    have E4 := hid ((E3.out.drewN (n := nq)).setCame (E.came + 1))
    have K4 := hid ((keep_drewN nq K3.out).setCell (p := ⟨p, 5, none⟩) (fun _ => .inl rfl) (.int .i64 (E.came + 1)))
    have V4 := hid ((V3.out.drewN (n := nq)).keep ((Keep.refl (w3.drewN nq)).setCell (S := Two p q) (p := ⟨p, 5, none⟩) (fun _ => .inl rfl) (.int .i64 (E.came + 1))) (E3.out.drewN (n := nq)).mut)
    have m6' : ((w3.drewN nq).setCell ⟨p, 5, none⟩ (.int .i64 (E.came + 1))).cell? ⟨z, 6, none⟩ = some (.slice ao load.length cap) := by rw [World.cell?_setCell_other _ _ _ _ (by intro e; cases e)]; exact m6
    clear m6
    have hws : ((w3.drewN nq).setCell ⟨p, 5, none⟩ (.int .i64 (E.came + 1))).heap.size = w3.heap.size := by simp
    have HWS := hid hws
    clear hws
    go_wp2_with (at_builtin; refine wpList_append_row _ rfl _ _ 27 27 rfl 5 (.int .u8 0) 1 1 Try.underlying27 info5 rfl w3.heap.size (.slice none 0 0) 0 [] rfl (RowAt.nil _ _ _ _) _ load.length (bcells load) rfl V4.out.src (by simp only [maxLen]; omega) (by omega) ?_)
    intro q5 ao5 cap5 w5 r5 k5 h5
    have K5 : Keep Nil ((w3.drewN nq).setCell ⟨p, 5, none⟩ (.int .i64 (E.came + 1))) w5 := k5.mono (fun k hk e => by have := e.1; have := HWS.out; omega)
    have V5 := hid (Bts.of_row (B := B) r5)
    have E5 := hid (E4.out.keep K5 Mut.nil (fun e => e) (fun e => e))
    have KK := hid (K4.out.trans (K5.mono (T := Two p q) (fun _ _ e => e.elim)))
    clear r5 k5 h5 K5
    go_wp2
    refine bodyPost_ret (v := .tuple #[.slice ao5 load.length cap5, .bool true, .int .i64 0]) (by simp [results, Try.results27, go_sem]) rfl (FIN.out true _ _ _ d3.out d4.out (by simpa using V5.out) ⟨q, ls, E5.out, KK.out, .inl rfl⟩)
  · have d3 := hid (d1.out.trans (decide_eq_false hs))
    have d4 := hid (d2.out.trans (if_pos hs))
    have s1 : (seq - 1 != E.came) = true := bne_t (by omega)
    have HS := hid hs
    clear hs
    go_quiet (fail)
    go_wp2
    refine bodyPost_ret (v := .tuple #[.slice none 0 0, .bool false, .int .i64 0]) (by simp [results, Try.results27, go_sem]) rfl (FIN.out false _ _ _ d3.out d4.out (by simpa using Bts.nil B _) ⟨q, ls, E3.out.drewN, keep_drewN _ K3.out, .inl rfl⟩)

end Go.Proofs.Ytjlgolkippleaaa
