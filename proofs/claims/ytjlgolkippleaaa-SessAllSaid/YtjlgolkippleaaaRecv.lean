/-
  The sessions' End: Recv.
-/
import Derived.Test.YtjlgolkippleaaaWrong
import Derived.Test.YtjlgolkippleaaaBegin
namespace Go.Proofs.Ytjlgolkippleaaa
open Go.RowKit

/-- Recv: what stands behind it, and whether a load comes -/
def recvTo (E : ES) (m : MS) : ES :=
  if wrongE E m ≠ 0 then E
  else if m.kind = 2 then takeTo E m.ack
  else if m.seq ≠ E.came + 1 then { takeTo E m.ack with owes := true }
  else { takeTo E m.ack with owes := true, came := E.came + 1 }
def comes (E : ES) (m : MS) : Bool := decide (wrongE E m = 0 ∧ m.kind ≠ 2 ∧ m.seq = E.came + 1)

theorem recv_none {w : World} {a : Option Addr} (m : MS) (v : Value) (h : NoEnd w a) : Calls Try.prog 20 #[.pointer a, mV m v] w fun e w' => e = .returned (.tuple #[.slice none 0 0, .bool false, .int .i64 2]) ∧ Keep Nil w w' := by
  have hk := hid (fun o => ok_none (w := w.alloc o) (a := a) (by
    rcases h with h | ⟨p, h1, h2⟩
    · exact .inl h
    · exact .inr ⟨p, h1, ((Keep.refl (S := Nil) w).alloc o).cell h2 (fun e => e)⟩))
  have HK := hid (fun o => (Keep.refl (S := Nil) w).alloc o)
  clear h
  unfold mV
  go_enter Try.func20, Try.ntmps20
  go_wp2_with fail
  refine (hk.out _).mono ?_
  rintro e w' ⟨rfl, rfl⟩
  go_wp2
  refine bodyPost_ret (v := .tuple #[.slice none 0 0, .bool false, .int .i64 2]) (by simp [results, Try.results20, go_sem]) rfl ⟨rfl, HK.out _⟩

theorem wrong_range {E : ES} {m : MS} (h : wrongE E m = 0) : 0 ≤ m.ack ∧ m.ack ≤ E.base + E.opened.length ∧ m.load.length ≤ 1200 ∧ (m.kind = 1 ∨ m.kind = 2) ∧ m.frm = E.peer ∧ m.to = E.node ∧ m.epoch = E.epoch ∧ (m.kind = 1 → 1 ≤ m.seq) ∧ (m.kind = 2 → m.seq = 0 ∧ m.load.length = 0) := by
  unfold wrongE wrongN at h
  repeat' split at h
  all_goals omega

theorem takeTo_fields (E : ES) (n : Int) : (takeTo E n).came = E.came ∧ (takeTo E n).node = E.node ∧ (takeTo E n).peer = E.peer ∧ (takeTo E n).epoch = E.epoch ∧ (takeTo E n).owes = E.owes := by
  unfold takeTo
  split <;> exact ⟨rfl, rfl, rfl, rfl, rfl⟩

/-- what Recv answers -/
def RecvPost (B p q : Nat) (E : ES) (m : MS) (w : World) (e : Ending) (w' : World) : Prop :=
  ∃ v, e = .returned (.tuple #[v, .bool (comes E m), .int .i64 (wrongE E m)]) ∧ Bts B w' v (if comes E m then m.load else []) ∧ EndAt B w' p q (recvTo E m) ∧ Keep (Two p q) w w'

set_option maxHeartbeats 2000000 in
theorem recv_some (w : World) (B p q : Nat) (E : ES) (m : MS) (v : Value) (H : EndAt B w p q E) (hok : E.Ok) (hv : Bts B w v m.load) :
    Calls Try.prog 20 #[.pointer (some ⟨p, 0, none⟩), mV m v] w (RecvPost B p q E m w) := by
  obtain ⟨ao, cap, rfl, hv'⟩ := id hv
  have hk := hid (fun o => ok_end (H.alloc o) hok.epoch)
  have HA := hid (fun o => H.alloc o)
  have HW := hid (fun o => wrong_some (w.alloc o) B p q E m ao cap (H.alloc o) hok)
  have HV := hid (fun o => hv.alloc o)
  have HK := hid (fun o => (Keep.refl (S := Nil) w).alloc o)
  have HL := hid H.lt
  have HO := hid hok
  clear H hv hv' hok
  obtain ⟨frm, to, kind, epoch, seq, ack, load⟩ := m
  unfold mV at HW ⊢
  simp only at HW HV ⊢
  have hz := hid (heap_new w (.cells #[.int .i64 frm, .int .i64 to, .int .i64 kind, .int .i64 epoch, .int .i64 seq, .int .i64 ack, .slice ao load.length cap] 47 (0, 0)))
  have hzs := hid (size_alloc w (.cells #[.int .i64 frm, .int .i64 to, .int .i64 kind, .int .i64 epoch, .int .i64 seq, .int .i64 ack, .slice ao load.length cap] 47 (0, 0)))
  by_cases hbad : wrongE E ⟨frm, to, kind, epoch, seq, ack, load⟩ ≠ 0
  · have e1 : recvTo E ⟨frm, to, kind, epoch, seq, ack, load⟩ = E := if_pos hbad
    have e2 : comes E ⟨frm, to, kind, epoch, seq, ack, load⟩ = false := decide_eq_false (fun e => hbad e.1)
    unfold RecvPost
    rw [e1, e2]
    have b1 := bne_t hbad
    clear e1 e2 hbad
    generalize wrongE E ⟨frm, to, kind, epoch, seq, ack, load⟩ = r at *
    go_enter Try.func20, Try.ntmps20
    go_wp2_with fail
    refine (hk.out _).mono ?_
    rintro e w' ⟨rfl, rfl⟩
    go_wp2_with fail
    refine (HW.out _).mono ?_
    rintro e w1 ⟨rfl, k1⟩
    have K1 := hid ((HK.out _).andThen k1 (fun _ _ e => e))
    have E1 := hid ((HA.out _).keep k1 Mut.nil (fun e => e) (fun e => e))
    clear k1
    go_wp2
    refine bodyPost_ret (v := .tuple #[.slice none 0 0, .bool false, .int .i64 r]) (by simp [results, Try.results20, go_sem]) rfl ⟨_, rfl, by simpa using Bts.nil B w1, E1.out, K1.out.mono (fun _ _ e => e.elim)⟩
  have h0 : wrongE E ⟨frm, to, kind, epoch, seq, ack, load⟩ = 0 := Decidable.not_not.1 hbad
  obtain ⟨r1, r2, r3, r4, -, -, -, r5, r6⟩ := wrong_range h0
  simp only at r1 r2 r3 r4 r5 r6
  unfold RecvPost
  have hto : recvTo E ⟨frm, to, kind, epoch, seq, ack, load⟩ = if kind = 2 then takeTo E ack else if seq ≠ E.came + 1 then { takeTo E ack with owes := true } else { takeTo E ack with owes := true, came := E.came + 1 } := if_neg hbad
  have hco : comes E ⟨frm, to, kind, epoch, seq, ack, load⟩ = decide (kind ≠ 2 ∧ seq = E.came + 1) := by unfold comes; rw [h0]; simp
  rw [hto, hco]
  rw [h0] at HW ⊢
  clear hto hco hbad h0
  have HT := hid (fun W (h : EndAt B W p q E) => take_some W B p q E ack h HO.out.base HO.out.base2 HO.out.len r1 r2)
  have t1 := hid (takeTo_fields E ack).1
  have b1 := HO.out.came
  have b2 := HO.out.came2
  generalize takeTo E ack = E2 at *
  by_cases hk2 : kind = 2
  · have q2 := beq_t hk2
    have d1 : decide (kind ≠ 2 ∧ seq = E.came + 1) = false := decide_eq_false (fun e => e.1 hk2)
    rw [d1, if_pos hk2]
    clear d1 hk2 r4 r5 r6
    go_enter Try.func20, Try.ntmps20
    go_wp2_with fail
    refine (hk.out _).mono ?_
    rintro e w' ⟨rfl, rfl⟩
    go_wp2_with fail
    refine (HW.out _).mono ?_
    rintro e w1 ⟨rfl, k1⟩
    have K1 := hid ((HK.out _).andThen k1 (fun _ _ e => e))
    have E1 := hid ((HA.out _).keep k1 Mut.nil (fun e => e) (fun e => e))
    have Z1 := hid (k1.row hz.out (fun e => e))
    clear k1
    have HT1 := hid (HT.out w1.drew E1.out.drew)
    clear HW hk HA HV HK
    have hzp : Hid (w.heap.size ≠ p ∧ w.heap.size ≠ q) := hid (by have := HL.out; omega)
    generalize w.heap.size = z at *
    have a5 := row_cell Z1.out 5
    have a5' : w1.drew.cell? ⟨z, 5, none⟩ = some (.int .i64 ack) := a5
    clear a5
    go_wp2_with fail
    go_region_held3 (fun w' => w'.cell? ⟨z, 5, none⟩ = some (.int .i64 ack)) (first | (with_reducible exact a5') | (with_reducible exact f5))
      ((first
        | (go_at_call 41; refine HT1.out.mono ?_; rintro e w2 ⟨rfl, e2, k2⟩; have z2 := k2.row (show w1.drew.heap[z]? = _ from Z1.out) (fun e => e.elim hzp.out.1 hzp.out.2); have f5 : w2.cell? ⟨z, 5, none⟩ = some (.int .i64 ack) := row_cell z2 5; have f2 : w2.cell? ⟨z, 2, none⟩ = some (.int .i64 kind) := row_cell z2 2; have E2' := hid e2; have K2 := hid k2; clear e2 k2 z2)))
    go_wp2
    refine bodyPost_ret (v := .tuple #[.slice none 0 0, .bool false, .int .i64 0]) (by simp [results, Try.results20, go_sem]) rfl ⟨_, rfl, by simpa using Bts.nil B w2, E2'.out, (K1.out.mono (fun _ _ e => e.elim)).drew.trans K2.out⟩
  have q2 := beq_f hk2
  rw [if_neg hk2]
  have hdec : decide (kind ≠ 2 ∧ seq = E.came + 1) = decide (seq = E.came + 1) := by simp [hk2]
  rw [hdec]
  clear hdec hk2 r4 r5 r6
  by_cases hs : seq = E.came + 1
  · rw [decide_eq_true hs, if_neg (show ¬ (seq ≠ E.came + 1) from fun e => e hs)]
    have s1 := bne_f hs
    have HS := hid hs
    clear hs
    go_enter Try.func20, Try.ntmps20
    go_wp2_with fail
    refine (hk.out _).mono ?_
    rintro e w' ⟨rfl, rfl⟩
    go_wp2_with fail
    refine (HW.out _).mono ?_
    rintro e w1 ⟨rfl, k1⟩
    have K1 := hid ((HK.out _).andThen k1 (fun _ _ e => e))
    have E1 := hid ((HA.out _).keep k1 Mut.nil (fun e => e) (fun e => e))
    have V1 := hid ((HV.out _).keep k1 Mut.nil)
    have Z1 := hid (k1.row hz.out (fun e => e))
    clear k1
    have HT1 := hid (HT.out w1.drew E1.out.drew)
    clear HW hk HA HV HK
    have hzp : Hid (w.heap.size ≠ p ∧ w.heap.size ≠ q) := hid (by have := HL.out; omega)
    generalize w.heap.size = z at *
    have a5 := row_cell Z1.out 5
    have a5' : w1.drew.cell? ⟨z, 5, none⟩ = some (.int .i64 ack) := a5
    clear a5
    go_wp2_with fail
    go_region_held3 (fun w' => w'.cell? ⟨z, 5, none⟩ = some (.int .i64 ack)) (first | (with_reducible exact a5') | (with_reducible exact f5))
      ((first
        | (go_at_call 41; refine HT1.out.mono ?_; rintro e w2 ⟨rfl, e2, k2⟩; have z2 := k2.row (show w1.drew.heap[z]? = _ from Z1.out) (fun e => e.elim hzp.out.1 hzp.out.2); have f5 : w2.cell? ⟨z, 5, none⟩ = some (.int .i64 ack) := row_cell z2 5; have f2 : w2.cell? ⟨z, 2, none⟩ = some (.int .i64 kind) := row_cell z2 2; have E2' := hid e2; have K2 := hid k2; have Z2 := hid z2; have V2 := hid (V1.out.drew.keep k2 E1.out.drew.mut); obtain ⟨c0, c1, c2, c3, ⟨aoz, capz, c4⟩, c5, c6⟩ := e2.cells; obtain ⟨vv, vvs, hbb, -⟩ := e2.block; have g5 := row_free hbb 5; have g6 := row_free hbb 6; clear e2 k2 z2 hbb)))
    go_wp2_with fail
    have E3 := hid (E2'.out.setOwes true)
    have K3 := hid (((K1.out.mono (T := Two p q) (fun _ _ e => e.elim)).drew.trans K2.out).setCell (p := ⟨p, 6, none⟩) (fun _ => .inl rfl) (.bool true))
    have Z3 := hid (row_other Z2.out (a := ⟨p, 6, none⟩) hzp.out.1 (.bool true))
    have V3 := hid (V2.out.keep ((Keep.refl w2).setCell (S := Two p q) (p := ⟨p, 6, none⟩) (fun _ => .inl rfl) (.bool true)) E2'.out.mut)
    have g5' : (w2.setCell ⟨p, 6, none⟩ (.bool true)).frozen? ⟨p, 5, none⟩ = false := by rw [World.frozen?_setCell]; exact g5
    clear c0 c1 c2 c3 c4 c5 c6 f2 f5 g5 g6
    generalize w2.setCell ⟨p, 6, none⟩ (.bool true) = w3 at *
    have m4 : w3.cell? ⟨z, 4, none⟩ = some (.int .i64 seq) := row_cell Z3.out 4
    have m6 : w3.cell? ⟨z, 6, none⟩ = some (.slice ao load.length cap) := row_cell Z3.out 6
    have c5 : w3.cell? ⟨p, 5, none⟩ = some (.int .i64 E.came) := by rw [← t1.out]; exact E3.out.cells.2.2.2.2.2.1
    have wr : IntKind.i64.wrap (E.came + 1) = E.came + 1 := IntWalk.i64_in _ (by omega)
    go_quiet (fail)
    go_wp2_with fail
    have E4 := hid ((E3.out.drewN (n := nq)).setCame (E.came + 1))
    have K4 := hid ((keep_drewN nq K3.out).setCell (p := ⟨p, 5, none⟩) (fun _ => .inl rfl) (.int .i64 (E.came + 1)))
    have V4 := hid ((V3.out.drewN (n := nq)).keep ((Keep.refl (w3.drewN nq)).setCell (S := Two p q) (p := ⟨p, 5, none⟩) (fun _ => .inl rfl) (.int .i64 (E.came + 1))) (E3.out.drewN (n := nq)).mut)
    have m6' : ((w3.drewN nq).setCell ⟨p, 5, none⟩ (.int .i64 (E.came + 1))).cell? ⟨z, 6, none⟩ = some (.slice ao load.length cap) := by rw [World.cell?_setCell_other _ _ _ _ (by intro e; cases e)]; exact m6
    clear m6
    refine (clone_some _ B _ _ V4.out (by omega)).mono ?_
    rintro e w5 ⟨qc, aoc, capc, rfl, h5, -, k5⟩
    have V5 := hid (Bts.of_row (B := B) h5)
    have E5 := hid (E4.out.keep k5 Mut.nil (fun e => e) (fun e => e))
    have K5 := hid (K4.out.trans (k5.mono (T := Two p q) (fun _ _ e => e.elim)))
    clear h5 k5
    go_wp2
    refine bodyPost_ret (v := .tuple #[.slice aoc load.length capc, .bool true, .int .i64 0]) (by simp [results, Try.results20, go_sem]) rfl ⟨_, rfl, by simpa using V5.out, E5.out, K5.out⟩
  · rw [decide_eq_false hs, if_pos hs]
    have s1 := bne_t hs
    have HS := hid hs
    clear hs
    go_enter Try.func20, Try.ntmps20
    go_wp2_with fail
    refine (hk.out _).mono ?_
    rintro e w' ⟨rfl, rfl⟩
    go_wp2_with fail
    refine (HW.out _).mono ?_
    rintro e w1 ⟨rfl, k1⟩
    have K1 := hid ((HK.out _).andThen k1 (fun _ _ e => e))
    have E1 := hid ((HA.out _).keep k1 Mut.nil (fun e => e) (fun e => e))
    have V1 := hid ((HV.out _).keep k1 Mut.nil)
    have Z1 := hid (k1.row hz.out (fun e => e))
    clear k1
    have HT1 := hid (HT.out w1.drew E1.out.drew)
    clear HW hk HA HV HK
    have hzp : Hid (w.heap.size ≠ p ∧ w.heap.size ≠ q) := hid (by have := HL.out; omega)
    generalize w.heap.size = z at *
    have a5 := row_cell Z1.out 5
    have a5' : w1.drew.cell? ⟨z, 5, none⟩ = some (.int .i64 ack) := a5
    clear a5
    go_wp2_with fail
    go_region_held3 (fun w' => w'.cell? ⟨z, 5, none⟩ = some (.int .i64 ack)) (first | (with_reducible exact a5') | (with_reducible exact f5))
      ((first
        | (go_at_call 41; refine HT1.out.mono ?_; rintro e w2 ⟨rfl, e2, k2⟩; have z2 := k2.row (show w1.drew.heap[z]? = _ from Z1.out) (fun e => e.elim hzp.out.1 hzp.out.2); have f5 : w2.cell? ⟨z, 5, none⟩ = some (.int .i64 ack) := row_cell z2 5; have f2 : w2.cell? ⟨z, 2, none⟩ = some (.int .i64 kind) := row_cell z2 2; have E2' := hid e2; have K2 := hid k2; have Z2 := hid z2; have V2 := hid (V1.out.drew.keep k2 E1.out.drew.mut); obtain ⟨c0, c1, c2, c3, ⟨aoz, capz, c4⟩, c5, c6⟩ := e2.cells; obtain ⟨vv, vvs, hbb, -⟩ := e2.block; have g5 := row_free hbb 5; have g6 := row_free hbb 6; clear e2 k2 z2 hbb)))
    go_wp2_with fail
    have E3 := hid (E2'.out.setOwes true)
    have K3 := hid (((K1.out.mono (T := Two p q) (fun _ _ e => e.elim)).drew.trans K2.out).setCell (p := ⟨p, 6, none⟩) (fun _ => .inl rfl) (.bool true))
    have Z3 := hid (row_other Z2.out (a := ⟨p, 6, none⟩) hzp.out.1 (.bool true))
    have V3 := hid (V2.out.keep ((Keep.refl w2).setCell (S := Two p q) (p := ⟨p, 6, none⟩) (fun _ => .inl rfl) (.bool true)) E2'.out.mut)
    have g5' : (w2.setCell ⟨p, 6, none⟩ (.bool true)).frozen? ⟨p, 5, none⟩ = false := by rw [World.frozen?_setCell]; exact g5
    clear c0 c1 c2 c3 c4 c5 c6 f2 f5 g5 g6
    generalize w2.setCell ⟨p, 6, none⟩ (.bool true) = w3 at *
    have m4 : w3.cell? ⟨z, 4, none⟩ = some (.int .i64 seq) := row_cell Z3.out 4
    have m6 : w3.cell? ⟨z, 6, none⟩ = some (.slice ao load.length cap) := row_cell Z3.out 6
    have c5 : w3.cell? ⟨p, 5, none⟩ = some (.int .i64 E.came) := by rw [← t1.out]; exact E3.out.cells.2.2.2.2.2.1
    have wr : IntKind.i64.wrap (E.came + 1) = E.came + 1 := IntWalk.i64_in _ (by omega)
    go_quiet (fail)
    go_wp2
    refine bodyPost_ret (v := .tuple #[.slice none 0 0, .bool false, .int .i64 0]) (by simp [results, Try.results20, go_sem]) rfl ⟨_, rfl, by simpa using Bts.nil B _, ?_, ?_⟩
    · exact E3.out.drewN
    · exact keep_drewN _ K3.out

end Go.Proofs.Ytjlgolkippleaaa
