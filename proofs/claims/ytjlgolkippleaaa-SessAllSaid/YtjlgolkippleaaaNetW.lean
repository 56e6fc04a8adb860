/-
  The world of the laws: begin, step.
-/
import Derived.Test.YtjlgolkippleaaaNet
namespace Go.Proofs.Ytjlgolkippleaaa
open Go.RowKit

def startM : WM := ⟨fun i => newE (3 + (i : Int)) (4 - (i : Int)) 9, fun _ => [], fun _ => [], fun _ => 0⟩
theorem inv_start : Inv 0 startM := by
  refine ⟨fun s hs => ⟨rfl, rfl, rfl, Int.le_refl 0, rfl, rfl, Nat.zero_le 8, rfl, Int.le_refl 0, Nat.le_refl 0, (fun x hx => by cases hx), (fun x hx => by cases hx), Nat.zero_le _⟩, fun s hs => Nat.le_refl 0, by decide⟩
def zeroNet (a b : Option Addr) : Array Value := #[.pointer a, .pointer b, .slice none 0 0, .slice none 0 0, .slice none 0 0, .slice none 0 0, .int .i64 0, .int .i64 0, .bool false]
def BeginRel (w : World) (i : Value) (wr : World) : Prop :=
  (i = .int .i64 0 ∧ wr = w.alloc (.cells (zeroNet none none) 41)) ∨
  (i = .int .i64 1 ∧ ∃ p0, wr.heap[w.heap.size]? = some (.cells (zeroNet (some ⟨p0, 0, none⟩) none) 41 (0, 0)) ∧ EndAt w.heap.size wr p0 p0 (newE 3 4 9) ∧ w.heap.size < p0 ∧ Keep Nil w wr) ∨
  (i = .int .i64 2 ∧ ∃ p0 p1, wr.heap[w.heap.size]? = some (.cells (zeroNet (some ⟨p0, 0, none⟩) (some ⟨p1, 0, none⟩)) 41 (0, 0)) ∧ EndAt w.heap.size wr p0 p0 (newE 3 4 9) ∧ EndAt w.heap.size wr p1 p1 (newE 4 3 9) ∧ w.heap.size < p0 ∧ p0 < p1 ∧ Keep Nil w wr)
def BeginPost (w : World) (e : Ending) (w' : World) : Prop := ∃ W L, e = .returned (.tuple #[.pointer (some ⟨W, 0, none⟩), .bool true]) ∧ NetAt w.heap.size w' W L startM ∧ Keep Nil w w'
theorem net_start {w wr : World} {p0 p1 : Nat} (hW : wr.heap[w.heap.size]? = some (.cells (zeroNet (some ⟨p0, 0, none⟩) (some ⟨p1, 0, none⟩)) 41 (0, 0))) (h0 : EndAt w.heap.size wr p0 p0 (newE 3 4 9)) (h1 : EndAt w.heap.size wr p1 p1 (newE 4 3 9)) (a : w.heap.size < p0) (b : p0 < p1) :
    ∃ L, NetAt w.heap.size wr w.heap.size L startM := by
  refine ⟨⟨fun i => if i = 0 then p0 else p1, fun i => if i = 0 then p0 else p1, fun _ => w.heap.size, fun _ => w.heap.size, fun _ => .slice none 0 0, fun _ => .slice none 0 0, fun _ => [], fun _ => []⟩, hW, Nat.le_refl _, fun i hi => ?_, fun i _ => GramsAt.nil _ _ _, fun i _ => ⟨RowAt.nil _ _ _ _, rfl, fun _ h => absurd h (Nat.not_lt_zero _)⟩, fun i _ => ⟨row_lt hW, Nat.le_refl _⟩, ?_, fun _ => rfl, fun i j _ hj => ?_, fun i hi => ?_⟩
  · rcases (by omega : i = 0 ∨ i = 1) with rfl | rfl
    · exact h0
    · exact h1
  · show p0 ≠ p1 ∧ p0 ≠ p1 ∧ p0 ≠ p1 ∧ p1 ≠ p0
    omega
  · rcases (by omega : j = 0 ∨ j = 1) with rfl | rfl
    · show w.heap.size ≠ p0 ∧ w.heap.size ≠ p0; omega
    · show w.heap.size ≠ p1 ∧ w.heap.size ≠ p1; omega
  · rcases (by omega : i = 0 ∨ i = 1) with rfl | rfl
    · show w.heap.size ≠ p0 ∧ w.heap.size ≠ p0; omega
    · show w.heap.size ≠ p1 ∧ w.heap.size ≠ p1; omega
set_option maxRecDepth 100000 in
set_option maxHeartbeats 2000000 in
theorem begin_any (w : World) : Calls Try.prog 9 #[] w (BeginPost w) := by
  have N0 := hid (fun w1 (h : w.heap.size ≤ w1.heap.size) => new_good w1 w.heap.size h 3 4 9 (by unfold NewOk; omega))
  have N1 := hid (fun w1 (h : w.heap.size ≤ w1.heap.size) => new_good w1 w.heap.size h 4 3 9 (by unfold NewOk; omega))
  go_enter Try.func9, Try.ntmps9
  go_wp2_with fail
  go_loopw [8] (fun i wr => BeginRel w i wr) (fun i _ => 2 - (intOf i).toNat)
  case atStart => exact .inl ⟨rfl, rfl⟩
  case round =>
    rcases hrel with ⟨rfl, rfl⟩ | ⟨rfl, p0, hW, he, hp, hk⟩ | ⟨rfl, p0, p1, hW, h0, h1, hp, hpp, hk⟩
    · have HW := hid (heap_new w (.cells (zeroNet none none) 41))
      have HK := hid ((Keep.refl (S := Nil) w).alloc (.cells (zeroNet none none) 41))
      have hsz := size_alloc w (.cells (zeroNet none none) 41)
      generalize w.alloc (.cells (zeroNet none none) 41) = wa at *
      replace hsz := hid hsz
      go_wp2_with fail
      refine (N0.out wa (by have := hsz.out; omega)).mono ?_
      rintro e w1 ⟨rfl, he, k1⟩
      have HW1 := hid (k1.row HW.out (fun e => e))
      have x0 := row_cell HW1.out 0
      have f0 := row_free HW1.out 0
      have HE := hid he
      have K1 := hid (HK.out.trans k1)
      have hp : Hid (wa.heap.size = w.heap.size + 1) := hsz
      clear he k1
      generalize wa.heap.size = p0 at *
      go_wp2_with fail
      go_roundw
      case rel =>
        have kS : Keep (One w.heap.size) w1 (w1.setCell ⟨w.heap.size, 0, none⟩ (.pointer (some ⟨p0, 0, none⟩))) := (Keep.refl w1).setCell (S := One w.heap.size) (p := ⟨w.heap.size, 0, none⟩) (fun _ => rfl) _
        have hmut : Mut w.heap.size w1 (One w.heap.size) := by
          rintro k rfl
          exact ⟨Nat.le_refl _, fun cur fr e => by rw [HW1.out] at e; simp at e⟩
        have hne : ¬ One w.heap.size p0 := fun e => by have e' : p0 = w.heap.size := e; have := hp.out; omega
        exact .inr (.inl ⟨by go_num, p0, row_set HW1.out 0 _, HE.out.keep kS hmut hne hne, by have := hp.out; omega, K1.out.andThen kS (fun i hi e => by have e' : i = w.heap.size := e; omega)⟩)
      case measure => simp [intOf] <;> omega
    · have HW := hid hW
      have HE0 := hid he
      have HK := hid hk
      have hlt := he.lt.1
      clear hW he hk
      go_wp2_with fail
      refine (N1.out wr (by omega)).mono ?_
      rintro e w1 ⟨rfl, he, k1⟩
      have HW1 := hid (k1.row HW.out (fun e => e))
      have x0 := row_cell HW1.out 1
      have f0 := row_free HW1.out 1
      have HE := hid he
      have HE1 := hid (HE0.out.keep k1 Mut.nil (fun e => e) (fun e => e))
      have K1 := hid (HK.out.trans k1)
      clear he k1
      generalize wr.heap.size = p1 at *
      go_wp2_with fail
      go_roundw
      case rel =>
        have kS : Keep (One w.heap.size) w1 (w1.setCell ⟨w.heap.size, 1, none⟩ (.pointer (some ⟨p1, 0, none⟩))) := (Keep.refl w1).setCell (S := One w.heap.size) (p := ⟨w.heap.size, 1, none⟩) (fun _ => rfl) _
        have hmut : Mut w.heap.size w1 (One w.heap.size) := by
          rintro k rfl
          exact ⟨Nat.le_refl _, fun cur fr e => by rw [HW1.out] at e; simp at e⟩
        have hne : ¬ One w.heap.size p0 := fun e => by have e' : p0 = w.heap.size := e; omega
        have hne1 : ¬ One w.heap.size p1 := fun e => by have e' : p1 = w.heap.size := e; omega
        exact .inr (.inr ⟨by go_num, p0, p1, row_set HW1.out 1 _, HE1.out.keep kS hmut hne hne, HE.out.keep kS hmut hne1 hne1, hp, hlt, K1.out.andThen kS (fun i hi e => by have e' : i = w.heap.size := e; omega)⟩)
      case measure => simp [intOf] <;> omega
    · obtain ⟨L, hL⟩ := net_start hW h0 h1 hp hpp
      replace hL := hid hL
      replace hk := hid hk
      clear hW h0 h1
      go_wp2
      go_ret2
      exact ⟨_, L, rfl, hL.out, hk.out⟩
/-- from a block on -/
abbrev From (B : Nat) : Nat → Prop := fun k => B ≤ k
section
variable {B W : Nat} {w : World} {L : Lay} {M : WM}
theorem NetAt.cEnd (h : NetAt B w W L M) {s : Nat} (hs : s < 2) : w.cell? ⟨W, s, none⟩ = some (.pointer (some ⟨L.p s, 0, none⟩)) := by
  rcases (by omega : s = 0 ∨ s = 1) with rfl | rfl
  · exact h.cells.1
  · exact h.cells.2.1
theorem NetAt.cBag (h : NetAt B w W L M) {s : Nat} (hs : s < 2) : w.cell? ⟨W, 2 + s, none⟩ = some (L.v s) := by
  rcases (by omega : s = 0 ∨ s = 1) with rfl | rfl
  · exact h.cells.2.2.1
  · exact h.cells.2.2.2.1
theorem NetAt.cSent (h : NetAt B w W L M) {s : Nat} (hs : s < 2) : w.cell? ⟨W, 4 + s, none⟩ = some (L.u s) := by
  rcases (by omega : s = 0 ∨ s = 1) with rfl | rfl
  · exact h.cells.2.2.2.2.1
  · exact h.cells.2.2.2.2.2.1
theorem NetAt.cCame (h : NetAt B w W L M) {s : Nat} (hs : s < 2) : w.cell? ⟨W, 6 + s, none⟩ = some (.int .i64 (M.C s : Nat)) := by
  rcases (by omega : s = 0 ∨ s = 1) with rfl | rfl
  · exact h.cells.2.2.2.2.2.2.1
  · exact h.cells.2.2.2.2.2.2.2.1
theorem NetAt.cBad (h : NetAt B w W L M) : w.cell? ⟨W, 8, none⟩ = some (.bool false) := h.cells.2.2.2.2.2.2.2.2
end
def NetPost (B W : Nat) (p : Nat → Nat) (M : WM) (w : World) (e : Ending) (w' : World) : Prop := e = .returned (.tuple #[]) ∧ ∃ L, L.p = p ∧ NetAt B w' W L M ∧ Keep (From B) w w'
theorem upd_upd {α : Type} (f : Nat → α) (s : Nat) (x y : α) : upd (upd f s x) s y = upd f s y := by
  funext i
  unfold upd
  split <;> rfl
theorem putMs_snoc (gs : List GS) (ms : List MS) (m : MS) : putMs gs (ms ++ [m]) = putG (putMs gs ms) m := by simp [putMs]
def StepRel (B W N : Nat) (p : Nat → Nat) (M : WM) (s qm : Nat) (v : Value) (ms : List MS) (w : World) (i : Value) (wr : World) : Prop :=
  ∃ (k : Nat) (L : Lay), k ≤ ms.length ∧ i = .int .i64 k ∧ L.p = p ∧ NetAt B wr W L { M with G := upd M.G s (putMs (M.G s) (ms.take k)) } ∧ MsgsAt N wr qm v ms ∧ W < N ∧ Keep (From B) w wr
set_option maxRecDepth 100000 in
set_option maxHeartbeats 4000000 in
theorem nstep (w : World) (B W n s : Nat) (L : Lay) (M : WM) (hs : s < 2) (hI : Inv n M) (h : NetAt B w W L M) :
    Calls Try.prog 13 #[.pointer (some ⟨W, 0, none⟩), .int .i64 (s : Nat)] w (NetPost B W L.p (stepM M s) w) := by
  have hst := step_some w B (L.p s) (L.q s) (M.E s) (h.ends s hs) (hI.ok hs)
  unfold StepPost at hst
  replace hst := hid hst
  have x0 := h.cEnd hs
  have hms := hid (step_msgs hs hI)
  have hmf := hid (fun m (hm : m ∈ stepMs (M.E s)) => (msg_facts hs hI (step_msgs hs hI m hm)).1)
  have hl8 : (stepMs (M.E s)).length ≤ 8 := by
    have := (hI.side s hs).len
    unfold stepMs
    split
    · split <;> simp
    · simpa using this
  have H := hid h
  have hsI : ((s : Nat) : Int) < 2 := by omega
  clear h
  go_enter Try.func13, Try.ntmps13
  go_wp2_with fail
  refine hst.out.mono ?_
  rintro e w1 ⟨qm, vm, rfl, hm1, k1⟩
  obtain ⟨aom, capm, rfl⟩ := hm1.shape
  have hN1 : ∃ L1, L1.p = L.p ∧ NetAt B w1 W L1 { M with E := upd M.E s { M.E s with owes := false } } := by
    have kp : Keep (Two (L.p s) (L.q s)) w w1 := ((Keep.refl w).setCell (S := Two (L.p s) (L.q s)) (p := ⟨L.p s, 6, none⟩) (fun _ => .inl rfl) _).trans (k1.mono (fun _ _ e => e.elim))
    exact ⟨{ L with q := upd L.q s (L.q s) }, rfl, H.out.turned hs kp ((H.out.ends s hs).stepped k1) (.inl rfl)⟩
  obtain ⟨L1, hL1, hN1⟩ := hN1
  have K1 : Keep (From B) w w1 := ((Keep.refl w).setCell (S := From B) (p := ⟨L.p s, 6, none⟩) (fun _ => (H.out.ends s hs).pB) _).trans (k1.mono (fun _ _ e => e.elim))
  have hG : stepM M s = { ({ M with E := upd M.E s { M.E s with owes := false } } : WM) with G := upd M.G s (putMs (M.G s) (stepMs (M.E s))) } := rfl
  have hWN := H.out.lt
  generalize hM1 : ({ M with E := upd M.E s { M.E s with owes := false } } : WM) = M1 at *
  have hMG : M1.G = M.G := by rw [← hM1]
  rw [← hMG] at hG
  have hfin := hid hG
  have hbag : Hid ((M1.G s).length ≤ 256) := hid (by rw [hMG]; exact (hI.side s hs).bag)
  generalize stepMs (M.E s) = ms at *
  have hR : StepRel B W w.heap.size L.p M1 s qm (.slice aom ms.length capm) ms w (.int .i64 0) w1 := by
    refine ⟨0, L1, Nat.zero_le _, rfl, hL1, ?_, hm1, hWN, K1⟩
    have : ({ M1 with G := upd M1.G s (putMs (M1.G s) (ms.take 0)) } : WM) = M1 := by
      have : upd M1.G s (putMs (M1.G s) (ms.take 0)) = M1.G := by
        funext i
        unfold upd
        split
        · rename_i h; rw [h]; rfl
        · rfl
      rw [this]
    rw [this]; exact hN1
  replace hR := hid hR
  clear hst hms hm1 k1 hN1 K1 hG hM1 hMG x0
  go_wp2_with fail
  go_loopw [16] (fun i wr => StepRel B W w.heap.size L.p M1 s qm (.slice aom ms.length capm) ms w i wr) (fun i _ => ms.length - (intOf i).toNat)
  case atStart => exact hR.out
  case round =>
    obtain ⟨k, L2, hk, rfl, hLp, hN, hM, hWN2, hK⟩ := hrel
    have HN := hid hN
    have HM := hid hM
    have HK := hid hK
    clear hN hM hK
    by_cases hkn : k < ms.length
    · obtain ⟨offa, qia, ua, rfl, -, -, hra, hca⟩ := HM.out.at_ k hkn
      obtain ⟨aou, capu, rfl⟩ := hra.shape
      have y0 : wr.cell? ⟨qm, offa + k * 7, none⟩ = some (.int .i64 ms[k].frm) := hca 0 (by omega)
      have y1 : wr.cell? ⟨qm, offa + k * 7 + 1, none⟩ = some (.int .i64 ms[k].to) := hca 1 (by omega)
      have y2 : wr.cell? ⟨qm, offa + k * 7 + 2, none⟩ = some (.int .i64 ms[k].kind) := hca 2 (by omega)
      have y3 : wr.cell? ⟨qm, offa + k * 7 + 3, none⟩ = some (.int .i64 ms[k].epoch) := hca 3 (by omega)
      have y4 : wr.cell? ⟨qm, offa + k * 7 + 4, none⟩ = some (.int .i64 ms[k].seq) := hca 4 (by omega)
      have y5 : wr.cell? ⟨qm, offa + k * 7 + 5, none⟩ = some (.int .i64 ms[k].ack) := hca 5 (by omega)
      have y6 : wr.cell? ⟨qm, offa + k * 7 + 6, none⟩ = some (.slice aou ms[k].load.length capu) := hca 6 (by omega)
      have HT : Hid (ms.take (k + 1) = ms.take k ++ [ms[k]]) := hid (take_snocL ms k hkn)
      have hgm := hid (hmf.out ms[k] (List.getElem_mem hkn))
      have HRA := hid hra
      clear hca hra
      generalize ms[k] = m at *
      have hpk := pack_good (wr.alloc (.cells #[.int .i64 m.frm, .int .i64 m.to, .int .i64 m.kind, .int .i64 m.epoch, .int .i64 m.seq, .int .i64 m.ack, .slice aou m.load.length capu] 47)) B m (.slice aou m.load.length capu) ((Bts.of_row HRA.out).alloc _) hgm.out
      unfold mV at hpk
      replace hpk := hid hpk
      have HN1 := hid (HN.out.nil ((Keep.refl wr).alloc (.cells #[.int .i64 m.frm, .int .i64 m.to, .int .i64 m.kind, .int .i64 m.epoch, .int .i64 m.seq, .int .i64 m.ack, .slice aou m.load.length capu] 47)))
      have HM1 := hid (HM.out.keep ((Keep.refl (S := Nil) wr).alloc (.cells #[.int .i64 m.frm, .int .i64 m.to, .int .i64 m.kind, .int .i64 m.epoch, .int .i64 m.seq, .int .i64 m.ack, .slice aou m.load.length capu] 47)) (fun _ e => e.elim))
      have HK1 := hid (HK.out.trans (((Keep.refl (S := Nil) wr).alloc (.cells #[.int .i64 m.frm, .int .i64 m.to, .int .i64 m.kind, .int .i64 m.epoch, .int .i64 m.seq, .int .i64 m.ack, .slice aou m.load.length capu] 47)).mono (fun _ _ e => e.elim)))
      go_wp2_with fail
      refine hpk.out.mono ?_
      rintro e w2 ⟨q5, v5, rfl, r5, hq5, k5⟩
      obtain ⟨ao5, cap5, rfl⟩ := r5.shape
      have HN2 := hid (HN1.out.nil k5)
      have HM2 := hid (HM1.out.keep k5 (fun _ e => e.elim))
      have HK2 := hid (HK1.out.trans (k5.mono (fun _ _ e => e.elim)))
      have R5 := hid r5
      have z8 := HN2.out.cBad
      have f8 := HN2.out.free 8
      clear y0 y1 y2 y3 y4 y5 y6 HN HM HK HN1 HM1 HK1 hpk hq5 k5 r5
      go_wp2_with fail
      have hbytes : (sealL (packB m)).length ≤ 100000 := by
        have a := sealL_length (packB m)
        have b := packB_length m
        have c := hgm.out.load
        omega
      have kS : Keep (One W) w2 (w2.setCell ⟨W, 8, none⟩ (.bool false)) := (Keep.refl w2).setCell (S := One W) (p := ⟨W, 8, none⟩) (fun _ => rfl) _
      have kA := (Keep.refl (S := Nil) (w2.setCell ⟨W, 8, none⟩ (.bool false))).alloc (.cells #[.slice ao5 (sealL (packB m)).length cap5] 27)
      have hz0 := heap_new (w2.setCell ⟨W, 8, none⟩ (.bool false)) (.cells #[.slice ao5 (sealL (packB m)).length cap5] 27)
      have hs0 : (w2.setCell ⟨W, 8, none⟩ (.bool false)).heap.size = w2.heap.size := by simp
      rw [hs0] at hz0
      have HN4 := hid ((HN2.out.bad).nil kA)
      have HM4 := hid ((HM2.out.keep kS (fun i e => by have e' : i = W := e; omega)).keep kA (fun _ e => e.elim))
      have HK4 := hid ((HK2.out.trans (kS.mono (fun i _ e => by have e' : i = W := e; rw [e']; exact HN2.out.BW))).trans (kA.mono (fun _ _ e => e.elim)))
      have V4 := hid (((Bts.of_row (B := B) R5.out).keep kS HN2.out.mutW.1).keep kA Mut.nil)
      have C4 := hid (row_cell hz0 0)
      clear kS kA hz0 hs0 HN2 HM2 HK2 R5 z8 f8
      generalize (w2.setCell ⟨W, 8, none⟩ (.bool false)).alloc (.cells #[.slice ao5 (sealL (packB m)).length cap5] 27) = w4 at *
      have hGs : ({ M1 with G := upd M1.G s (putMs (M1.G s) (ms.take k)) } : WM).G s = putMs (M1.G s) (ms.take k) := upd_self _ _ _
      have hb2 := HN4.out.bags s hs
      have hnext : ∀ gs', gs' = putG (putMs (M1.G s) (ms.take k)) m → ({ ({ M1 with G := upd M1.G s (putMs (M1.G s) (ms.take k)) } : WM) with G := upd ({ M1 with G := upd M1.G s (putMs (M1.G s) (ms.take k)) } : WM).G s gs' } : WM) = { M1 with G := upd M1.G s (putMs (M1.G s) (ms.take (k + 1))) } := by
        intro gs' e
        subst e
        rw [HT.out, putMs_snoc]
        show ({ M1 with G := upd (upd M1.G s _) s _ } : WM) = _
        rw [upd_upd]
      by_cases hlt : (putMs (M1.G s) (ms.take k)).length < 256
      · have hput := bput_one w4 B W (2 + s) (L2.g s) w2.heap.size 1 (L2.v s) (.slice ao5 (sealL (packB m)).length cap5) _ _ (sealL (packB m)) hb2 (HN4.out.cBag hs) (HN4.out.free _) ⟨_, HN4.out.block⟩ HN4.out.BW (by rw [hGs]; exact hlt) V4.out C4.out hbytes
        refine hput.mono ?_
        rintro e w5 ⟨rfl, hbag⟩
        obtain ⟨L3, hL3, hN5, k5⟩ := HN4.out.bagged hs hbag
        rw [hnext _ (by rw [hGs]; unfold putG; rw [if_pos hlt]; rfl)] at hN5
        have hR5 : StepRel B W w.heap.size L.p M1 s qm (.slice (some ⟨qm, offa, none⟩) ms.length capm) ms w (.int .i64 ((k : Nat) + 1)) w5 :=
          ⟨k + 1, L3, by omega, by go_num, by rw [hL3, hLp], hN5, HM4.out.keep k5 (fun i e => by have e' : i = W := e; omega), hWN2, HK4.out.trans (k5.mono (fun i _ e => by have e' : i = W := e; rw [e']; exact HN4.out.BW))⟩
        replace hR5 := hid hR5
        clear hput hbag hN5 k5 hnext hb2 hGs V4 C4 HN4 HM4 HK4 hlt
        go_wp2_with fail
        go_roundw
        case rel => exact hR5.out
        case measure => simp [intOf] <;> omega
      · obtain ⟨aog, capg, hvg⟩ := hb2.row.shape
        have hput := bput_full w4 W (2 + s) w2.heap.size 1 aog _ capg (by rw [HN4.out.cBag hs, hvg]) (by rw [hGs]; omega)
        refine hput.mono ?_
        rintro e w5 ⟨rfl, rfl⟩
        have hsame : ({ M1 with G := upd M1.G s (putMs (M1.G s) (ms.take k)) } : WM) = { M1 with G := upd M1.G s (putMs (M1.G s) (ms.take (k + 1))) } := by
          rw [HT.out, putMs_snoc]
          unfold putG
          rw [if_neg hlt]
        have hN5 := HN4.out
        rw [hsame] at hN5
        have hR5 : StepRel B W w.heap.size L.p M1 s qm (.slice (some ⟨qm, offa, none⟩) ms.length capm) ms w (.int .i64 ((k : Nat) + 1)) w4 :=
          ⟨k + 1, L2, by omega, by go_num, hLp, hN5, HM4.out, hWN2, HK4.out⟩
        replace hR5 := hid hR5
        clear hput hN5 hnext hb2 hGs V4 C4 HN4 HM4 HK4 hlt hvg hsame
        go_wp2_with fail
        go_roundw
        case rel => exact hR5.out
        case measure => simp [intOf] <;> omega
    · obtain rfl : k = ms.length := by omega
      have hN5 := HN.out
      rw [List.take_length] at hN5
      have hend : NetPost B W L.p { M1 with G := upd M1.G s (putMs (M1.G s) ms) } w (.returned (.tuple #[])) wr := ⟨rfl, L2, hLp, hN5, HK.out⟩
      replace hend := hid hend
      clear hN5 HN HM HK
      go_wp2
      exact bodyPost_ret (v := .tuple #[]) (by simp [results, Try.results13, go_sem]) rfl (by rw [hfin.out]; exact hend.out)
end Go.Proofs.Ytjlgolkippleaaa
