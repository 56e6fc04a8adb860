/-
  SessNobody: the walk.
-/
import Derived.Test.YtjlgolkippleaaaAlive
import Derived.Test.YtjlgolkippleaaaOpen
namespace Go.Proofs.Ytjlgolkippleaaa
open Go.RowKit

/-- an act in a box -/
def Boxed10 (w : World) (z : Nat) (k : Int) (lv : Value) (m : MS) (u : Value) (n : Int) : Prop :=
  w.heap[z]? = some (.cells #[.int .u8 k, lv, .int .i64 m.frm, .int .i64 m.to, .int .i64 m.kind, .int .i64 m.epoch, .int .i64 m.seq, .int .i64 m.ack, u, .int .i64 n] 65 (0, 0))
theorem Boxed10.cells {w : World} {z : Nat} {k : Int} {lv : Value} {m : MS} {u : Value} {n : Int} (h : Boxed10 w z k lv m u n) :
    w.cell? ⟨z, 0, none⟩ = some (.int .u8 k) ∧ w.cell? ⟨z, 1, none⟩ = some lv ∧ w.cell? ⟨z, 2, none⟩ = some (.int .i64 m.frm) ∧ w.cell? ⟨z, 3, none⟩ = some (.int .i64 m.to) ∧ w.cell? ⟨z, 4, none⟩ = some (.int .i64 m.kind) ∧ w.cell? ⟨z, 5, none⟩ = some (.int .i64 m.epoch) ∧
    w.cell? ⟨z, 6, none⟩ = some (.int .i64 m.seq) ∧ w.cell? ⟨z, 7, none⟩ = some (.int .i64 m.ack) ∧ w.cell? ⟨z, 8, none⟩ = some u ∧ w.cell? ⟨z, 9, none⟩ = some (.int .i64 n) := by
  have k := row_cell h
  exact ⟨k 0, k 1, k 2, k 3, k 4, k 5, k 6, k 7, k 8, k 9⟩

/-- an End of one open load, v, in its own row -/
structure OneAt (B : Nat) (w : World) (p q : Nat) (E : ES) (v : Value) : Prop where
  pB : B ≤ p
  qB : B ≤ q
  block : ∃ o, w.heap[p]? = some (.cells (endCells E o) 76 (0, 0)) ∧ RowAt w 27 1 q o 1 [v]
  qt : ∃ cur, w.heap[q]? = some (.cells cur 27 (0, 0))
theorem OneAt.keep {B p q : Nat} {w w' : World} {E : ES} {v : Value} {S : Nat → Prop} (h : OneAt B w p q E v) (k : Keep S w w') (hp : ¬ S p) (hq : ¬ S q) : OneAt B w' p q E v := by
  obtain ⟨o, h1, h2⟩ := h.block
  obtain ⟨cur, h3⟩ := h.qt
  exact ⟨h.pB, h.qB, ⟨o, k.row h1 hp, h2.keep k hq⟩, ⟨cur, k.row h3 hq⟩⟩
theorem OneAt.endAt {B p q : Nat} {w : World} {E : ES} {v : Value} {l : List UInt8} (h : OneAt B w p q E v) (he : E.opened = [l]) (hv : Bts B w v l) : EndAt B w p q E := by
  obtain ⟨o, h1, h2⟩ := h.block
  refine ⟨h.pB, h.qB, ⟨o, [v], h1, by rw [he]; exact h2, fun i hi => ?_⟩, .inr h.qt⟩
  simp only [he] at hi ⊢
  obtain rfl : i = 0 := by simp at hi; omega
  exact ⟨v, rfl, hv⟩

theorem put_one (w : World) (B p : Nat) (E : ES) (ao' : Option Addr) (n' cap' : Nat) (l : List UInt8) (H : EndAt B w p p E) (he : E.opened = []) :
    Calls Try.prog 38 #[.pointer (some ⟨p, 3, none⟩), .slice ao' n' cap'] w fun e w' => e = .returned (.tuple #[]) ∧ ∃ q', OneAt B w' p q' { E with opened := [l] } (.slice ao' n' cap') ∧ Keep (One p) w w' ∧ w.heap.size ≤ q' := by
  obtain ⟨o, vs, hb, hr, hx⟩ := H.block
  have hl := H.lt.1
  rw [he] at hr
  rcases hr with ⟨-, rfl, ao, rfl⟩ | ⟨off, cap, cur, -, hq, -⟩
  case inr => rw [hb] at hq; simp at hq
  have hpc := row_cell hb 4
  have hpf := row_free hb 4
  simp [endCells] at hpc
  have HB := hid hb
  have HE := hid H
  clear hb hx H
  go_enter Try.func38, Try.ntmps38
  go_wp2_with (at_builtin; refine wpList_append_row _ rfl _ _ 37 37 rfl 27 (.slice none 0 0) 1 24 Try.underlying37 info27 rfl w.heap.size (.slice ao 0 0) 0 [] rfl (.inl ⟨rfl, rfl, ao, rfl⟩) _ 1 [.slice ao' n' cap'] rfl ?src ?b1 ?b2 ?_)
  case src => exact Src.ofSlice _ Try.underlying37 _ 1 1 _ rfl (fun j u hu => by
    cases j with
    | zero => rw [Addr.add_lit]; rw [row_cell (heap_new _ _)]; simpa using hu
    | succ j => simp at hu) (by simp [Value.oneCell'])
  case b1 => simp [maxLen]
  case b2 => omega
  intro q' ao2 cap2 w1 h1 k1 h2
  have kk : Keep Nil w w1 := ((Keep.refl w).alloc _).andThen k1 (fun k hk e => by have := e.1; omega)
  have hw1 := kk.row HB.out (fun e => e)
  have hpf1 := row_free hw1 4
  have hpc1 := row_cell hw1 4
  simp [endCells] at hpc1
  go_wp2
  refine bodyPost_end (v := .tuple #[]) (by simp [results, Try.results38, go_sem]) rfl ⟨rfl, q', ?_, ?_, ?_⟩
  · have hq' : B ≤ q' := by have := HE.out.pB; rcases h2 with h | ⟨h, -⟩ <;> omega
    have h1' : RowAt w1 27 1 q' (.slice ao2 1 cap2) 1 [.slice ao' n' cap'] := by simpa using h1
    refine ⟨HE.out.pB, hq', ⟨_, row_set hw1 4 _, h1'.store hw1 (by decide)⟩, ?_⟩
    rcases h1' with ⟨h0, _⟩ | ⟨off, cap, cur, -, h3, -⟩
    · omega
    · refine ⟨cur, row_other h3 (fun e => ?_) _⟩
      have : q' = p := e
      rw [this, hw1] at h3
      simp at h3
  · exact (kk.mono (T := One p) (fun _ _ e => e.elim)).setCell (p := ⟨p, 4, none⟩) (fun _ => rfl) _
  · rcases h2 with h | ⟨h, -⟩ <;> omega

theorem send_one (w : World) (B p : Nat) (E : ES) (v : Value) (l : List UInt8) (H : EndAt B w p p E) (he : 0 < E.epoch) (ho : E.opened = []) (hl : l.length ≤ 1200) (hv : Bts B w v l) :
    Calls Try.prog 19 #[.pointer (some ⟨p, 0, none⟩), v] w fun e w' => e = .returned (.int .i64 0) ∧ ∃ q' ao cap qc, OneAt B w' p q' { E with opened := [l] } (.slice ao l.length cap) ∧ RowAt w' 5 1 qc (.slice ao l.length cap) l.length (bcells l) ∧ w.heap.size ≤ qc ∧ w.heap.size ≤ q' ∧ Keep (One p) w w' := by
  have hk := hid (ok_end H he)
  obtain ⟨c0, c1, c2, c3, ⟨ao, cap, c4⟩, c5, c6⟩ := H.cells
  obtain ⟨ao', cap', rfl, hv'⟩ := id hv
  rw [ho] at c4
  have HE := hid H
  have HV := hid hv
  clear H hv hv'
  have HE2 := hid HE.out.drew
  have HC := hid (clone_some w.drew B _ l HV.out.drew (by omega))
  have hk0 : Keep Nil w w.drew := (Keep.refl w).drew
  go_enter Try.func19, Try.ntmps19
  go_wp2_with (go_at_call 36; refine hk.out.mono ?_; rintro e w' ⟨rfl, rfl⟩)
  go_region_held3 (fun _ => True) (exact trivial)
    ((first
      | (go_at_call 39; refine HC.out.mono ?_; rintro e w1 ⟨qc, aoc, capc, rfl, hrow, hqc, k1⟩; have E1 := hid (HE2.out.keep k1 Mut.nil (fun e => e) (fun e => e)); have V1 := hid hrow; have Q1 := hid hqc; have K1 := hid k1; clear hrow k1 hqc)
      | (go_at_call 38; refine (put_one _ B p E _ _ _ l E1.out ho).mono ?_; rintro e w2 ⟨rfl, q', h2, k2, hq2⟩; have T2 := hid h2; have K2 := hid k2; have Q2 := hid hq2; clear h2 k2 hq2)))
  go_wp2
  go_ret
  refine ⟨rfl, q', aoc, capc, qc, T2.out, ?_, Q1.out, ?_, ?_⟩
  · have hqp : qc ≠ p := by have := E1.out.lt.1; have := HE.out.lt.1; have h := Q1.out; have h' : w.heap.size ≤ qc := h; omega
    exact V1.out.keep K2.out hqp
  · exact Nat.le_trans K1.out.size Q2.out
  · exact ((hk0.trans K1.out).mono (fun _ _ e => e.elim)).trans K2.out

theorem NoEnd.keep {w w' : World} {a : Option Addr} (h : NoEnd w a) (k : Keep Nil w w') : NoEnd w' a := by
  rcases h with h | ⟨p, h1, h2⟩
  · exact .inl h
  · exact .inr ⟨p, h1, k.cell h2 (fun e => e)⟩
theorem endAt_bare (w : World) : (w.alloc (.cells #[.int .i64 0, .int .i64 0, .int .i64 0, .int .i64 0, .slice none 0 0, .int .i64 0, .bool false] 76)).cell? ⟨w.heap.size, 2, none⟩ = some (.int .i64 0) := by
  rw [row_cell (heap_new _ _)]; rfl

set_option maxRecDepth 100000 in
set_option maxHeartbeats 4000000 in
theorem nobody_any (w : World) (k : Int) (lv : Value) (m : MS) (u : Value) (n : Int) (hu : Bts w.heap.size w u m.load) (l : List UInt8) (hl : Bts w.heap.size w lv l) :
    Calls Try.prog 8 #[.agg #[.int .u8 k, lv, .int .i64 m.frm, .int .i64 m.to, .int .i64 m.kind, .int .i64 m.epoch, .int .i64 m.seq, .int .i64 m.ack, u, .int .i64 n]] w fun e w' => e = .returned (.bool true) ∧ Below w.heap.size w w' := by
  obtain ⟨aou, capu, rfl, -⟩ := hu
  obtain ⟨aol, capl, rfl, -⟩ := hl
  have kc := fun (w : World) (C : Array Value) (n c : Nat) => Lib.run_convert_bytes_const (P := Try.prog) w 27 5 C n c Try.underlying27 Try.underlying5
  have HB0 := hid (heap_new w (.cells #[.int .u8 k, .slice aol l.length capl, .int .i64 m.frm, .int .i64 m.to, .int .i64 m.kind, .int .i64 m.epoch, .int .i64 m.seq, .int .i64 m.ack, .slice aou m.load.length capu, .int .i64 n] 65 (0, 0)))
  have HK0 := hid ((Keep.refl (S := Nil) w).alloc (.cells #[.int .u8 k, .slice aol l.length capl, .int .i64 m.frm, .int .i64 m.to, .int .i64 m.kind, .int .i64 m.epoch, .int .i64 m.seq, .int .i64 m.ack, .slice aou m.load.length capu, .int .i64 n] 65 (0, 0)))
  have HS0 := hid (size_alloc w (.cells #[.int .u8 k, .slice aol l.length capl, .int .i64 m.frm, .int .i64 m.to, .int .i64 m.kind, .int .i64 m.epoch, .int .i64 m.seq, .int .i64 m.ack, .slice aou m.load.length capu, .int .i64 n] 65 (0, 0)))
  go_enter Try.func8, Try.ntmps8
  go_wp2_with fail
  generalize w.alloc (.cells #[.int .u8 k, .slice aol l.length capl, .int .i64 m.frm, .int .i64 m.to, .int .i64 m.kind, .int .i64 m.epoch, .int .i64 m.seq, .int .i64 m.ack, .slice aou m.load.length capu, .int .i64 n] 65) = wa at *
  obtain ⟨z, hz⟩ : ∃ z, w.heap.size = z := ⟨_, rfl⟩
  have hz1 : wa.heap.size = z + 1 := by rw [← hz]; exact HS0.out
  have HB1 := endAt_bare wa
  have HK1 := (Keep.refl (S := Nil) wa).alloc (.cells #[.int .i64 0, .int .i64 0, .int .i64 0, .int .i64 0, .slice none 0 0, .int .i64 0, .bool false] 76)
  have HZ1 := size_alloc wa (.cells #[.int .i64 0, .int .i64 0, .int .i64 0, .int .i64 0, .slice none 0 0, .int .i64 0, .bool false] 76)
  generalize wa.alloc (.cells #[.int .i64 0, .int .i64 0, .int .i64 0, .int .i64 0, .slice none 0 0, .int .i64 0, .bool false] 76) = wb at *
  have HB2 := heap_new wb (.cells #[.pointer none, .pointer (some ⟨w.heap.size + 1, 0, none⟩)] 31 (0, 0))
  have HK2 := (Keep.refl (S := Nil) wb).alloc (.cells #[.pointer none, .pointer (some ⟨w.heap.size + 1, 0, none⟩)] 31 (0, 0))
  generalize wb.alloc (.cells #[.pointer none, .pointer (some ⟨w.heap.size + 1, 0, none⟩)] 31) = wc at *
  rw [HZ1, hz1] at HB2
  rw [hz1] at HB1
  rw [hz] at HB2 HB0 ⊢
  have R0 := hid (HK2.row (HK1.row HB0.out (fun e => e)) (fun e => e))
  have R1 := hid (HK2.cell HB1 (fun e => e))
  have R2 := hid HB2
  have KC := hid ((HK0.out.trans HK1).trans HK2)
  clear HB0 HB1 HB2 HK0 HK1 HK2 HS0 HZ1 hz1
  go_loopw [17] (fun i wr => ∃ j : Nat, j ≤ 2 ∧ i = .int .i64 j ∧ Keep Nil wc wr) (fun i _ => 2 - (intOf i).toNat)
  case atStart => exact ⟨0, by omega, rfl, Keep.refl _⟩
  case round =>
    obtain ⟨j, hj, rfl, hkp⟩ := hrel
    have HKP := hid hkp
    obtain ⟨x0, x1, x2, x3, x4, x5, x6, x7, x8, x9⟩ := Boxed10.cells (hkp.row R0.out (fun e => e))
    have p0 : wr.cell? ⟨z + 1 + 1, 0, none⟩ = some (.pointer none) := row_cell (hkp.row R2.out (fun e => e)) 0
    have p1 : wr.cell? ⟨z + 1 + 1, 1, none⟩ = some (.pointer (some ⟨z + 1, 0, none⟩)) := row_cell (hkp.row R2.out (fun e => e)) 1
    clear hkp
    by_cases hj2 : j < 2
    · rcases (by omega : j = 0 ∨ j = 1) with rfl | rfl
      · have N0 : NoEnd wr none := .inl rfl
        have RV := recv_none (w := wr) m (.slice aou m.load.length capu) N0
        unfold mV at RV
        have RV := hid RV
        have HN0 := hid N0
        clear N0
        go_wp2_with fail
        refine RV.out.mono ?_
        rintro e w1 ⟨rfl, k1⟩
        have N1 : NoEnd w1 none := HN0.out.keep k1
        have S1 := hid (send_none (.slice aol l.length capl) N1)
        have T1 := hid (step_none N1)
        have B1 := hid (begin_none n N1)
        have P1 := hid (epoch_none N1)
        have O1 := hid (open_none N1)
        have C1 := hid (came_none N1)
        have W1 := hid (owes_none N1)
        have y1 := k1.cell x1 (fun e => e)
        have y9 := k1.cell x9 (fun e => e)
        have KP1 := hid (HKP.out.trans k1)
        clear k1 x0 x1 x2 x3 x4 x5 x6 x7 x8 x9 p0 p1 N1
        go_wp2_with fail
        refine S1.out.mono ?_
        rintro e w' ⟨rfl, rfl⟩
        go_wp2_with fail
        refine T1.out.mono ?_
        rintro e w' ⟨rfl, rfl⟩
        go_wp2_with fail
        refine B1.out.mono ?_
        rintro e w' ⟨rfl, rfl⟩
        go_wp2_with fail
        refine P1.out.mono ?_
        rintro e w' ⟨rfl, rfl⟩
        go_wp2_with fail
        refine O1.out.mono ?_
        rintro e w' ⟨rfl, rfl⟩
        go_wp2_with fail
        refine C1.out.mono ?_
        rintro e w' ⟨rfl, rfl⟩
        go_wp2_with fail
        refine W1.out.mono ?_
        rintro e w' ⟨rfl, rfl⟩
        go_wp2_with fail
        go_roundw
        case rel => exact ⟨1, by omega, by go_num, KP1.out⟩
        case measure => simp [intOf] <;> omega
      · have N0 : NoEnd wr (some ⟨z + 1, 0, none⟩) := .inr ⟨_, rfl, HKP.out.cell R1.out (fun e => e)⟩
        have RV := recv_none (w := wr) m (.slice aou m.load.length capu) N0
        unfold mV at RV
        have RV := hid RV
        have HN0 := hid N0
        clear N0
        go_wp2_with fail
        refine RV.out.mono ?_
        rintro e w1 ⟨rfl, k1⟩
        have N1 : NoEnd w1 (some ⟨z + 1, 0, none⟩) := HN0.out.keep k1
        have S1 := hid (send_none (.slice aol l.length capl) N1)
        have T1 := hid (step_none N1)
        have B1 := hid (begin_none n N1)
        have P1 := hid (epoch_none N1)
        have O1 := hid (open_none N1)
        have C1 := hid (came_none N1)
        have W1 := hid (owes_none N1)
        have y1 := k1.cell x1 (fun e => e)
        have y9 := k1.cell x9 (fun e => e)
        have KP1 := hid (HKP.out.trans k1)
        clear k1 x0 x1 x2 x3 x4 x5 x6 x7 x8 x9 p0 p1 N1
        go_wp2_with fail
        refine S1.out.mono ?_
        rintro e w' ⟨rfl, rfl⟩
        go_wp2_with fail
        refine T1.out.mono ?_
        rintro e w' ⟨rfl, rfl⟩
        go_wp2_with fail
        refine B1.out.mono ?_
        rintro e w' ⟨rfl, rfl⟩
        go_wp2_with fail
        refine P1.out.mono ?_
        rintro e w' ⟨rfl, rfl⟩
        go_wp2_with fail
        refine O1.out.mono ?_
        rintro e w' ⟨rfl, rfl⟩
        go_wp2_with fail
        refine C1.out.mono ?_
        rintro e w' ⟨rfl, rfl⟩
        go_wp2_with fail
        refine W1.out.mono ?_
        rintro e w' ⟨rfl, rfl⟩
        go_wp2_with fail
        go_roundw
        case rel => exact ⟨2, by omega, by go_num, KP1.out⟩
        case measure => simp [intOf] <;> omega
    · have KR := hid (KC.out.trans HKP.out)
      have hsz : z ≤ wr.heap.size := by have := KR.out.size; omega
      clear x0 x1 x2 x3 x4 x5 x6 x7 x8 x9 p0 p1 R0 R1 R2 KC HKP
      go_wp2_with fail
      refine (new_good wr z hsz 0 1 1 (by unfold NewOk; omega)).mono ?_
      rintro e w1 ⟨rfl, e1, k1⟩
      have hp1 := e1.lt.1
      have K1 := hid (KR.out.trans k1)
      have AE := hid (e1.alloc (.cells #[.int .u8 97, .int .u8 98] 5 (2, 3)))
      have AN := hid (heap_new w1 (.cells #[.int .u8 97, .int .u8 98] 5 (2, 3)))
      have AS := hid (size_alloc w1 (.cells #[.int .u8 97, .int .u8 98] 5 (2, 3)))
      have AK := hid (K1.out.alloc (.cells #[.int .u8 97, .int .u8 98] 5 (2, 3)))
      clear e1 k1 KR K1
      generalize wr.heap.size = p at *
      go_wp2_with fail
      generalize w1.alloc (.cells #[.int .u8 97, .int .u8 98] 5 (2, 3)) = wd at *
      generalize w1.heap.size = o at *
      have hv : Bts z wd (.slice (some ⟨o, 0, none⟩) 2 2) [97, 98] :=
        ⟨_, 2, rfl, fun _ => ⟨o, 0, rfl, .inr ⟨_, _, AN.out⟩, fun j hj => by
          have h := AN.out
          unfold World.cell?
          rw [h]
          rcases (by simp at hj; omega : j = 0 ∨ j = 1) with rfl | rfl <;> rfl⟩⟩
      refine (send_one wd z p (newE 0 1 1) _ [97, 98] AE.out (by decide) rfl (by decide) hv).mono ?_
      rintro e w2 ⟨rfl, q, aoc, capc, qc, ho, hrow, hqc, hq, k2⟩
      have hos : wd.heap.size = o + 1 := AS.out
      have hop : o ≠ p := by omega
      have N2 := k2.row AN.out hop
      have c20 : w2.cell? ⟨o, 0, none⟩ = some (.int .u8 97) := by unfold World.cell?; rw [N2]; rfl
      have f20 : w2.frozen? ⟨o, 0, none⟩ = false := by unfold World.frozen?; rw [N2]; rfl
      have ks : Keep (One o) w2 (w2.setCell ⟨o, 0, none⟩ (.int .u8 120)) := (Keep.refl (S := One o) w2).setCell (p := ⟨o, 0, none⟩) (fun _ => rfl) _
      have O3 := hid (ho.keep ks (fun e => hop e.symm) (fun e => by have e' : q = o := e; omega))
      have Q3 := hid (hrow.keep ks (fun e => by have e' : qc = o := e; omega))
      have hzp : z ≤ p := AE.out.pB
      have K3 := hid ((AK.out.andThen k2 (fun i hi e => by have e' : i = p := e; omega)).andThen ks (fun i hi e => by have e' : i = o := e; omega))
      clear ho hrow hqc hq k2 ks hv AE AN AS AK hos
      go_wp2_with fail
      clear c20 f20 N2
      generalize w2.setCell ⟨o, 0, none⟩ (.int .u8 120) = w3 at *
      have E3 := hid (O3.out.endAt (l := [97, 98]) rfl (Bts.of_row Q3.out))
      have hst := step_some w3 z p q _ E3.out ⟨by decide, by decide, by decide, by decide, by decide, by decide, by simp⟩
      unfold StepPost at hst
      rw [show stepMs { newE 0 1 1 with opened := [[97, 98]] } = [⟨0, 1, 1, 1, 1, 0, [97, 98]⟩] from rfl] at hst
      refine hst.mono ?_
      rintro e w4 ⟨q4, v4, rfl, hm, k4⟩
      obtain ⟨off4, cap4, qi4, ao4, capu4, rfl, hq4, hqi4, hrow4, m0, m1, m2, m3, m4, m5, m6⟩ := hm.one
      simp only [List.length_cons, List.length_nil] at hrow4 m6
      rcases hrow4 with ⟨h0, _⟩ | ⟨off, capv, cur, hv4, hb4, -, -, -, hfit, hcur⟩
      · omega
      simp only [Value.slice.injEq, Nat.reduceAdd, true_and] at hv4
      obtain ⟨rfl, rfl⟩ := hv4
      have c41 : w4.cell? ⟨qi4, off + 1, none⟩ = some (.int .u8 98) := by rw [row_cell hb4, hcur 1 (by omega)]; rfl
      have f41 : w4.frozen? ⟨qi4, off + 1, none⟩ = false := row_free hb4 _
      have h3z : Hid (z ≤ w3.heap.size) := hid (by have := K3.out.size; omega)
      have k5 : Keep Nil (w3.setCell ⟨p, 6, none⟩ (.bool false)) (w4.setCell ⟨qi4, off + 1, none⟩ (.int .u8 120)) :=
        k4.setCell (p := ⟨qi4, off + 1, none⟩) (fun h => by have h' : qi4 < (w3.setCell ⟨p, 6, none⟩ (.bool false)).heap.size := h; simp at h'; omega) _
      have E5 : Hid (EndAt z (w4.setCell ⟨qi4, off + 1, none⟩ (.int .u8 120)) p q ⟨0, 1, 1, 0, [[97, 98]], 0, false⟩) := hid (E3.out.stepped k5)
      have K5 := hid (K3.out.stepped (p := p) (by omega) k5)
      clear hst hm k4 k5 hb4 hcur m0 m1 m2 m3 m4 m5 O3 Q3 E3
      go_wp2_with fail
      clear c41 f41 m6
      generalize w4.setCell ⟨qi4, off + 1, none⟩ (.int .u8 120) = w5 at *
      have hst := step_some w5 z p q _ E5.out ⟨by decide, by decide, by decide, by decide, by decide, by decide, by simp⟩
      unfold StepPost at hst
      rw [show stepMs ⟨0, 1, 1, 0, [[97, 98]], 0, false⟩ = [⟨0, 1, 1, 1, 1, 0, [97, 98]⟩] from rfl] at hst
      refine hst.mono ?_
      rintro e w6 ⟨q6, v6, rfl, hm, k6⟩
      obtain ⟨off6, cap6, qi6, ao6, capu6, rfl, -, -, hrow6, m0, m1, m2, m3, m4, m5, m6⟩ := hm.one
      simp only [List.length_cons, List.length_nil] at hrow6 m6
      have V6 := (Bts.of_row (B := z) hrow6).convert
      have K6 := hid (K5.out.stepped (p := p) (by omega) k6)
      clear hst hm k6 hrow6 m0 m1 m2 m3 m4 m5 E5
      go_wp2_with fail
      refine (alive_any w6).mono ?_
      rintro e w7 ⟨rfl, k7⟩
      have K7 := hid (K6.out.trans k7)
      clear k7
      go_wp2
      go_ret
      exact ⟨rfl, K7.out.below (fun _ e => e.elim) (by omega)⟩

end Go.Proofs.Ytjlgolkippleaaa
