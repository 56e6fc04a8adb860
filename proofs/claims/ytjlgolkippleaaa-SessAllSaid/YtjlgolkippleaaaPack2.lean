/-
  The reference's Right and Pack, at a message that is right.
-/
import Derived.Test.YtjlgolkippleaaaPackW
namespace Go.Proofs.Ytjlgolkippleaaa
open Go.RowKit

/-- a message that is right -/
structure GoodM (m : MS) : Prop where
  frm : 0 ≤ m.frm ∧ m.frm < 16
  to : 0 ≤ m.to ∧ m.to < 16
  kind : 0 ≤ m.kind ∧ m.kind ≤ 2147483648
  epoch : 0 ≤ m.epoch ∧ m.epoch ≤ 2147483648
  seq : 0 ≤ m.seq ∧ m.seq ≤ 2147483648
  ack : 0 ≤ m.ack ∧ m.ack ≤ 2147483648
  load : m.load.length ≤ 1200

set_option maxRecDepth 100000 in
set_option maxHeartbeats 2000000 in
theorem right_good (w : World) (m : MS) (ao : Option Addr) (cap : Nat) (hg : GoodM m) :
    Calls Try.prog 50 #[mV m (.slice ao m.load.length cap)] w fun e w' => e = .returned (.bool true) ∧ Keep Nil w w' := by
  obtain ⟨⟨a1, a2⟩, ⟨b1, b2⟩, ⟨c1, c2⟩, ⟨d1, d2⟩, ⟨e1, e2⟩, ⟨f1, f2⟩, g⟩ := hg
  obtain ⟨frm, to, kind, epoch, seq, ack, load⟩ := m
  simp only at a1 a2 b1 b2 c1 c2 d1 d2 e1 e2 f1 f2 g ⊢
  unfold mV
  generalize load.length = n at *
  have hd : decide ((n : Int) ≤ 1200) = true := by simp; omega
  have HK := hid (((Keep.refl (S := Nil) w).alloc (.cells #[.int .i64 frm, .int .i64 to, .int .i64 kind, .int .i64 epoch, .int .i64 seq, .int .i64 ack, .slice ao n cap] 47)).alloc (.cells #[.int .i64 kind, .int .i64 epoch, .int .i64 seq, .int .i64 ack] 3))
  go_enter Try.func50, Try.ntmps50
  go_wp2_with fail
  go_loop [4] (fun i => ∃ k : Nat, k ≤ 4 ∧ i = .int .i64 k) (fun i => 4 - (intOf i).toNat)
  case atStart => exact ⟨0, by omega, rfl⟩
  case round =>
    obtain ⟨k, hk, rfl⟩ := hrel
    rcases (by omega : k = 0 ∨ k = 1 ∨ k = 2 ∨ k = 3 ∨ k = 4) with rfl | rfl | rfl | rfl | rfl
    · go_wp2
      go_round
      case rel => exact ⟨1, by omega, by go_num⟩
      case measure => simp [intOf]
    · go_wp2
      go_round
      case rel => exact ⟨2, by omega, by go_num⟩
      case measure => simp [intOf]
    · go_wp2
      go_round
      case rel => exact ⟨3, by omega, by go_num⟩
      case measure => simp [intOf]
    · go_wp2
      go_round
      case rel => exact ⟨4, by omega, by go_num⟩
      case measure => simp [intOf]
    · go_wp2
      go_ret
      exact ⟨rfl, HK.out⟩

/-- a message's text -/
def headL (m : MS) : List Nat := [m.frm.toNat, m.to.toNat, m.kind.toNat, m.epoch.toNat, m.seq.toNat, m.ack.toNat]
def packB (m : MS) : List UInt8 := partL (putL (headL m)) m.load
theorem packB_length (m : MS) : (packB m).length = 56 + m.load.length := by
  unfold packB partL
  rw [List.length_append, List.length_append, putL_length, putL_length]
  rfl
set_option maxRecDepth 100000 in
set_option maxHeartbeats 2000000 in
theorem pack_good (w : World) (B : Nat) (m : MS) (v : Value) (hv : Bts B w v m.load) (hg : GoodM m) :
    Calls Try.prog 34 #[mV m v] w fun e w' => ∃ q v', e = .returned (.tuple #[v', .int .i64 0]) ∧ RowAt w' 5 1 q v' (sealL (packB m)).length (bcells (sealL (packB m))) ∧ w.heap.size ≤ q ∧ Keep Nil w w' := by
  obtain ⟨ao, cap, rfl, -⟩ := id hv
  have HR := hid (fun w1 => right_good w1 m ao cap hg)
  have HV := hid hv
  have HG := hid hg
  obtain ⟨⟨a1, a2⟩, ⟨b1, b2⟩, ⟨c1, c2⟩, ⟨d1, d2⟩, ⟨e1, e2⟩, ⟨f1, f2⟩, g⟩ := hg
  have u1 : IntKind.u64.wrap m.frm = m.frm := IntWalk.u64_in _ (by omega)
  have u2 : IntKind.u64.wrap m.to = m.to := IntWalk.u64_in _ (by omega)
  have u3 : IntKind.u64.wrap m.kind = m.kind := IntWalk.u64_in _ (by omega)
  have u4 : IntKind.u64.wrap m.epoch = m.epoch := IntWalk.u64_in _ (by omega)
  have u5 : IntKind.u64.wrap m.seq = m.seq := IntWalk.u64_in _ (by omega)
  have u6 : IntKind.u64.wrap m.ack = m.ack := IntWalk.u64_in _ (by omega)
  have HN : Hid (∀ w1 : World, Nums (w1.alloc (.cells #[.int .u64 m.frm, .int .u64 m.to, .int .u64 m.kind, .int .u64 m.epoch, .int .u64 m.seq, .int .u64 m.ack] 106)) (.slice (some ⟨w1.heap.size, 0, none⟩) 6 6) (headL m)) := hid (fun w1 => by
    refine ⟨_, _, rfl, fun j hj => ?_⟩
    rw [row_cell (heap_new _ _)]
    have h6 : (headL m).length = 6 := rfl
    rw [h6] at hj
    rcases (by omega : j = 0 ∨ j = 1 ∨ j = 2 ∨ j = 3 ∨ j = 4 ∨ j = 5) with rfl | rfl | rfl | rfl | rfl | rfl <;> simp [headL] <;> omega)
  have HB : Hid (∀ n ∈ headL m, n < 18446744073709551616) := hid (by
    intro n hn
    simp only [headL, List.mem_cons, List.not_mem_nil, or_false] at hn
    omega)
  unfold mV at HR ⊢
  clear hv
  have HK0 := hid ((Keep.refl (S := Nil) w).alloc (.cells #[.int .i64 m.frm, .int .i64 m.to, .int .i64 m.kind, .int .i64 m.epoch, .int .i64 m.seq, .int .i64 m.ack, .slice ao m.load.length cap] 47 (0, 0)))
  have HZ := hid (heap_new w (.cells #[.int .i64 m.frm, .int .i64 m.to, .int .i64 m.kind, .int .i64 m.epoch, .int .i64 m.seq, .int .i64 m.ack, .slice ao m.load.length cap] 47 (0, 0)))
  go_enter Try.func34, Try.ntmps34
  go_wp2_with fail
  refine (HR.out _).mono ?_
  rintro e w1 ⟨rfl, k1⟩
  have K1 := hid (HK0.out.trans k1)
  have Z1 := k1.row HZ.out (fun e => e)
  obtain ⟨x0, x1, x2, x3, x4, x5, x6⟩ : w1.cell? ⟨w.heap.size, 0, none⟩ = some (.int .i64 m.frm) ∧ w1.cell? ⟨w.heap.size, 1, none⟩ = some (.int .i64 m.to) ∧ w1.cell? ⟨w.heap.size, 2, none⟩ = some (.int .i64 m.kind) ∧ w1.cell? ⟨w.heap.size, 3, none⟩ = some (.int .i64 m.epoch) ∧ w1.cell? ⟨w.heap.size, 4, none⟩ = some (.int .i64 m.seq) ∧ w1.cell? ⟨w.heap.size, 5, none⟩ = some (.int .i64 m.ack) ∧ w1.cell? ⟨w.heap.size, 6, none⟩ = some (.slice ao m.load.length cap) := by
    have k := row_cell Z1
    exact ⟨k 0, k 1, k 2, k 3, k 4, k 5, k 6⟩
  have X6 := hid x6
  clear k1 Z1 HZ HK0
  go_wp2_with fail
  refine (put_any _ B (.slice none 0 0) _ [] (headL m) (Bts.nil _ _) (HN.out w1) (by simp) (by simp [headL]) HB.out).mono ?_
  rintro e w2 ⟨q2, v2, rfl, r2, q2', k2⟩
  obtain ⟨ao2, cap2, rfl⟩ := r2.shape
  have K2 := hid ((K1.out.alloc _).trans k2)
  have y6 : w2.cell? ⟨w.heap.size, 6, none⟩ = some (.slice ao m.load.length cap) := k2.cell (cell_alloc _ X6.out) (fun e => e)
  have V2 : Hid (Bts B w2 _ _) := hid (Bts.of_row (B := B) r2)
  clear k2 x0 x1 x2 x3 x4 x5 x6 r2
  have h0 : ([] ++ putL (headL m)).length = 48 := by rw [List.nil_append, putL_length]; rfl
  go_wp2_with fail
  have VL : Bts B w2 (.slice ao m.load.length cap) m.load := HV.out.keep K2.out Mut.nil
  refine (part_one _ B w2.heap.size 1 _ _ _ m.load (V2.out.alloc _) (VL.alloc _) (row_cell (heap_new _ _) 0) (by omega) (by omega)).mono ?_
  rintro e w3 ⟨q3, v3, rfl, r3, q3', k3⟩
  obtain ⟨ao3, cap3, rfl⟩ := r3.shape
  have K3 := hid ((K2.out.alloc _).trans k3)
  have V3 : Hid (Bts B w3 _ _) := hid (Bts.of_row (B := B) r3)
  clear k3 y6 r3 VL
  have hpk : partL ([] ++ putL (headL m)) m.load = packB m := rfl
  rw [hpk] at V3
  have hlp := packB_length m
  go_wp2_with fail
  refine (seal_any _ B _ _ V3.out (by omega)).mono ?_
  rintro e w4 ⟨q4, v4, rfl, r4, q4', k4, -⟩
  have K4 := hid (K3.out.trans k4)
  have R4 := hid r4
  have Q4 := hid q4'
  clear k4 r4 q4'
  go_wp2
  go_ret2
  exact ⟨q4, _, rfl, by rw [sealL_length]; exact R4.out, Nat.le_trans K3.out.size Q4.out, K4.out⟩
end Go.Proofs.Ytjlgolkippleaaa
