/-
  wal.head.
-/
import Derived.Test.YtdecljdhdclmoaaWrites
namespace Go.Proofs.Ytdecljdhdclmoaa
open Go.RowKit
variable {w w' : World} {b p c : Nat} {d : DS}

def headL (n m : Nat) : List UInt8 := putL [1784767339, n, m]
theorem headL_length (n m : Nat) : (headL n m).length = 24 := by unfold headL; rw [putL_length]; rfl
def headD (d : DS) (n m : Nat) : Bool × DS := putsD d 0 [headL n m]
theorem rows_one (S : Nat → Prop) (w : World) (v : Value) (t : TypeId) (hS : ¬ S w.heap.size) : Rows S (w.alloc (.cells #[v] t)) (.slice (some ⟨w.heap.size, 0, none⟩) 1 1) [v] :=
  ⟨_, 1, rfl, fun _ => ⟨_, 0, rfl, hS, fun j hj => by
    rw [row_cell (heap_new _ _)]
    obtain rfl : j = 0 := by simp at hj; omega
    rfl⟩⟩
theorem AllBts.one {v : Value} {xs : List UInt8} (h : Bts 0 w v xs) : AllBts w [v] [xs] := ⟨rfl, fun j h1 h2 => by
  obtain rfl : j = 0 := by simp at h1; omega
  exact h⟩
theorem head_nums (w : World) (n m : Nat) : Nums (w.alloc (.cells #[.int .u64 1784767339, .int .u64 (n : Nat), .int .u64 (m : Nat)] 65)) (.slice (some ⟨w.heap.size, 0, none⟩) 3 3) [1784767339, n, m] :=
  ⟨_, 3, rfl, fun j hj => by
    rw [row_cell (heap_new _ _)]
    rcases (by simp at hj; omega : j = 0 ∨ j = 1 ∨ j = 2) with rfl | rfl | rfl <;> simp⟩
theorem DiskAt.new (h : DiskAt w b p c d) {k : Nat} (hk : w.heap.size ≤ k) : ¬ Dk b p c k := fun e => by have := h.lt k e; omega

set_option maxRecDepth 100000 in
set_option maxHeartbeats 1000000 in
theorem head_some (h : DiskAt w b p c d) (n m : Nat) (hn : n ≤ 1000000) (hm : m ≤ 1000000) :
    Calls Try.prog 16 #[.pointer (some ⟨b, 0, none⟩), .int .i64 n, .int .i64 m] w fun e w' => e = .returned (okV (headD d n m).1) ∧ DiskAt w' b p c (headD d n m).2 ∧ Keep (Dk b p c) w w' := by
  have H := hid h
  have wn : IntKind.u64.wrap (n : Int) = n := IntWalk.u64_in _ (by omega)
  have wm : IntKind.u64.wrap (m : Int) = m := IntWalk.u64_in _ (by omega)
  have hend : Hid (∀ w', DiskAt w' b p c (headD d n m).2 → Keep (Dk b p c) w w' → DiskAt w' b p c (headD d n m).2 ∧ Keep (Dk b p c) w w') := hid (fun w' h1 h2 => ⟨h1, h2⟩)
  clear h
  go_enter Try.func16, Try.ntmps16
  go_wp2_with fail
  have Z0 := heap_new w (.cells #[.slice none 0 0] 63)
  have Z1 : ((w.alloc (.cells #[.slice none 0 0] 63)).alloc (.cells #[.int .u64 1784767339, .int .u64 (n : Nat), .int .u64 (m : Nat)] 65)).heap[w.heap.size]? = _ := row_alloc Z0 _
  have hsz : (w.alloc (.cells #[.slice none 0 0] 63)).heap.size = w.heap.size + 1 := by simp
  have hnm := head_nums (w.alloc (.cells #[.slice none 0 0] 63)) n m
  rw [hsz] at hnm
  have HKA : Keep Nil w ((w.alloc (.cells #[.slice none 0 0] 63)).alloc (.cells #[.int .u64 1784767339, .int .u64 (n : Nat), .int .u64 (m : Nat)] 65)) := ((Keep.refl w).alloc _).alloc _
  refine (put_new _ w.heap.size _ [1784767339, n, m] Z1 hnm ⟨_, _, rfl, by omega⟩ (by simp) (by intro x hx; simp at hx; omega)).mono ?_
  rintro e w1 ⟨rfl, q1, v1, hw1, hq1, k1⟩
  obtain ⟨ao1, cap1, rfl⟩ := hw1.2.shape
  have HW1 := hid hw1
  have K1 : Hid (Keep Nil w w1) := hid (HKA.andThen k1 (fun k hk e => by have e' : k = w.heap.size := e; omega))
  clear Z0 Z1 hsz hnm HKA hw1 hq1 k1
  go_wp2_with fail
  refine (bytes_wr w1 _ _ _ _ HW1.out (by rw [putL_length]; simp)).mono ?_
  rintro e w2 ⟨q2, ao2, cap2, rfl, h2, hq2, k2⟩
  have hl : (putL [1784767339, n, m]).length = 24 := headL_length n m
  rw [hl] at h2 ⊢
  have K2 : Hid (Keep Nil w w2) := hid (K1.out.trans k2)
  have B2 : Hid (Bts 0 w2 (.slice ao2 24 cap2) (headL n m)) := hid (Bts.of_row h2)
  have D2 : Hid (DiskAt w2 b p c d) := hid (H.out.nil K2.out)
  clear h2 hq2 k2 hl
  go_wp2_with fail
  refine (writes_some (D2.out.nil ((Keep.refl w2).alloc _)) 0 _ _ [headL n m] (rows_one (Dk b p c) w2 _ _ (D2.out.new (Nat.le_refl _))) (AllBts.one (B2.out.alloc _)) (by simp) (by intro xs hx; simp at hx; subst hx; rw [headL_length]; omega)).mono ?_
  rintro e w3 ⟨rfl, h3, k3⟩
  have hE := hid (hend.out w3 h3 ((K2.out.alloc _).mono (fun _ _ e => e.elim) |>.trans k3))
  change Hid _ at hE
  clear h3 k3
  go_wp2
  go_ret
  exact ⟨rfl, hE.out⟩
end Go.Proofs.Ytdecljdhdclmoaa
