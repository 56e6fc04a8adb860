/-
  wal.told at a head that is one.
-/
import Derived.Test.YtdecljdhdclmoaaHead
import Derived.Test.YtdecljdhdclmoaaReader
namespace Go.Proofs.Ytdecljdhdclmoaa
open Go.RowKit
variable {w w' : World} {b p c : Nat} {d : DS}

theorem RdAt.mut {z n : Nat} {v : Value} (h : RdAt w z v n) : Mut 0 w (One z) := by
  rintro k rfl
  exact ⟨Nat.zero_le _, fun cur fr e => by rw [show w.heap[k]? = _ from h] at e; simp at e⟩
theorem has8_at (xs ys : List UInt8) (x : Nat) : Has8 (xs ++ le8 x ++ ys) xs.length x := fun k hk => by
  rw [List.append_assoc, List.getElem?_append_right (by omega), List.getElem?_append_left (by rw [le8_length]; omega), ← le8_get x k hk]
  congr 1; omega
theorem head_has (n m : Nat) : Has8 (padL (headL n m)) 0 1784767339 ∧ Has8 (padL (headL n m)) 8 n ∧ Has8 (padL (headL n m)) 16 m := by
  have e : padL (headL n m) = le8 1784767339 ++ le8 n ++ le8 m ++ List.replicate 40 0 := by
    unfold padL
    rw [headL_length]
    simp [headL, putL]
  refine ⟨?_, ?_, ?_⟩
  · have := has8_at [] (le8 n ++ le8 m ++ List.replicate 40 0) 1784767339
    rw [e]; simpa using this
  · have := has8_at (le8 1784767339) (le8 m ++ List.replicate 40 0) n
    rw [le8_length] at this
    rw [e]; simpa using this
  · have := has8_at (le8 1784767339 ++ le8 n) (List.replicate 40 0) m
    rw [List.length_append, le8_length, le8_length] at this
    rw [e]; simpa using this

set_option maxRecDepth 100000 in
set_option maxHeartbeats 2000000 in
theorem told_good (h : DiskAt w b p c d) (ho : d.off = false) (n m : Nat) (hn : n ≤ 1000000) (hm : m ≤ 6) (hv : viewD d 0 = padL (headL n m)) :
    Calls Try.prog 28 #[.pointer (some ⟨b, 0, none⟩)] w fun e w' => e = .returned (.tuple #[.int .i64 (n : Nat), .int .i64 (m : Nat), .bool true, .int .i64 0]) ∧ Keep Nil w w' := by
  have hR := hid (read_some h 0 (by omega) ho)
  have HH := hid (head_has n m)
  have HL : Hid ((padL (headL n m)).length = 64) := hid (padL_length _ (by rw [headL_length]; omega))
  rw [hv] at hR
  clear h ho hv
  generalize padL (headL n m) = bs at *
  go_enter Try.func28, Try.ntmps28
  go_wp2_with fail
  refine hR.out.mono ?_
  rintro e w1 ⟨q1, v1, rfl, r1, hq1, k1⟩
  obtain ⟨ao, cap, rfl⟩ := r1.shape
  have hcap : 64 ≤ cap := by
    rcases r1 with ⟨h, -⟩ | ⟨_, _, _, e, -, -, h, -⟩
    · omega
    · cases e; exact h
  rw [← HL.out] at r1
  have B1 : Hid (Bts 0 w1 (.slice ao 64 cap) bs) := hid (by have := Bts.of_row (B := 0) r1; rwa [HL.out] at this)
  have K1 := hid k1
  have HC : Hid (∃ ao' cap', Value.slice ao 64 cap = .slice ao' bs.length cap' ∧ bs.length ≤ cap') := hid ⟨ao, cap, by rw [HL.out], by rw [HL.out]; exact hcap⟩
  clear r1 k1 hq1
  go_wp2_with fail
  refine (new_rd w1 ao 64 cap).mono ?_
  rintro e w2 ⟨z, rfl, hz, hr2, k2⟩
  have K2 := hid (K1.out.trans k2)
  have B2 := hid (B1.out.keep k2 Mut.nil)
  have R2 := hid hr2
  have hzw : w.heap.size ≤ z := Nat.le_trans K1.out.size hz
  clear k2 hr2
  go_wp2_with fail
  refine (get_good z 0 1784767339 _ bs B2.out HC.out R2.out HH.out.1 (by rw [HL.out]; omega) (by omega)).mono ?_
  rintro e w3 ⟨rfl, hr3, k3⟩
  have B3 := hid (B2.out.keep k3 R2.out.mut)
  have K3 := hid (K2.out.andThen k3 (fun k hk e => by have e' : k = z := e; omega))
  have R3 := hid hr3
  clear hr3 k3
  go_wp2_with fail
  refine (int_good z 8 n 4611686018427387904 _ bs B3.out HC.out R3.out HH.out.2.1 (by rw [HL.out]; omega) (by omega) (by omega)).mono ?_
  rintro e w4 ⟨rfl, hr4, k4⟩
  have B4 := hid (B3.out.keep k4 R3.out.mut)
  have K4 := hid (K3.out.andThen k4 (fun k hk e => by have e' : k = z := e; omega))
  have R4 := hid hr4
  clear hr4 k4
  go_wp2_with fail
  refine (int_good z 16 m 6 _ bs B4.out HC.out R4.out HH.out.2.2 (by rw [HL.out]; omega) (by omega) (by omega)).mono ?_
  rintro e w5 ⟨rfl, hr5, k5⟩
  have K5 := hid (K4.out.andThen k5 (fun k hk e => by have e' : k = z := e; omega))
  have R5 := hid hr5
  clear hr5 k5
  go_wp2_with fail
  refine (fault_good R5.out).mono ?_
  rintro e w6 ⟨rfl, k6⟩
  have K6 := hid (K5.out.trans k6)
  clear k6
  go_wp2
  refine bodyPost_ret (v := .tuple #[.int .i64 (n : Nat), .int .i64 (m : Nat), .bool true, .int .i64 0]) (by simp [results, Try.results28, go_sem]) rfl ?_
  exact ⟨rfl, K6.out⟩
end Go.Proofs.Ytdecljdhdclmoaa
