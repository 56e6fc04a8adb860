/-
  pack.Writer: Put at a new Writer, Bytes.
-/
import Derived.Test.YtdecljdhdclmoaaDisk
import Derived.Deep.RegionLaw
import Derived.Deep.RegionHeld3
namespace Go.Proofs.Ytdecljdhdclmoaa
open Go.RowKit

def le8 (n : Nat) : List UInt8 := (List.range 8).map fun k => UInt8.ofNat (n / 256 ^ k)
theorem le8_length (n : Nat) : (le8 n).length = 8 := by simp [le8]
theorem le8_get (n k : Nat) (h : k < 8) : (le8 n)[k]? = some (UInt8.ofNat (n / 256 ^ k)) := by
  simp [le8, List.getElem?_map, List.getElem?_range h]
theorem take_snocL {α : Type} (xs : List α) (k : Nat) (h : k < xs.length) : xs.take (k + 1) = xs.take k ++ [xs[k]] := by
  rw [List.take_succ_eq_append_getElem h]
theorem keep_drewN {S : Nat → Prop} {a w : World} (n : Nat) (h : Keep S a w) : Keep S a (w.drewN n) := ⟨h.os, h.tape, h.output, h.size, h.block⟩
theorem le8_take (n k : Nat) (h : k < 8) : (le8 n).take (k + 1) = (le8 n).take k ++ [UInt8.ofNat (n / 256 ^ k)] := by
  rw [take_snocL _ _ (by rw [le8_length]; exact h)]
  congr 2
  simp [le8]
theorem le8_byte (x j : Nat) : (Value.int .u8 ((x : Int) / 2 ^ (8 * j) % 256)) = .int .u8 ((UInt8.ofNat (x / 256 ^ j)).toNat : Int) := by
  congr 1
  rw [UInt8.toNat_ofNat', show (256 : Nat) = 2 ^ 8 from rfl, ← Nat.pow_mul]
  simp
def putL (ns : List Nat) : List UInt8 := ns.flatMap le8
theorem putL_snoc (ns : List Nat) (n : Nat) : putL (ns ++ [n]) = putL ns ++ le8 n := by simp [putL]
theorem putL_length : ∀ (ns : List Nat), (putL ns).length = 8 * ns.length
  | [] => rfl
  | n :: ns => by
    have := putL_length ns
    simp only [putL, List.flatMap_cons, List.length_append, le8_length, List.length_cons] at *
    omega
/-- numbers that lie in a row -/
def Nums (w : World) (v : Value) (ns : List Nat) : Prop := ∃ c cap, v = .slice (some ⟨c, 0, none⟩) ns.length cap ∧ ∀ j (h : j < ns.length), w.cell? ⟨c, j, none⟩ = some (.int .u64 (ns[j] : Nat))
theorem src_byte (w : World) (a : Int) : Src Try.prog 1 22 (.slice (some ⟨w.heap.size, 0, none⟩) 1 1) 1 [.int .u8 a] (w.alloc (.cells #[.int .u8 a] 5)) := by
  refine Src.ofSlice _ Try.underlying22 _ _ _ _ rfl (fun j u hu => ?_) (by simp [Value.oneCell'])
  rw [Addr.add_lit, row_cell (heap_new _ _), Nat.zero_add, ← hu]
  simp
/-- a Writer -/
def WrAt (w : World) (z : Nat) (v : Value) (xs : List UInt8) (q : Nat) : Prop := w.heap[z]? = some (.cells #[v] 63 (0, 0)) ∧ RowAt w 5 1 q v xs.length (bcells xs)
theorem WrAt.ne {w : World} {z q : Nat} {v : Value} {xs : List UInt8} (h : WrAt w z v xs q) : ∀ cur, w.heap[z]? ≠ some (.cells cur 5 (0, 0)) := fun cur e => by rw [h.1] at e; simp at e

set_option maxRecDepth 100000 in
set_option maxHeartbeats 2000000 in
theorem put_new (w : World) (z : Nat) (nv : Value) (ns : List Nat) (h : w.heap[z]? = some (.cells #[.slice none 0 0] 63 (0, 0))) (hn : Nums w nv ns) (hz : ∃ c cap, nv = .slice (some ⟨c, 0, none⟩) ns.length cap ∧ c ≠ z) (hl2 : ns.length ≤ 10) (hbig : ∀ n ∈ ns, n < 18446744073709551616) :
    Calls Try.prog 26 #[.pointer (some ⟨z, 0, none⟩), nv] w fun e w' => e = .returned (.tuple #[]) ∧ ∃ q v', WrAt w' z v' (putL ns) q ∧ w.heap.size ≤ q ∧ Keep (One z) w w' := by
  obtain ⟨c, capn, rfl, hc⟩ := hn
  obtain ⟨_, _, e, hcz⟩ := hz
  cases e
  have HC := hid hc
  have HB := hid hbig
  have HZ := hid h
  have hzl := row_lt h
  clear hc hbig h
  go_enter Try.func26, Try.ntmps26
  go_wp2_with fail
  go_loopw [11] (fun i wr => ∃ (k q n : Nat) (v : Value), k ≤ ns.length ∧ i = .int .i64 k ∧ n = 8 * k ∧ wr.heap[z]? = some (.cells #[v] 63 (0, 0)) ∧ RowAt wr 5 1 q v n (bcells (putL (ns.take k))) ∧ w.heap.size ≤ q ∧ Keep (One z) w wr) (fun i _ => ns.length - (intOf i).toNat)
  case atStart => exact ⟨0, w.heap.size, 0, .slice none 0 0, Nat.zero_le _, rfl, rfl, HZ.out, RowAt.nil _ _ _ _, Nat.le_refl _, Keep.refl _⟩
  case round =>
    obtain ⟨k, q, n, v, hk, rfl, hn, hzr, hrow, hq, hkp⟩ := hrel
    have HZR := hid hzr
    have HR := hid hrow
    have HK := hid hkp
    have HN := hid hn
    clear hrow hkp hzr
    by_cases hkn : k < ns.length
    · have hcell := HK.out.cell (HC.out k hkn) (fun e => hcz e)
      have hnb := HB.out ns[k] (List.getElem_mem hkn)
      have HT : Hid (putL (ns.take (k + 1)) = putL (ns.take k) ++ le8 ns[k]) := hid (by rw [take_snocL ns k hkn, putL_snoc])
      generalize hx : ns[k] = x at *
      have hx := hid hx
      have hn := hid hn
      obtain ⟨wo, rfl⟩ : ∃ wo : World, wo = wr := ⟨_, rfl⟩
      go_wp2_with fail
      go_loopw [6] (fun s wr2 => ∃ (j s' q2 n2 : Nat) (v2 : Value), j ≤ 8 ∧ s' = 8 * j ∧ s = .int .i64 s' ∧ n2 = 8 * k + j ∧ wr2.heap[z]? = some (.cells #[v2] 63 (0, 0)) ∧ RowAt wr2 5 1 q2 v2 n2 (bcells (putL (ns.take k) ++ (le8 x).take j)) ∧ w.heap.size ≤ q2 ∧ Keep (One z) w wr2) (fun s _ => 64 - (intOf s).toNat)
      case atStart => exact ⟨0, 0, q, n, v, by omega, rfl, rfl, HN.out, HZR.out, by simpa using HR.out, hq, HK.out⟩
      case round =>
        obtain ⟨j, s', q2, n2, v2, hj, hs', rfl, hn2, hzr2, hrow2, hq2, hkp2⟩ := hrel
        obtain ⟨ao2, cap2, rfl⟩ := hrow2.shape
        have HZ2 := hid hzr2
        have HR2 := hid hrow2
        have HK2 := hid hkp2
        have HN2 := hid hn2
        have HS2 := hid hs'
        have hs64 : s' ≤ 64 := by omega
        have z0 : wr.drew.cell? ⟨z, 0, none⟩ = some (.slice ao2 n2 cap2) := row_cell (row_drew hzr2) 0
        have z1 : ∀ o, (wr.alloc o).drew.cell? ⟨z, 0, none⟩ = some (.slice ao2 n2 cap2) := fun o => row_cell (row_drew (row_alloc hzr2 o)) 0
        have hzl2 : z < wr.heap.size := row_lt hzr2
        have hcell2 := HK2.out.cell (HC.out k hkn) (fun e => hcz e)
        by_cases hj8 : j < 8
        · have h2 : n2 ≤ 200000 := by omega
          have hd : decide ((s' : Int) < 64) = true := by simp; omega
          have hw : IntKind.i64.wrap ((s' : Int) + 8) = (s' : Int) + 8 := IntWalk.i64_in _ (by omega)
          have hqz : q2 ≠ z := by omega
          clear hrow2 hkp2 hn2 hs' hzr2 hcell hcell2
          go_wp2_with fail
          go_region_law (refine step_append_row _ rfl _ _ 22 22 rfl 5 (.int .u8 0) 1 1 Try.underlying22 info5 rfl q2 (.slice ao2 n2 cap2) n2 (bcells (putL (ns.take k) ++ (le8 x).take j)) rfl (HR2.out.keep ((Keep.refl (S := Nil) wr).drew.alloc _) (fun e => e)) _ 1 _ rfl (src_byte wr.drew _) (by simp only [maxLen]; omega) (by omega) ?_; intro q3 ao3 cap3 w3 r3 k3 h3; have K3 : Keep (One q2) wr w3 := ((Keep.refl (S := One q2) wr).drew.alloc _).andThen k3 (fun i hi e => e.1); have Z3 := K3.row HZ2.out (fun e => hqz e.symm); have x3 := row_cell Z3 0; have f3 := row_free Z3 0; have R3 := hid r3; have KK3 := hid K3; clear r3 k3 K3 Z3)
          all_goals
            have hz3 := KK3.out.row HZ2.out (fun e => hqz e.symm)
            have hq3 : w.heap.size ≤ q3 := by
              have := HK2.out.size
              rcases h3 with h | ⟨h, -⟩
              · omega
              · exact Nat.le_trans (Nat.le_trans this ((Keep.refl (S := Nil) wr).drew.alloc _).size) h
            have K4 : Keep (One z) w3 (w3.setCell ⟨z, 0, none⟩ (.slice ao3 (n2 + 1) cap3)) := keep_set z 0 _
            have R4 : RowAt w3 5 1 q3 (.slice ao3 (n2 + 1) cap3) (n2 + 1) (bcells (putL (ns.take k) ++ (le8 x).take (j + 1))) := by
              rw [le8_take x j hj8, ← List.append_assoc, bcells, List.map_append, List.map_cons, List.map_nil, ← le8_byte, ← HS2.out]
              exact R3.out
            have HREL := hid (show ∃ (j' s'' q' n' : Nat) (v' : Value), j' ≤ 8 ∧ s'' = 8 * j' ∧ Value.int .i64 ((s' : Int) + 8) = .int .i64 s'' ∧ n' = 8 * k + j' ∧ (w3.setCell ⟨z, 0, none⟩ (.slice ao3 (n2 + 1) cap3)).heap[z]? = some (.cells #[v'] 63 (0, 0)) ∧ RowAt (w3.setCell ⟨z, 0, none⟩ (.slice ao3 (n2 + 1) cap3)) 5 1 q' v' n' (bcells (putL (ns.take k) ++ (le8 x).take j')) ∧ w.heap.size ≤ q' ∧ Keep (One z) w (w3.setCell ⟨z, 0, none⟩ (.slice ao3 (n2 + 1) cap3)) from
              ⟨j + 1, s' + 8, q3, n2 + 1, _, by omega, by have := HS2.out; omega, by go_num, by have := HN2.out; omega, row_set hz3 0 _, R4.keep K4 (fun e => by have e' : q3 = z := e; omega), hq3, (HK2.out.andThen KK3.out (fun i hi e => by have e' : i = q2 := e; omega)).trans K4⟩)
            clear hz3 hq3 K4 R4 R3 KK3 h3 x3 f3
            generalize w3.setCell ⟨z, 0, none⟩ (.slice ao3 (n2 + 1) cap3) = w4 at *
            go_wp2_with fail
            go_roundw
            case rel => exact HREL.out
            case measure => have := HS2.out; simp [intOf]; omega
        · obtain rfl : j = 8 := by omega
          have R3 : RowAt wr 5 1 q2 (.slice ao2 n2 cap2) n2 (bcells (putL (ns.take (k + 1)))) := by
            rw [HT.out, ← List.take_of_length_le (l := le8 x) (i := 8) (by rw [le8_length]; exact Nat.le_refl _)]
            exact HR2.out
          have R3 := hid R3
          obtain rfl : s' = 64 := by have := HS2.out; omega
          clear hrow2 hkp2 hn2 hs' hzr2 hcell hcell2
          go_wp2_with fail
          go_roundw
          case rel => exact ⟨k + 1, q2, n2, _, by omega, by go_num, by have := HN2.out; omega, HZ2.out, R3.out, hq2, HK2.out⟩
          case measure => simp [intOf] <;> omega
    · obtain rfl : k = ns.length := by omega
      have hl := HR.out
      rw [List.take_length] at hl
      go_wp2_with fail
      first | go_end0 | refine bodyPost_ret (results_none rfl _ _ _) rfl ?_
      refine ⟨rfl, q, v, ⟨HZR.out, ?_⟩, hq, HK.out⟩
      rw [putL_length, ← HN.out]
      exact hl
theorem bytes_wr (w : World) (z q : Nat) (v : Value) (xs : List UInt8) (h : WrAt w z v xs q) (hl : xs.length ≤ 1000) :
    Calls Try.prog 27 #[.pointer (some ⟨z, 0, none⟩)] w (Cloned w xs) := by
  have x0 := row_cell h.1 0
  have HB : Hid (Bts 0 w v xs) := hid (Bts.of_row h.2)
  obtain ⟨ao, cap, rfl⟩ := h.2.shape
  clear h
  go_enter Try.func27, Try.ntmps27
  go_wp2_with fail
  refine (clone_some w 0 _ xs HB.out (by omega)).mono ?_
  rintro e w1 ⟨q1, ao1, cap1, rfl, h1, h2, h3⟩
  go_wp2
  go_ret
  exact ⟨q1, ao1, cap1, rfl, h1, h2, h3⟩
end Go.Proofs.Ytdecljdhdclmoaa
