/-
  The reference's Put, Part, Right, Pack.
-/
import Derived.Test.YtjlgolkippleaaaSumW
namespace Go.Proofs.Ytjlgolkippleaaa
open Go.RowKit

theorem le8_take (n k : Nat) (h : k < 8) : (le8 n).take (k + 1) = (le8 n).take k ++ [UInt8.ofNat (n / 256 ^ k)] := by
  rw [take_snocL _ _ (by rw [le8_length]; exact h)]
  congr 2
  simp [le8]
theorem le8_byte (x j : Nat) : (Value.int .u8 ((x : Int) / 2 ^ (8 * j) % 256)) = .int .u8 ((UInt8.ofNat (x / 256 ^ j)).toNat : Int) := by
  congr 1
  rw [UInt8.toNat_ofNat', show (256 : Nat) = 2 ^ 8 from rfl, ← Nat.pow_mul]
  simp
def putL (ns : List Nat) : List UInt8 := ns.flatMap le8
theorem putL_snoc (ns : List Nat) (n : Nat) : putL (ns ++ [n]) = putL ns ++ le8 n := by simp [putL]
theorem putL_length : ∀ (ns : List Nat), (putL ns).length = 8 * ns.length
  | [] => rfl
  | n :: ns => by
    have := putL_length ns
    simp only [putL, List.flatMap_cons, List.length_append, le8_length, List.length_cons] at *
    omega

/-- numbers that lie in a row -/
def Nums (w : World) (v : Value) (ns : List Nat) : Prop := ∃ c cap, v = .slice (some ⟨c, 0, none⟩) ns.length cap ∧ ∀ j (h : j < ns.length), w.cell? ⟨c, j, none⟩ = some (.int .u64 (ns[j] : Nat))
theorem src_byte (w : World) (a : Int) : Src Try.prog 1 27 (.slice (some ⟨w.heap.size, 0, none⟩) 1 1) 1 [.int .u8 a] (w.alloc (.cells #[.int .u8 a] 5)) := by
  refine Src.ofSlice _ Try.underlying27 _ _ _ _ rfl (fun j u hu => ?_) (by simp [Value.oneCell'])
  rw [Addr.add_lit, row_cell (heap_new _ _), Nat.zero_add, ← hu]
  simp

set_option maxRecDepth 100000 in
set_option maxHeartbeats 2000000 in
theorem put_any (w : World) (B : Nat) (v nv : Value) (xs : List UInt8) (ns : List Nat) (h : Bts B w v xs) (hn : Nums w nv ns) (hl : xs.length ≤ 100000) (hl2 : ns.length ≤ 10) (hbig : ∀ n ∈ ns, n < 18446744073709551616) :
    Calls Try.prog 51 #[v, nv] w fun e w' => ∃ q v', e = .returned v' ∧ RowAt w' 5 1 q v' (xs ++ putL ns).length (bcells (xs ++ putL ns)) ∧ w.heap.size ≤ q ∧ Keep Nil w w' := by
  obtain ⟨ao, cap, rfl, -⟩ := id h
  obtain ⟨c, capn, rfl, hc⟩ := hn
  have HV := hid h
  have HC := hid hc
  have HB := hid hbig
  clear h hc hbig
  go_enter Try.func51, Try.ntmps51
  go_wp2_with (at_builtin; refine wpList_append_row _ rfl _ _ 27 27 rfl 5 (.int .u8 0) 1 1 Try.underlying27 info5 rfl w.heap.size (.slice none 0 0) 0 [] rfl (RowAt.nil _ _ _ _) _ xs.length (bcells xs) rfl HV.out.src (by simp only [maxLen]; omega) (by omega) ?_)
  intro q1 ao1 cap1 w1 r1 k1 h1
  have hq1 : w.heap.size ≤ q1 := by rcases h1 with h | ⟨h, -⟩ <;> omega
  have K1 : Keep Nil w w1 := k1.mono (fun k hk e => by have := e.1; omega)
  have R1 := hid r1
  have KK1 := hid K1
  clear r1 k1 h1 K1
  go_wp2_with fail
  go_loopw [5, 6] (fun out i wr => ∃ (k q cap' n : Nat) (ao' : Option Addr), k ≤ ns.length ∧ i = .int .i64 k ∧ n = xs.length + 8 * k ∧ out = .slice ao' n cap' ∧ RowAt wr 5 1 q (.slice ao' n cap') n (bcells (xs ++ putL (ns.take k))) ∧ w.heap.size ≤ q ∧ Keep Nil w wr) (fun _ i _ => ns.length - (intOf i).toNat)
  case atStart => exact ⟨0, q1, cap1, xs.length, ao1, Nat.zero_le _, rfl, rfl, by simp, by simpa [putL] using R1.out, hq1, KK1.out⟩
  case round =>
    obtain ⟨k, q, cap', n, ao', hk, rfl, hn, rfl, hrow, hq, hkp⟩ := hrel
    have HR := hid hrow
    have HK := hid hkp
    have HN := hid hn
    clear hrow hkp
    by_cases hkn : k < ns.length
    · have hcell := HC.out k hkn
      have hnb := HB.out ns[k] (List.getElem_mem hkn)
      have HT : Hid (putL (ns.take (k + 1)) = putL (ns.take k) ++ le8 ns[k]) := hid (by rw [take_snocL ns k hkn, putL_snoc])
      generalize hx : ns[k] = x at *
      have hx := hid hx
      have hn := hid hn
      go_wp2_with fail
      go_loopw [5, 7] (fun out j wr2 => ∃ (j' q2 cap2 n2 : Nat) (ao2 : Option Addr), j' ≤ 8 ∧ j = .int .i64 j' ∧ n2 = xs.length + 8 * k + j' ∧ out = .slice ao2 n2 cap2 ∧ RowAt wr2 5 1 q2 (.slice ao2 n2 cap2) n2 (bcells (xs ++ putL (ns.take k) ++ (le8 x).take j')) ∧ w.heap.size ≤ q2 ∧ Keep Nil w wr2) (fun _ j _ => 8 - (intOf j).toNat)
      case atStart => exact ⟨0, q, cap', n, ao', by omega, rfl, HN.out, rfl, by simpa using HR.out, hq, HK.out⟩
      case round =>
        obtain ⟨j, q2, cap2, n2, ao2, hj, rfl, hn2, rfl, hrow2, hq2, hkp2⟩ := hrel
        have HR2 := hid hrow2
        have HK2 := hid hkp2
        have HN2 := hid hn2
        clear hrow2 hkp2 hn2
        have hcell2 := HK2.out.cell hcell (fun e => e)
        by_cases hj8 : j < 8
        · have h2 : n2 ≤ 200000 := by have := HN2.out; omega
          have hd : decide ((j : Int) < 8) = true := by simp; omega
          go_wp2_with (at_builtin; refine wpList_append_row _ rfl _ _ 27 27 rfl 5 (.int .u8 0) 1 1 Try.underlying27 info5 rfl q2 (.slice ao2 n2 cap2) n2 (bcells (xs ++ putL (ns.take k) ++ (le8 x).take j)) rfl (HR2.out.alloc _) _ 1 _ rfl (src_byte wr _) (by simp only [maxLen]; omega) (by omega) ?_)
          intro q3 ao3 cap3 w3 r3 k3 h3
          have K3 : Keep Nil w w3 := (HK2.out.alloc _).andThen k3 (fun i hi e => by have := e.1; omega)
          have R3 : RowAt w3 5 1 q3 (.slice ao3 (n2 + 1) cap3) (n2 + 1) (bcells (xs ++ putL (ns.take k) ++ (le8 x).take (j + 1))) := by
            rw [le8_take x j hj8, ← List.append_assoc, bcells, List.map_append, List.map_cons, List.map_nil, ← le8_byte]
            have h := r3
            rw [← List.append_assoc] at h
            exact h
          have Q3 : w.heap.size ≤ q3 := by
            rcases h3 with h | ⟨h, -⟩
            · omega
            · have := HK2.out.size
              omega
          have K3 := hid K3
          have R3 := hid R3
          clear k3 r3 h3 hcell2
          go_wp2_with fail
          go_roundw
          case rel => exact ⟨j + 1, q3, cap3, n2 + 1, ao3, by omega, by go_num, by have := HN2.out; omega, rfl, R3.out, Q3, K3.out⟩
          case measure => simp [intOf] <;> omega
        · obtain rfl : j = 8 := by omega
          have R3 : RowAt wr 5 1 q2 (.slice ao2 n2 cap2) n2 (bcells (xs ++ putL (ns.take (k + 1)))) := by
            rw [HT.out, ← List.append_assoc, ← List.take_of_length_le (l := le8 x) (i := 8) (by rw [le8_length]; exact Nat.le_refl _)]
            exact HR2.out
          have R3 := hid R3
          go_wp2_with fail
          go_roundw
          case rel => exact ⟨k + 1, q2, cap2, n2, ao2, by omega, by go_num, by have := HN2.out; omega, rfl, R3.out, hq2, HK2.out⟩
          case measure => simp [intOf] <;> omega
    · obtain rfl : k = ns.length := by omega
      have R3 : RowAt wr 5 1 q (.slice ao' n cap') (xs ++ putL ns).length (bcells (xs ++ putL ns)) := by
        rw [List.length_append, putL_length, ← HN.out]
        have h := HR.out
        rw [List.take_length] at h
        exact h
      have R3 := hid R3
      go_wp2
      go_ret
      exact ⟨q, _, rfl, R3.out, hq, HK.out⟩
def partL (xs l : List UInt8) : List UInt8 := xs ++ putL [l.length] ++ l
def PartRel (w : World) (v0 : Value) (xs l : List UInt8) (b i : Value) (wr : World) : Prop :=
  (i = .int .i64 0 ∧ b = v0 ∧ wr = w) ∨ (i = .int .i64 1 ∧ ∃ q, RowAt wr 5 1 q b (partL xs l).length (bcells (partL xs l)) ∧ w.heap.size ≤ q ∧ Keep Nil w wr)
theorem cell_drew_alloc {w : World} {a : Addr} {v : Value} (o : Obj) (h : w.drew.cell? a = some v) : (w.alloc o).drew.cell? a = some v := cell_alloc (w := w) o h
theorem nums_one (w : World) (n : Nat) : Nums (w.alloc (.cells #[.int .u64 (n : Nat)] 106)) (.slice (some ⟨w.heap.size, 0, none⟩) 1 1) [n] := by
  refine ⟨_, _, rfl, fun j hj => ?_⟩
  rw [row_cell (heap_new _ _)]
  obtain rfl : j = 0 := by simp at hj; omega
  rfl
set_option maxRecDepth 100000 in
set_option maxHeartbeats 2000000 in
theorem part_one (w : World) (B c capl : Nat) (v lv : Value) (xs l : List UInt8) (h : Bts B w v xs) (hl : Bts B w lv l) (hc : w.cell? ⟨c, 0, none⟩ = some lv) (hx : xs.length ≤ 50000) (hll : l.length ≤ 10000) :
    Calls Try.prog 53 #[v, .slice (some ⟨c, 0, none⟩) 1 capl] w fun e w' => ∃ q v', e = .returned v' ∧ RowAt w' 5 1 q v' (partL xs l).length (bcells (partL xs l)) ∧ w.heap.size ≤ q ∧ Keep Nil w w' := by
  obtain ⟨ao, cap, rfl, -⟩ := id h
  obtain ⟨aol, capl', rfl, -⟩ := id hl
  have HV := hid h
  have HL := hid hl
  have HC := hid hc
  clear h hl hc
  go_enter Try.func53, Try.ntmps53
  go_wp2_with fail
  go_loopw [0, 5] (fun b i wr => PartRel w (.slice ao xs.length cap) xs l b i wr) (fun _ i _ => 1 - (intOf i).toNat)
  case atStart => exact .inl ⟨rfl, rfl, rfl⟩
  case round =>
    rcases hrel with ⟨rfl, rfl, rfl⟩ | ⟨rfl, q, hrow, hq, hkp⟩
    · have x1 : wr.drew.cell? ⟨c, 0, none⟩ = some (.slice aol l.length capl') := HC.out
      have hP := put_any (wr.alloc (.cells #[.int .u64 (l.length : Nat)] 106)).drew B (.slice ao xs.length cap) (.slice (some ⟨wr.heap.size, 0, none⟩) 1 1) xs [l.length] (HV.out.alloc _).drew (nums_one wr l.length) (by omega) (by simp) (by intro n hn; simp at hn; omega)
      have hwl : IntKind.u64.wrap (l.length : Int) = l.length := by simp [IntKind.wrap, IntKind.bits]; omega
      have hpl : Hid (partL xs l = xs ++ putL [l.length] ++ l) := hid rfl
      have hml : (xs ++ putL [l.length]).length ≤ 60000 := by rw [List.length_append, putL_length]; simp; omega
      have hK0 : Keep Nil wr (wr.alloc (.cells #[.int .u64 (l.length : Nat)] 106)).drew := ((Keep.refl wr).alloc _).drew
      have HP := hid hP
      have HK0 := hid hK0
      clear hP hK0
      generalize xs ++ putL [l.length] = zs at *
      go_wp2_with fail
      go_region_held3 (fun w' => w'.cell? ⟨c, 0, none⟩ = some (.slice aol l.length capl'))
        (first | (with_reducible exact x1) | (with_reducible exact cell_drew_alloc _ x1) | (with_reducible exact e1) | (with_reducible exact f1))
        ((first
          | (go_at_call 51; refine HP.out.mono ?_; rintro e w1 ⟨q1, v1, rfl, r1, hq1, k1⟩; have K1 := hid (HK0.out.trans k1); have e1 := K1.out.cell HC.out (fun e => e); obtain ⟨ao1, cap1, rfl⟩ := r1.shape; have R1 := hid r1; clear k1 r1)
          | ((refine step_append_row _ rfl _ _ 27 27 rfl 5 (.int .u8 0) 1 1 Try.underlying27 info5 rfl q1 (.slice ao1 zs.length cap1) zs.length (bcells zs) rfl R1.out _ l.length (bcells l) rfl (HL.out.keep K1.out Mut.nil).src (by simp only [maxLen]; omega) (by omega) ?_); intro q2 ao2 cap2 w2 r2 k2 h2; have K2 := hid (K1.out.andThen k2 (fun i hi e => by have e1 := e.1; have : (wr.alloc (.cells #[.int .u64 (l.length : Int)] 106)).drew.heap.size = wr.heap.size + 1 := size_alloc wr _; omega)); have f1 := K2.out.cell HC.out (fun e => e); have R2 := hid r2; have Q2 : Hid (wr.heap.size ≤ q2) := hid (by have : (wr.alloc (.cells #[.int .u64 (l.length : Int)] 106)).drew.heap.size = wr.heap.size + 1 := size_alloc wr _; have := K1.out.size; rcases h2 with h | ⟨h, -⟩ <;> omega); clear r2 k2 h2)))
      go_wp2_with fail
      go_roundw
      case rel => exact .inr ⟨by go_num, q2, by rw [hpl.out, List.length_append, bcells, List.map_append]; exact R2.out, Q2.out, K2.out⟩
      case measure => simp [intOf] <;> omega
    · obtain ⟨aoq, capq, rfl⟩ := hrow.shape
      have HR := hid hrow
      have HK := hid hkp
      clear hrow hkp
      go_wp2
      go_ret
      exact ⟨q, _, rfl, HR.out, hq, HK.out⟩
end Go.Proofs.Ytjlgolkippleaaa
