/-
  Disk.Read.
-/
import Derived.Test.YtdecljdhdclmoaaDisk
import Derived.Deep.WholeRow
namespace Go.Proofs.Ytdecljdhdclmoaa
open Go.RowKit

def Z64 : List UInt8 := List.replicate 64 0
theorem z64_length : Z64.length = 64 := rfl
theorem zero59 (w : World) : (zeroValue 59).run Try.prog w = .ok (.agg (secC Z64)) w := Try.zeroValue59 w
theorem size59 : (Try.prog.info? 59).map (·.size) = some 64 := by kernel_rfl
theorem secC_size (xs : List UInt8) : (secC xs).size = xs.length := by simp [secC, bcells]
theorem secC_one (xs : List UInt8) : (secC xs).all (·.oneCell') = true := all_oneCell_toArray (bcells_one xs)
def viewD (d : DS) (i : Nat) : List UInt8 := (d.cache i).getD (d.plate i)
variable {w w' : World} {b p c : Nat} {d : DS}
theorem DiskAt.view_len (h : DiskAt w b p c d) (i : Nat) (hi : i < 12) : (viewD d i).length = 64 := by
  unfold viewD
  cases hc : d.cache i with
  | none => exact h.len i hi
  | some xs => exact (h.clen i xs hc).2
theorem wf_small (i : Nat) (hi : i < 1000) : (Lit.int .i64 (i : Int)).wf = true := by
  simp [Lit.wf, IntKind.min, IntKind.max, IntKind.bits, IntKind.signed]; omega
theorem DiskAt.look (h : DiskAt w b p c d) (i : Nat) (hi : i < 12) : (Instr.lookup 45 (.map (some c)) (.int .i64 i) true).run Try.prog w = .ok (.tuple #[.agg (secC ((d.cache i).getD Z64)), .bool (d.cache i).isSome]) w := by
  rw [run_look h.cache Try.underlying3 Try.underlying45 (zero59 w) i (wf_small i (by omega)) true]
  simp only [cacheF, Int.natCast_nonneg, if_true, Int.toNat_natCast]
  cases d.cache i <;> rfl
theorem DiskAt.range (h : DiskAt w b p c d) (i : Nat) (hi : i < 12) : w.rangeAt p (64 * i) (bcells (d.plate i)) := by
  obtain ⟨cur, h1, h2, h3⟩ := h.plate
  intro j v hj
  have hl := h.len i hi
  have : j < 64 := by have := (List.getElem?_eq_some_iff.1 hj).1; rw [bcells_length] at this; omega
  rw [row_cell h1, h3 i hi j this, hj]
theorem run_store_new (w : World) (xs ys : List UInt8) (hx : (secC xs).size = 64) (hy : (secC ys).size = 64) :
    (storeCells ⟨w.heap.size, 0, none⟩ (secC ys).toList 0).run Try.prog (w.alloc (.cells (secC xs) 59)) = .ok () (w.alloc (.cells (secC ys) 59)) :=
  run_storeCells_new w 59 (secC xs) (secC ys) (by rw [size59, hy]) (by rw [hx, hy]) (secC_one ys)
theorem clone64 (w : World) (xs : List UInt8) (hl : xs.length = 64) : Calls Try.prog 34 #[.slice (some ⟨w.heap.size, 0, none⟩) 64 64] (w.alloc (.cells (secC xs) 59)) fun e w' =>
    ∃ q ao cap, e = .returned (.slice ao 64 cap) ∧ RowAt w' 5 1 q (.slice ao 64 cap) 64 (bcells xs) ∧ w.heap.size ≤ q ∧ Keep Nil w w' := by
  have hB : Bts (w.heap.size + 1) (w.alloc (.cells (secC xs) 59)) (.slice (some ⟨w.heap.size, 0, none⟩) 64 64) xs :=
    ⟨_, 64, by rw [hl], fun _ => ⟨_, 0, rfl, .inl (Nat.lt_succ_self _), fun j hj => by rw [row_cell (heap_new _ _), Nat.zero_add, ← bcells_get xs j hj, secC, List.getElem?_toArray]⟩⟩
  refine (clone_some _ _ _ xs hB (by omega)).mono ?_
  rintro e w' ⟨q, ao, cap, rfl, h1, h2, h3⟩
  rw [hl] at h1 ⊢
  exact ⟨q, ao, cap, rfl, h1, by simp at h2; omega, ((Keep.refl w).alloc _).trans h3⟩

set_option maxRecDepth 100000 in
set_option maxHeartbeats 1000000 in
theorem read_some (h : DiskAt w b p c d) (i : Nat) (hi : i < 12) (ho : d.off = false) :
    Calls Try.prog 22 #[.pointer (some ⟨b, 0, none⟩), .int .i64 i] w fun e w' => ∃ q v', e = .returned (.tuple #[v', .int .i64 0]) ∧ RowAt w' 5 1 q v' 64 (bcells (viewD d i)) ∧ w.heap.size ≤ q ∧ Keep Nil w w' := by
  have H := hid h
  obtain ⟨x0, x1, x2, x3, x4, x5⟩ := h.cells
  have hk := h.look i hi
  have hz := zero59
  have hst := run_store_new
  have hld : Hid (∀ o, (w.alloc o).rangeAt p (64 * i) (bcells (d.plate i))) := hid (fun o => (h.nil ((Keep.refl _).alloc o)).range i hi)
  have s4 : Hid ((Try.prog.info? 59).map (·.size) = some (bcells (d.plate i)).length) := hid (by rw [size59, bcells_length, h.len i hi])
  have hb := h.lt b (.inl rfl)
  have s1 : (secC Z64).size = 64 := by rw [secC_size, z64_length]
  have s2 : (secC (d.plate i)).size = 64 := by rw [secC_size, h.len i hi]
  have hvl := h.view_len i hi
  rw [ho] at x2
  cases hc : d.cache i with
  | none =>
    rw [hc] at hk
    simp only [Option.getD_none, Option.isSome_none] at hk
    have hv : viewD d i = d.plate i := by simp [viewD, hc]
    rw [hv] at hvl ⊢
    clear h
    go_enter Try.func22, Try.ntmps22
    go_wp2_with fail
    refine (ok_some H.out).mono ?_
    rintro e w1 ⟨rfl, rfl⟩
    go_wp2_with fail
    refine (has_in H.out i hi).mono ?_
    rintro e w1 ⟨rfl, rfl⟩
    go_wp2_with (refine wpList_load_mid rfl 59 (.tmp 38) rfl p (64 * i) (by show Value.pointer (some ⟨p, i * 64, none⟩) = _; rw [Nat.mul_comm]) (bcells (d.plate i)) _ (hld.out _) Try.underlying59 rfl s4.out ?_; rw [show (bcells (d.plate i)).toArray = secC (d.plate i) from rfl])
    refine (clone64 w1 _ hvl).mono ?_
    rintro e w2 ⟨q, ao, cap, rfl, h1, h2, h3⟩
    go_wp2
    go_ret2
    exact ⟨q, _, rfl, h1, h2, h3⟩
  | some xs =>
    rw [hc] at hk
    simp only [Option.getD_some, Option.isSome_some] at hk
    have hv : viewD d i = xs := by simp [viewD, hc]
    rw [hv] at hvl ⊢
    have s3 : (secC xs).size = 64 := by rw [secC_size, hvl]
    clear h
    go_enter Try.func22, Try.ntmps22
    go_wp2_with fail
    refine (ok_some H.out).mono ?_
    rintro e w1 ⟨rfl, rfl⟩
    go_wp2_with fail
    refine (has_in H.out i hi).mono ?_
    rintro e w1 ⟨rfl, rfl⟩
    go_wp2_with fail
    refine (clone64 w1 _ hvl).mono ?_
    rintro e w2 ⟨q, ao, cap, rfl, h1, h2, h3⟩
    go_wp2
    go_ret2
    exact ⟨q, _, rfl, h1, h2, h3⟩
end Go.Proofs.Ytdecljdhdclmoaa
