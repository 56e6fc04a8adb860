/-
  The disk: its plain state, how it lies in memory, and the functions that touch its head alone.
-/
import Derived.Test.YtdecljdhdclmoaaClone
import Derived.Test.YtdecljdhdclmoaaMap
import Derived.Deep.MidRow
import Derived.Laws.CopyOwn
namespace Go.Proofs.Ytdecljdhdclmoaa
open Go.RowKit

theorem cell_alloc {w : World} {a : Addr} {v : Value} (o : Obj) (h : w.cell? a = some v) : (w.alloc o).cell? a = some v := ((Keep.refl (S := Nil) w).alloc o).cell h (fun e => e)
/-- a disk's plain state -/
structure DS where
  plate : Nat → List UInt8
  cache : Nat → Option (List UInt8)
  off : Bool
  armed : Bool
  fuse : Nat
def secC (xs : List UInt8) : Array Value := (bcells xs).toArray
/-- the cache as the map has it -/
def cacheF (f : Nat → Option (List UInt8)) : Int → Option Value := fun i => if 0 ≤ i then (f i.toNat).map (fun xs => .agg (secC xs)) else none
theorem cacheF_some {f : Nat → Option (List UInt8)} {i : Int} {v : Value} (h : cacheF f i = some v) : ∃ (n : Nat) (xs : List UInt8), i = n ∧ f n = some xs ∧ v = .agg (secC xs) := by
  unfold cacheF at h
  split at h
  · rename_i h0
    cases hf : f i.toNat with
    | none => rw [hf] at h; cases h
    | some xs => rw [hf] at h; cases h; exact ⟨i.toNat, xs, by omega, hf, rfl⟩
  · cases h
/-- the plate's cells -/
def PlateAt (w : World) (p : Nat) (f : Nat → List UInt8) : Prop :=
  ∃ cur : Array Value, w.heap[p]? = some (.cells cur 59 (0, 0)) ∧ cur.size = 768 ∧ ∀ i, i < 12 → ∀ j, j < 64 → cur[64 * i + j]? = (bcells (f i))[j]?
def headC (p c : Nat) (off armed : Bool) (fuse : Nat) : Array Value := #[.slice (some ⟨p, 0, none⟩) 12 12, .map (some c), .bool off, .bool armed, .int .i64 (fuse : Nat)]
structure DiskAt (w : World) (b p c : Nat) (d : DS) : Prop where
  head : w.heap[b]? = some (.cells (headC p c d.off d.armed d.fuse) 47 (0, 0))
  plate : PlateAt w p d.plate
  cache : MapAt w c (cacheF d.cache)
  len : ∀ i, i < 12 → (d.plate i).length = 64
  clen : ∀ i xs, d.cache i = some xs → i < 12 ∧ xs.length = 64
  fuse : d.fuse ≤ 1000
/-- the disk's blocks -/
def Dk (b p c : Nat) : Nat → Prop := fun k => k = b ∨ k = p ∨ k = c
variable {w w' : World} {b p c : Nat} {d : DS}
theorem DiskAt.keep {S : Nat → Prop} (h : DiskAt w b p c d) (k : Keep S w w') (hs : ∀ i, Dk b p c i → ¬ S i) : DiskAt w' b p c d := by
  obtain ⟨h1, ⟨cur, h2, h2'⟩, h3, h4, h5, h6⟩ := h
  exact ⟨k.row h1 (hs b (.inl rfl)), ⟨cur, k.row h2 (hs p (.inr (.inl rfl))), h2'⟩, h3.keep k (hs c (.inr (.inr rfl))), h4, h5, h6⟩
theorem DiskAt.nil (h : DiskAt w b p c d) (k : Keep Nil w w') : DiskAt w' b p c d := h.keep k (fun _ _ e => e)
theorem DiskAt.bp (h : DiskAt w b p c d) : b ≠ p := by
  rintro rfl
  obtain ⟨cur, h2, -⟩ := h.plate
  have := h.head.symm.trans h2
  simp at this
theorem DiskAt.bc (h : DiskAt w b p c d) : b ≠ c := by
  rintro rfl
  obtain ⟨es, cl, h2, -⟩ := h.cache
  have := h.head.symm.trans h2
  simp at this
theorem DiskAt.pc (h : DiskAt w b p c d) : p ≠ c := by
  rintro rfl
  obtain ⟨es, cl, h2, -⟩ := h.cache
  obtain ⟨cur, h3, -⟩ := h.plate
  have := h3.symm.trans h2
  simp at this
theorem DiskAt.lt (h : DiskAt w b p c d) : ∀ i, Dk b p c i → i < w.heap.size := by
  obtain ⟨cur, h3, -⟩ := h.plate
  obtain ⟨es, cl, h2, -⟩ := h.cache
  rintro i (rfl | rfl | rfl)
  · exact row_lt h.head
  · exact row_lt h3
  · exact row_lt h2
theorem DiskAt.cells (h : DiskAt w b p c d) : w.cell? ⟨b, 0, none⟩ = some (.slice (some ⟨p, 0, none⟩) 12 12) ∧ w.cell? ⟨b, 1, none⟩ = some (.map (some c)) ∧ w.cell? ⟨b, 2, none⟩ = some (.bool d.off) ∧
    w.cell? ⟨b, 3, none⟩ = some (.bool d.armed) ∧ w.cell? ⟨b, 4, none⟩ = some (.int .i64 (d.fuse : Nat)) ∧ (∀ i, w.frozen? ⟨b, i, none⟩ = false) := by
  have k := row_cell h.head
  exact ⟨k 0, k 1, k 2, k 3, k 4, row_free h.head⟩
/-- the head alone is written -/
theorem DiskAt.put (h : DiskAt w b p c d) {off armed : Bool} {fuse : Nat} (hh : w'.heap[b]? = some (.cells (headC p c off armed fuse) 47 (0, 0))) (k : Keep (One b) w w') (hf : fuse ≤ 1000) : DiskAt w' b p c ⟨d.plate, d.cache, off, armed, fuse⟩ := by
  have e1 := h.bp
  have e2 := h.bc
  obtain ⟨h1, ⟨cur, h2, h2'⟩, h3, h4, h5, h6⟩ := h
  exact ⟨hh, ⟨cur, k.row h2 (fun e => e1 e.symm), h2'⟩, h3.keep k (fun e => e2 e.symm), h4, h5, hf⟩

theorem ok_some (h : DiskAt w b p c d) : Calls Try.prog 23 #[.pointer (some ⟨b, 0, none⟩)] w fun e w' => e = .returned (.bool true) ∧ w' = w := by
  obtain ⟨x0, x1, x2, x3, x4, x5⟩ := h.cells
  have q := fun (w : World) (a : Option Nat) => run_neq_map_nil (P := Try.prog) w 45 _ _ a Try.underlying45
  clear h
  go_enter Try.func23, Try.ntmps23
  go_wp2
  go_ret
  exact ⟨rfl, rfl⟩
theorem has_in (h : DiskAt w b p c d) (i : Nat) (hi : i < 12) : Calls Try.prog 33 #[.pointer (some ⟨b, 0, none⟩), .int .i64 i] w fun e w' => e = .returned (.bool true) ∧ w' = w := by
  obtain ⟨x0, x1, x2, x3, x4, x5⟩ := h.cells
  clear h
  have hd : decide ((i : Int) < 12) = true := by simp; omega
  go_enter Try.func33, Try.ntmps33
  go_wp2
  go_ret
  exact ⟨rfl, rfl⟩
theorem sectors_some (h : DiskAt w b p c d) : Calls Try.prog 15 #[.pointer (some ⟨b, 0, none⟩)] w fun e w' => e = .returned (.int .i64 12) ∧ w' = w := by
  have H := hid h
  obtain ⟨x0, x1, x2, x3, x4, x5⟩ := h.cells
  clear h
  go_enter Try.func15, Try.ntmps15
  go_wp2_with fail
  refine (ok_some H.out).mono ?_
  rintro e w1 ⟨rfl, rfl⟩
  go_wp2
  go_ret
  exact ⟨rfl, rfl⟩
theorem may_some (h : DiskAt w b p c d) : Calls Try.prog 13 #[.pointer (some ⟨b, 0, none⟩)] w fun e w' => e = .returned (.bool true) ∧ w' = w := by
  have H := hid h
  clear h
  go_enter Try.func13, Try.ntmps13
  go_wp2_with fail
  refine (sectors_some H.out).mono ?_
  rintro e w1 ⟨rfl, rfl⟩
  go_wp2
  go_ret
  exact ⟨rfl, rfl⟩
/-- one step -/
def stepD (d : DS) : Bool × DS :=
  if d.off then (false, d) else if d.armed then (if d.fuse = 0 then (false, ⟨d.plate, d.cache, true, true, 0⟩) else (true, ⟨d.plate, d.cache, false, true, d.fuse - 1⟩)) else (true, d)
theorem keep_set (b i : Nat) (v : Value) : Keep (One b) w (w.setCell ⟨b, i, none⟩ v) := (Keep.refl w).setCell (S := One b) (p := ⟨b, i, none⟩) (fun _ => rfl) v
theorem step_some (h : DiskAt w b p c d) : Calls Try.prog 35 #[.pointer (some ⟨b, 0, none⟩)] w fun e w' => e = .returned (.bool (stepD d).1) ∧ DiskAt w' b p c (stepD d).2 ∧ Keep (One b) w w' := by
  have H := hid h
  obtain ⟨x0, x1, x2, x3, x4, x5⟩ := h.cells
  obtain ⟨plate, cache, off, armed, fuse⟩ := d
  have hf : fuse ≤ 1000 := h.fuse
  clear h
  simp only at *
  cases off
  · cases armed
    · have hs : stepD ⟨plate, cache, false, false, fuse⟩ = (true, ⟨plate, cache, false, false, fuse⟩) := rfl
      rw [hs]
      clear hs
      go_enter Try.func35, Try.ntmps35
      go_wp2
      go_ret
      exact ⟨rfl, H.out, Keep.refl _⟩
    · by_cases h0 : fuse = 0
      · subst h0
        have hs : stepD ⟨plate, cache, false, true, 0⟩ = (false, ⟨plate, cache, true, true, 0⟩) := rfl
        rw [hs]
        clear hs
        go_enter Try.func35, Try.ntmps35
        go_wp2
        go_ret
        exact ⟨rfl, H.out.put (off := true) (armed := true) (fuse := 0) (row_set H.out.head 2 _) (keep_set _ _ _) (by omega), keep_set _ _ _⟩
      · have hd : ((fuse : Int) == 0) = false := by simp; omega
        have hw : IntKind.i64.wrap ((fuse : Int) - 1) = (fuse : Int) - 1 := IntWalk.i64_in _ (by omega)
        have hs : stepD ⟨plate, cache, false, true, fuse⟩ = (true, ⟨plate, cache, false, true, fuse - 1⟩) := by simp [stepD, h0]
        rw [hs]
        clear hs
        have h0' := hid h0
        clear h0
        go_enter Try.func35, Try.ntmps35
        go_wp2
        go_ret
        refine ⟨rfl, H.out.put (off := false) (armed := true) (fuse := fuse - 1) ?_ (keep_set _ _ _) (by omega), keep_set _ _ _⟩
        have hh := row_set H.out.head 4 (.int .i64 ((fuse : Int) - 1))
        rw [show ((fuse : Int) - 1) = ((fuse - 1 : Nat) : Int) by have := h0'.out; omega] at hh ⊢
        exact hh
  · have hs : stepD ⟨plate, cache, true, armed, fuse⟩ = (false, ⟨plate, cache, true, armed, fuse⟩) := rfl
    rw [hs]
    clear hs
    go_enter Try.func35, Try.ntmps35
    go_wp2
    go_ret
    exact ⟨rfl, H.out, Keep.refl _⟩
theorem cut_some (h : DiskAt w b p c d) : Calls Try.prog 11 #[.pointer (some ⟨b, 0, none⟩)] w fun e w' => e = .returned (.tuple #[]) ∧ DiskAt w' b p c ⟨d.plate, d.cache, true, d.armed, d.fuse⟩ ∧ Keep (One b) w w' := by
  have H := hid h
  obtain ⟨x0, x1, x2, x3, x4, x5⟩ := h.cells
  have hf : d.fuse ≤ 1000 := h.fuse
  clear h
  go_enter Try.func11, Try.ntmps11
  go_wp2_with fail
  refine (ok_some H.out).mono ?_
  rintro e w1 ⟨rfl, rfl⟩
  go_wp2
  first | go_end0 | refine bodyPost_ret (results_none rfl _ _ _) rfl ?_
  exact ⟨rfl, H.out.put (row_set H.out.head 2 _) (keep_set _ _ _) hf, keep_set _ _ _⟩
theorem arm_some (h : DiskAt w b p c d) (n : Nat) (hn : n ≤ 1000) : Calls Try.prog 10 #[.pointer (some ⟨b, 0, none⟩), .int .i64 n] w fun e w' => e = .returned (.tuple #[]) ∧ DiskAt w' b p c ⟨d.plate, d.cache, d.off, true, n⟩ ∧ Keep (One b) w w' := by
  have H := hid h
  obtain ⟨x0, x1, x2, x3, x4, x5⟩ := h.cells
  have hf : d.fuse ≤ 1000 := h.fuse
  clear h
  go_enter Try.func10, Try.ntmps10
  go_wp2_with fail
  refine (ok_some H.out).mono ?_
  rintro e w1 ⟨rfl, rfl⟩
  go_wp2
  first | go_end0 | refine bodyPost_ret (results_none rfl _ _ _) rfl ?_
  exact ⟨rfl, H.out.put (row_set (row_set H.out.head 3 _) 4 _) ((keep_set _ _ _).trans (keep_set _ _ _)) hn, ((keep_set _ _ _).trans (keep_set _ _ _))⟩
end Go.Proofs.Ytdecljdhdclmoaa
