/-
  Disk.Write.
-/
import Derived.Test.YtdecljdhdclmoaaRead
import Derived.Deep.RegionHeld3
namespace Go.Proofs.Ytdecljdhdclmoaa
open Go.RowKit
variable {w w' : World} {b p c : Nat} {d : DS}

def padL (xs : List UInt8) : List UInt8 := xs ++ List.replicate (64 - xs.length) 0
theorem padL_length (xs : List UInt8) (h : xs.length ≤ 64) : (padL xs).length = 64 := by simp [padL]; omega
theorem pad_splice (xs : List UInt8) : splice (bcells Z64) 0 (bcells xs) = bcells (padL xs) := by
  simp only [splice, padL, bcells, Z64, List.map_append, List.map_replicate, List.take_zero, List.nil_append, List.drop_replicate, List.length_map, Nat.zero_add]
/-- Write -/
def writeD (d : DS) (i : Nat) (xs : List UInt8) : Bool × DS :=
  if (stepD d).1 then (true, ⟨(stepD d).2.plate, fun j => if j = i then some (padL xs) else (stepD d).2.cache j, (stepD d).2.off, (stepD d).2.armed, (stepD d).2.fuse⟩) else (false, (stepD d).2)
def okV (x : Bool) : Value := .int .i64 (if x then 0 else 8)
theorem disk_put (h : DiskAt w b p c d) {i : Nat} (hi : i < 12) {xs : List UInt8} (hx : xs.length = 64) (k : Keep (One c) w w')
    (hm : MapAt w' c (put (cacheF d.cache) i (.agg (secC xs)))) : DiskAt w' b p c ⟨d.plate, fun j => if j = i then some xs else d.cache j, d.off, d.armed, d.fuse⟩ := by
  have e1 := h.bc
  have e2 := h.pc
  obtain ⟨h1, ⟨cur, h2, h2'⟩, h3, h4, h5, h6⟩ := h
  refine ⟨k.row h1 e1, ⟨cur, k.row h2 e2, h2'⟩, ?_, h4, fun j ys hj => ?_, h6⟩
  · have : (put (cacheF d.cache) i (.agg (secC xs))) = cacheF (fun j => if j = i then some xs else d.cache j) := by
      funext j
      unfold put cacheF
      by_cases hj : j = (i : Int)
      · subst hj; simp
      · rw [if_neg hj]
        by_cases h0 : 0 ≤ j
        · have : ¬ j.toNat = i := by omega
          simp [h0, this]
        · simp [h0]
    rw [← this]; exact hm
  · simp only at hj
    split at hj
    · rename_i e; subst e; cases hj; exact ⟨hi, hx⟩
    · exact h5 j ys hj

theorem DiskAt.mut (h : DiskAt w b p c d) : Mut 0 w (Dk b p c) := by
  obtain ⟨cur, h2, -⟩ := h.plate
  obtain ⟨es, cl, h3, -⟩ := h.cache
  rintro k (rfl | rfl | rfl)
  · exact ⟨Nat.zero_le _, fun cur fr e => by rw [h.head] at e; simp at e⟩
  · exact ⟨Nat.zero_le _, fun cur fr e => by rw [h2] at e; simp at e⟩
  · exact ⟨Nat.zero_le _, fun cur fr e => by rw [h3] at e; simp at e⟩
theorem Mut.sub {S T : Nat → Prop} {B : Nat} (h : Mut B w S) (hs : ∀ k, T k → S k) : Mut B w T := fun k hk => h k (hs k hk)
theorem size5 : (Try.prog.info? 5).map (·.size) = some 1 := by kernel_rfl
theorem copy_pos (w : World) {ao : Option Addr} {n cap : Nat} {xs : List UInt8} (h : Bts 0 w (.slice ao n cap) xs) (o : Obj) (hp : 0 < xs.length) :
    ∃ ad, ao = some ad ∧ ∀ j v, (bcells xs)[j]? = some v → (w.alloc o).cell? (ad.add j) = some v := by
  obtain ⟨_, _, e, hc⟩ := h.alloc o
  cases e
  obtain ⟨b, off, rfl, -, h2⟩ := hc hp
  refine ⟨_, rfl, fun j v hj => ?_⟩
  have hl : j < xs.length := by have := (List.getElem?_eq_some_iff.1 hj).1; rwa [bcells_length] at this
  rw [Addr.add_mid, h2 j hl, ← bcells_get xs j hl, hj]

set_option maxRecDepth 100000 in
set_option maxHeartbeats 1000000 in
theorem write_some (h : DiskAt w b p c d) (i : Nat) (hi : i < 12) (v : Value) (xs : List UInt8) (hv : Bts 0 w v xs) (hx : xs.length ≤ 64) :
    Calls Try.prog 24 #[.pointer (some ⟨b, 0, none⟩), .int .i64 i, v] w fun e w' => e = .returned (okV (writeD d i xs).1) ∧ DiskAt w' b p c (writeD d i xs).2 ∧ Keep (Dk b p c) w w' := by
  have H := hid h
  have HV := hid hv
  have HM := hid h.mut
  obtain ⟨ao, cap, rfl, -⟩ := id hv
  have hlen : decide (64 < (xs.length : Int)) = false := by simp; omega
  have hz := zero59
  have hstep := step_some h
  unfold writeD
  generalize stepD d = sd at hstep ⊢
  obtain ⟨o, d2⟩ := sd
  simp only at hstep ⊢
  replace hstep := hid hstep
  clear h hv
  cases o
  · have hgoal : Hid (∀ w', DiskAt w' b p c d2 → Keep (One b) w w' → (Ending.returned (.int .i64 8) = Ending.returned (okV (if false = true then (true, (⟨d2.plate, fun j => if j = i then some (padL xs) else d2.cache j, d2.off, d2.armed, d2.fuse⟩ : DS)) else (false, d2)).1) ∧ DiskAt w' b p c (if false = true then (true, (⟨d2.plate, fun j => if j = i then some (padL xs) else d2.cache j, d2.off, d2.armed, d2.fuse⟩ : DS)) else (false, d2)).2 ∧ Keep (Dk b p c) w w')) :=
      hid (fun w' h1 h2 => ⟨rfl, h1, h2.mono (fun k _ e => .inl e)⟩)
    go_enter Try.func24, Try.ntmps24
    go_wp2_with fail
    refine (ok_some H.out).mono ?_
    rintro e w1 ⟨rfl, rfl⟩
    go_wp2_with fail
    refine (has_in H.out i hi).mono ?_
    rintro e w1 ⟨rfl, rfl⟩
    go_wp2_with fail
    refine hstep.out.mono ?_
    rintro e w2 ⟨rfl, h2, k2⟩
    have H2 := hid h2
    have K2 := hid k2
    clear h2 k2
    go_wp2
    go_ret
    exact hgoal.out _ H2.out K2.out
  · rw [if_pos rfl]
    go_enter Try.func24, Try.ntmps24
    go_wp2_with fail
    refine (ok_some H.out).mono ?_
    rintro e w1 ⟨rfl, rfl⟩
    go_wp2_with fail
    refine (has_in H.out i hi).mono ?_
    rintro e w1 ⟨rfl, rfl⟩
    go_wp2_with fail
    refine hstep.out.mono ?_
    rintro e w2 ⟨rfl, h2, k2⟩
    have H2 := hid h2
    have K2 := hid k2
    have V2 : Hid (Bts 0 w2 (.slice ao xs.length cap) xs) := hid (HV.out.keep k2 (HM.out.sub (fun k e => .inl e)))
    clear h2 k2
    have hcp := hid (copy_pos _ V2.out (.cells (secC Z64) 59))
    go_wp2_with (refine wpList_copy_splice rfl (.tmp 26) (.tmp 27) 22 22 rfl 5 Try.underlying22 size5 (some ⟨w2.heap.size, 0, none⟩) ao 64 64 xs.length cap rfl rfl w2.heap.size 0 (bcells Z64) 59 (heap_new _ _) (bcells xs) ?hn (fun hp => ⟨rfl, hcp.out (by rw [← bcells_length xs]; exact hp)⟩) ?hfit (bcells_one xs) w2.heap.size w2 ?bel (Nat.le_refl _) ?_)
    case hn => rw [bcells_length]; exact (Nat.min_eq_left hx).symm
    case hfit => rw [bcells_length, bcells_length, z64_length]; omega
    case bel => exact ((Keep.refl (S := Nil) w2).alloc _).below (fun _ e => e.elim) (Nat.le_refl _)
    intro w3 hw3 k3
    have K3 : Keep Nil w2 w3 := (Keep.of_below k3).mono (fun k hk e => by omega)
    have Z3 : w3.drew.heap[w2.heap.size]? = some (.cells (bcells (padL xs)).toArray 59 (0, 0)) := by
      have := hw3.out
      rwa [pad_splice] at this
    have H3 : DiskAt w3.drew b p c d2 := H2.out.nil K3.drew
    obtain ⟨w4, hput, hm4, k4⟩ := run_put H3.cache Try.underlying3 Try.underlying45 i (wf_small i (by omega)) (.agg (secC (padL xs)))
    have KX : Hid (Keep (Dk b p c) w1 w4) := hid (((K2.out.mono (fun k _ e => .inl e)).trans (K3.drew.mono (fun _ _ e => e.elim))).trans (k4.mono (fun k _ e => .inr (.inr e))))
    have HX : Hid (DiskAt w4 b p c _) := hid (disk_put H3 hi (padL_length xs hx) k4 hm4)
    have r1 : w3.drew.rangeAt w2.heap.size 0 (bcells (padL xs)) := fun j v hj => by rw [Nat.zero_add, row_cell Z3, List.getElem?_toArray, hj]
    have hzc : w2.heap.size ≠ c := fun e => by have := H2.out.lt c (.inr (.inr rfl)); omega
    have r2 : w4.rangeAt w2.heap.size 0 (bcells (padL xs)) := fun j v hj => k4.cell (r1 j v hj) (fun e => hzc e)
    have c1 : w3.drew.cell? ⟨b, 1, none⟩ = some (.map (some c)) := H3.cells.2.1
    have c2 : w4.cell? ⟨b, 1, none⟩ = some (.map (some c)) := k4.cell c1 (fun e => H2.out.bc e)
    have hpl : (Try.prog.info? 59).map (·.size) = some (bcells (padL xs)).length := by rw [size59, bcells_length, padL_length xs hx]
    have hu := Try.underlying59
    change (Instr.mapUpdate 45 (.map (some c)) (.int .i64 i) (.agg (bcells (padL xs)).toArray)).run Try.prog w3.drew = .ok () w4 at hput
    clear hm4 k4 H3 Z3 K3 k3 hw3 hz hcp
    go_wp2_with fail
    go_region_held3 (fun w' => w'.cell? ⟨b, 1, none⟩ = some (.map (some c)) ∧ w'.rangeAt w2.heap.size 0 (bcells (padL xs))) (first | exact ⟨c1, r1⟩ | exact ⟨c2, r2⟩) (fail)
    go_wp2
    go_ret
    exact ⟨rfl, HX.out, KX.out⟩
end Go.Proofs.Ytdecljdhdclmoaa
