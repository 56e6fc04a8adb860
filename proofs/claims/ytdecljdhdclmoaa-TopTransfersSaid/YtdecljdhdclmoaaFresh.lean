/-
  disk.New and Format.
-/
import Derived.Test.YtdecljdhdclmoaaCmt
import Derived.Laws.MakeOwn
namespace Go.Proofs.Ytdecljdhdclmoaa
open Go.RowKit
variable {w w' : World} {b p c : Nat} {d d1 d2 : DS}

def Z768 : Array Value := madeCells (secC Z64) 768
theorem z768_size : Z768.size = 768 := size_madeCells _ _
theorem secC_bang (k : Nat) (h : k < 64) : (secC Z64)[k]! = .int .u8 0 := by
  have hs : (secC Z64).size = 64 := by rw [secC_size, z64_length]
  rw [getElem!_pos (secC Z64) k (by omega)]
  simp only [secC, List.getElem_toArray, bcells, List.getElem_map, Z64, List.getElem_replicate]
  rfl
theorem z768_get (k : Nat) (h : k < 768) : Z768[k]? = some (.int .u8 0) := by
  have hs : (secC Z64).size = 64 := by rw [secC_size, z64_length]
  simp only [Z768, madeCells, hs]
  rw [Array.getElem?_map, Array.getElem?_range]
  simp only [h, if_true, Option.map_some]
  rw [secC_bang _ (Nat.mod_lt _ (by omega))]
theorem z64_cell (j : Nat) (h : j < 64) : (bcells Z64)[j]? = some (.int .u8 0) := by
  simp only [bcells, Z64, List.getElem?_map]
  rw [List.getElem?_replicate]
  simp [h]
theorem info59 : (Try.prog.info? 59).map (fun i => (i.zero, i.size, i.bytes)) = some (some (.agg (secC Z64)), 64, 64) := by kernel_rfl
theorem run_make768 (w : World) : (Instr.makeSlice 44 (.int .i64 12) (.int .i64 12)).run Try.prog w = .ok (.slice (some ⟨w.heap.size, 0, none⟩) 12 12) (w.alloc (.cells Z768 59)) := by
  obtain ⟨i, hi, hz, hs, hb⟩ := info_parts info59
  have h := run_make (P := Try.prog) w 44 59 i (.agg (secC Z64)) Try.underlying44 hi hz .i64 .i64 12 12 (by omega) (by omega) (by rw [hb]; omega) (by omega)
  rw [hs] at h
  exact h
theorem run_makeMap45 (w : World) : (Instr.makeMap 45 none).run Try.prog w = .ok (.map (some w.heap.size)) (w.alloc (.map #[] 0)) := by
  simp [Instr.makeMap, go_sem]
theorem run_make50 (w : World) : (Instr.makeSlice 50 (.int .i64 12) (.int .i64 12)).run Try.prog w = .ok (.slice (some ⟨w.heap.size, 0, none⟩) 12 12) (w.alloc (.cells (Array.replicate 12 (.slice none 0 0)) 22)) := by
  obtain ⟨i, hi, hz, hs, hb⟩ := info_parts info22
  have hw : IntKind.i64.wrap 12 = 12 := by decide
  simp [Instr.makeSlice, go_sem, run_underlying Try.underlying50, sizeOf, typeInfo, zeroValue, hi, hz, hs, hb, asInt, asIntOf, hw]
  rfl
def freshD : DS := ⟨fun _ => Z64, fun _ => none, false, false, 0⟩
set_option maxRecDepth 100000 in
set_option maxHeartbeats 4000000 in
theorem new_some (w : World) : Calls Try.prog 4 #[.int .i64 12] w fun e w' => ∃ b p c, e = .returned (.tuple #[.pointer (some ⟨b, 0, none⟩), .int .i64 0]) ∧ DiskAt w' b p c freshD ∧ Keep Nil w w' ∧ ∀ i, Dk b p c i → w.heap.size ≤ i := by
  have hm1 := run_make768
  have hm2 := run_makeMap45
  go_enter Try.func4, Try.ntmps4
  go_wp2_with fail
  go_ret2
  refine ⟨_, w.heap.size, w.heap.size + 1, rfl, ⟨heap_new' _ _ _ (by simp), ⟨Z768, ?_, z768_size, fun i hi j hj => ?_⟩, ?_, fun i hi => z64_length, fun i xs h => (by cases h), by show (0 : Nat) ≤ 1000; omega⟩, (((Keep.refl w).alloc _).alloc _).alloc _, ?_⟩
  · exact row_alloc (row_alloc (heap_new _ _) _) _
  · rw [z768_get _ (by omega), show freshD.plate i = Z64 from rfl, z64_cell j hj]
  · have e : cacheF freshD.cache = fun _ => none := by funext i; unfold cacheF; split <;> rfl
    rw [e]
    have h := MapAt.made (w.alloc (.cells Z768 59))
    rw [show (w.alloc (.cells Z768 59)).heap.size = w.heap.size + 1 by simp] at h
    exact h.keep ((Keep.refl (S := Nil) _).alloc _) (fun e => e)
  · rintro i (rfl | rfl | rfl) <;> omega
/-- Format -/
def fmtD (d : DS) : DS := (headD (putsD (putsD d 0 [[]]).2 0 (List.replicate 12 [])).2 0 0).2
theorem puts_good {d : DS} (h : Calm d) (k : Nat) (xss : List (List UInt8)) : (putsD d k xss).2.cache = (fun _ => none) ∧ (putsD d k xss).2.plate = fun i => (over d.cache k xss i).getD (d.plate i) := by
  rcases puts_case xss d k with ⟨-, h1, h2⟩ | ⟨h1, -⟩
  · exact ⟨h1, h2⟩
  · rw [(puts_calm xss d k h).1] at h1; cases h1
theorem head_good {d : DS} (h : Calm d) (n m : Nat) : (headD d n m).2.cache = (fun _ => none) ∧ (headD d n m).2.plate = fun i => if i = 0 then padL (headL n m) else (d.cache i).getD (d.plate i) := by
  rcases head_case d n m with ⟨-, h1, h2⟩ | ⟨h1, -⟩
  · exact ⟨h1, h2⟩
  · rw [(head_calm h n m).1] at h1; cases h1
theorem fmt_good {d : DS} (h : Calm d) : Calm (fmtD d) ∧ GoodPC (fmtD d) 0 false Z48 Z48 := by
  obtain ⟨a1, a2⟩ := puts_calm [[]] d 0 h
  have b2 := puts_calm (List.replicate 12 []) _ 0 a2
  have b3 := puts_good a2 0 (List.replicate 12 [])
  unfold fmtD
  generalize (putsD (putsD d 0 [[]]).2 0 (List.replicate 12 [])) = r at *
  obtain ⟨o1, d1⟩ := r
  obtain ⟨b4, b5⟩ := b3
  have c3 := head_good b2.2 0 0
  have c2 := head_calm b2.2 0 0
  generalize headD _ 0 0 = r at *
  obtain ⟨o2, d2⟩ := r
  obtain ⟨c4, c5⟩ := c3
  simp only at *
  refine ⟨c2.2, .inl ⟨rfl, ?_, fun i => by rw [c4], ?_, ?_⟩⟩
  · rw [c5]; rfl
  · rw [c5, b4, b5]; rfl
  · rw [c5, b4, b5]; rfl
theorem bts_nil (w : World) : Bts 0 w (.slice none 0 0) [] := ⟨none, 0, rfl, fun h => absurd h (by simp)⟩
theorem rows_nils (w : World) (S : Nat → Prop) (hS : ¬ S w.heap.size) : Rows S (w.alloc (.cells (Array.replicate 12 (.slice none 0 0)) 22)) (.slice (some ⟨w.heap.size, 0, none⟩) 12 12) (List.replicate 12 (.slice none 0 0)) :=
  ⟨_, 12, by rw [List.length_replicate], fun _ => ⟨_, 0, rfl, hS, fun j hj => by
    rw [row_cell (heap_new _ _), Nat.zero_add, List.getElem_replicate, Array.getElem?_replicate, if_pos (by simpa using hj)]⟩⟩
theorem nils_bts (w : World) : AllBts w (List.replicate 12 (.slice none 0 0)) (List.replicate 12 []) := ⟨by simp, fun j h1 h2 => by
  rw [List.getElem_replicate, List.getElem_replicate]; exact bts_nil w⟩
set_option maxRecDepth 100000 in
set_option maxHeartbeats 4000000 in
theorem format_some (h : DiskAt w b p c d) (hc : Calm d) : Calls Try.prog 6 #[.pointer (some ⟨b, 0, none⟩)] w fun e w' => e = .returned (.int .i64 0) ∧ DiskAt w' b p c (fmtD d) ∧ Keep (Dk b p c) w w' := by
  obtain ⟨a1, a2⟩ := puts_calm [[]] d 0 hc
  obtain ⟨b1, b2⟩ := puts_calm (List.replicate 12 []) _ 0 a2
  have H := hid h
  have KA : Keep Nil w (w.alloc (.cells #[.slice none 0 0] 22)) := (Keep.refl w).alloc _
  have HA := hid (writes_some (h.nil KA) 0 _ _ [[]] (rows_one (Dk b p c) w (.slice none 0 0) 22 (h.new (Nat.le_refl _))) (AllBts.one (bts_nil _)) (by simp) (by simp))
  have HB := hid (fun (w1 : World) (h1 : DiskAt w1 b p c (putsD d 0 [[]]).2) => writes_some (h1.nil ((Keep.refl w1).alloc (.cells (Array.replicate 12 (.slice none 0 0)) 22))) 0 _ _ (List.replicate 12 []) (rows_nils w1 (Dk b p c) (h1.new (Nat.le_refl _))) (nils_bts _) (by simp) (by intro xs hx; rw [List.eq_of_mem_replicate hx]; simp))
  have HH := hid (fun (w1 : World) (h1 : DiskAt w1 b p c (putsD (putsD d 0 [[]]).2 0 (List.replicate 12 [])).2) => head_some h1 0 0 (by omega) (by omega))
  have HP : Hid (∀ w', DiskAt w' b p c (headD (putsD (putsD d 0 [[]]).2 0 (List.replicate 12 [])).2 0 0).2 → DiskAt w' b p c (fmtD d)) := hid (fun w' h => h)
  obtain ⟨c1, c2⟩ := head_calm b2 0 0
  generalize fmtD d = df at *
  generalize headD (putsD (putsD d 0 [[]]).2 0 (List.replicate 12 [])).2 0 0 = r3 at *
  generalize putsD (putsD d 0 [[]]).2 0 (List.replicate 12 []) = r2 at *
  generalize putsD d 0 [[]] = r1 at *
  obtain ⟨o1, d1⟩ := r1
  obtain ⟨o2, d2⟩ := r2
  obtain ⟨o3, d3⟩ := r3
  simp only at *
  subst a1
  subst b1
  subst c1
  rw [show okV true = .int .i64 0 from rfl] at *
  have HKA := hid KA
  have hm := run_make50
  clear h a2 b2 c2 KA
  go_enter Try.func6, Try.ntmps6
  go_wp2_with fail
  refine (may_some H.out).mono ?_
  rintro e w1 ⟨rfl, rfl⟩
  go_wp2_with fail
  refine HA.out.mono ?_
  rintro e w2 ⟨rfl, h2, k2⟩
  have D2 := hid h2
  have K2 : Hid (Keep (Dk b p c) w1 w2) := hid ((HKA.out.mono (fun _ _ e => e.elim)).trans k2)
  clear h2 k2
  go_wp2_with fail
  refine (sectors_some D2.out).mono ?_
  rintro e w3 ⟨rfl, rfl⟩
  go_wp2_with fail
  refine (HB.out w3 D2.out).mono ?_
  rintro e w4 ⟨rfl, h4, k4⟩
  have D4 := hid h4
  have K4 : Hid (Keep (Dk b p c) w1 w4) := hid ((K2.out.alloc _).trans k4)
  clear h4 k4
  go_wp2_with fail
  refine (HH.out w4 D4.out).mono ?_
  rintro e w5 ⟨rfl, h5, k5⟩
  have D5 := hid (HP.out w5 h5)
  have K5 := hid (K4.out.trans k5)
  clear h5 k5
  go_wp2
  go_ret
  exact ⟨rfl, D5.out, K5.out⟩
end Go.Proofs.Ytdecljdhdclmoaa
