/-
  slices.Grow at nil, slices.Concat.
-/
import Derived.Test.YtdecljdhdclmoaaRight
import Derived.Lib.AppendZeros
namespace Go.Proofs.Ytdecljdhdclmoaa
open Go.RowKit
variable {w w' : World}

theorem info5' : ∃ i, Try.prog.info? 5 = some i ∧ i.zero = some (.int .u8 0) ∧ i.size = 1 ∧ i.bytes = 1 := by
  obtain ⟨i, hi, hz0, hz1, hz2⟩ := info_parts info5
  exact ⟨i, hi, hz0, hz1, hz2⟩
set_option maxRecDepth 100000 in
set_option maxHeartbeats 1000000 in
theorem grow_nil (w : World) (n : Nat) (h0 : 0 < n) (hn : n ≤ 1000) : Calls Try.prog 40 #[.slice none 0 0, .int .i64 n] w fun e w' => ∃ q cap, e = .returned (.slice (some ⟨q, 0, none⟩) 0 cap) ∧ RowAt w' 5 1 q (.slice (some ⟨q, 0, none⟩) 0 cap) 0 [] ∧ w.heap.size ≤ q ∧ Keep Nil w w' := by
  obtain ⟨i, hi, hz, hs, hb⟩ := info5'
  have hrun := Lib.run_append_nil_zeros (P := Try.prog) w 22 3 22 5 i (.int .u8 0) .i64 .i64 Try.underlying22 Try.underlying3 hi hz n h0 (by omega) (by omega) (by rw [hb]; omega)
  have hge := grownCap_ge w n 0 5
  have hle := grownCap_le_maxLen w n 0 5 (by simp only [maxLen]; omega)
  have hR : Hid (RowAt (w.drew.alloc (.cells (Builtin.zeroCells (Value.int .u8 0).cells n ++ Builtin.zeroCells (Value.int .u8 0).cells (grownCap w n 0 5 - n)) 5)) 5 1 w.heap.size (.slice (some ⟨w.heap.size, 0, none⟩) 0 (grownCap w n 0 5)) 0 []) :=
    hid (.inr ⟨0, _, _, rfl, heap_new w.drew _, rfl, Nat.zero_le _, hle, by rw [Array.size_append, size_zeroCells, size_zeroCells]; simp [Value.cells]; omega, fun j hj => absurd hj (by simp)⟩)
  have hd : decide ((0 : Int) < (n : Int)) = true := by simp; omega
  have hd2 : ¬ (n : Int) < 0 := by omega
  have hw : IntKind.i64.wrap (n : Int) = n := IntWalk.i64_in _ (by omega)
  have HRUN := hid hrun
  generalize grownCap w n 0 5 = cp at *
  have hcp : ¬ cp = 0 := by omega
  clear hrun
  go_enter Try.func40, Try.ntmps40
  go_wp2_with (at_builtin; refine Lib.wpList_append_run _ rfl _ _ 22 3 rfl (.slice none 0 0) (.int .i64 n) rfl rfl _ _ HRUN.out ?_)
  go_ret
  exact ⟨_, cp, rfl, hR.out, Nat.le_refl _, (Keep.refl w).drew.alloc _⟩
theorem flat_snoc (xss : List (List UInt8)) (k : Nat) (h : k < xss.length) : (xss.take (k + 1)).flatten = (xss.take k).flatten ++ xss[k] := by
  rw [take_snocL xss k h, List.flatten_append, List.flatten_singleton]
theorem flat_take (xss : List (List UInt8)) (k : Nat) : (xss.take k).flatten.length ≤ xss.flatten.length := by
  conv => rhs; rw [← List.take_append_drop k xss, List.flatten_append, List.length_append]
  omega
theorem Bts.shape {B : Nat} {v : Value} {xs : List UInt8} (h : Bts B w v xs) : ∃ ao cap, v = .slice ao xs.length cap := by
  obtain ⟨ao, cap, e, -⟩ := h
  exact ⟨ao, cap, e⟩
set_option maxRecDepth 100000 in
set_option maxHeartbeats 4000000 in
theorem concat_some (w : World) (v : Value) (us : List Value) (xss : List (List UInt8)) (hv : Rows Nil w v us) (hx : AllBts w us xss) (hl : us.length ≤ 10) (h0 : 0 < xss.flatten.length) (hn : xss.flatten.length ≤ 1000) :
    Calls Try.prog 32 #[v] w fun e w' => ∃ q v', e = .returned v' ∧ RowAt w' 5 1 q v' xss.flatten.length (bcells xss.flatten) ∧ w.heap.size ≤ q ∧ Keep Nil w w' := by
  obtain ⟨ao, cap, rfl, -⟩ := id hv
  have HV := hid hv
  have HX := hid hx
  have HUL := hid hx.1
  have HF := hid (flat_take xss)
  clear hv hx
  go_enter Try.func32, Try.ntmps32
  go_wp2_with fail
  go_loopw [3, 11] (fun sv iv wr => ∃ k : Nat, k ≤ us.length ∧ iv = .int .i64 k ∧ sv = .int .i64 (((xss.take k).flatten.length : Nat) : Int) ∧ wr = w) (fun _ iv _ => us.length - (intOf iv).toNat)
  case atStart => exact ⟨0, Nat.zero_le _, rfl, rfl, rfl⟩
  case round =>
    obtain ⟨k, hk, rfl, rfl, rfl⟩ := hrel
    have hfk := HF.out k
    by_cases hkn : k < us.length
    · have hkx : k < xss.length := by rw [← HUL.out]; exact hkn
      obtain ⟨bk, ofk, rfl, -, hck⟩ : ∃ bk off, ao = some ⟨bk, off, none⟩ ∧ ¬ Nil bk ∧ ∀ j (h : j < us.length), wr.cell? ⟨bk, off + j, none⟩ = some us[j] := by
        obtain ⟨_, _, e, hcc⟩ := HV.out
        cases e
        exact hcc (by omega)
      have y1 := hck k hkn
      obtain ⟨aok, capk, hk1⟩ := (HX.out.2 k hkn hkx).shape
      rw [hk1] at y1
      have hfs := flat_snoc xss k hkx
      have hfk1 := HF.out (k + 1)
      have hsum : (xss.take (k + 1)).flatten.length = (xss.take k).flatten.length + xss[k].length := by rw [hfs, List.length_append]
      have HREL := hid (show ∃ k' : Nat, k' ≤ us.length ∧ Value.int .i64 ((k : Int) + 1) = .int .i64 k' ∧ Value.int .i64 (((xss.take k).flatten.length : Int) + (xss[k].length : Int)) = .int .i64 (((xss.take k').flatten.length : Nat) : Int) ∧ True from ⟨k + 1, by omega, by go_num, by rw [hsum]; simp, trivial⟩)
      generalize (xss.take k).flatten.length = s at *
      generalize (xss.take (k + 1)).flatten.length = s1 at *
      generalize xss[k].length = m at *
      have hw : IntKind.i64.wrap ((s : Int) + (m : Int)) = (s : Int) + (m : Int) := IntWalk.i64_in _ (by omega)
      have hnn : ¬ ((s : Int) + (m : Int)) < 0 := by omega
      have hsum := hid hsum
      clear hck hk1 hfs
      go_wp2_with fail
      go_roundw
      case rel => exact HREL.out
      case measure => simp [intOf] <;> omega
    · obtain rfl : k = us.length := by omega
      rw [show xss.take us.length = xss from List.take_of_length_le (by rw [HUL.out]; exact Nat.le_refl _)]
      generalize hN : xss.flatten.length = N at *
      have hN := hid hN
      go_wp2_with fail
      refine (grow_nil wr N h0 hn).mono ?_
      rintro e w1 ⟨q, cp, rfl, hr, hq, k1⟩
      have HR := hid hr
      have K1 := hid k1
      clear hr k1
      obtain ⟨wo, rfl⟩ : ∃ wo : World, wo = wr := ⟨_, rfl⟩
      go_wp2_with fail
      go_loopw [6, 27] (fun out iv wr => ∃ (k q n : Nat), k ≤ us.length ∧ iv = .int .i64 k ∧ n = (xss.take k).flatten.length ∧ RowAt wr 5 1 q out n (bcells (xss.take k).flatten) ∧ wo.heap.size ≤ q ∧ Keep Nil wo wr) (fun _ iv _ => us.length - (intOf iv).toNat)
      case atStart => exact ⟨0, q, 0, Nat.zero_le _, rfl, rfl, HR.out, hq, K1.out⟩
      case round =>
        obtain ⟨k, q2, n2, hk, rfl, hn2, hr2, hq2, hk2⟩ := hrel
        obtain ⟨ao2, cap2, rfl⟩ := hr2.shape
        have HR2 := hid hr2
        have HK2 := hid hk2
        have HN2 := hid hn2
        have hfk := HF.out k
        clear hr2 hk2
        by_cases hkn : k < us.length
        · have hkx : k < xss.length := by rw [← HUL.out]; exact hkn
          obtain ⟨bk, ofk, rfl, -, hck⟩ : ∃ bk off, ao = some ⟨bk, off, none⟩ ∧ ¬ Nil bk ∧ ∀ j (h : j < us.length), wo.cell? ⟨bk, off + j, none⟩ = some us[j] := by
            obtain ⟨_, _, e, hcc⟩ := HV.out
            cases e
            exact hcc (by omega)
          have y1 := HK2.out.cell (hck k hkn) (fun e => e)
          have hb := (HX.out.2 k hkn hkx).keep HK2.out Mut.nil
          obtain ⟨aok, capk, hk1⟩ := hb.shape
          rw [hk1] at y1 hb
          have HB := hid hb
          have hfs := hid (flat_snoc xss k hkx)
          have hfk1 := HF.out (k + 1)
          have hsum : (xss.take (k + 1)).flatten.length = n2 + xss[k].length := by rw [hfs.out, List.length_append, hn2]
          have HS := hid hsum
          have hb1 : n2 + xss[k].length ≤ 1000 := by omega
          generalize hm : xss[k].length = m at *
          replace hm := hid hm
          clear hck hk1 hb hsum hfk1 hn2
          go_wp2_with (at_builtin; refine wpList_append_row wr rfl _ _ 22 22 rfl 5 (.int .u8 0) 1 1 Try.underlying22 info5 rfl q2 (.slice ao2 n2 cap2) n2 (bcells (xss.take k).flatten) rfl HR2.out _ m (bcells xss[k]) rfl (by have := HB.out.src; rwa [hm.out] at this) (by simp only [maxLen]; omega) (by omega) ?_)
          intro q3 ao3 cap3 w3 r3 k3 h3
          have HE := hid (show ∃ (k' q n : Nat), k' ≤ us.length ∧ Value.int .i64 ((k : Int) + 1) = .int .i64 k' ∧ n = (xss.take k').flatten.length ∧ RowAt w3 5 1 q (.slice ao3 (n2 + m) cap3) n (bcells (xss.take k').flatten) ∧ wo.heap.size ≤ q ∧ Keep Nil wo w3 from
            ⟨k + 1, q3, n2 + m, by omega, by go_num, HS.out.symm, by rw [hfs.out, bcells, List.map_append]; exact r3, by have := HK2.out.size; rcases h3 with h | ⟨h, -⟩ <;> omega, HK2.out.andThen k3 (fun i hi e => by have e' : i = q2 := e.1; omega)⟩)
          clear r3 k3 h3
          go_wp2_with fail
          go_roundw
          case rel => exact HE.out
          case measure => simp [intOf] <;> omega
        · obtain rfl : k = us.length := by omega
          have hr2 := HR2.out
          have hn2' := HN2.out
          rw [show xss.take us.length = xss from List.take_of_length_le (by rw [HUL.out]; exact Nat.le_refl _)] at hr2 hn2'
          rw [hN.out] at hn2'
          have hr2 := hid hr2
          have hn3 := hid hn2'
          clear hn2 hn2'
          go_wp2
          go_ret
          exact ⟨q2, .slice ao2 n2 cap2, rfl, by rw [hN.out, ← hn3.out]; exact hr2.out, hq2, HK2.out⟩
end Go.Proofs.Ytdecljdhdclmoaa
