/-
  What New, Settle and Take of the seat's allocator do.
-/
import Derived.Test.YtompkoihmjenjaaShare
import Derived.Deep.OwnRows
namespace Go.Proofs.Ytompkoihmjenjaa
open Go.RowKit

theorem Wrote.drew {c : Nat} {xs : List Int} {w w' : World} (h : Wrote c xs w w') : Wrote c xs w w'.drew := ⟨h.row, h.keep.drew⟩

theorem upd_all (cs : List Int) (g : Int → Int) (k : Nat) (h : cs.length ≤ k) : upd cs 0 k g = cs.map g := by
  apply List.ext_getElem
  · simp
  · intro i h1 h2
    have : i < cs.length := by simpa using h2
    simp [upd]; omega

/-- what waits is free: the counts -/
def settleG (y : Int) : Int := max y 0
theorem settle_same (cs : List Int) (h : ∀ x ∈ cs, -1 ≤ x) (hc : cnt (-1) cs = 0) : cs.map settleG = cs := by
  have : ∀ x ∈ cs, settleG x = x := by
    intro x hx
    have h1 := h x hx
    have h2 : x ≠ -1 := by
      intro e; subst e
      have : (-1 : Int) ∈ cs.filter (· == -1) := by simp [hx]
      unfold cnt at hc
      rw [List.length_eq_zero_iff.1 hc] at this; simp at this
    unfold settleG; omega
  conv => rhs; rw [← List.map_id cs]
  exact List.map_congr_left this

set_option maxHeartbeats 1000000 in
theorem settle_some (w : World) (p c : Nat) (cs : List Int) (hlo : ∀ x ∈ cs, -1 ≤ x) (H : Has w p c cs) :
   Calls Try.prog 15 #[.pointer (some ⟨p, 0, none⟩)] w fun e w' => e = .returned (.int .i64 (cnt (-1) cs)) ∧ Wrote c (cs.map settleG) w w' := by
  have h := H.cell
  have hl := H.len
  by_cases h0 : cnt (-1) cs = 0
  · have hs := settle_same cs hlo h0
    rw [hs, h0]
    have HW := waiting_some w p c cs H
    rw [h0] at HW
    have HW := hid HW
    go_enter Try.func15, Try.ntmps15
    go_wp2_with (go_at_call 23; refine (HW.out).mono ?_; rintro e w' ⟨rfl, rfl⟩)
    go_ret
    exact ⟨rfl, Wrote.none H⟩
  · have hgt : (0 : Int) < (cnt (-1) cs : Int) := by omega
    have HW := hid (waiting_some w p c cs H)
    have hd : decide (0 < cnt (-1) cs) = true := by simp; omega
    clear h0 hlo
    go_enter Try.func15, Try.ntmps15
    go_wp2_with (go_at_call 23; refine (HW.out).mono ?_; rintro e w' ⟨rfl, rfl⟩)
    go_loopw [14] (fun i wr => ∃ k : Nat, k ≤ cs.length ∧ i = .int .i64 k ∧ Wrote c (upd cs 0 k settleG) w wr) (fun i _ => cs.length - (intOf i).toNat)
    case atStart => exact ⟨0, Nat.zero_le _, rfl, by rw [upd_zero]; exact Wrote.none H⟩
    case round =>
      obtain ⟨k, hk, rfl, hwr⟩ := hrel
      by_cases hkb : k < cs.length
      · have hcell := hwr.cell k (by simp; omega)
        have e : (upd cs 0 k settleG).getD k 0 = cs.getD k 0 := by have := upd_next cs 0 k settleG (by omega); simpa using this
        rw [e] at hcell; clear e
        have hfree := hwr.free k
        have hptr := (hwr.has H (by simp)).cell
        simp only [upd_len] at hptr
        have hnext : Wrote c (upd cs 0 (k + 1) settleG) w (wr.setCell ⟨c, k, none⟩ (.int .i64 (settleG (cs.getD k 0)))) := by
          have := hwr.next (settleG (cs.getD k 0)) (by simp)
          simpa using this
        generalize cs.getD k 0 = y at *
        have HWr := hid hwr; clear hwr
        have HN := hid hnext; clear hnext
        have h1 : (0 : Int) ≤ k := by omega
        have h2 : (k : Int) < cs.length := by omega
        by_cases hy : 0 < y
        · have hg : settleG y = y := by unfold settleG; omega
          rw [hg] at HN; clear hg
          go_wp2
          go_region
          go_wp2
          go_roundw
          case rel => exact ⟨k + 1, by omega, by go_num, HN.out.drew⟩
          case measure => simp [intOf]; omega
        · have hg : settleG y = 0 := by unfold settleG; omega
          rw [hg] at HN; clear hg
          rcases (by omega : y < 0 ∨ y = 0) with hy | rfl
          · go_wp2
            go_region
            go_wp2
            go_roundw
            case rel => exact ⟨k + 1, by omega, by go_num, HN.out.drew⟩
            case measure => simp [intOf]; omega
          · go_wp2
            go_region
            go_wp2
            go_roundw
            case rel => exact ⟨k + 1, by omega, by go_num, HN.out.drew⟩
            case measure => simp [intOf]; omega
      · go_wp2
        go_ret
        rw [upd_all _ _ _ (by omega)] at hwr
        exact ⟨rfl, hwr⟩
theorem settle_nil (w : World) : Calls Try.prog 15 #[.pointer none] w fun e w' => e = .returned (.int .i64 0) ∧ w = w' := by
  go_enter Try.func15, Try.ntmps15
  go_wp2_with (go_at_call 23; refine (waiting_nil _).mono ?_; rintro e w' ⟨rfl, rfl⟩)
  go_ret
  exact ⟨rfl, rfl⟩
theorem settle_bare (w : World) (p : Nat) (h : w.cell? ⟨p, 0, none⟩ = some (.slice none 0 0)) : Calls Try.prog 15 #[.pointer (some ⟨p, 0, none⟩)] w fun e w' => e = .returned (.int .i64 0) ∧ w = w' := by
  go_enter Try.func15, Try.ntmps15
  go_wp2_with (go_at_call 23; refine (waiting_bare _ _ h).mono ?_; rintro e w' ⟨rfl, rfl⟩)
  go_ret
  exact ⟨rfl, rfl⟩

theorem info3 : (Try.prog.info? 3).map (fun i => (i.zero, i.size, i.bytes)) = some (some (.int .i64 0), 1, 8) := by kernel_rfl
theorem info4 : (Try.prog.info? 4).map (fun i => (i.zero, i.size, i.bytes)) = some (some (.bool false), 1, 1) := by kernel_rfl
theorem made_ints (n : Nat) : madeCells #[Value.int .i64 0] n = ints (List.replicate n 0) := by
  apply Array.ext
  · simp [madeCells, ints]
  · intro i h1 h2
    simp [madeCells, ints, Nat.mod_one]
theorem made_bools (n : Nat) : madeCells #[Value.bool false] n = bools (List.replicate n false) := by
  apply Array.ext
  · simp [madeCells, bools]
  · intro i h1 h2
    simp [madeCells, bools, Nat.mod_one]

/-- what New leaves -/
structure Made (n : Nat) (w w' : World) (p c : Nat) : Prop where
  has : Has w' p c (List.replicate n 0)
  keep : Keep Nil w w'
  pnew : w.heap.size ≤ p
  cnew : w.heap.size ≤ c
theorem new_bad (w : World) (u : Int) (h : u < 1 ∨ 4096 < u) : Calls Try.prog 9 #[.int .i64 u] w fun e w' => e = .returned (.tuple #[.pointer none, .int .i64 1]) ∧ w = w' := by
  by_cases h1 : u < 1
  · go_enter Try.func9, Try.ntmps9
    go_wp2
    go_ret2
    exact ⟨rfl, rfl⟩
  · have h2 : 4096 < u := by omega
    clear h
    go_enter Try.func9, Try.ntmps9
    go_wp2
    go_ret2
    exact ⟨rfl, rfl⟩
def MadeSome (n : Nat) (w : World) (e : Ending) (w' : World) : Prop := ∃ p c, e = .returned (.tuple #[.pointer (some ⟨p, 0, none⟩), .int .i64 0]) ∧ Made n w w' p c
theorem new_good (w : World) (n : Nat) (h1 : 1 ≤ n) (h2 : n ≤ 4096) : Calls Try.prog 9 #[.int .i64 n] w (MadeSome n w) := by
  have hmk := run_make_row' (P := Try.prog) 37 3 (.int .i64 0) 8 Try.underlying37 info3 rfl .i64 .i64 n (by omega) (by omega)
  rw [made_ints] at hmk
  go_enter Try.func9, Try.ntmps9
  go_wp2
  go_ret2
  refine ⟨w.heap.size + 1, w.heap.size, rfl, ⟨?_, ?_, ?_⟩, ?_, ?_, ?_⟩
  · rw [heap_new' _ _ _ (by simp)]; simp
  · rw [row_alloc (heap_new _ _)]
  · simpa using h2
  · exact ((Keep.refl _).alloc _).alloc _
  · omega
  · omega

/-! ### Take -/
/-- are the n units from f on free? -/
def freeAt (cs : List Int) (n f : Nat) : Prop := f + n ≤ cs.length ∧ ∀ i, i < n → cs.getD (f + i) 0 = 0
/-- Take: the row that is taken is the first; or there is none -/
def TakePost (c : Nat) (cs : List Int) (n : Nat) (w : World) (e : Ending) (w' : World) : Prop :=
  (∃ f : Nat, e = .returned (.tuple #[.int .i64 f, .int .i64 0]) ∧ freeAt cs n f ∧ (∀ g, g < f → ¬ freeAt cs n g) ∧ Wrote c (upd cs f n (fun _ => 1)) w w')
  ∨ (e = .returned (.tuple #[.int .i64 0, .int .i64 7]) ∧ (∀ g, ¬ freeAt cs n g) ∧ w = w')
theorem take_nil (w : World) (n : Int) : Calls Try.prog 11 #[.pointer none, .int .i64 n] w fun e w' => e = .returned (.tuple #[.int .i64 0, .int .i64 2]) ∧ w = w' := by
  go_enter Try.func11, Try.ntmps11
  go_wp2_with (go_at_call 26; refine (ok_nil _).mono ?_; rintro e w' ⟨rfl, rfl⟩)
  go_ret2
  exact ⟨rfl, rfl⟩
theorem take_bare (w : World) (p : Nat) (n : Int) (h : w.cell? ⟨p, 0, none⟩ = some (.slice none 0 0)) : Calls Try.prog 11 #[.pointer (some ⟨p, 0, none⟩), .int .i64 n] w fun e w' => e = .returned (.tuple #[.int .i64 0, .int .i64 2]) ∧ w = w' := by
  go_enter Try.func11, Try.ntmps11
  go_wp2_with (go_at_call 26; refine (ok_bare _ _ h).mono ?_; rintro e w' ⟨rfl, rfl⟩)
  go_ret2
  exact ⟨rfl, rfl⟩
theorem take_bad (w : World) (p c : Nat) (cs : List Int) (n : Int) (hn : n < 1) (H : Has w p c cs) : Calls Try.prog 11 #[.pointer (some ⟨p, 0, none⟩), .int .i64 n] w fun e w' => e = .returned (.tuple #[.int .i64 0, .int .i64 1]) ∧ w = w' := by
  have h := H.cell
  go_enter Try.func11, Try.ntmps11
  go_wp2_with (go_at_call 26; refine (ok_some _ _ _ _ _ h).mono ?_; rintro e w' ⟨rfl, rfl⟩)
  go_ret2
  exact ⟨rfl, rfl⟩
set_option maxHeartbeats 1000000 in
theorem take_some (w : World) (p c : Nat) (cs : List Int) (n : Nat) (hn : 1 ≤ n) (hn2 : n ≤ 9223372036854775807) (H : Has w p c cs) :
    Calls Try.prog 11 #[.pointer (some ⟨p, 0, none⟩), .int .i64 n] w (TakePost c cs n w) := by
  have h := H.cell
  have hl := H.len
  have hn0 : decide ((n : Int) < 1) = false := by simp; omega
  go_enter Try.func11, Try.ntmps11
  go_wp2_with (go_at_call 26; refine (ok_some _ _ _ _ _ h).mono ?_; rintro e w' ⟨rfl, rfl⟩)
  go_loop [6] (fun x => ∃ f : Nat, f ≤ cs.length ∧ x = .int .i64 f ∧ ∀ g, g < f → ¬ freeAt cs n g) (fun x => cs.length - (intOf x).toNat)
  case atStart => exact ⟨0, Nat.zero_le _, rfl, fun g hg => absurd hg (Nat.not_lt_zero _)⟩
  case round =>
    obtain ⟨f, hf, rfl, hbefore⟩ := hrel
    have HF := hid hbefore; clear hbefore
    by_cases hfn : f + n ≤ cs.length
    · have hc : ∀ i, i < ((cs.drop f).take n).length → w.cell? ⟨c, f + i, none⟩ = some (.int .i64 (((cs.drop f).take n).getD i 0)) := by
        intro i hi
        rw [seg_get _ _ _ _ hfn hi]
        exact H.at _ (by simp at hi; omega)
      have hsl := seg_len cs f n hfn
      have hk := index_nz w c f (cs.length - f) ((cs.drop f).take n) (by omega) hc
      rw [hsl] at hk
      have HI := hid hk
      have HS := hid hsl
      clear hk hc hsl
      by_cases hlt : idxOf (· != 0) ((cs.drop f).take n) < 0
      · have hfree : freeAt cs n f := by
          refine ⟨hfn, fun i hi => ?_⟩
          have hany := (not_congr (idx_any ((cs.drop f).take n) (· != 0))).1 (by omega)
          have hall := List.any_eq_false.1 (Bool.eq_false_iff.2 hany) _ (seg_mem cs f n i hfn hi)
          simpa using hall
        have HR := hid hfree; clear hfree
        generalize idxOf (· != 0) ((cs.drop f).take n) = x at *
        go_wp2_with (go_at_call 27; refine (HI.out).mono ?_; rintro e w' ⟨rfl, rfl⟩)
        go_loopw [40] (fun i wr => ∃ k : Nat, k ≤ n ∧ i = .int .i64 k ∧ Wrote c (upd cs f k (fun _ => 1)) w wr) (fun i _ => n - (intOf i).toNat)
        case atStart => exact ⟨0, Nat.zero_le _, rfl, by rw [upd_zero]; exact Wrote.none H⟩
        case round =>
          obtain ⟨k, hk, rfl, hwr⟩ := hrel
          by_cases hkn : k < n
          · have hcell := hwr.cell (f + k) (by simp; omega)
            have hfree := hwr.free (f + k)
            have hnext := hwr.next 1 rfl
            have HW := hid hwr; clear hwr
            have HN := hid hnext; clear hnext
            go_wp2
            go_roundw
            case rel => exact ⟨k + 1, by omega, by go_num, HN.out⟩
            case measure => simp [intOf]; omega
          · go_wp2
            go_ret2
            obtain rfl : k = n := by omega
            exact .inl ⟨f, rfl, HR.out, HF.out, hwr⟩
      · obtain ⟨x, hx⟩ : ∃ x : Nat, idxOf (· != 0) ((cs.drop f).take n) = x := ⟨_, (Int.toNat_of_nonneg (by omega)).symm⟩
        have hxn : x < n ∧ cs.getD (f + x) 0 ≠ 0 := by
          unfold idxOf at hx
          split at hx
          · rename_i hq
            have e : ((cs.drop f).take n).findIdx (· != 0) = x := by omega
            have h1 := List.findIdx_getElem (w := hq)
            simp only [e] at h1
            have hq' : x < n := by rw [e, HS.out] at hq; exact hq
            refine ⟨hq', ?_⟩
            have : f + x < cs.length := by omega
            simpa [List.getD, this] using h1
          · omega
        have HI2 := HI.out
        rw [hx] at HI2
        have HI2 := hid HI2
        obtain ⟨hxn, hx0⟩ := hxn
        have hafter : ∀ g, g < f + (x + 1) → ¬ freeAt cs n g := by
          intro g hg hfr
          rcases Nat.lt_or_ge g f with h' | h'
          · exact HF.out g h' hfr
          · apply hx0
            have := hfr.2 (f + x - g) (by omega)
            rwa [show g + (f + x - g) = f + x by omega] at this
        have HA := hid hafter
        clear hafter hx0 hx hlt HI
        go_wp2_with (go_at_call 27; refine (HI2.out).mono ?_; rintro e w' ⟨rfl, rfl⟩)
        go_round
        case rel => exact ⟨f + (x + 1), by omega, by go_num, HA.out⟩
        case measure => simp [intOf]; omega
    · go_wp2
      go_ret2
      refine .inr ⟨rfl, fun g hg => ?_, rfl⟩
      rcases Nat.lt_or_ge g f with h' | h'
      · exact HF.out g h' hg
      · have := hg.1; omega
end Go.Proofs.Ytompkoihmjenjaa
