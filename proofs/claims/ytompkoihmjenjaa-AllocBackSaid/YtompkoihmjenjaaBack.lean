/-
  AllocBack: what was taken, shared so often, dropped as often as it was held, and settled, is free again: the walk.
-/
import Derived.Test.YtompkoihmjenjaaAlive
namespace Go.Proofs.Ytompkoihmjenjaa
open Go.RowKit

/-- n units are held v times, the others are free -/
def lay (U n : Nat) (v : Int) : List Int := List.replicate n v ++ List.replicate (U - n) 0
theorem lay_len (U n : Nat) (v : Int) (h : n ≤ U) : (lay U n v).length = U := by simp [lay]; omega
theorem lay_zero (U n : Nat) (h : n ≤ U) : lay U n 0 = List.replicate U 0 := by
  unfold lay; rw [List.replicate_append_replicate]; congr 1; omega
theorem lay_get (U n : Nat) (v : Int) (i : Nat) (h : i < U) (hn : n ≤ U) : (lay U n v).getD i 0 = if i < n then v else 0 := by
  unfold lay
  simp only [List.getD, List.getElem?_append, List.length_replicate, List.getElem?_replicate]
  by_cases e : i < n
  · simp [e]
  · simp [e, show i - n < U - n by omega]
theorem lay_seg (U n : Nat) (v : Int) : ((lay U n v).drop 0).take n = List.replicate n v := by simp [lay]
theorem upd_lay (U n : Nat) (v : Int) (g : Int → Int) (h : n ≤ U) : upd (lay U n v) 0 n g = lay U n (g v) := by
  apply List.ext_getElem
  · simp [lay_len, h]
  · intro i h1 h2
    have hi : i < U := by simpa [lay_len, h] using h2
    have e1 := upd_get (lay U n v) 0 n i g (by rw [lay_len _ _ _ h]; exact hi)
    have e2 := lay_get U n (g v) i hi h
    have e3 := lay_get U n v i hi h
    simp only [List.getD, List.getElem?_eq_getElem h1, List.getElem?_eq_getElem h2, Option.getD_some] at e1 e2
    rw [e1, e2]
    rw [show ((lay U n v)[i]?.getD 0) = (lay U n v).getD i 0 from rfl, e3]
    by_cases e : i < n
    · rw [if_pos (by omega), if_pos e, if_pos e]
    · rw [if_neg (by omega), if_neg e, if_neg e]
theorem lay_mem (U n : Nat) (v x : Int) (h : x ∈ lay U n v) : x = v ∨ x = 0 := by
  unfold lay at h
  rcases List.mem_append.1 h with h | h
  · exact .inl (List.mem_replicate.1 h).2
  · exact .inr (List.mem_replicate.1 h).2
theorem cnt_lay (U n : Nat) (v x : Int) : cnt x (lay U n v) = (if v = x then n else 0) + (if x = 0 then U - n else 0) := by
  unfold cnt lay
  rw [List.filter_append, List.length_append, List.filter_replicate, List.filter_replicate]
  congr 1
  · by_cases e : v = x <;> simp [e]
  · by_cases e : x = 0
    · subst e; simp
    · have : (0 : Int) ≠ x := fun h => e h.symm
      simp [e, this]
theorem held_lay (U n : Nat) (v : Int) (h : n ≤ U) (h1 : 1 ≤ n) : heldErr (lay U n v) (0 : Int) n = if v ≤ 0 then 9 else 0 := by
  unfold heldErr
  rw [if_neg (by rw [lay_len _ _ _ h]; omega)]
  simp only [Int.toNat_zero, Int.toNat_natCast, lay_seg]
  by_cases e : v ≤ 0
  · rw [if_pos (by rw [List.any_eq_true]; exact ⟨v, List.mem_replicate.2 ⟨by omega, rfl⟩, by simpa using e⟩), if_pos e]
  · rw [if_neg (by rw [List.any_eq_true]; rintro ⟨x, hx, h⟩; rw [(List.mem_replicate.1 hx).2] at h; simp at h; exact e h), if_neg e]
theorem held_lay_ok (U n : Nat) (v : Int) (h : n ≤ U) (h1 : 1 ≤ n) (hv : 1 ≤ v) : heldErr (lay U n v) (0 : Int) n = 0 := by
  rw [held_lay U n v h h1, if_neg (by omega)]
theorem share_lay (U n : Nat) (v : Int) (h : n ≤ U) (h1 : 1 ≤ n) (hv : 1 ≤ v) (hv2 : v < 1048576) : shareErr (lay U n v) (0 : Int) n = 0 := by
  unfold shareErr
  rw [held_lay_ok U n v h h1 hv, if_pos rfl]
  simp only [Int.toNat_zero, Int.toNat_natCast, lay_seg]
  rw [if_neg (by rw [List.any_eq_true]; rintro ⟨x, hx, h⟩; rw [(List.mem_replicate.1 hx).2] at h; simp at h; omega)]
theorem shareTo_lay (U n : Nat) (v : Int) (h : n ≤ U) (h1 : 1 ≤ n) (hv : 1 ≤ v) (hv2 : v < 1048576) : shareTo (lay U n v) (0 : Int) n = lay U n (v + 1) := by
  unfold shareTo
  rw [share_lay U n v h h1 hv hv2, if_pos rfl]
  exact upd_lay U n v _ h
theorem dropTo_lay (U n : Nat) (v : Int) (h : n ≤ U) (h1 : 1 ≤ n) (hv : 1 ≤ v) : dropTo (lay U n v) (0 : Int) n = lay U n (less v) := by
  unfold dropTo
  rw [held_lay_ok U n v h h1 hv, if_pos rfl]
  exact upd_lay U n v _ h
theorem gone_lay (U n : Nat) (v : Int) (h : n ≤ U) (h1 : 1 ≤ n) (hv : 1 ≤ v) : goneOf (lay U n v) (0 : Int) n = if v = 1 then (n : Int) else 0 := by
  unfold goneOf
  rw [held_lay_ok U n v h h1 hv, if_pos rfl]
  unfold ones
  simp only [Int.toNat_zero, Int.toNat_natCast, lay_seg]
  unfold cnt
  rw [List.filter_replicate]
  by_cases e : v = 1 <;> simp [e]
theorem settle_lay (U n : Nat) (h : n ≤ U) : (lay U n (-1)).map settleG = List.replicate U 0 := by
  rw [← lay_zero U n h]
  unfold lay
  rw [List.map_append, List.map_replicate, List.map_replicate]; rfl
theorem free_rep (U n f : Nat) : freeAt (List.replicate U 0) n f ↔ f + n ≤ U := by
  unfold freeAt
  constructor
  · intro h; simpa using h.1
  · intro h
    refine ⟨by simpa using h, fun i hi => ?_⟩
    simp [List.getD, show f + i < U by omega]

set_option maxHeartbeats 1000000 in
theorem back_any (w : World) (u n : Int) (t : Nat) (hn : n ≤ 9223372036854775807) (ht : t ≤ 255) :
    Calls Try.prog 3 #[.int .i64 u, .int .i64 n, .int .u8 t] w fun e w' => e = .returned (.bool true) ∧ Below w.heap.size w w' := by
  by_cases hu : u < 1 ∨ 4096 < u
  · go_enter Try.func3, Try.ntmps3
    go_wp2_with (first | (go_at_call 9; refine (new_bad _ _ hu).mono ?_; rintro e w' ⟨rfl, rfl⟩) | (go_at_call 10; refine (alive_any _).mono ?_; rintro e w' ⟨rfl, hb⟩))
    go_ret
    exact ⟨rfl, hb⟩
  obtain ⟨U, rfl⟩ := Int.eq_ofNat_of_zero_le (by omega : 0 ≤ u)
  have hU1 : 1 ≤ U := by omega
  have hU2 : U ≤ 4096 := by omega
  clear hu
  by_cases hn1 : n < 1
  · go_enter Try.func3, Try.ntmps3
    go_wp2_with fail
    refine (new_good _ U hU1 hU2).mono ?_
    rintro e w1 ⟨p, c, rfl, h1⟩
    have b1 := h1.below (Nat.le_refl _)
    go_wp2_with fail
    refine (alive_any _).mono ?_
    rintro e w2 ⟨rfl, b2⟩
    have H2 := h1.has.below b2
    go_wp2_with fail
    refine (take_bad _ p c _ n hn1 H2).mono ?_
    rintro e w3 ⟨rfl, rfl⟩
    go_wp2
    go_ret
    exact ⟨rfl, b1.trans (b2.mono b1.size)⟩
  obtain ⟨n, rfl⟩ := Int.eq_ofNat_of_zero_le (by omega : 0 ≤ n)
  have hn2 : 1 ≤ n := by omega
  have hnm : n ≤ 9223372036854775807 := by omega
  clear hn1 hn
  by_cases hnU : U < n
  · go_enter Try.func3, Try.ntmps3
    go_wp2_with fail
    refine (new_good _ U hU1 hU2).mono ?_
    rintro e w1 ⟨p, c, rfl, h1⟩
    have b1 := h1.below (Nat.le_refl _)
    go_wp2_with fail
    refine (alive_any _).mono ?_
    rintro e w2 ⟨rfl, b2⟩
    have H2 := h1.has.below b2
    go_wp2_with fail
    refine (take_none hn2 hnm H2 (fun g hg => by have := (free_rep U n g).1 hg; omega)).mono ?_
    rintro e w3 ⟨rfl, rfl⟩
    go_wp2
    go_ret
    exact ⟨rfl, b1.trans (b2.mono b1.size)⟩
  have hnU : n ≤ U := by omega
  have hn4 : (n : Int) ≤ 4096 := by omega
  go_enter Try.func3, Try.ntmps3
  go_wp2_with fail
  refine (new_good _ U hU1 hU2).mono ?_
  rintro e w1 ⟨p, c, rfl, h1⟩
  have b1 := h1.below (Nat.le_refl _)
  have hc := h1.cnew
  go_wp2_with fail
  refine (alive_any _).mono ?_
  rintro e w2 ⟨rfl, b2⟩
  have H2 := h1.has.below b2
  have b2 := b1.trans (b2.mono b1.size)
  clear h1 b1
  go_wp2_with fail
  refine (take_exact (n := n) 0 hn2 hnm H2 ((free_rep U n 0).2 (by omega)) (fun g hg => absurd hg (Nat.not_lt_zero _))).mono ?_
  rintro e w3 ⟨rfl, h3⟩
  rw [← lay_zero U n hnU, upd_lay _ _ _ _ hnU] at h3
  have H3 : Has w3 p c (lay U n 1) := h3.has H2 (by rw [lay_len _ _ _ hnU]; simp)
  have b3 := b2.trans (h3.below hc b2.size)
  clear h3 b2 H2
  go_wp2_with fail
  go_loopw [55] (fun i wr => ∃ k : Nat, k ≤ t ∧ i = .int .u8 k ∧ Has wr p c (lay U n (1 + k)) ∧ Below w.heap.size w wr) (fun i _ => t - (intOf i).toNat)
  case atStart => exact ⟨0, Nat.zero_le _, rfl, H3, b3⟩
  case round =>
    obtain ⟨k, hk, rfl, hwr, hbr⟩ := hrel
    by_cases hkt : k < t
    · have hsh := share_some wr p c _ 0 n (by omega) hwr
      rw [share_lay U n (1 + k) hnU hn2 (by omega) (by omega), shareTo_lay U n (1 + k) hnU hn2 (by omega) (by omega)] at hsh
      have HS := hid hsh; clear hsh
      go_wp2_with fail
      refine HS.out.mono ?_
      rintro e w4 ⟨rfl, h4⟩
      have H4 := h4.has hwr (by rw [lay_len _ _ _ hnU, lay_len _ _ _ hnU])
      have b4 := hbr.trans (h4.below hc hbr.size)
      clear h4 hwr hbr
      go_wp2_with fail
      go_roundw
      case rel => exact ⟨k + 1, by omega, by go_num, by rw [show (1 : Int) + ((k + 1 : Nat) : Int) = 1 + k + 1 by omega]; exact H4, b4⟩
      case measure => simp [intOf]; omega
    · obtain rfl : k = t := by omega
      have H3 := hwr
      have b3 := hbr
      clear hwr hbr
      go_wp2_with fail
      go_loopw [64] (fun i wr => ∃ j : Nat, j ≤ k ∧ i = .int .u8 j ∧ Has wr p c (lay U n (1 + (k - j))) ∧ Below w.heap.size w wr) (fun i _ => k - (intOf i).toNat)
      case atStart => exact ⟨0, Nat.zero_le _, rfl, by simpa using H3, b3⟩
      case round =>
        obtain ⟨j, hj, rfl, hwr, hbr⟩ := hrel
        by_cases hjk : j < k
        · have hdr := drop_some _ p c _ 0 n (by omega) (fun x hx => by rcases lay_mem _ _ _ _ hx with h | h <;> omega) hwr
          rw [held_lay_ok U n _ hnU hn2 (by omega), dropTo_lay U n _ hnU hn2 (by omega), gone_lay U n _ hnU hn2 (by omega), if_neg (by omega)] at hdr
          have HS := hid hdr; clear hdr
          go_wp2_with fail
          refine HS.out.mono ?_
          rintro e w4 ⟨rfl, h4⟩
          have H4 := h4.has hwr (by rw [lay_len _ _ _ hnU, lay_len _ _ _ hnU])
          have b4 := hbr.trans (h4.below hc hbr.size)
          clear h4 hwr hbr
          go_wp2_with fail
          go_roundw
          case rel => exact ⟨j + 1, by omega, by go_num, by rw [show (1 : Int) + ((k : Int) - ((j + 1 : Nat) : Int)) = less (1 + (k - j)) by unfold less; rw [if_neg (by omega)]; omega]; exact H4, b4⟩
          case measure => simp [intOf]; omega
        · obtain rfl : j = k := by omega
          rw [show (1 : Int) + ((j : Int) - j) = 1 by omega] at hwr
          have c1 : ((cnt 0 (lay U n 1) : Nat) : Int) = (U : Int) - n := by rw [cnt_lay]; simp; omega
          have c2 : ((cnt 0 (lay U n (-1)) : Nat) : Int) = (U : Int) - n := by rw [cnt_lay]; simp; omega
          have c3 : ((cnt (-1) (lay U n (-1)) : Nat) : Int) = (n : Int) := by rw [cnt_lay]; simp
          have c4 : ((cnt 0 (List.replicate U 0) : Nat) : Int) = (U : Int) := by unfold cnt; rw [List.filter_replicate]; simp
          have hfr := free_some _ p c _ hwr
          rw [c1] at hfr
          have hdr := drop_some _ p c _ 0 n (by omega) (fun x hx => by rcases lay_mem _ _ _ _ hx with h | h <;> omega) hwr
          rw [held_lay_ok U n _ hnU hn2 (by omega), dropTo_lay U n _ hnU hn2 (by omega), gone_lay U n _ hnU hn2 (by omega), if_pos rfl] at hdr
          have HF := hid hfr
          have HD := hid hdr
          have C2 := hid c2
          have C3 := hid c3
          have C4 := hid c4
          clear hfr hdr c1 c2 c3 c4
          go_wp2_with fail
          refine HF.out.mono ?_
          rintro e w4 ⟨rfl, rfl⟩
          go_wp2_with fail
          refine HD.out.mono ?_
          rintro e w5 ⟨rfl, h5⟩
          have H5 : Has w5 p c (lay U n (-1)) := h5.has hwr (by rw [lay_len _ _ _ hnU, lay_len _ _ _ hnU])
          have b5 := hbr.trans (h5.below hc hbr.size)
          clear h5 hwr hbr
          go_wp2_with fail
          have hf := free_some _ p c _ H5
          rw [C2.out] at hf
          refine hf.mono ?_
          clear hf
          rintro e w6 ⟨rfl, rfl⟩
          go_wp2_with fail
          have hf := settle_some _ p c _ (fun x hx => by rcases lay_mem _ _ _ _ hx with h | h <;> omega) H5
          rw [C3.out, settle_lay U n hnU] at hf
          refine hf.mono ?_
          clear hf
          rintro e w6 ⟨rfl, h6⟩
          have H6 : Has w6 p c (List.replicate U 0) := h6.has H5 (by rw [lay_len _ _ _ hnU]; simp)
          have b6 := b5.trans (h6.below hc b5.size)
          clear h6 H5 b5
          go_wp2_with fail
          have hf := free_some _ p c _ H6
          rw [C4.out] at hf
          refine hf.mono ?_
          clear hf
          rintro e w7 ⟨rfl, rfl⟩
          go_wp2_with fail
          rw [← lay_zero U n hnU] at H6
          have hf := share_some _ p c _ 0 n (by omega) H6
          have he : shareErr (lay U n 0) 0 n = 9 := by
            have h9 : heldErr (lay U n 0) (0 : Int) n = 9 := by rw [held_lay U n 0 hnU hn2]; rfl
            unfold shareErr
            rw [h9]; rfl
          have ht : shareTo (lay U n 0) 0 n = lay U n 0 := by unfold shareTo; rw [he, if_neg (by omega)]
          rw [he, ht] at hf
          refine hf.mono ?_
          clear hf he ht
          rintro e w7 ⟨rfl, h7⟩
          have b7 := b6.trans (h7.below hc b6.size)
          go_wp2
          go_ret
          exact ⟨rfl, b7⟩
end Go.Proofs.Ytompkoihmjenjaa
