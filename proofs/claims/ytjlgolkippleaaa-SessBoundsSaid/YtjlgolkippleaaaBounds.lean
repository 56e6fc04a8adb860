/-
  SessBounds: the walk.
-/
import Derived.Test.YtjlgolkippleaaaOrder
namespace Go.Proofs.Ytjlgolkippleaaa
open Go.RowKit

def InRel (B W : Nat) (L : Lay) (M : WM) (w : World) (i : Value) (wr : World) : Prop := ∃ j : Nat, j ≤ 2 ∧ i = .int .i64 j ∧ NetAt B wr W L M ∧ Keep (From B) w wr
set_option maxRecDepth 100000 in
set_option maxHeartbeats 4000000 in
theorem bounds_any (w : World) (ao : Option Addr) (len cap : Nat) (hlc : len ≤ cap) (hS : Dos w ao len) :
    Calls Try.prog 5 #[.slice ao len cap] w fun e w' => e = .returned (.bool true) ∧ Below w.heap.size w w' := by
  have HS := hid hS
  clear hS
  go_enter Try.func5, Try.ntmps5
  go_wp2_with fail
  refine (begin_any w).mono ?_
  rintro e w1 ⟨W, L, rfl, hN, k1⟩
  have HN1 := hid hN
  have K1 := hid k1
  clear hN k1
  go_wp2_with fail
  refine (alive_any w1).mono ?_
  rintro e w2 ⟨rfl, k2⟩
  have HN2 := hid (HN1.out.nil k2)
  have K2 : Hid (Keep (From w.heap.size) w w2) := hid ((K1.out.trans k2).mono (fun _ _ e => e.elim))
  clear k2 HN1 K1
  by_cases h20 : (len : Int) ≤ 2000
  · have h20' : len ≤ 2000 := by omega
    have hR : Hid (LoopRel w.heap.size W len L.p w (.int .i64 0) w2) := hid ⟨0, L, startM, Nat.zero_le _, rfl, rfl, HN2.out, inv_start, K2.out⟩
    go_wp2_with fail
    go_loopw [27] (fun i wr => LoopRel w.heap.size W len L.p w i wr) (fun i _ => len - (intOf i).toNat)
    case atStart => exact hR.out
    case round =>
      obtain ⟨k, L1, M, hk, rfl, hLp, hN, hI, hK⟩ := hrel
      have HN := hid hN
      have HI := hid hI
      have HK := hid hK
      replace hLp := hid hLp
      clear hN hI hK
      by_cases hkn : k < len
      · obtain ⟨b', off, kk, side, ix, at_, by_, lv, l, rfl, hc, ⟨hk0, hk1⟩, ⟨hb0, hb1⟩, hbt⟩ := HS.out.at_ k (by omega)
        obtain ⟨aol, capl, rfl, -⟩ := id hbt
        have hbl : ¬ From w.heap.size b' := fun e => by
          have h1 : b' < w.heap.size := cell_lt (hc 0 (by omega))
          have h2 : w.heap.size ≤ b' := e
          omega
        have y0 : wr.cell? ⟨b', off + k * 6, none⟩ = some (.int .u8 kk) := HK.out.cell (hc 0 (by omega)) hbl
        have y1 : wr.cell? ⟨b', off + k * 6 + 1, none⟩ = some (.int .i64 side) := HK.out.cell (hc 1 (by omega)) hbl
        have y2 : wr.cell? ⟨b', off + k * 6 + 2, none⟩ = some (.int .i64 ix) := HK.out.cell (hc 2 (by omega)) hbl
        have y3 : wr.cell? ⟨b', off + k * 6 + 3, none⟩ = some (.int .i64 at_) := HK.out.cell (hc 3 (by omega)) hbl
        have y4 : wr.cell? ⟨b', off + k * 6 + 4, none⟩ = some (.int .u8 by_) := HK.out.cell (hc 4 (by omega)) hbl
        have y5 : wr.cell? ⟨b', off + k * 6 + 5, none⟩ = some (.slice aol l.length capl) := HK.out.cell (hc 5 (by omega)) hbl
        have HA := hid (HN.out.nil ((Keep.refl wr).alloc (.cells #[.int .u8 kk, .int .i64 side, .int .i64 ix, .int .i64 at_, .int .u8 by_, .slice aol l.length capl] 29)))
        have KA := hid (HK.out.trans (((Keep.refl (S := Nil) wr).alloc (.cells #[.int .u8 kk, .int .i64 side, .int .i64 ix, .int .i64 at_, .int .u8 by_, .slice aol l.length capl] 29)).mono (fun _ _ e => e.elim)))
        have hdo := hid (ndo (wr.alloc (.cells #[.int .u8 kk, .int .i64 side, .int .i64 ix, .int .i64 at_, .int .u8 by_, .slice aol l.length capl] 29)) w.heap.size W k L1 M kk side ix at_ by_ _ l HI.out HA.out ((hbt.keep HK.out (mut_from (Nat.le_refl _))).alloc (.cells #[.int .u8 kk, .int .i64 side, .int .i64 ix, .int .i64 at_, .int .u8 by_, .slice aol l.length capl] 29)) hk0 hk1 hb0 hb1)
        have hinv := hid (fun M' (d : Deed M M') => inv_deed HI.out (by omega) d)
        have hkT : k + 1 ≤ len := by omega
        clear hc hbt HN HK HI hk0 hk1 hb0 hb1
        go_wp2_with fail
        refine hdo.out.mono ?_
        rintro e w3 ⟨M', hd, rfl, L', hL', hN', hk'⟩
        have HN3 := hid hN'
        have HI3 := hid (hinv.out M' hd)
        have K3 := hid (KA.out.trans hk')
        have hLq := hid (hL'.trans hLp.out)
        clear hdo hinv hd hL' hN' hk' HA KA y0 y1 y2 y3 y4 y5
        go_wp2_with fail
        go_loopw [34] (fun i wr2 => InRel w.heap.size W L' M' w i wr2) (fun i _ => 2 - (intOf i).toNat)
        case atStart => exact ⟨0, by omega, rfl, HN3.out, K3.out⟩
        case round =>
          obtain ⟨j, hj, rfl, hN4, hK4⟩ := hrel
          have HN4 := hid hN4
          have HK4 := hid hK4
          clear hN4 hK4
          by_cases hj2 : j < 2
          · obtain ⟨r, hr, hr2⟩ : ∃ r : Nat, 1 - j = r ∧ r < 2 := ⟨_, rfl, by omega⟩
            have hrw : IntKind.i64.wrap (1 - ((j : Nat) : Int)) = (r : Int) := by rw [show (1 : Int) - ((j : Nat) : Int) = (r : Int) by omega]; exact IntWalk.i64_in _ (by omega)
            have hsI : ((j : Nat) : Int) < 2 := by omega
            have hrI : ((r : Nat) : Int) < 2 := by omega
            have x0 := HN4.out.cEnd hj2
            have xr := HN4.out.cEnd hr2
            replace hr := hid hr
            go_wp2_with fail
            go_quiet (fail)
            have HN5 := hid (HN4.out.drewN (n := nq))
            have HK5 := hid (keep_drewN nq HK4.out)
            clear x0 xr hrw HN4 HK4
            generalize wr.drewN nq = w5 at *
            obtain ⟨hr1, -, -⟩ := HN5.out.sent j hj2
            obtain ⟨aot, capt, hut⟩ := hr1.shape
            have x4 := HN5.out.cSent hj2
            rw [hut] at x4
            have hE := HI3.out.side j hj2
            have hEr := HI3.out.side r hr2
            have F1 := open_end (HN5.out.ends j hj2) (by rw [hE.epoch]; decide)
            have F2 := came_end (HN5.out.ends r hr2) (by rw [hEr.epoch]; decide)
            have F3 := epoch_end (HN5.out.ends j hj2) (by rw [hE.epoch]; decide)
            have hcm := hE.came
            rw [hr.out] at hcm
            rw [hcm] at F2
            rw [hE.epoch] at F3
            have hd1 : decide (8 < ((M'.E j).opened.length : Int)) = false := by have := hE.len; simp; omega
            have hd2 : decide (((M'.S j).length : Int) < ((M'.C j : Nat) : Int)) = false := by have := hE.le; simp; omega
            have hd3 : decide ((M'.S j).length < M'.C j) = false := by have := hE.le; simp; omega
            have hwb : IntKind.i64.wrap (((M'.S j).length : Int) - ((M'.E j).opened.length : Int)) = (M'.E j).base := by
              have h1 := hE.sum
              have h2 := HI3.out.small j hj2
              have h3 := HI3.out.few
              rw [show ((M'.S j).length : Int) - ((M'.E j).opened.length : Int) = (M'.E j).base by omega]
              exact IntWalk.i64_in _ (by have := hE.base; omega)
            have hd4 : decide (((M'.C j : Nat) : Int) < (M'.E j).base) = false := by have := hE.acked; simp; omega
            replace F1 := hid F1
            replace F2 := hid F2
            replace F3 := hid F3
            clear hr1 hut hE hEr hcm
            generalize (M'.E j).opened.length = ol at *
            generalize (M'.E j).base = bs at *
            generalize (M'.S j).length = sl at *
            generalize M'.C j = cj at *
            go_wp2_with fail
            refine F1.out.mono ?_
            rintro e w6 ⟨rfl, rfl⟩
            go_wp2_with fail
            refine F1.out.mono ?_
            rintro e w6 ⟨rfl, rfl⟩
            go_wp2_with fail
            refine F2.out.mono ?_
            rintro e w6 ⟨rfl, rfl⟩
            go_wp2_with fail
            refine F1.out.mono ?_
            rintro e w6 ⟨rfl, rfl⟩
            go_wp2_with fail
            refine F2.out.mono ?_
            rintro e w6 ⟨rfl, rfl⟩
            go_wp2_with fail
            refine F3.out.mono ?_
            rintro e w6 ⟨rfl, rfl⟩
            clear F1 F2 F3
            go_wp2_with fail
            go_roundw
            case rel => exact ⟨j + 1, by omega, by go_num, HN5.out, HK5.out⟩
            case measure => simp [intOf] <;> omega
          · have hnext := hid (LoopRel.next (T := len) (w := w) hkT hLq.out HN4.out HI3.out HK4.out)
            go_wp2_with fail
            go_roundw
            case rel => exact hnext.out
            case measure => simp [intOf] <;> omega
      · obtain rfl : k = len := by omega
        have hbel : Hid (Below w.heap.size w wr) := hid (HK.out.below (fun _ e => e) (Nat.le_refl _))
        have x8 := HN.out.cBad
        clear HN HK HI
        go_wp2
        go_ret
        exact ⟨rfl, hbel.out⟩
  · have h20' : 2000 ≤ len := by omega
    have hcap : 2000 ≤ cap := by omega
    have hR : Hid (LoopRel w.heap.size W 2000 L.p w (.int .i64 0) w2) := hid ⟨0, L, startM, Nat.zero_le _, rfl, rfl, HN2.out, inv_start, K2.out⟩
    go_wp2_with fail
    go_loopw [27] (fun i wr => LoopRel w.heap.size W 2000 L.p w i wr) (fun i _ => 2000 - (intOf i).toNat)
    case atStart => exact hR.out
    case round =>
      obtain ⟨k, L1, M, hk, rfl, hLp, hN, hI, hK⟩ := hrel
      have HN := hid hN
      have HI := hid hI
      have HK := hid hK
      replace hLp := hid hLp
      clear hN hI hK
      by_cases hkn : k < 2000
      · obtain ⟨b', off, kk, side, ix, at_, by_, lv, l, rfl, hc, ⟨hk0, hk1⟩, ⟨hb0, hb1⟩, hbt⟩ := HS.out.at_ k (by omega)
        obtain ⟨aol, capl, rfl, -⟩ := id hbt
        have hbl : ¬ From w.heap.size b' := fun e => by
          have h1 : b' < w.heap.size := cell_lt (hc 0 (by omega))
          have h2 : w.heap.size ≤ b' := e
          omega
        have y0 : wr.cell? ⟨b', off + k * 6, none⟩ = some (.int .u8 kk) := HK.out.cell (hc 0 (by omega)) hbl
        have y1 : wr.cell? ⟨b', off + k * 6 + 1, none⟩ = some (.int .i64 side) := HK.out.cell (hc 1 (by omega)) hbl
        have y2 : wr.cell? ⟨b', off + k * 6 + 2, none⟩ = some (.int .i64 ix) := HK.out.cell (hc 2 (by omega)) hbl
        have y3 : wr.cell? ⟨b', off + k * 6 + 3, none⟩ = some (.int .i64 at_) := HK.out.cell (hc 3 (by omega)) hbl
        have y4 : wr.cell? ⟨b', off + k * 6 + 4, none⟩ = some (.int .u8 by_) := HK.out.cell (hc 4 (by omega)) hbl
        have y5 : wr.cell? ⟨b', off + k * 6 + 5, none⟩ = some (.slice aol l.length capl) := HK.out.cell (hc 5 (by omega)) hbl
        have HA := hid (HN.out.nil ((Keep.refl wr).alloc (.cells #[.int .u8 kk, .int .i64 side, .int .i64 ix, .int .i64 at_, .int .u8 by_, .slice aol l.length capl] 29)))
        have KA := hid (HK.out.trans (((Keep.refl (S := Nil) wr).alloc (.cells #[.int .u8 kk, .int .i64 side, .int .i64 ix, .int .i64 at_, .int .u8 by_, .slice aol l.length capl] 29)).mono (fun _ _ e => e.elim)))
        have hdo := hid (ndo (wr.alloc (.cells #[.int .u8 kk, .int .i64 side, .int .i64 ix, .int .i64 at_, .int .u8 by_, .slice aol l.length capl] 29)) w.heap.size W k L1 M kk side ix at_ by_ _ l HI.out HA.out ((hbt.keep HK.out (mut_from (Nat.le_refl _))).alloc (.cells #[.int .u8 kk, .int .i64 side, .int .i64 ix, .int .i64 at_, .int .u8 by_, .slice aol l.length capl] 29)) hk0 hk1 hb0 hb1)
        have hinv := hid (fun M' (d : Deed M M') => inv_deed HI.out (by omega) d)
        have hkT : k + 1 ≤ 2000 := by omega
        clear hc hbt HN HK HI hk0 hk1 hb0 hb1
        go_wp2_with fail
        refine hdo.out.mono ?_
        rintro e w3 ⟨M', hd, rfl, L', hL', hN', hk'⟩
        have HN3 := hid hN'
        have HI3 := hid (hinv.out M' hd)
        have K3 := hid (KA.out.trans hk')
        have hLq := hid (hL'.trans hLp.out)
        clear hdo hinv hd hL' hN' hk' HA KA y0 y1 y2 y3 y4 y5
        go_wp2_with fail
        go_loopw [34] (fun i wr2 => InRel w.heap.size W L' M' w i wr2) (fun i _ => 2 - (intOf i).toNat)
        case atStart => exact ⟨0, by omega, rfl, HN3.out, K3.out⟩
        case round =>
          obtain ⟨j, hj, rfl, hN4, hK4⟩ := hrel
          have HN4 := hid hN4
          have HK4 := hid hK4
          clear hN4 hK4
          by_cases hj2 : j < 2
          · obtain ⟨r, hr, hr2⟩ : ∃ r : Nat, 1 - j = r ∧ r < 2 := ⟨_, rfl, by omega⟩
            have hrw : IntKind.i64.wrap (1 - ((j : Nat) : Int)) = (r : Int) := by rw [show (1 : Int) - ((j : Nat) : Int) = (r : Int) by omega]; exact IntWalk.i64_in _ (by omega)
            have hsI : ((j : Nat) : Int) < 2 := by omega
            have hrI : ((r : Nat) : Int) < 2 := by omega
            have x0 := HN4.out.cEnd hj2
            have xr := HN4.out.cEnd hr2
            replace hr := hid hr
            go_wp2_with fail
            go_quiet (fail)
            have HN5 := hid (HN4.out.drewN (n := nq))
            have HK5 := hid (keep_drewN nq HK4.out)
            clear x0 xr hrw HN4 HK4
            generalize wr.drewN nq = w5 at *
            obtain ⟨hr1, -, -⟩ := HN5.out.sent j hj2
            obtain ⟨aot, capt, hut⟩ := hr1.shape
            have x4 := HN5.out.cSent hj2
            rw [hut] at x4
            have hE := HI3.out.side j hj2
            have hEr := HI3.out.side r hr2
            have F1 := open_end (HN5.out.ends j hj2) (by rw [hE.epoch]; decide)
            have F2 := came_end (HN5.out.ends r hr2) (by rw [hEr.epoch]; decide)
            have F3 := epoch_end (HN5.out.ends j hj2) (by rw [hE.epoch]; decide)
            have hcm := hE.came
            rw [hr.out] at hcm
            rw [hcm] at F2
            rw [hE.epoch] at F3
            have hd1 : decide (8 < ((M'.E j).opened.length : Int)) = false := by have := hE.len; simp; omega
            have hd2 : decide (((M'.S j).length : Int) < ((M'.C j : Nat) : Int)) = false := by have := hE.le; simp; omega
            have hd3 : decide ((M'.S j).length < M'.C j) = false := by have := hE.le; simp; omega
            have hwb : IntKind.i64.wrap (((M'.S j).length : Int) - ((M'.E j).opened.length : Int)) = (M'.E j).base := by
              have h1 := hE.sum
              have h2 := HI3.out.small j hj2
              have h3 := HI3.out.few
              rw [show ((M'.S j).length : Int) - ((M'.E j).opened.length : Int) = (M'.E j).base by omega]
              exact IntWalk.i64_in _ (by have := hE.base; omega)
            have hd4 : decide (((M'.C j : Nat) : Int) < (M'.E j).base) = false := by have := hE.acked; simp; omega
            replace F1 := hid F1
            replace F2 := hid F2
            replace F3 := hid F3
            clear hr1 hut hE hEr hcm
            generalize (M'.E j).opened.length = ol at *
            generalize (M'.E j).base = bs at *
            generalize (M'.S j).length = sl at *
            generalize M'.C j = cj at *
            go_wp2_with fail
            refine F1.out.mono ?_
            rintro e w6 ⟨rfl, rfl⟩
            go_wp2_with fail
            refine F1.out.mono ?_
            rintro e w6 ⟨rfl, rfl⟩
            go_wp2_with fail
            refine F2.out.mono ?_
            rintro e w6 ⟨rfl, rfl⟩
            go_wp2_with fail
            refine F1.out.mono ?_
            rintro e w6 ⟨rfl, rfl⟩
            go_wp2_with fail
            refine F2.out.mono ?_
            rintro e w6 ⟨rfl, rfl⟩
            go_wp2_with fail
            refine F3.out.mono ?_
            rintro e w6 ⟨rfl, rfl⟩
            clear F1 F2 F3
            go_wp2_with fail
            go_roundw
            case rel => exact ⟨j + 1, by omega, by go_num, HN5.out, HK5.out⟩
            case measure => simp [intOf] <;> omega
          · have hnext := hid (LoopRel.next (T := 2000) (w := w) hkT hLq.out HN4.out HI3.out HK4.out)
            go_wp2_with fail
            go_roundw
            case rel => exact hnext.out
            case measure => simp [intOf] <;> omega
      · have hkT : k = 2000 := by omega
        have hbel : Hid (Below w.heap.size w wr) := hid (HK.out.below (fun _ e => e) (Nat.le_refl _))
        have x8 := HN.out.cBad
        clear HN HK HI
        go_wp2
        go_ret
        exact ⟨rfl, hbel.out⟩
end Go.Proofs.Ytjlgolkippleaaa
