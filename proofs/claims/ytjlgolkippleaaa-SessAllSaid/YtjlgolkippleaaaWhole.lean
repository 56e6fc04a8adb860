/-
  SessAll: the walk.
-/
import Derived.Test.YtjlgolkippleaaaOrder
namespace Go.Proofs.Ytjlgolkippleaaa
open Go.RowKit

def bagLen (W o : Nat) (w : World) : Nat := match w.cell? ⟨W, o, none⟩ with
  | some (.slice _ n _) => n
  | _ => 0
def FlRel (B W : Nat) (p : Nat → Nat) (M0 : WM) (s : Nat) (w wr : World) : Prop := ∃ (L : Lay) (M : WM), L.p = p ∧ NetAt B wr W L M ∧ Inv 2000 M ∧ (∀ M', Flush s M M' → Flush s M0 M') ∧ Keep (From B) w wr
def SideRel (B W : Nat) (p : Nat → Nat) (h : Nat) (w : World) (i : Value) (wr : World) : Prop := ∃ (j : Nat) (L : Lay) (M : WM), j ≤ 2 ∧ i = .int .i64 j ∧ L.p = p ∧ NetAt B wr W L M ∧ Inv 2000 M ∧ Stage (2 * h + j) M ∧ Keep (From B) w wr
def RoundRel (B W : Nat) (p : Nat → Nat) (w : World) (i : Value) (wr : World) : Prop := ∃ (h : Nat) (L : Lay) (M : WM), h ≤ 10 ∧ i = .int .i64 h ∧ L.p = p ∧ NetAt B wr W L M ∧ Inv 2000 M ∧ Stage (2 * h) M ∧ Keep (From B) w wr
def InRelA (B W : Nat) (L : Lay) (M : WM) (w : World) (i : Value) (wr : World) : Prop := ∃ j : Nat, j ≤ 2 ∧ i = .int .i64 j ∧ NetAt B wr W L M ∧ Keep (From B) w wr
theorem quiet_this {P : Program} {f : FuncId} {args : Array Value} {w : World} {n : Nat} {v : Value}
    (h : Calls P f args (w.drewN n) fun e w' => e = .returned v ∧ w.drewN n = w') : Calls P f args (w.drewN n) fun e w'' => e = .returned v ∧ ∃ m, w'' = w.drewN m :=
  h.mono fun _ _ ⟨he, hm⟩ => ⟨he, n, hm.symm⟩

set_option maxRecDepth 100000 in
set_option maxHeartbeats 16000000 in
theorem all_any (w : World) (ao : Option Addr) (len cap : Nat) (hlc : len ≤ cap) (hS : Dos w ao len) :
    Calls Try.prog 4 #[.slice ao len cap] w fun e w' => e = .returned (.bool true) ∧ Below w.heap.size w w' := by
  have HS := hid hS
  clear hS
  go_enter Try.func4, Try.ntmps4
  go_wp2_with fail
  refine (begin_any w).mono ?_
  rintro e w1 ⟨W, L, rfl, hN, k1⟩
  have HN1 := hid hN
  have K1 := hid k1
  clear hN k1
  go_wp2_with fail
  refine (alive_any w1).mono ?_
  rintro e w2 ⟨rfl, k2⟩
  have HN2 := hid (HN1.out.nil k2)
  have K2 : Hid (Keep (From w.heap.size) w w2) := hid ((K1.out.trans k2).mono (fun _ _ e => e.elim))
  clear k2 HN1 K1
  by_cases h20 : (len : Int) ≤ 2000
  · have h20' : len ≤ 2000 := by omega
    have hR : Hid (LoopRel w.heap.size W len L.p w (.int .i64 0) w2) := hid ⟨0, L, startM, Nat.zero_le _, rfl, rfl, HN2.out, inv_start, K2.out⟩
    go_wp2_with fail
    go_loopw [26] (fun i wr => LoopRel w.heap.size W len L.p w i wr) (fun i _ => len - (intOf i).toNat)
    case atStart => exact hR.out
    case round =>
      obtain ⟨k, L1, M, hk, rfl, hLp, hN, hI, hK⟩ := hrel
      have HN := hid hN
      have HI := hid hI
      have HK := hid hK
      replace hLp := hid hLp
      clear hN hI hK
      by_cases hkn : k < len
      · obtain ⟨b', off, kk, side, ix, at_, by_, lv, l, rfl, hc, ⟨hk0, hk1⟩, ⟨hb0, hb1⟩, hbt⟩ := HS.out.at_ k (by omega)
        obtain ⟨aol, capl, rfl, -⟩ := id hbt
        have hbl : ¬ From w.heap.size b' := fun e => by
          have h1 : b' < w.heap.size := cell_lt (hc 0 (by omega))
          have h2 : w.heap.size ≤ b' := e
          omega
        have y0 : wr.cell? ⟨b', off + k * 6, none⟩ = some (.int .u8 kk) := HK.out.cell (hc 0 (by omega)) hbl
        have y1 : wr.cell? ⟨b', off + k * 6 + 1, none⟩ = some (.int .i64 side) := HK.out.cell (hc 1 (by omega)) hbl
        have y2 : wr.cell? ⟨b', off + k * 6 + 2, none⟩ = some (.int .i64 ix) := HK.out.cell (hc 2 (by omega)) hbl
        have y3 : wr.cell? ⟨b', off + k * 6 + 3, none⟩ = some (.int .i64 at_) := HK.out.cell (hc 3 (by omega)) hbl
        have y4 : wr.cell? ⟨b', off + k * 6 + 4, none⟩ = some (.int .u8 by_) := HK.out.cell (hc 4 (by omega)) hbl
        have y5 : wr.cell? ⟨b', off + k * 6 + 5, none⟩ = some (.slice aol l.length capl) := HK.out.cell (hc 5 (by omega)) hbl
        have HA := hid (HN.out.nil ((Keep.refl wr).alloc (.cells #[.int .u8 kk, .int .i64 side, .int .i64 ix, .int .i64 at_, .int .u8 by_, .slice aol l.length capl] 29)))
        have KA := hid (HK.out.trans (((Keep.refl (S := Nil) wr).alloc (.cells #[.int .u8 kk, .int .i64 side, .int .i64 ix, .int .i64 at_, .int .u8 by_, .slice aol l.length capl] 29)).mono (fun _ _ e => e.elim)))
        have hdo := hid (ndo (wr.alloc (.cells #[.int .u8 kk, .int .i64 side, .int .i64 ix, .int .i64 at_, .int .u8 by_, .slice aol l.length capl] 29)) w.heap.size W k L1 M kk side ix at_ by_ _ l HI.out HA.out ((hbt.keep HK.out (mut_from (Nat.le_refl _))).alloc (.cells #[.int .u8 kk, .int .i64 side, .int .i64 ix, .int .i64 at_, .int .u8 by_, .slice aol l.length capl] 29)) hk0 hk1 hb0 hb1)
        have hinv := hid (fun M' (d : Deed M M') => inv_deed HI.out (by omega) d)
        have hkT : k + 1 ≤ len := by omega
        clear hc hbt HN HK HI hk0 hk1 hb0 hb1
        go_wp2_with fail
        refine hdo.out.mono ?_
        rintro e w3 ⟨M', hd, rfl, L', hL', hN', hk'⟩
        have hnext := hid (LoopRel.next (T := len) (w := w) hkT (hL'.trans hLp.out) hN' (hinv.out M' hd) (KA.out.trans hk'))
        clear hdo hinv hd hL' hN' hk' HA KA y0 y1 y2 y3 y4 y5
        go_wp2_with fail
        go_roundw
        case rel => exact hnext.out
        case measure => simp [intOf] <;> omega
      · obtain rfl : k = len := by omega
        have hstart : Hid (RoundRel w.heap.size W L.p w (.int .i64 0) wr) := hid ⟨0, L1, M, by omega, rfl, hLp.out, HN.out, HI.out.more (by omega) (by omega), trivial, HK.out⟩
        clear HN HK HI
        go_wp2_with fail
        go_loopw [34] (fun i wr => RoundRel w.heap.size W L.p w i wr) (fun i _ => 10 - (intOf i).toNat)
        case atStart => exact hstart.out
        case round =>
          obtain ⟨h, L2, M2, hh, rfl, hL2, hN2, hI2, hS2, hK2⟩ := hrel
          have HN2r := hid hN2
          have HI2 := hid hI2
          have HS2 := hid hS2
          have HK2r := hid hK2
          replace hL2 := hid hL2
          clear hN2 hI2 hS2 hK2
          by_cases hh10 : h < 10
          · have hdh : decide ((h : Int) < 10) = true := by simp; omega
            go_wp2_with fail
            go_loopw [36] (fun i wr => SideRel w.heap.size W L.p h w i wr) (fun i _ => 2 - (intOf i).toNat)
            case atStart => exact ⟨0, L2, M2, by omega, rfl, hL2.out, HN2r.out, HI2.out, HS2.out, HK2r.out⟩
            case round =>
              obtain ⟨s, L3, M3, hs2, rfl, hL3, hN3, hI3, hS3, hK3⟩ := hrel
              have HN3 := hid hN3
              have HI3 := hid hI3
              have HS3 := hid hS3
              have HK3 := hid hK3
              replace hL3 := hid hL3
              clear hN3 hI3 hS3 hK3
              by_cases hs : s < 2
              · have hsI : ((s : Nat) : Int) < 2 := by omega
                have hds : decide (((s : Nat) : Int) < 2) = true := by simp; omega
                go_wp2_with fail
                go_loopw [48] (fun _ wr => FlRel w.heap.size W L.p M3 s w wr) (fun _ wr => bagLen W (2 + s) wr)
                case atStart => exact ⟨L3, M3, hL3.out, HN3.out, HI3.out, fun _ f => f, HK3.out⟩
                case round =>
                  obtain ⟨Lc, Mc, hLc, hNc, hIc, hFc, hKc⟩ := hrel
                  obtain ⟨aoc, capc, hvc⟩ := (hNc.bags s hs).row.shape
                  have x2 := hNc.cBag hs
                  rw [hvc] at x2
                  have HNc := hid hNc
                  have HIc := hid hIc
                  have HFc := hid hFc
                  have HKc := hid hKc
                  replace hLc := hid hLc
                  have hbl : Hid (bagLen W (2 + s) wr = (Mc.G s).length) := hid (by unfold bagLen; rw [x2])
                  clear hNc hIc hFc hKc hvc
                  by_cases hg : 0 < (Mc.G s).length
                  · have hgI : (0 : Int) < ((Mc.G s).length : Int) := by omega
                    have hne : Hid (Mc.G s ≠ []) := hid (fun e => by rw [e] at hg; exact absurd hg (Nat.lt_irrefl _))
                    have hdel := hid (ndeliver wr w.heap.size W 2000 s 0 Lc Mc hs HIc.out HNc.out)
                    go_wp2_with fail
                    refine hdel.out.mono ?_
                    rintro e w5 ⟨M5, hd5, rfl, L5, hL5, hN5, hk5⟩
                    have hms : Hid (bagLen W (2 + s) w5 < bagLen W (2 + s) wr) := hid (by
                      obtain ⟨ao5, cap5, hv5⟩ := (hN5.bags s hs).row.shape
                      have z2 := hN5.cBag hs
                      rw [hv5] at z2
                      have h5 : bagLen W (2 + s) w5 = (M5.G s).length := by unfold bagLen; rw [z2]
                      have h6 := (deliv_facts hs HIc.out hne.out hd5).2.2.1
                      rw [h5, hbl.out, h6, List.length_tail]
                      omega)
                    have hfin : Hid (FlRel w.heap.size W L.p M3 s w w5) := hid ⟨L5, M5, hL5.trans hLc.out, hN5, inv_deliv hs HIc.out hd5, fun M' f => HFc.out M' (.more hne.out hd5 f), HKc.out.trans hk5⟩
                    clear hdel hd5 hL5 hN5 hk5 x2 hbl HNc HIc HFc HKc
                    go_wp2_with fail
                    go_roundw
                    case rel => exact hfin.out
                    case measure => exact hms.out
                  · have hl0 : (Mc.G s).length = 0 := by omega
                    have hFc : Hid (Flush s M3 Mc) := hid (HFc.out Mc (.done (List.eq_nil_of_length_eq_zero hl0)))
                    rw [hl0] at x2
                    clear hbl HFc hg
                    replace hl0 := hid hl0
                    go_wp2_with fail
                    refine (nstep wr w.heap.size W 2000 s Lc Mc hs HIc.out HNc.out).mono ?_
                    rintro e w6 ⟨rfl, L6, hL6, hN6, hk6⟩
                    have HN6 := hid hN6
                    have HI6 := hid (inv_step hs HIc.out)
                    have HK6 := hid (HKc.out.trans hk6)
                    replace hL6 := hid (hL6.trans hLc.out)
                    clear hN6 hk6 x2
                    go_wp2_with fail
                    go_loopw [63] (fun _ wr => FlRel w.heap.size W L.p (stepM Mc s) s w wr) (fun _ wr => bagLen W (2 + s) wr)
                    case atStart => exact ⟨L6, stepM Mc s, hL6.out, HN6.out, HI6.out, fun _ f => f, HK6.out⟩
                    case round =>
                      obtain ⟨Ld, Md, hLd, hNc, hIc, hFc, hKc⟩ := hrel
                      obtain ⟨aoc, capc, hvc⟩ := (hNc.bags s hs).row.shape
                      have x2 := hNc.cBag hs
                      rw [hvc] at x2
                      have HNd := hid hNc
                      have HId := hid hIc
                      have HFd := hid hFc
                      have HKd := hid hKc
                      replace hLd := hid hLd
                      have hbl : Hid (bagLen W (2 + s) wr = (Md.G s).length) := hid (by unfold bagLen; rw [x2])
                      clear hNc hIc hFc hKc hvc
                      by_cases hg : 0 < (Md.G s).length
                      · have hgI : (0 : Int) < ((Md.G s).length : Int) := by omega
                        have hne : Hid (Md.G s ≠ []) := hid (fun e => by rw [e] at hg; exact absurd hg (Nat.lt_irrefl _))
                        have hdel := hid (ndeliver wr w.heap.size W 2000 s 0 Ld Md hs HId.out HNd.out)
                        go_wp2_with fail
                        refine hdel.out.mono ?_
                        rintro e w5 ⟨M5, hd5, rfl, L5, hL5, hN5, hk5⟩
                        have hms : Hid (bagLen W (2 + s) w5 < bagLen W (2 + s) wr) := hid (by
                          obtain ⟨ao5, cap5, hv5⟩ := (hN5.bags s hs).row.shape
                          have z2 := hN5.cBag hs
                          rw [hv5] at z2
                          have h5 : bagLen W (2 + s) w5 = (M5.G s).length := by unfold bagLen; rw [z2]
                          have h6 := (deliv_facts hs HId.out hne.out hd5).2.2.1
                          rw [h5, hbl.out, h6, List.length_tail]
                          omega)
                        have hfin : Hid (FlRel w.heap.size W L.p (stepM Mc s) s w w5) := hid ⟨L5, M5, hL5.trans hLd.out, hN5, inv_deliv hs HId.out hd5, fun M' f => HFd.out M' (.more hne.out hd5 f), HKd.out.trans hk5⟩
                        clear hdel hd5 hL5 hN5 hk5 x2 hbl HNd HId HFd HKd
                        go_wp2_with fail
                        go_roundw
                        case rel => exact hfin.out
                        case measure => exact hms.out
                      · have hl0 : (Md.G s).length = 0 := by omega
                        have hFd : Hid (Flush s (stepM Mc s) Md) := hid (HFd.out Md (.done (List.eq_nil_of_length_eq_zero hl0)))
                        rw [hl0] at x2
                        clear hbl HFd hg
                        replace hl0 := hid hl0
                        have hnext : Hid (SideRel w.heap.size W L.p h w (.int .i64 ((s : Nat) + 1)) wr) := hid ⟨s + 1, Ld, Md, by omega, by go_num, hLd.out, HNd.out, HId.out, by
                          have hst := stage_next (h := 2 * h + s) HI3.out HS3.out (by rw [show (2 * h + s) % 2 = s by omega]; exact ⟨Mc, hFc.out, hFd.out⟩)
                          rw [show 2 * h + (s + 1) = 2 * h + s + 1 by omega]
                          exact hst, HKd.out⟩
                        clear HNc HIc HKc HNd HId HKd hFc hFd
                        go_wp2_with fail
                        go_roundw
                        case rel => exact hnext.out
                        case measure => simp [intOf] <;> omega
              · obtain rfl : s = 2 := by omega
                have hnext : Hid (RoundRel w.heap.size W L.p w (.int .i64 ((h : Nat) + 1)) wr) := hid ⟨h + 1, L3, M3, by omega, by go_num, hL3.out, HN3.out, HI3.out, by
                  have := HS3.out
                  rw [show 2 * (h + 1) = 2 * h + 2 by omega]
                  exact this, HK3.out⟩
                clear HN3 HI3 HS3 HK3
                go_wp2_with fail
                go_roundw
                case rel => exact hnext.out
                case measure => simp [intOf] <;> omega
          · obtain rfl : h = 10 := by omega
            have HQ := hid (show ∀ s, s < 2 → M2.C s = (M2.S s).length ∧ (M2.E s).opened = [] ∧ M2.G s = [] ∧ (M2.E s).owes = false from HS2.out)
            have hstart : Hid (InRelA w.heap.size W L2 M2 w (.int .i64 0) wr) := hid ⟨0, by omega, rfl, HN2r.out, HK2r.out⟩
            go_wp2_with fail
            go_loopw [68] (fun i wr => InRelA w.heap.size W L2 M2 w i wr) (fun i _ => 2 - (intOf i).toNat)
            case atStart => exact hstart.out
            case round =>
              obtain ⟨j, hj, rfl, hN4, hK4⟩ := hrel
              have HN4 := hid hN4
              have HK4 := hid hK4
              clear hN4 hK4
              by_cases hj2 : j < 2
              · obtain ⟨r, hr, hr2⟩ : ∃ r : Nat, 1 - j = r ∧ r < 2 := ⟨_, rfl, by omega⟩
                have hrw : IntKind.i64.wrap (1 - ((j : Nat) : Int)) = (r : Int) := by rw [show (1 : Int) - ((j : Nat) : Int) = (r : Int) by omega]; exact IntWalk.i64_in _ (by omega)
                have hsI : ((j : Nat) : Int) < 2 := by omega
                have hrI : ((r : Nat) : Int) < 2 := by omega
                have x0 := HN4.out.cEnd hj2
                have xr := HN4.out.cEnd hr2
                obtain ⟨q1, q2, q3, q4⟩ := HQ.out j hj2
                obtain ⟨hr1, -, -⟩ := HN4.out.sent j hj2
                obtain ⟨aot, capt, hut⟩ := hr1.shape
                have x4 := HN4.out.cSent hj2
                rw [hut, ← q1] at x4
                have x6 := HN4.out.cCame hj2
                have hE := HI2.out.side j hj2
                have hEr := HI2.out.side r hr2
                have hcm := hE.came
                rw [hr] at hcm
                have F1 := fun n => quiet_this (open_end ((HN4.out.ends j hj2).drewN (n := n)) (by rw [hE.epoch]; decide))
                have F2 := fun n => quiet_this (owes_end ((HN4.out.ends j hj2).drewN (n := n)) (by rw [hE.epoch]; decide))
                have F3 := fun n => quiet_this (came_end ((HN4.out.ends r hr2).drewN (n := n)) (by rw [hEr.epoch]; decide))
                rw [hcm] at F3
                rw [q2] at F1
                rw [q4] at F2
                replace F1 := hid F1
                replace F2 := hid F2
                replace F3 := hid F3
                replace hr := hid hr
                clear q1 q2 q3 q4 hr1 hut hE hEr hcm
                generalize M2.C j = cj at *
                go_wp2_with fail
                go_quiet ((first | (go_at_call 14; exact F1.out _) | (go_at_call 15; exact F2.out _) | (go_at_call 16; exact F3.out _)))
                have hnext : Hid (InRelA w.heap.size W L2 M2 w (.int .i64 ((j : Nat) + 1)) (wr.drewN nq)) := hid ⟨j + 1, by omega, by go_num, HN4.out.drewN, keep_drewN nq HK4.out⟩
                clear F1 F2 F3 HN4 HK4 x0 xr x4 x6
                generalize wr.drewN nq = w9 at *
                go_wp2_with fail
                go_roundw
                case rel => exact hnext.out
                case measure => simp [intOf] <;> omega
              · have hbel : Hid (Below w.heap.size w wr) := hid (HK4.out.below (fun _ e => e) (Nat.le_refl _))
                have x8 := HN4.out.cBad
                clear HN4 HK4
                go_wp2
                go_ret
                exact ⟨rfl, hbel.out⟩
  · have h20' : 2000 ≤ len := by omega
    have hcap : 2000 ≤ cap := by omega
    have hR : Hid (LoopRel w.heap.size W 2000 L.p w (.int .i64 0) w2) := hid ⟨0, L, startM, Nat.zero_le _, rfl, rfl, HN2.out, inv_start, K2.out⟩
    go_wp2_with fail
    go_loopw [26] (fun i wr => LoopRel w.heap.size W 2000 L.p w i wr) (fun i _ => 2000 - (intOf i).toNat)
    case atStart => exact hR.out
    case round =>
      obtain ⟨k, L1, M, hk, rfl, hLp, hN, hI, hK⟩ := hrel
      have HN := hid hN
      have HI := hid hI
      have HK := hid hK
      replace hLp := hid hLp
      clear hN hI hK
      by_cases hkn : k < 2000
      · obtain ⟨b', off, kk, side, ix, at_, by_, lv, l, rfl, hc, ⟨hk0, hk1⟩, ⟨hb0, hb1⟩, hbt⟩ := HS.out.at_ k (by omega)
        obtain ⟨aol, capl, rfl, -⟩ := id hbt
        have hbl : ¬ From w.heap.size b' := fun e => by
          have h1 : b' < w.heap.size := cell_lt (hc 0 (by omega))
          have h2 : w.heap.size ≤ b' := e
          omega
        have y0 : wr.cell? ⟨b', off + k * 6, none⟩ = some (.int .u8 kk) := HK.out.cell (hc 0 (by omega)) hbl
        have y1 : wr.cell? ⟨b', off + k * 6 + 1, none⟩ = some (.int .i64 side) := HK.out.cell (hc 1 (by omega)) hbl
        have y2 : wr.cell? ⟨b', off + k * 6 + 2, none⟩ = some (.int .i64 ix) := HK.out.cell (hc 2 (by omega)) hbl
        have y3 : wr.cell? ⟨b', off + k * 6 + 3, none⟩ = some (.int .i64 at_) := HK.out.cell (hc 3 (by omega)) hbl
        have y4 : wr.cell? ⟨b', off + k * 6 + 4, none⟩ = some (.int .u8 by_) := HK.out.cell (hc 4 (by omega)) hbl
        have y5 : wr.cell? ⟨b', off + k * 6 + 5, none⟩ = some (.slice aol l.length capl) := HK.out.cell (hc 5 (by omega)) hbl
        have HA := hid (HN.out.nil ((Keep.refl wr).alloc (.cells #[.int .u8 kk, .int .i64 side, .int .i64 ix, .int .i64 at_, .int .u8 by_, .slice aol l.length capl] 29)))
        have KA := hid (HK.out.trans (((Keep.refl (S := Nil) wr).alloc (.cells #[.int .u8 kk, .int .i64 side, .int .i64 ix, .int .i64 at_, .int .u8 by_, .slice aol l.length capl] 29)).mono (fun _ _ e => e.elim)))
        have hdo := hid (ndo (wr.alloc (.cells #[.int .u8 kk, .int .i64 side, .int .i64 ix, .int .i64 at_, .int .u8 by_, .slice aol l.length capl] 29)) w.heap.size W k L1 M kk side ix at_ by_ _ l HI.out HA.out ((hbt.keep HK.out (mut_from (Nat.le_refl _))).alloc (.cells #[.int .u8 kk, .int .i64 side, .int .i64 ix, .int .i64 at_, .int .u8 by_, .slice aol l.length capl] 29)) hk0 hk1 hb0 hb1)
        have hinv := hid (fun M' (d : Deed M M') => inv_deed HI.out (by omega) d)
        have hkT : k + 1 ≤ 2000 := by omega
        clear hc hbt HN HK HI hk0 hk1 hb0 hb1
        go_wp2_with fail
        refine hdo.out.mono ?_
        rintro e w3 ⟨M', hd, rfl, L', hL', hN', hk'⟩
        have hnext := hid (LoopRel.next (T := 2000) (w := w) hkT (hL'.trans hLp.out) hN' (hinv.out M' hd) (KA.out.trans hk'))
        clear hdo hinv hd hL' hN' hk' HA KA y0 y1 y2 y3 y4 y5
        go_wp2_with fail
        go_roundw
        case rel => exact hnext.out
        case measure => simp [intOf] <;> omega
      · have hkT : k = 2000 := by omega
        have hd27 : decide ((k : Int) < 2000) = false := by simp; omega
        clear hkT
        have hstart : Hid (RoundRel w.heap.size W L.p w (.int .i64 0) wr) := hid ⟨0, L1, M, by omega, rfl, hLp.out, HN.out, HI.out.more (by omega) (by omega), trivial, HK.out⟩
        clear HN HK HI
        go_wp2_with fail
        go_loopw [34] (fun i wr => RoundRel w.heap.size W L.p w i wr) (fun i _ => 10 - (intOf i).toNat)
        case atStart => exact hstart.out
        case round =>
          obtain ⟨h, L2, M2, hh, rfl, hL2, hN2, hI2, hS2, hK2⟩ := hrel
          have HN2r := hid hN2
          have HI2 := hid hI2
          have HS2 := hid hS2
          have HK2r := hid hK2
          replace hL2 := hid hL2
          clear hN2 hI2 hS2 hK2
          by_cases hh10 : h < 10
          · have hdh : decide ((h : Int) < 10) = true := by simp; omega
            go_wp2_with fail
            go_loopw [36] (fun i wr => SideRel w.heap.size W L.p h w i wr) (fun i _ => 2 - (intOf i).toNat)
            case atStart => exact ⟨0, L2, M2, by omega, rfl, hL2.out, HN2r.out, HI2.out, HS2.out, HK2r.out⟩
            case round =>
              obtain ⟨s, L3, M3, hs2, rfl, hL3, hN3, hI3, hS3, hK3⟩ := hrel
              have HN3 := hid hN3
              have HI3 := hid hI3
              have HS3 := hid hS3
              have HK3 := hid hK3
              replace hL3 := hid hL3
              clear hN3 hI3 hS3 hK3
              by_cases hs : s < 2
              · have hsI : ((s : Nat) : Int) < 2 := by omega
                have hds : decide (((s : Nat) : Int) < 2) = true := by simp; omega
                go_wp2_with fail
                go_loopw [48] (fun _ wr => FlRel w.heap.size W L.p M3 s w wr) (fun _ wr => bagLen W (2 + s) wr)
                case atStart => exact ⟨L3, M3, hL3.out, HN3.out, HI3.out, fun _ f => f, HK3.out⟩
                case round =>
                  obtain ⟨Lc, Mc, hLc, hNc, hIc, hFc, hKc⟩ := hrel
                  obtain ⟨aoc, capc, hvc⟩ := (hNc.bags s hs).row.shape
                  have x2 := hNc.cBag hs
                  rw [hvc] at x2
                  have HNc := hid hNc
                  have HIc := hid hIc
                  have HFc := hid hFc
                  have HKc := hid hKc
                  replace hLc := hid hLc
                  have hbl : Hid (bagLen W (2 + s) wr = (Mc.G s).length) := hid (by unfold bagLen; rw [x2])
                  clear hNc hIc hFc hKc hvc
                  by_cases hg : 0 < (Mc.G s).length
                  · have hgI : (0 : Int) < ((Mc.G s).length : Int) := by omega
                    have hne : Hid (Mc.G s ≠ []) := hid (fun e => by rw [e] at hg; exact absurd hg (Nat.lt_irrefl _))
                    have hdel := hid (ndeliver wr w.heap.size W 2000 s 0 Lc Mc hs HIc.out HNc.out)
                    go_wp2_with fail
                    refine hdel.out.mono ?_
                    rintro e w5 ⟨M5, hd5, rfl, L5, hL5, hN5, hk5⟩
                    have hms : Hid (bagLen W (2 + s) w5 < bagLen W (2 + s) wr) := hid (by
                      obtain ⟨ao5, cap5, hv5⟩ := (hN5.bags s hs).row.shape
                      have z2 := hN5.cBag hs
                      rw [hv5] at z2
                      have h5 : bagLen W (2 + s) w5 = (M5.G s).length := by unfold bagLen; rw [z2]
                      have h6 := (deliv_facts hs HIc.out hne.out hd5).2.2.1
                      rw [h5, hbl.out, h6, List.length_tail]
                      omega)
                    have hfin : Hid (FlRel w.heap.size W L.p M3 s w w5) := hid ⟨L5, M5, hL5.trans hLc.out, hN5, inv_deliv hs HIc.out hd5, fun M' f => HFc.out M' (.more hne.out hd5 f), HKc.out.trans hk5⟩
                    clear hdel hd5 hL5 hN5 hk5 x2 hbl HNc HIc HFc HKc
                    go_wp2_with fail
                    go_roundw
                    case rel => exact hfin.out
                    case measure => exact hms.out
                  · have hl0 : (Mc.G s).length = 0 := by omega
                    have hFc : Hid (Flush s M3 Mc) := hid (HFc.out Mc (.done (List.eq_nil_of_length_eq_zero hl0)))
                    rw [hl0] at x2
                    clear hbl HFc hg
                    replace hl0 := hid hl0
                    go_wp2_with fail
                    refine (nstep wr w.heap.size W 2000 s Lc Mc hs HIc.out HNc.out).mono ?_
                    rintro e w6 ⟨rfl, L6, hL6, hN6, hk6⟩
                    have HN6 := hid hN6
                    have HI6 := hid (inv_step hs HIc.out)
                    have HK6 := hid (HKc.out.trans hk6)
                    replace hL6 := hid (hL6.trans hLc.out)
                    clear hN6 hk6 x2
                    go_wp2_with fail
                    go_loopw [63] (fun _ wr => FlRel w.heap.size W L.p (stepM Mc s) s w wr) (fun _ wr => bagLen W (2 + s) wr)
                    case atStart => exact ⟨L6, stepM Mc s, hL6.out, HN6.out, HI6.out, fun _ f => f, HK6.out⟩
                    case round =>
                      obtain ⟨Ld, Md, hLd, hNc, hIc, hFc, hKc⟩ := hrel
                      obtain ⟨aoc, capc, hvc⟩ := (hNc.bags s hs).row.shape
                      have x2 := hNc.cBag hs
                      rw [hvc] at x2
                      have HNd := hid hNc
                      have HId := hid hIc
                      have HFd := hid hFc
                      have HKd := hid hKc
                      replace hLd := hid hLd
                      have hbl : Hid (bagLen W (2 + s) wr = (Md.G s).length) := hid (by unfold bagLen; rw [x2])
                      clear hNc hIc hFc hKc hvc
                      by_cases hg : 0 < (Md.G s).length
                      · have hgI : (0 : Int) < ((Md.G s).length : Int) := by omega
                        have hne : Hid (Md.G s ≠ []) := hid (fun e => by rw [e] at hg; exact absurd hg (Nat.lt_irrefl _))
                        have hdel := hid (ndeliver wr w.heap.size W 2000 s 0 Ld Md hs HId.out HNd.out)
                        go_wp2_with fail
                        refine hdel.out.mono ?_
                        rintro e w5 ⟨M5, hd5, rfl, L5, hL5, hN5, hk5⟩
                        have hms : Hid (bagLen W (2 + s) w5 < bagLen W (2 + s) wr) := hid (by
                          obtain ⟨ao5, cap5, hv5⟩ := (hN5.bags s hs).row.shape
                          have z2 := hN5.cBag hs
                          rw [hv5] at z2
                          have h5 : bagLen W (2 + s) w5 = (M5.G s).length := by unfold bagLen; rw [z2]
                          have h6 := (deliv_facts hs HId.out hne.out hd5).2.2.1
                          rw [h5, hbl.out, h6, List.length_tail]
                          omega)
                        have hfin : Hid (FlRel w.heap.size W L.p (stepM Mc s) s w w5) := hid ⟨L5, M5, hL5.trans hLd.out, hN5, inv_deliv hs HId.out hd5, fun M' f => HFd.out M' (.more hne.out hd5 f), HKd.out.trans hk5⟩
                        clear hdel hd5 hL5 hN5 hk5 x2 hbl HNd HId HFd HKd
                        go_wp2_with fail
                        go_roundw
                        case rel => exact hfin.out
                        case measure => exact hms.out
                      · have hl0 : (Md.G s).length = 0 := by omega
                        have hFd : Hid (Flush s (stepM Mc s) Md) := hid (HFd.out Md (.done (List.eq_nil_of_length_eq_zero hl0)))
                        rw [hl0] at x2
                        clear hbl HFd hg
                        replace hl0 := hid hl0
                        have hnext : Hid (SideRel w.heap.size W L.p h w (.int .i64 ((s : Nat) + 1)) wr) := hid ⟨s + 1, Ld, Md, by omega, by go_num, hLd.out, HNd.out, HId.out, by
                          have hst := stage_next (h := 2 * h + s) HI3.out HS3.out (by rw [show (2 * h + s) % 2 = s by omega]; exact ⟨Mc, hFc.out, hFd.out⟩)
                          rw [show 2 * h + (s + 1) = 2 * h + s + 1 by omega]
                          exact hst, HKd.out⟩
                        clear HNc HIc HKc HNd HId HKd hFc hFd
                        go_wp2_with fail
                        go_roundw
                        case rel => exact hnext.out
                        case measure => simp [intOf] <;> omega
              · obtain rfl : s = 2 := by omega
                have hnext : Hid (RoundRel w.heap.size W L.p w (.int .i64 ((h : Nat) + 1)) wr) := hid ⟨h + 1, L3, M3, by omega, by go_num, hL3.out, HN3.out, HI3.out, by
                  have := HS3.out
                  rw [show 2 * (h + 1) = 2 * h + 2 by omega]
                  exact this, HK3.out⟩
                clear HN3 HI3 HS3 HK3
                go_wp2_with fail
                go_roundw
                case rel => exact hnext.out
                case measure => simp [intOf] <;> omega
          · obtain rfl : h = 10 := by omega
            have HQ := hid (show ∀ s, s < 2 → M2.C s = (M2.S s).length ∧ (M2.E s).opened = [] ∧ M2.G s = [] ∧ (M2.E s).owes = false from HS2.out)
            have hstart : Hid (InRelA w.heap.size W L2 M2 w (.int .i64 0) wr) := hid ⟨0, by omega, rfl, HN2r.out, HK2r.out⟩
            go_wp2_with fail
            go_loopw [68] (fun i wr => InRelA w.heap.size W L2 M2 w i wr) (fun i _ => 2 - (intOf i).toNat)
            case atStart => exact hstart.out
            case round =>
              obtain ⟨j, hj, rfl, hN4, hK4⟩ := hrel
              have HN4 := hid hN4
              have HK4 := hid hK4
              clear hN4 hK4
              by_cases hj2 : j < 2
              · obtain ⟨r, hr, hr2⟩ : ∃ r : Nat, 1 - j = r ∧ r < 2 := ⟨_, rfl, by omega⟩
                have hrw : IntKind.i64.wrap (1 - ((j : Nat) : Int)) = (r : Int) := by rw [show (1 : Int) - ((j : Nat) : Int) = (r : Int) by omega]; exact IntWalk.i64_in _ (by omega)
                have hsI : ((j : Nat) : Int) < 2 := by omega
                have hrI : ((r : Nat) : Int) < 2 := by omega
                have x0 := HN4.out.cEnd hj2
                have xr := HN4.out.cEnd hr2
                obtain ⟨q1, q2, q3, q4⟩ := HQ.out j hj2
                obtain ⟨hr1, -, -⟩ := HN4.out.sent j hj2
                obtain ⟨aot, capt, hut⟩ := hr1.shape
                have x4 := HN4.out.cSent hj2
                rw [hut, ← q1] at x4
                have x6 := HN4.out.cCame hj2
                have hE := HI2.out.side j hj2
                have hEr := HI2.out.side r hr2
                have hcm := hE.came
                rw [hr] at hcm
                have F1 := fun n => quiet_this (open_end ((HN4.out.ends j hj2).drewN (n := n)) (by rw [hE.epoch]; decide))
                have F2 := fun n => quiet_this (owes_end ((HN4.out.ends j hj2).drewN (n := n)) (by rw [hE.epoch]; decide))
                have F3 := fun n => quiet_this (came_end ((HN4.out.ends r hr2).drewN (n := n)) (by rw [hEr.epoch]; decide))
                rw [hcm] at F3
                rw [q2] at F1
                rw [q4] at F2
                replace F1 := hid F1
                replace F2 := hid F2
                replace F3 := hid F3
                replace hr := hid hr
                clear q1 q2 q3 q4 hr1 hut hE hEr hcm
                generalize M2.C j = cj at *
                go_wp2_with fail
                go_quiet ((first | (go_at_call 14; exact F1.out _) | (go_at_call 15; exact F2.out _) | (go_at_call 16; exact F3.out _)))
                have hnext : Hid (InRelA w.heap.size W L2 M2 w (.int .i64 ((j : Nat) + 1)) (wr.drewN nq)) := hid ⟨j + 1, by omega, by go_num, HN4.out.drewN, keep_drewN nq HK4.out⟩
                clear F1 F2 F3 HN4 HK4 x0 xr x4 x6
                generalize wr.drewN nq = w9 at *
                go_wp2_with fail
                go_roundw
                case rel => exact hnext.out
                case measure => simp [intOf] <;> omega
              · have hbel : Hid (Below w.heap.size w wr) := hid (HK4.out.below (fun _ e => e) (Nat.le_refl _))
                have x8 := HN4.out.cBad
                clear HN4 HK4
                go_wp2
                go_ret
                exact ⟨rfl, hbel.out⟩
end Go.Proofs.Ytjlgolkippleaaa
