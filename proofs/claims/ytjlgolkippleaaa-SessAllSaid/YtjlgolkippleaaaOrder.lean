/-
  SessOrder: the walk.
-/
import Derived.Test.YtjlgolkippleaaaDoW
import Derived.Test.YtjlgolkippleaaaDos
namespace Go.Proofs.Ytjlgolkippleaaa
open Go.RowKit

theorem mut_from {B : Nat} {w : World} (h : w.heap.size ≤ B) : Mut B w (From B) := fun k hk => ⟨hk, fun cur fr e => by
  have hk' : B ≤ k := hk
  have := row_lt e; omega⟩
def LoopRel (B W T : Nat) (p : Nat → Nat) (w : World) (i : Value) (wr : World) : Prop :=
  ∃ (k : Nat) (L : Lay) (M : WM), k ≤ T ∧ i = .int .i64 k ∧ L.p = p ∧ NetAt B wr W L M ∧ Inv k M ∧ Keep (From B) w wr
theorem LoopRel.next {B W T k : Nat} {p : Nat → Nat} {w wr : World} {L : Lay} {M : WM} (h1 : k + 1 ≤ T) (h2 : L.p = p) (h3 : NetAt B wr W L M) (h4 : Inv (k + 1) M) (h5 : Keep (From B) w wr) : LoopRel B W T p w (.int .i64 ((k : Nat) + 1)) wr := ⟨k + 1, L, M, h1, by go_num, h2, h3, h4, h5⟩

set_option maxRecDepth 100000 in
set_option maxHeartbeats 4000000 in
theorem order_any (w : World) (ao : Option Addr) (len cap : Nat) (hlc : len ≤ cap) (hS : Dos w ao len) :
    Calls Try.prog 3 #[.slice ao len cap] w fun e w' => e = .returned (.bool true) ∧ Below w.heap.size w w' := by
  have HS := hid hS
  clear hS
  go_enter Try.func3, Try.ntmps3
  go_wp2_with fail
  refine (begin_any w).mono ?_
  rintro e w1 ⟨W, L, rfl, hN, k1⟩
  have HN1 := hid hN
  have K1 := hid k1
  clear hN k1
  go_wp2_with fail
  refine (alive_any w1).mono ?_
  rintro e w2 ⟨rfl, k2⟩
  have HN2 := hid (HN1.out.nil k2)
  have K2 : Hid (Keep (From w.heap.size) w w2) := hid ((K1.out.trans k2).mono (fun _ _ e => e.elim))
  clear k2 HN1 K1
  by_cases h20 : (len : Int) ≤ 2000
  · have h20' : len ≤ 2000 := by omega
    have hR : Hid (LoopRel w.heap.size W len L.p w (.int .i64 0) w2) := hid ⟨0, L, startM, Nat.zero_le _, rfl, rfl, HN2.out, inv_start, K2.out⟩
    go_wp2_with fail
    go_loopw [23] (fun i wr => LoopRel w.heap.size W len L.p w i wr) (fun i _ => len - (intOf i).toNat)
    case atStart => exact hR.out
    case round =>
      obtain ⟨k, L1, M, hk, rfl, hLp, hN, hI, hK⟩ := hrel
      have HN := hid hN
      have HI := hid hI
      have HK := hid hK
      replace hLp := hid hLp
      clear hN hI hK
      by_cases hkn : k < len
      · obtain ⟨b', off, kk, side, ix, at_, by_, lv, l, rfl, hc, ⟨hk0, hk1⟩, ⟨hb0, hb1⟩, hbt⟩ := HS.out.at_ k (by omega)
        obtain ⟨aol, capl, rfl, -⟩ := id hbt
        have hbl : ¬ From w.heap.size b' := fun e => by
          have h1 : b' < w.heap.size := cell_lt (hc 0 (by omega))
          have h2 : w.heap.size ≤ b' := e
          omega
        have y0 : wr.cell? ⟨b', off + k * 6, none⟩ = some (.int .u8 kk) := HK.out.cell (hc 0 (by omega)) hbl
        have y1 : wr.cell? ⟨b', off + k * 6 + 1, none⟩ = some (.int .i64 side) := HK.out.cell (hc 1 (by omega)) hbl
        have y2 : wr.cell? ⟨b', off + k * 6 + 2, none⟩ = some (.int .i64 ix) := HK.out.cell (hc 2 (by omega)) hbl
        have y3 : wr.cell? ⟨b', off + k * 6 + 3, none⟩ = some (.int .i64 at_) := HK.out.cell (hc 3 (by omega)) hbl
        have y4 : wr.cell? ⟨b', off + k * 6 + 4, none⟩ = some (.int .u8 by_) := HK.out.cell (hc 4 (by omega)) hbl
        have y5 : wr.cell? ⟨b', off + k * 6 + 5, none⟩ = some (.slice aol l.length capl) := HK.out.cell (hc 5 (by omega)) hbl
        have HA := hid (HN.out.nil ((Keep.refl wr).alloc (.cells #[.int .u8 kk, .int .i64 side, .int .i64 ix, .int .i64 at_, .int .u8 by_, .slice aol l.length capl] 29)))
        have KA := hid (HK.out.trans (((Keep.refl (S := Nil) wr).alloc (.cells #[.int .u8 kk, .int .i64 side, .int .i64 ix, .int .i64 at_, .int .u8 by_, .slice aol l.length capl] 29)).mono (fun _ _ e => e.elim)))
        have hdo := hid (ndo (wr.alloc (.cells #[.int .u8 kk, .int .i64 side, .int .i64 ix, .int .i64 at_, .int .u8 by_, .slice aol l.length capl] 29)) w.heap.size W k L1 M kk side ix at_ by_ _ l HI.out HA.out ((hbt.keep HK.out (mut_from (Nat.le_refl _))).alloc (.cells #[.int .u8 kk, .int .i64 side, .int .i64 ix, .int .i64 at_, .int .u8 by_, .slice aol l.length capl] 29)) hk0 hk1 hb0 hb1)
        have hinv := hid (fun M' (d : Deed M M') => inv_deed HI.out (by omega) d)
        have hkT : k + 1 ≤ len := by omega
        clear hc hbt HN HK HI hk0 hk1 hb0 hb1
        go_wp2_with fail
        refine hdo.out.mono ?_
        rintro e w3 ⟨M', hd, rfl, L', hL', hN', hk'⟩
        have hnext := hid (LoopRel.next (T := len) (w := w) hkT (hL'.trans hLp.out) hN' (hinv.out M' hd) (KA.out.trans hk'))
        have x8 := hN'.cBad
        clear hdo hinv hd hL' hN' hk' HA KA y0 y1 y2 y3 y4 y5
        go_wp2_with fail
        go_roundw
        case rel => exact hnext.out
        case measure => simp [intOf] <;> omega
      · obtain rfl : k = len := by omega
        have hbel : Hid (Below w.heap.size w wr) := hid (HK.out.below (fun _ e => e) (Nat.le_refl _))
        clear HN HK HI
        go_wp2
        go_ret
        exact ⟨rfl, hbel.out⟩
  · have h20' : 2000 ≤ len := by omega
    have hcap : 2000 ≤ cap := by omega
    have hR : Hid (LoopRel w.heap.size W 2000 L.p w (.int .i64 0) w2) := hid ⟨0, L, startM, Nat.zero_le _, rfl, rfl, HN2.out, inv_start, K2.out⟩
    go_wp2_with fail
    go_loopw [23] (fun i wr => LoopRel w.heap.size W 2000 L.p w i wr) (fun i _ => 2000 - (intOf i).toNat)
    case atStart => exact hR.out
    case round =>
      obtain ⟨k, L1, M, hk, rfl, hLp, hN, hI, hK⟩ := hrel
      have HN := hid hN
      have HI := hid hI
      have HK := hid hK
      replace hLp := hid hLp
      clear hN hI hK
      by_cases hkn : k < 2000
      · obtain ⟨b', off, kk, side, ix, at_, by_, lv, l, rfl, hc, ⟨hk0, hk1⟩, ⟨hb0, hb1⟩, hbt⟩ := HS.out.at_ k (by omega)
        obtain ⟨aol, capl, rfl, -⟩ := id hbt
        have hbl : ¬ From w.heap.size b' := fun e => by
          have h1 : b' < w.heap.size := cell_lt (hc 0 (by omega))
          have h2 : w.heap.size ≤ b' := e
          omega
        have y0 : wr.cell? ⟨b', off + k * 6, none⟩ = some (.int .u8 kk) := HK.out.cell (hc 0 (by omega)) hbl
        have y1 : wr.cell? ⟨b', off + k * 6 + 1, none⟩ = some (.int .i64 side) := HK.out.cell (hc 1 (by omega)) hbl
        have y2 : wr.cell? ⟨b', off + k * 6 + 2, none⟩ = some (.int .i64 ix) := HK.out.cell (hc 2 (by omega)) hbl
        have y3 : wr.cell? ⟨b', off + k * 6 + 3, none⟩ = some (.int .i64 at_) := HK.out.cell (hc 3 (by omega)) hbl
        have y4 : wr.cell? ⟨b', off + k * 6 + 4, none⟩ = some (.int .u8 by_) := HK.out.cell (hc 4 (by omega)) hbl
        have y5 : wr.cell? ⟨b', off + k * 6 + 5, none⟩ = some (.slice aol l.length capl) := HK.out.cell (hc 5 (by omega)) hbl
        have HA := hid (HN.out.nil ((Keep.refl wr).alloc (.cells #[.int .u8 kk, .int .i64 side, .int .i64 ix, .int .i64 at_, .int .u8 by_, .slice aol l.length capl] 29)))
        have KA := hid (HK.out.trans (((Keep.refl (S := Nil) wr).alloc (.cells #[.int .u8 kk, .int .i64 side, .int .i64 ix, .int .i64 at_, .int .u8 by_, .slice aol l.length capl] 29)).mono (fun _ _ e => e.elim)))
        have hdo := hid (ndo (wr.alloc (.cells #[.int .u8 kk, .int .i64 side, .int .i64 ix, .int .i64 at_, .int .u8 by_, .slice aol l.length capl] 29)) w.heap.size W k L1 M kk side ix at_ by_ _ l HI.out HA.out ((hbt.keep HK.out (mut_from (Nat.le_refl _))).alloc (.cells #[.int .u8 kk, .int .i64 side, .int .i64 ix, .int .i64 at_, .int .u8 by_, .slice aol l.length capl] 29)) hk0 hk1 hb0 hb1)
        have hinv := hid (fun M' (d : Deed M M') => inv_deed HI.out (by omega) d)
        have hkT : k + 1 ≤ 2000 := by omega
        clear hc hbt HN HK HI hk0 hk1 hb0 hb1
        go_wp2_with fail
        refine hdo.out.mono ?_
        rintro e w3 ⟨M', hd, rfl, L', hL', hN', hk'⟩
        have hnext := hid (LoopRel.next (T := 2000) (w := w) hkT (hL'.trans hLp.out) hN' (hinv.out M' hd) (KA.out.trans hk'))
        have x8 := hN'.cBad
        clear hdo hinv hd hL' hN' hk' HA KA y0 y1 y2 y3 y4 y5
        go_wp2_with fail
        go_roundw
        case rel => exact hnext.out
        case measure => simp [intOf] <;> omega
      · have hkT : k = 2000 := by omega
        have hbel : Hid (Below w.heap.size w wr) := hid (HK.out.below (fun _ e => e) (Nat.le_refl _))
        clear HN HK HI
        go_wp2
        go_ret
        exact ⟨rfl, hbel.out⟩
end Go.Proofs.Ytjlgolkippleaaa
