/-
  Two rows of messages, the same?
-/
import Derived.Test.YtjlgolkippleaaaRefNew
namespace Go.Proofs.Ytjlgolkippleaaa
open Go.RowKit

theorem msgs_same (w : World) (B N M q r : Nat) (va vb : Value) (ms : List MS) (ha : MsgsAt N w q va ms) (hb : MsgsAt M w r vb ms) (hl : ms.length ≤ 8) :
    Calls Try.prog 25 #[va, vb] w fun e w' => e = .returned (.bool true) ∧ Keep Nil w w' := by
  obtain ⟨aoa, capa, rfl⟩ := ha.shape
  obtain ⟨aob, capb, rfl⟩ := hb.shape
  have HA := hid ha
  have HB := hid hb
  clear ha hb
  go_enter Try.func25, Try.ntmps25
  go_wp2_with fail
  go_loopw [5] (fun i wr => ∃ k : Nat, k ≤ ms.length ∧ i = .int .i64 k ∧ Keep Nil w wr) (fun i _ => ms.length - (intOf i).toNat)
  case atStart => exact ⟨0, Nat.zero_le _, rfl, Keep.refl _⟩
  case round =>
    obtain ⟨k, hk, rfl, hkp⟩ := hrel
    have HK := hid hkp
    clear hkp
    by_cases hkn : k < ms.length
    · obtain ⟨offa, qia, ua, rfl, -, -, hra, hca⟩ := HA.out.at_ k hkn
      obtain ⟨offb, qib, ub, rfl, -, -, hrb, hcb⟩ := HB.out.at_ k hkn
      obtain ⟨aou, capu, rfl⟩ := hra.shape
      obtain ⟨aov, capv, rfl⟩ := hrb.shape
      have VA := hid ((Bts.of_row (B := B) hra).keep HK.out.drew Mut.nil)
      have VB := hid ((Bts.of_row (B := B) hrb).keep HK.out.drew Mut.nil)
      have hml : ms[k] = ms[k] := rfl
      have x0 : wr.drew.cell? ⟨q, offa + k * 7, none⟩ = some (.int .i64 ms[k].frm) := HK.out.drew.cell (hca 0 (by omega)) (fun e => e)
      have x1 : wr.drew.cell? ⟨q, offa + k * 7 + 1, none⟩ = some (.int .i64 ms[k].to) := HK.out.drew.cell (hca 1 (by omega)) (fun e => e)
      have x2 : wr.drew.cell? ⟨q, offa + k * 7 + 2, none⟩ = some (.int .i64 ms[k].kind) := HK.out.drew.cell (hca 2 (by omega)) (fun e => e)
      have x3 : wr.drew.cell? ⟨q, offa + k * 7 + 3, none⟩ = some (.int .i64 ms[k].epoch) := HK.out.drew.cell (hca 3 (by omega)) (fun e => e)
      have x4 : wr.drew.cell? ⟨q, offa + k * 7 + 4, none⟩ = some (.int .i64 ms[k].seq) := HK.out.drew.cell (hca 4 (by omega)) (fun e => e)
      have x5 : wr.drew.cell? ⟨q, offa + k * 7 + 5, none⟩ = some (.int .i64 ms[k].ack) := HK.out.drew.cell (hca 5 (by omega)) (fun e => e)
      have x6 : wr.drew.cell? ⟨q, offa + k * 7 + 6, none⟩ = some (.slice aou ms[k].load.length capu) := HK.out.drew.cell (hca 6 (by omega)) (fun e => e)
      have y0 : wr.drew.cell? ⟨r, offb + k * 7, none⟩ = some (.int .i64 ms[k].frm) := HK.out.drew.cell (hcb 0 (by omega)) (fun e => e)
      have y1 : wr.drew.cell? ⟨r, offb + k * 7 + 1, none⟩ = some (.int .i64 ms[k].to) := HK.out.drew.cell (hcb 1 (by omega)) (fun e => e)
      have y2 : wr.drew.cell? ⟨r, offb + k * 7 + 2, none⟩ = some (.int .i64 ms[k].kind) := HK.out.drew.cell (hcb 2 (by omega)) (fun e => e)
      have y3 : wr.drew.cell? ⟨r, offb + k * 7 + 3, none⟩ = some (.int .i64 ms[k].epoch) := HK.out.drew.cell (hcb 3 (by omega)) (fun e => e)
      have y4 : wr.drew.cell? ⟨r, offb + k * 7 + 4, none⟩ = some (.int .i64 ms[k].seq) := HK.out.drew.cell (hcb 4 (by omega)) (fun e => e)
      have y5 : wr.drew.cell? ⟨r, offb + k * 7 + 5, none⟩ = some (.int .i64 ms[k].ack) := HK.out.drew.cell (hcb 5 (by omega)) (fun e => e)
      have y6 : wr.drew.cell? ⟨r, offb + k * 7 + 6, none⟩ = some (.slice aov ms[k].load.length capv) := HK.out.drew.cell (hcb 6 (by omega)) (fun e => e)
      clear hca hcb hra hrb hml
      generalize ms[k] = m at *
      have SM := same_msg wr.drew B m _ _ VA.out VB.out
      unfold mV at SM
      have SM := hid SM
      go_wp2_with fail
      go_region_held3 (fun w' => w'.cell? ⟨q, offa + k * 7, none⟩ = some (.int .i64 m.frm) ∧ w'.cell? ⟨q, offa + k * 7 + 1, none⟩ = some (.int .i64 m.to) ∧ w'.cell? ⟨q, offa + k * 7 + 2, none⟩ = some (.int .i64 m.kind) ∧ w'.cell? ⟨q, offa + k * 7 + 3, none⟩ = some (.int .i64 m.epoch) ∧ w'.cell? ⟨q, offa + k * 7 + 4, none⟩ = some (.int .i64 m.seq) ∧ w'.cell? ⟨q, offa + k * 7 + 5, none⟩ = some (.int .i64 m.ack) ∧ w'.cell? ⟨q, offa + k * 7 + 6, none⟩ = some (.slice aou m.load.length capu) ∧ w'.cell? ⟨r, offb + k * 7, none⟩ = some (.int .i64 m.frm) ∧ w'.cell? ⟨r, offb + k * 7 + 1, none⟩ = some (.int .i64 m.to) ∧ w'.cell? ⟨r, offb + k * 7 + 2, none⟩ = some (.int .i64 m.kind) ∧ w'.cell? ⟨r, offb + k * 7 + 3, none⟩ = some (.int .i64 m.epoch) ∧ w'.cell? ⟨r, offb + k * 7 + 4, none⟩ = some (.int .i64 m.seq) ∧ w'.cell? ⟨r, offb + k * 7 + 5, none⟩ = some (.int .i64 m.ack) ∧ w'.cell? ⟨r, offb + k * 7 + 6, none⟩ = some (.slice aov m.load.length capv))
        (first | (with_reducible exact ⟨x0, x1, x2, x3, x4, x5, x6, y0, y1, y2, y3, y4, y5, y6⟩) | (with_reducible exact ⟨e0, e1, e2, e3, e4, e5, e6, f0, f1, f2, f3, f4, f5, f6⟩))
        ((first | (go_at_call 43; refine SM.out.mono ?_; rintro e w1 ⟨rfl, k1⟩; have e0 := k1.cell x0 (fun e => e); have e1 := k1.cell x1 (fun e => e); have e2 := k1.cell x2 (fun e => e); have e3 := k1.cell x3 (fun e => e); have e4 := k1.cell x4 (fun e => e); have e5 := k1.cell x5 (fun e => e); have e6 := k1.cell x6 (fun e => e); have f0 := k1.cell y0 (fun e => e); have f1 := k1.cell y1 (fun e => e); have f2 := k1.cell y2 (fun e => e); have f3 := k1.cell y3 (fun e => e); have f4 := k1.cell y4 (fun e => e); have f5 := k1.cell y5 (fun e => e); have f6 := k1.cell y6 (fun e => e); have K1 := hid (HK.out.drew.trans k1); clear k1)))
      go_wp2_with fail
      go_roundw
      case rel => exact ⟨k + 1, by omega, by go_num, K1.out⟩
      case measure => simp [intOf] <;> omega
    · go_wp2
      go_ret
      exact ⟨rfl, HK.out⟩

end Go.Proofs.Ytjlgolkippleaaa
