/-
  SessEpochs: the walk.
-/
import Derived.Test.YtjlgolkippleaaaAlive
import Derived.Test.YtjlgolkippleaaaOpen
namespace Go.Proofs.Ytjlgolkippleaaa
open Go.RowKit

/-- a message in a box -/
theorem box_cells {w : World} {z : Nat} {m : MS} {u : Value} (h : w.heap[z]? = some (.cells #[.int .i64 m.frm, .int .i64 m.to, .int .i64 m.kind, .int .i64 m.epoch, .int .i64 m.seq, .int .i64 m.ack, u] 47 (0, 0))) :
    w.cell? ⟨z, 0, none⟩ = some (.int .i64 m.frm) ∧ w.cell? ⟨z, 1, none⟩ = some (.int .i64 m.to) ∧ w.cell? ⟨z, 2, none⟩ = some (.int .i64 m.kind) ∧ w.cell? ⟨z, 3, none⟩ = some (.int .i64 m.epoch) ∧
    w.cell? ⟨z, 4, none⟩ = some (.int .i64 m.seq) ∧ w.cell? ⟨z, 5, none⟩ = some (.int .i64 m.ack) ∧ w.cell? ⟨z, 6, none⟩ = some u := by
  have k := row_cell h
  exact ⟨k 0, k 1, k 2, k 3, k 4, k 5, k 6⟩
theorem sendTo_form (E : ES) (l : List UInt8) : ∃ xs, sendTo E l = { E with opened := xs } ∧ (E.opened.length ≤ 8 → xs.length ≤ 8) ∧ ((∀ x ∈ E.opened, x.length ≤ 1200) → ∀ x ∈ xs, x.length ≤ 1200) := by
  unfold sendTo
  split
  · exact ⟨E.opened, rfl, id, id⟩
  · split
    · exact ⟨E.opened, rfl, id, id⟩
    · refine ⟨_, rfl, fun h => by simp; omega, fun h x hx => ?_⟩
      rcases List.mem_append.1 hx with hx | hx
      · exact h x hx
      · simp at hx; subst hx; omega

theorem ok5 {l : List (List UInt8)} (h1 : l.length ≤ 8) (h2 : ∀ x ∈ l, x.length ≤ 1200) : ES.Ok ⟨0, 1, 5, 0, l, 0, false⟩ :=
  ⟨(by decide : (0 : Int) < 5), (by decide : (0 : Int) ≤ 0), (by decide : (0 : Int) ≤ 1152921504606846976), h1, (by decide : (0 : Int) ≤ 0), (by decide : (0 : Int) ≤ 1152921504606846976), h2⟩
/-- a message in a box -/
def Boxed (w : World) (z : Nat) (m : MS) (u : Value) : Prop := w.heap[z]? = some (.cells #[.int .i64 m.frm, .int .i64 m.to, .int .i64 m.kind, .int .i64 m.epoch, .int .i64 m.seq, .int .i64 m.ack, u] 47 (0, 0))

set_option maxRecDepth 100000 in
set_option maxHeartbeats 4000000 in
theorem epochs_any (w : World) (ao : Option Addr) (len cap : Nat) (xs : List (List UInt8)) (m : MS) (u : Value) (n : Int) (hlc : len ≤ cap) (hS : Loads w ao len xs) (hu : Bts w.heap.size w u m.load) :
    Calls Try.prog 6 #[.slice ao len cap, mV m u, .int .i64 n] w fun e w' => e = .returned (.bool true) ∧ Below w.heap.size w w' := by
  obtain ⟨t, ht⟩ : ∃ t : Nat, min (len : Int) 20 = t ∧ t ≤ len ∧ t ≤ 20 := ⟨min len 20, by omega, by omega, by omega⟩
  obtain ⟨hmin, htl, ht20⟩ := ht
  have hZ := hid (heap_new w (.cells #[.int .i64 m.frm, .int .i64 m.to, .int .i64 m.kind, .int .i64 m.epoch, .int .i64 m.seq, .int .i64 m.ack, u] 47 (0, 0)))
  have hZs := hid (size_alloc w (.cells #[.int .i64 m.frm, .int .i64 m.to, .int .i64 m.kind, .int .i64 m.epoch, .int .i64 m.seq, .int .i64 m.ack, u] 47 (0, 0)))
  have HK := hid ((Keep.refl (S := Nil) w).alloc (.cells #[.int .i64 m.frm, .int .i64 m.to, .int .i64 m.kind, .int .i64 m.epoch, .int .i64 m.seq, .int .i64 m.ack, u] 47 (0, 0)))
  have HS := hid hS
  have HU := hid hu
  obtain ⟨aou, capu, rfl, -⟩ := id hu
  clear hS hu
  unfold mV
  go_enter Try.func6, Try.ntmps6
  go_wp2_with fail
  generalize w.alloc (.cells #[.int .i64 m.frm, .int .i64 m.to, .int .i64 m.kind, .int .i64 m.epoch, .int .i64 m.seq, .int .i64 m.ack, .slice aou m.load.length capu] 47) = wa at *
  have hB : w.heap.size ≤ wa.heap.size := HK.out.size
  refine (new_good wa w.heap.size hB 0 1 5 (by unfold NewOk; omega)).mono ?_
  rintro e w1 ⟨rfl, e1, k1⟩
  have E1 := hid e1
  have K1 := hid (HK.out.trans k1)
  have Z1 := hid (k1.row hZ.out (fun e => e))
  have hp : Hid (wa.heap.size = w.heap.size + 1) := hZs
  clear e1 k1 hZ hZs
  generalize hpd : wa.heap.size = p at *
  generalize hzd : w.heap.size = z at *
  go_wp2_with fail
  refine (alive_any w1).mono ?_
  rintro e w2 ⟨rfl, k2⟩
  have E2 := hid (E1.out.keep k2 Mut.nil (fun e => e) (fun e => e))
  have K2 := hid (K1.out.trans k2)
  have Z2 := hid (k2.row Z1.out (fun e => e))
  clear k2 E1 K1 Z1
  by_cases h20 : (len : Int) ≤ 20
  · go_wp2_with fail
    go_loopw [35] (fun i wr => ∃ (k q : Nat) (l : List (List UInt8)), k ≤ len ∧ i = .int .i64 k ∧ EndAt z wr p q ⟨0, 1, 5, 0, l, 0, false⟩ ∧ l.length ≤ 8 ∧ (∀ x ∈ l, x.length ≤ 1200) ∧ (q = p ∨ p < q) ∧ Keep Nil w wr ∧ Boxed wr z m (.slice aou m.load.length capu)) (fun i _ => len - (intOf i).toNat)
    case atStart => exact ⟨0, p, [], Nat.zero_le _, rfl, E2.out, by simp, by simp, .inl rfl, K2.out, Z2.out⟩
    case round =>
      obtain ⟨k, q, l, hk, rfl, he, hl8, hll, hq, hkp, hbx⟩ := hrel
      have HBX := hid hbx
      have HE := hid he
      have HL := hid hll
      have HQ := hid hq
      have HKP := hid hkp
      clear he hll hq hkp hbx
      by_cases hkt : k < len
      · obtain ⟨b, off, rfl, hat⟩ := HS.out.at_ (by omega)
        obtain ⟨v, hv, hvb⟩ := hat k (by have := HS.out.hlen; omega)
        obtain ⟨aov, capv, rfl, -⟩ := id hvb
        have cv := HKP.out.cell hv (fun e => e)
        rw [hzd] at hvb
        have HV := hid (hvb.keep HKP.out Mut.nil)
        have hsd := hid (send_some wr z p q _ _ _ HE.out (by decide : (0 : Int) < 5) hl8 HV.out)
        clear hat hv hvb
        go_wp2_with fail
        refine hsd.out.mono ?_
        rintro e w3 ⟨rfl, q', he', k', hq'⟩
        obtain ⟨xs', hx1, hx2, hx3⟩ := sendTo_form ⟨0, 1, 5, 0, l, 0, false⟩ (xs[k]'(by have := HS.out.hlen; omega))
        rw [hx1] at he'
        have HE' := hid he'
        have HX2 := hid hx2
        have HX3 := hid hx3
        have HQ' : Hid (q' = p ∨ p < q') := hid (by
          rcases hq' with h | h
          · rw [h]; exact HQ.out
          · have := HKP.out.size
            have := HE.out.lt.1
            right; omega)
        have HK' := hid (HKP.out.fresh2 k' (by have := hp.out; omega) (by have := hp.out; rcases HQ.out with h | h <;> omega))
        have HBX' := hid (k'.row HBX.out (fun e => by have := hp.out; rcases e with e | e <;> rcases HQ.out with h | h <;> omega))
        clear he' k' hq' hx1 hx2 hx3 hsd
        go_wp2_with fail
        go_roundw
        case rel => exact ⟨k + 1, q', xs', by omega, by go_num, HE'.out, HX2.out hl8, HX3.out HL.out, HQ'.out, HK'.out, HBX'.out⟩
        case measure => simp [intOf] <;> omega
      · have HC := hid (open_end HE.out (by decide : (0 : Int) < 5))
        have HCM := hid (came_end HE.out (by decide : (0 : Int) < 5))
        have HOK := hid (ok5 hl8 HL.out)
        have HUr := hid (HU.out.keep HKP.out Mut.nil)
        by_cases h5 : m.epoch = 5
        · have b5 := bne_f h5
          obtain ⟨x0, x1, x2, x3, x4, x5, x6⟩ := box_cells HBX.out
          clear h5
          go_wp2_with fail
          refine HC.out.mono ?_
          rintro e ws ⟨rfl, rfl⟩
          go_wp2_with fail
          have HS3 := HE
          have KS3 := HKP
          generalize wr = ws at *
          have hbg := begin_some ws z p q _ n HS3.out (by decide : (0 : Int) < 5)
          by_cases hbad : n ≤ 5 ∨ 2147483648 < n
          · rw [show beginErr ⟨0, 1, 5, 0, l, 0, false⟩ n = 1 from if_pos hbad, show beginTo ⟨0, 1, 5, 0, l, 0, false⟩ n = ⟨0, 1, 5, 0, l, 0, false⟩ from if_pos hbad] at hbg
            refine hbg.mono ?_
            rintro e w6 ⟨rfl, e6, k6⟩
            have C6 := hid (epoch_end e6 (by decide : (0 : Int) < 5))
            have O6 := hid (open_end e6 (by decide : (0 : Int) < 5))
            have K6 := hid (KS3.out.fresh2 k6 (by have := hp.out; omega) (by have := hp.out; rcases HQ.out with h | h <;> omega))
            clear hbg e6 k6
            rcases hbad with hbad | hbad
            · go_wp2_with fail
              refine C6.out.mono ?_
              rintro e w7 ⟨rfl, rfl⟩
              go_wp2_with fail
              refine O6.out.mono ?_
              rintro e w7 ⟨rfl, rfl⟩
              go_wp2
              go_ret
              exact ⟨rfl, K6.out.below (fun _ e => e.elim) (by omega)⟩
            · go_wp2_with fail
              refine C6.out.mono ?_
              rintro e w7 ⟨rfl, rfl⟩
              go_wp2_with fail
              refine O6.out.mono ?_
              rintro e w7 ⟨rfl, rfl⟩
              go_wp2
              go_ret
              exact ⟨rfl, K6.out.below (fun _ e => e.elim) (by omega)⟩
          · rw [show beginErr ⟨0, 1, 5, 0, l, 0, false⟩ n = 0 from if_neg hbad, show beginTo ⟨0, 1, 5, 0, l, 0, false⟩ n = newE 0 1 n from if_neg hbad] at hbg
            refine hbg.mono ?_
            rintro e w6 ⟨rfl, e6, k6⟩
            have hn0 : 0 < (newE 0 1 n).epoch := by show 0 < n; omega
            have C6 := hid (epoch_end e6 hn0)
            have O6 := hid (open_end e6 hn0)
            have M6 := hid (came_end e6 hn0)
            have ST := step_some w6 z p q _ e6 ⟨hn0, (by decide : (0 : Int) ≤ 0), (by decide : (0 : Int) ≤ 1152921504606846976), (by decide : 0 ≤ 8), (by decide : (0 : Int) ≤ 0), (by decide : (0 : Int) ≤ 1152921504606846976), fun x hx => by cases hx⟩
            unfold StepPost at ST
            rw [show stepMs (newE 0 1 n) = [] from rfl] at ST
            have ST := hid ST
            have K6 := hid (KS3.out.fresh2 k6 (by have := hp.out; omega) (by have := hp.out; rcases HQ.out with h | h <;> omega))
            clear hbg e6 k6 hbad hn0
            go_wp2_with fail
            refine C6.out.mono ?_
            rintro e w7 ⟨rfl, rfl⟩
            go_wp2_with fail
            refine O6.out.mono ?_
            rintro e w7 ⟨rfl, rfl⟩
            go_wp2_with fail
            refine M6.out.mono ?_
            rintro e w7 ⟨rfl, rfl⟩
            go_wp2_with fail
            refine ST.out.mono ?_
            rintro e w7 ⟨q7, v7, rfl, hm7, k7⟩
            obtain ⟨ao7, cap7, rfl⟩ := hm7.shape
            have K7 := hid (K6.out.stepped (by have := hp.out; omega) k7)
            clear hm7 k7
            go_wp2
            go_ret
            exact ⟨rfl, K7.out.below (fun _ e => e.elim) (by omega)⟩
        · have b5 := bne_t h5
          obtain ⟨x0, x1, x2, x3, x4, x5, x6⟩ := box_cells HBX.out
          have hbd : wrongE ⟨0, 1, 5, 0, l, 0, false⟩ m ≠ 0 := fun e => h5 (wrong_range e).2.2.2.2.2.2.1
          have hrc := recv_some wr z p q _ m _ HE.out HOK.out HUr.out
          unfold RecvPost at hrc
          rw [show comes ⟨0, 1, 5, 0, l, 0, false⟩ m = false from decide_eq_false (fun e => hbd e.1), show recvTo ⟨0, 1, 5, 0, l, 0, false⟩ m = ⟨0, 1, 5, 0, l, 0, false⟩ from if_pos hbd] at hrc
          have bw := beq_f hbd
          clear hbd
          generalize wrongE ⟨0, 1, 5, 0, l, 0, false⟩ m = wn at *
          have HRC := hid hrc
          clear h5 hrc
          go_wp2_with fail
          refine HC.out.mono ?_
          rintro e ws ⟨rfl, rfl⟩
          go_wp2_with fail
          refine HRC.out.mono ?_
          rintro e w5 ⟨v5, rfl, ⟨ao5, cap5, rfl, -⟩, e5, k5⟩
          have HS3 := hid e5
          have KS3 := hid (HKP.out.fresh2 k5 (by have := hp.out; omega) (by have := hp.out; rcases HQ.out with h | h <;> omega))
          have HC5 := hid (open_end e5 (by decide : (0 : Int) < 5))
          have HCM5 := hid (came_end e5 (by decide : (0 : Int) < 5))
          clear e5 k5
          go_wp2_with fail
          refine HC5.out.mono ?_
          rintro e ws ⟨rfl, rfl⟩
          go_wp2_with fail
          refine HCM5.out.mono ?_
          rintro e ws ⟨rfl, rfl⟩
          go_wp2_with fail
          generalize w5 = ws at *
          have hbg := begin_some ws z p q _ n HS3.out (by decide : (0 : Int) < 5)
          by_cases hbad : n ≤ 5 ∨ 2147483648 < n
          · rw [show beginErr ⟨0, 1, 5, 0, l, 0, false⟩ n = 1 from if_pos hbad, show beginTo ⟨0, 1, 5, 0, l, 0, false⟩ n = ⟨0, 1, 5, 0, l, 0, false⟩ from if_pos hbad] at hbg
            refine hbg.mono ?_
            rintro e w6 ⟨rfl, e6, k6⟩
            have C6 := hid (epoch_end e6 (by decide : (0 : Int) < 5))
            have O6 := hid (open_end e6 (by decide : (0 : Int) < 5))
            have K6 := hid (KS3.out.fresh2 k6 (by have := hp.out; omega) (by have := hp.out; rcases HQ.out with h | h <;> omega))
            clear hbg e6 k6
            rcases hbad with hbad | hbad
            · go_wp2_with fail
              refine C6.out.mono ?_
              rintro e w7 ⟨rfl, rfl⟩
              go_wp2_with fail
              refine O6.out.mono ?_
              rintro e w7 ⟨rfl, rfl⟩
              go_wp2
              go_ret
              exact ⟨rfl, K6.out.below (fun _ e => e.elim) (by omega)⟩
            · go_wp2_with fail
              refine C6.out.mono ?_
              rintro e w7 ⟨rfl, rfl⟩
              go_wp2_with fail
              refine O6.out.mono ?_
              rintro e w7 ⟨rfl, rfl⟩
              go_wp2
              go_ret
              exact ⟨rfl, K6.out.below (fun _ e => e.elim) (by omega)⟩
          · rw [show beginErr ⟨0, 1, 5, 0, l, 0, false⟩ n = 0 from if_neg hbad, show beginTo ⟨0, 1, 5, 0, l, 0, false⟩ n = newE 0 1 n from if_neg hbad] at hbg
            refine hbg.mono ?_
            rintro e w6 ⟨rfl, e6, k6⟩
            have hn0 : 0 < (newE 0 1 n).epoch := by show 0 < n; omega
            have C6 := hid (epoch_end e6 hn0)
            have O6 := hid (open_end e6 hn0)
            have M6 := hid (came_end e6 hn0)
            have ST := step_some w6 z p q _ e6 ⟨hn0, (by decide : (0 : Int) ≤ 0), (by decide : (0 : Int) ≤ 1152921504606846976), (by decide : 0 ≤ 8), (by decide : (0 : Int) ≤ 0), (by decide : (0 : Int) ≤ 1152921504606846976), fun x hx => by cases hx⟩
            unfold StepPost at ST
            rw [show stepMs (newE 0 1 n) = [] from rfl] at ST
            have ST := hid ST
            have K6 := hid (KS3.out.fresh2 k6 (by have := hp.out; omega) (by have := hp.out; rcases HQ.out with h | h <;> omega))
            clear hbg e6 k6 hbad hn0
            go_wp2_with fail
            refine C6.out.mono ?_
            rintro e w7 ⟨rfl, rfl⟩
            go_wp2_with fail
            refine O6.out.mono ?_
            rintro e w7 ⟨rfl, rfl⟩
            go_wp2_with fail
            refine M6.out.mono ?_
            rintro e w7 ⟨rfl, rfl⟩
            go_wp2_with fail
            refine ST.out.mono ?_
            rintro e w7 ⟨q7, v7, rfl, hm7, k7⟩
            obtain ⟨ao7, cap7, rfl⟩ := hm7.shape
            have K7 := hid (K6.out.stepped (by have := hp.out; omega) k7)
            clear hm7 k7
            go_wp2
            go_ret
            exact ⟨rfl, K7.out.below (fun _ e => e.elim) (by omega)⟩
  · have hmx : max (20 : Int) 0 = 20 := by decide
    go_wp2_with fail
    go_loopw [35] (fun i wr => ∃ (k q : Nat) (l : List (List UInt8)), k ≤ 20 ∧ i = .int .i64 k ∧ EndAt z wr p q ⟨0, 1, 5, 0, l, 0, false⟩ ∧ l.length ≤ 8 ∧ (∀ x ∈ l, x.length ≤ 1200) ∧ (q = p ∨ p < q) ∧ Keep Nil w wr ∧ Boxed wr z m (.slice aou m.load.length capu)) (fun i _ => 20 - (intOf i).toNat)
    case atStart => exact ⟨0, p, [], Nat.zero_le _, rfl, E2.out, by simp, by simp, .inl rfl, K2.out, Z2.out⟩
    case round =>
      obtain ⟨k, q, l, hk, rfl, he, hl8, hll, hq, hkp, hbx⟩ := hrel
      have HBX := hid hbx
      have HE := hid he
      have HL := hid hll
      have HQ := hid hq
      have HKP := hid hkp
      clear he hll hq hkp hbx
      by_cases hkt : k < 20
      · obtain ⟨b, off, rfl, hat⟩ := HS.out.at_ (by omega)
        obtain ⟨v, hv, hvb⟩ := hat k (by have := HS.out.hlen; omega)
        obtain ⟨aov, capv, rfl, -⟩ := id hvb
        have cv := HKP.out.cell hv (fun e => e)
        rw [hzd] at hvb
        have HV := hid (hvb.keep HKP.out Mut.nil)
        have hsd := hid (send_some wr z p q _ _ _ HE.out (by decide : (0 : Int) < 5) hl8 HV.out)
        clear hat hv hvb
        go_wp2_with fail
        refine hsd.out.mono ?_
        rintro e w3 ⟨rfl, q', he', k', hq'⟩
        obtain ⟨xs', hx1, hx2, hx3⟩ := sendTo_form ⟨0, 1, 5, 0, l, 0, false⟩ (xs[k]'(by have := HS.out.hlen; omega))
        rw [hx1] at he'
        have HE' := hid he'
        have HX2 := hid hx2
        have HX3 := hid hx3
        have HQ' : Hid (q' = p ∨ p < q') := hid (by
          rcases hq' with h | h
          · rw [h]; exact HQ.out
          · have := HKP.out.size
            have := HE.out.lt.1
            right; omega)
        have HK' := hid (HKP.out.fresh2 k' (by have := hp.out; omega) (by have := hp.out; rcases HQ.out with h | h <;> omega))
        have HBX' := hid (k'.row HBX.out (fun e => by have := hp.out; rcases e with e | e <;> rcases HQ.out with h | h <;> omega))
        clear he' k' hq' hx1 hx2 hx3 hsd
        go_wp2_with fail
        go_roundw
        case rel => exact ⟨k + 1, q', xs', by omega, by go_num, HE'.out, HX2.out hl8, HX3.out HL.out, HQ'.out, HK'.out, HBX'.out⟩
        case measure => simp [intOf] <;> omega
      · have HC := hid (open_end HE.out (by decide : (0 : Int) < 5))
        have HCM := hid (came_end HE.out (by decide : (0 : Int) < 5))
        have HOK := hid (ok5 hl8 HL.out)
        have HUr := hid (HU.out.keep HKP.out Mut.nil)
        by_cases h5 : m.epoch = 5
        · have b5 := bne_f h5
          obtain ⟨x0, x1, x2, x3, x4, x5, x6⟩ := box_cells HBX.out
          clear h5
          go_wp2_with fail
          refine HC.out.mono ?_
          rintro e ws ⟨rfl, rfl⟩
          go_wp2_with fail
          have HS3 := HE
          have KS3 := HKP
          generalize wr = ws at *
          have hbg := begin_some ws z p q _ n HS3.out (by decide : (0 : Int) < 5)
          by_cases hbad : n ≤ 5 ∨ 2147483648 < n
          · rw [show beginErr ⟨0, 1, 5, 0, l, 0, false⟩ n = 1 from if_pos hbad, show beginTo ⟨0, 1, 5, 0, l, 0, false⟩ n = ⟨0, 1, 5, 0, l, 0, false⟩ from if_pos hbad] at hbg
            refine hbg.mono ?_
            rintro e w6 ⟨rfl, e6, k6⟩
            have C6 := hid (epoch_end e6 (by decide : (0 : Int) < 5))
            have O6 := hid (open_end e6 (by decide : (0 : Int) < 5))
            have K6 := hid (KS3.out.fresh2 k6 (by have := hp.out; omega) (by have := hp.out; rcases HQ.out with h | h <;> omega))
            clear hbg e6 k6
            rcases hbad with hbad | hbad
            · go_wp2_with fail
              refine C6.out.mono ?_
              rintro e w7 ⟨rfl, rfl⟩
              go_wp2_with fail
              refine O6.out.mono ?_
              rintro e w7 ⟨rfl, rfl⟩
              go_wp2
              go_ret
              exact ⟨rfl, K6.out.below (fun _ e => e.elim) (by omega)⟩
            · go_wp2_with fail
              refine C6.out.mono ?_
              rintro e w7 ⟨rfl, rfl⟩
              go_wp2_with fail
              refine O6.out.mono ?_
              rintro e w7 ⟨rfl, rfl⟩
              go_wp2
              go_ret
              exact ⟨rfl, K6.out.below (fun _ e => e.elim) (by omega)⟩
          · rw [show beginErr ⟨0, 1, 5, 0, l, 0, false⟩ n = 0 from if_neg hbad, show beginTo ⟨0, 1, 5, 0, l, 0, false⟩ n = newE 0 1 n from if_neg hbad] at hbg
            refine hbg.mono ?_
            rintro e w6 ⟨rfl, e6, k6⟩
            have hn0 : 0 < (newE 0 1 n).epoch := by show 0 < n; omega
            have C6 := hid (epoch_end e6 hn0)
            have O6 := hid (open_end e6 hn0)
            have M6 := hid (came_end e6 hn0)
            have ST := step_some w6 z p q _ e6 ⟨hn0, (by decide : (0 : Int) ≤ 0), (by decide : (0 : Int) ≤ 1152921504606846976), (by decide : 0 ≤ 8), (by decide : (0 : Int) ≤ 0), (by decide : (0 : Int) ≤ 1152921504606846976), fun x hx => by cases hx⟩
            unfold StepPost at ST
            rw [show stepMs (newE 0 1 n) = [] from rfl] at ST
            have ST := hid ST
            have K6 := hid (KS3.out.fresh2 k6 (by have := hp.out; omega) (by have := hp.out; rcases HQ.out with h | h <;> omega))
            clear hbg e6 k6 hbad hn0
            go_wp2_with fail
            refine C6.out.mono ?_
            rintro e w7 ⟨rfl, rfl⟩
            go_wp2_with fail
            refine O6.out.mono ?_
            rintro e w7 ⟨rfl, rfl⟩
            go_wp2_with fail
            refine M6.out.mono ?_
            rintro e w7 ⟨rfl, rfl⟩
            go_wp2_with fail
            refine ST.out.mono ?_
            rintro e w7 ⟨q7, v7, rfl, hm7, k7⟩
            obtain ⟨ao7, cap7, rfl⟩ := hm7.shape
            have K7 := hid (K6.out.stepped (by have := hp.out; omega) k7)
            clear hm7 k7
            go_wp2
            go_ret
            exact ⟨rfl, K7.out.below (fun _ e => e.elim) (by omega)⟩
        · have b5 := bne_t h5
          obtain ⟨x0, x1, x2, x3, x4, x5, x6⟩ := box_cells HBX.out
          have hbd : wrongE ⟨0, 1, 5, 0, l, 0, false⟩ m ≠ 0 := fun e => h5 (wrong_range e).2.2.2.2.2.2.1
          have hrc := recv_some wr z p q _ m _ HE.out HOK.out HUr.out
          unfold RecvPost at hrc
          rw [show comes ⟨0, 1, 5, 0, l, 0, false⟩ m = false from decide_eq_false (fun e => hbd e.1), show recvTo ⟨0, 1, 5, 0, l, 0, false⟩ m = ⟨0, 1, 5, 0, l, 0, false⟩ from if_pos hbd] at hrc
          have bw := beq_f hbd
          clear hbd
          generalize wrongE ⟨0, 1, 5, 0, l, 0, false⟩ m = wn at *
          have HRC := hid hrc
          clear h5 hrc
          go_wp2_with fail
          refine HC.out.mono ?_
          rintro e ws ⟨rfl, rfl⟩
          go_wp2_with fail
          refine HRC.out.mono ?_
          rintro e w5 ⟨v5, rfl, ⟨ao5, cap5, rfl, -⟩, e5, k5⟩
          have HS3 := hid e5
          have KS3 := hid (HKP.out.fresh2 k5 (by have := hp.out; omega) (by have := hp.out; rcases HQ.out with h | h <;> omega))
          have HC5 := hid (open_end e5 (by decide : (0 : Int) < 5))
          have HCM5 := hid (came_end e5 (by decide : (0 : Int) < 5))
          clear e5 k5
          go_wp2_with fail
          refine HC5.out.mono ?_
          rintro e ws ⟨rfl, rfl⟩
          go_wp2_with fail
          refine HCM5.out.mono ?_
          rintro e ws ⟨rfl, rfl⟩
          go_wp2_with fail
          generalize w5 = ws at *
          have hbg := begin_some ws z p q _ n HS3.out (by decide : (0 : Int) < 5)
          by_cases hbad : n ≤ 5 ∨ 2147483648 < n
          · rw [show beginErr ⟨0, 1, 5, 0, l, 0, false⟩ n = 1 from if_pos hbad, show beginTo ⟨0, 1, 5, 0, l, 0, false⟩ n = ⟨0, 1, 5, 0, l, 0, false⟩ from if_pos hbad] at hbg
            refine hbg.mono ?_
            rintro e w6 ⟨rfl, e6, k6⟩
            have C6 := hid (epoch_end e6 (by decide : (0 : Int) < 5))
            have O6 := hid (open_end e6 (by decide : (0 : Int) < 5))
            have K6 := hid (KS3.out.fresh2 k6 (by have := hp.out; omega) (by have := hp.out; rcases HQ.out with h | h <;> omega))
            clear hbg e6 k6
            rcases hbad with hbad | hbad
            · go_wp2_with fail
              refine C6.out.mono ?_
              rintro e w7 ⟨rfl, rfl⟩
              go_wp2_with fail
              refine O6.out.mono ?_
              rintro e w7 ⟨rfl, rfl⟩
              go_wp2
              go_ret
              exact ⟨rfl, K6.out.below (fun _ e => e.elim) (by omega)⟩
            · go_wp2_with fail
              refine C6.out.mono ?_
              rintro e w7 ⟨rfl, rfl⟩
              go_wp2_with fail
              refine O6.out.mono ?_
              rintro e w7 ⟨rfl, rfl⟩
              go_wp2
              go_ret
              exact ⟨rfl, K6.out.below (fun _ e => e.elim) (by omega)⟩
          · rw [show beginErr ⟨0, 1, 5, 0, l, 0, false⟩ n = 0 from if_neg hbad, show beginTo ⟨0, 1, 5, 0, l, 0, false⟩ n = newE 0 1 n from if_neg hbad] at hbg
            refine hbg.mono ?_
            rintro e w6 ⟨rfl, e6, k6⟩
            have hn0 : 0 < (newE 0 1 n).epoch := by show 0 < n; omega
            have C6 := hid (epoch_end e6 hn0)
            have O6 := hid (open_end e6 hn0)
            have M6 := hid (came_end e6 hn0)
            have ST := step_some w6 z p q _ e6 ⟨hn0, (by decide : (0 : Int) ≤ 0), (by decide : (0 : Int) ≤ 1152921504606846976), (by decide : 0 ≤ 8), (by decide : (0 : Int) ≤ 0), (by decide : (0 : Int) ≤ 1152921504606846976), fun x hx => by cases hx⟩
            unfold StepPost at ST
            rw [show stepMs (newE 0 1 n) = [] from rfl] at ST
            have ST := hid ST
            have K6 := hid (KS3.out.fresh2 k6 (by have := hp.out; omega) (by have := hp.out; rcases HQ.out with h | h <;> omega))
            clear hbg e6 k6 hbad hn0
            go_wp2_with fail
            refine C6.out.mono ?_
            rintro e w7 ⟨rfl, rfl⟩
            go_wp2_with fail
            refine O6.out.mono ?_
            rintro e w7 ⟨rfl, rfl⟩
            go_wp2_with fail
            refine M6.out.mono ?_
            rintro e w7 ⟨rfl, rfl⟩
            go_wp2_with fail
            refine ST.out.mono ?_
            rintro e w7 ⟨q7, v7, rfl, hm7, k7⟩
            obtain ⟨ao7, cap7, rfl⟩ := hm7.shape
            have K7 := hid (K6.out.stepped (by have := hp.out; omega) k7)
            clear hm7 k7
            go_wp2
            go_ret
            exact ⟨rfl, K7.out.below (fun _ e => e.elim) (by omega)⟩

end Go.Proofs.Ytjlgolkippleaaa
