/-
  The reference's Unpack: of what Pack made, and of what Open refuses.
-/
import Derived.Test.YtjlgolkippleaaaReadW
namespace Go.Proofs.Ytjlgolkippleaaa
open Go.RowKit

theorem has8_le8 (n : Nat) (ys : List UInt8) : Has8 (le8 n ++ ys) 0 n := by
  intro k hk
  rw [Nat.zero_add, List.getElem?_append_left (by rw [le8_length]; exact hk), le8_get n k hk]
theorem has8_shift {xs : List UInt8} {a x : Nat} (zs : List UInt8) (h : Has8 xs a x) : Has8 (zs ++ xs) (zs.length + a) x := by
  intro k hk
  rw [List.getElem?_append_right (by omega), show zs.length + a + k - zs.length = a + k by omega]
  exact h k hk
theorem has8_put : ∀ (ns : List Nat) (i : Nat) (h : i < ns.length) (ys : List UInt8), Has8 (putL ns ++ ys) (8 * i) ns[i]
  | n :: ns, 0, _, ys => by
    have := has8_le8 n (putL ns ++ ys)
    simpa [putL, List.append_assoc] using this
  | n :: ns, i + 1, h, ys => by
    have := has8_shift (le8 n) (has8_put ns i (by simpa using h) ys)
    rw [le8_length, show 8 + 8 * i = 8 * (i + 1) by omega] at this
    simpa [putL, List.append_assoc] using this
theorem packB_eq (m : MS) : packB m = putL (headL m ++ [m.load.length]) ++ m.load := by simp [packB, partL, putL]
theorem packB_has (m : MS) (i : Nat) (h : i < 7) : Has8 (packB m) (8 * i) ((headL m ++ [m.load.length])[i]'(by simpa [headL] using h)) := by
  rw [packB_eq]
  exact has8_put _ i _ _
theorem packB_load (m : MS) : ((packB m).drop (48 + 8)).take m.load.length = m.load := by
  rw [packB_eq, List.drop_left' (by rw [putL_length]; simp [headL]), List.take_length]

def zeroM : Value := .agg #[.int .i64 0, .int .i64 0, .int .i64 0, .int .i64 0, .int .i64 0, .int .i64 0, .slice none 0 0]
set_option maxRecDepth 100000 in
set_option maxHeartbeats 2000000 in
theorem unpack_bad (w : World) (B : Nat) (v : Value) (xs : List UInt8) (h : Blk B w v xs) (hl : xs.length ≤ 100000) (hb : openBad xs) :
    Calls Try.prog 33 #[v] w fun e w' => e = .returned (.tuple #[zeroM, .int .i64 4]) ∧ Keep Nil w w' := by
  have HO := hid (fun o => open_bad (w.alloc o) B v xs (h.keep ((Keep.refl w).alloc o) Mut.nil) (by omega) hb)
  have HZ := hid (heap_new w (.cells #[.int .i64 0, .int .i64 0, .int .i64 0, .int .i64 0, .int .i64 0, .int .i64 0, .slice none 0 0] 47 (0, 0)))
  have HK := hid ((Keep.refl (S := Nil) w).alloc (.cells #[.int .i64 0, .int .i64 0, .int .i64 0, .int .i64 0, .int .i64 0, .int .i64 0, .slice none 0 0] 47 (0, 0)))
  obtain ⟨h', ao, cap, rfl, -⟩ := id h
  clear h h' hb
  go_enter Try.func33, Try.ntmps33
  go_wp2_with fail
  refine (HO.out _).mono ?_
  rintro e w1 ⟨rfl, k1⟩
  have Z1 := hid (k1.row HZ.out (fun e => e))
  have K1 := hid (HK.out.trans k1)
  have hz1 := row_lt Z1.out
  obtain ⟨f0, f1, f2, f3, f4, f5, f6, g0, g1, g2, g3, g4, g5, g6⟩ := msg_cells Z1.out
  clear k1 HZ HK HO
  go_wp2_with fail
  obtain ⟨W, hW, KR, KK, RR⟩ := wrote_msg (.int .i64 0) (.int .i64 0) (.int .i64 0) (.int .i64 0) (.int .i64 0) (.int .i64 0) (.slice none 0 0) Z1.out
  rw [← hW]
  have KK' := KK Nil _ K1.out (fun h => absurd h (Nat.lt_irrefl _))
  clear hW f0 f1 f2 f3 f4 f5 f6 g0 g1 g2 g3 g4 g5 g6 KK RR
  obtain ⟨f0, f1, f2, f3, f4, f5, f6, -⟩ := msg_cells KR
  refine bodyPost_ret (v := .tuple #[zeroM, .int .i64 4]) ?_ rfl ⟨rfl, KK'⟩
  clear KK' KR K1 Z1
  simp [results, Try.results33, go_sem, f0, f1, f2, f3, f4, f5, f6, zeroM]

theorem int_at (w : World) (B z i : Nat) (v : Value) (m : MS) (x : Int) (hi : i < 6) (hv : Bts B w v (packB m)) (hr : RdAt w z v (8 * i)) (hz : B ≤ z) (hg : GoodM m) (hx : (headL m)[i]? = some x.toNat) (hx0 : 0 ≤ x ∧ x ≤ 2147483648) :
    Calls Try.prog 47 #[.pointer (some ⟨z, 0, none⟩), .int .i64 2147483648] w fun e w' => e = .returned (.int .i64 x) ∧ RdAt w' z v (8 * (i + 1)) ∧ Bts B w' v (packB m) ∧ Keep (One z) w w' := by
  have hl := packB_length m
  have hgl := hg.load
  have h8 := packB_has m i (by omega)
  have hxi : (headL m ++ [m.load.length])[i]'(by simp [headL]; omega) = x.toNat := by
    have h6 : (headL m).length = 6 := rfl
    rw [List.getElem_append_left (by omega)]
    rw [List.getElem?_eq_getElem (by omega)] at hx
    exact Option.some.inj hx
  rw [hxi] at h8
  refine (int_good w B z (8 * i) x.toNat v (packB m) hv hr h8 (by omega) (by omega)).mono ?_
  rintro e w' ⟨rfl, h1, h2⟩
  exact ⟨by rw [Int.toNat_of_nonneg hx0.1], h1, hv.keep h2 (hr.mut hz), h2⟩

set_option maxRecDepth 100000 in
set_option maxHeartbeats 4000000 in
theorem unpack_good (w : World) (B : Nat) (v : Value) (m : MS) (hB : B ≤ w.heap.size) (h : Blk B w v (sealL (packB m))) (hg : GoodM m) :
    Calls Try.prog 33 #[v] w fun e w' => ∃ q u, e = .returned (.tuple #[mV m u, .int .i64 0]) ∧ RowAt w' 5 1 q u m.load.length (bcells m.load) ∧ w.heap.size ≤ q ∧ Keep Nil w w' := by
  have hl := packB_length m
  have HO := hid (fun o => open_good (w.alloc o) B v (packB m) (h.keep ((Keep.refl w).alloc o) Mut.nil) (by have := hg.load; omega))
  unfold OpenPost at HO
  have HZ := hid (heap_new w (.cells #[.int .i64 0, .int .i64 0, .int .i64 0, .int .i64 0, .int .i64 0, .int .i64 0, .slice none 0 0] 47 (0, 0)))
  have HK := hid ((Keep.refl (S := Nil) w).alloc (.cells #[.int .i64 0, .int .i64 0, .int .i64 0, .int .i64 0, .int .i64 0, .int .i64 0, .slice none 0 0] 47 (0, 0)))
  obtain ⟨h', ao, cap, rfl, -⟩ := id h
  have HG := hid hg
  replace hl := hid hl
  clear h h' hg
  go_enter Try.func33, Try.ntmps33
  go_wp2_with fail
  refine (HO.out _).mono ?_
  rintro e w1 ⟨v1, rfl, b1, k1⟩
  obtain ⟨b1', ao1, cap1, rfl, hcap1⟩ := id b1
  have Z1 := hid (k1.row HZ.out (fun e => e))
  have K1 := hid (HK.out.trans k1)
  have B1 := hid b1
  have hz1 := row_lt Z1.out
  clear k1 HZ HK HO b1 b1'
  go_wp2_with fail
  have R2 : RdAt (w1.alloc (.cells #[.slice ao1 (packB m).length cap1, .int .i64 0, .int .i64 0, .int .i64 0] 101)) w1.heap.size (.slice ao1 (packB m).length cap1) (8 * 0) := heap_new _ _
  have V2 := (B1.out.1.alloc (.cells #[.slice ao1 (packB m).length cap1, .int .i64 0, .int .i64 0, .int .i64 0] 101))
  have Z2 := (Keep.refl (S := Nil) w1).alloc (.cells #[.slice ao1 (packB m).length cap1, .int .i64 0, .int .i64 0, .int .i64 0] 101) |>.row Z1.out (fun e => e)
  have K2 := K1.out.alloc (.cells #[.slice ao1 (packB m).length cap1, .int .i64 0, .int .i64 0, .int .i64 0] 101)
  have hs2 := size_alloc w1 (.cells #[.slice ao1 (packB m).length cap1, .int .i64 0, .int .i64 0, .int .i64 0] 101)
  have hzB : B ≤ w1.heap.size := by omega
  have hze : w.heap.size ≠ w1.heap.size := by omega
  have hzw : w.heap.size ≤ w1.heap.size := by omega
  replace R2 := hid R2
  replace V2 := hid V2
  replace Z2 := hid Z2
  replace K2 := hid K2
  clear Z1 K1 B1
  generalize w1.alloc (.cells #[.slice ao1 (packB m).length cap1, .int .i64 0, .int .i64 0, .int .i64 0] 101) = w2 at *
  generalize w1.heap.size = z at *
  skip
  refine (int_at _ B z 0 _ m m.frm (by omega) V2.out R2.out hzB HG.out rfl ⟨HG.out.frm.1, by have := HG.out.frm.2; omega⟩).mono ?_
  rintro e w3 ⟨rfl, hr, hv, hk⟩
  have R3 := hid hr
  have V3 := hid hv
  have Z3 := hid (hk.row Z2.out (fun e => hze e))
  have K3 := hid (K2.out.andThen hk (fun i hi e => by have e' : i = z := e; omega))
  clear hr hv hk R2 V2 Z2 K2
  go_wp2_with fail
  refine (int_at _ B z 1 _ m m.to (by omega) V3.out R3.out hzB HG.out rfl ⟨HG.out.to.1, by have := HG.out.to.2; omega⟩).mono ?_
  rintro e w4 ⟨rfl, hr, hv, hk⟩
  have R4 := hid hr
  have V4 := hid hv
  have Z4 := hid (hk.row Z3.out (fun e => hze e))
  have K4 := hid (K3.out.andThen hk (fun i hi e => by have e' : i = z := e; omega))
  clear hr hv hk R3 V3 Z3 K3
  go_wp2_with fail
  refine (int_at _ B z 2 _ m m.kind (by omega) V4.out R4.out hzB HG.out rfl ⟨HG.out.kind.1, by have := HG.out.kind.2; omega⟩).mono ?_
  rintro e w5 ⟨rfl, hr, hv, hk⟩
  have R5 := hid hr
  have V5 := hid hv
  have Z5 := hid (hk.row Z4.out (fun e => hze e))
  have K5 := hid (K4.out.andThen hk (fun i hi e => by have e' : i = z := e; omega))
  clear hr hv hk R4 V4 Z4 K4
  go_wp2_with fail
  refine (int_at _ B z 3 _ m m.epoch (by omega) V5.out R5.out hzB HG.out rfl ⟨HG.out.epoch.1, by have := HG.out.epoch.2; omega⟩).mono ?_
  rintro e w6 ⟨rfl, hr, hv, hk⟩
  have R6 := hid hr
  have V6 := hid hv
  have Z6 := hid (hk.row Z5.out (fun e => hze e))
  have K6 := hid (K5.out.andThen hk (fun i hi e => by have e' : i = z := e; omega))
  clear hr hv hk R5 V5 Z5 K5
  go_wp2_with fail
  refine (int_at _ B z 4 _ m m.seq (by omega) V6.out R6.out hzB HG.out rfl ⟨HG.out.seq.1, by have := HG.out.seq.2; omega⟩).mono ?_
  rintro e w7 ⟨rfl, hr, hv, hk⟩
  have R7 := hid hr
  have V7 := hid hv
  have Z7 := hid (hk.row Z6.out (fun e => hze e))
  have K7 := hid (K6.out.andThen hk (fun i hi e => by have e' : i = z := e; omega))
  clear hr hv hk R6 V6 Z6 K6
  go_wp2_with fail
  refine (int_at _ B z 5 _ m m.ack (by omega) V7.out R7.out hzB HG.out rfl ⟨HG.out.ack.1, by have := HG.out.ack.2; omega⟩).mono ?_
  rintro e w8 ⟨rfl, hr, hv, hk⟩
  have R8 := hid hr
  have V8 := hid hv
  have Z8 := hid (hk.row Z7.out (fun e => hze e))
  have K8 := hid (K7.out.andThen hk (fun i hi e => by have e' : i = z := e; omega))
  clear hr hv hk R7 V7 Z7 K7
  go_wp2_with fail
  have hz8 := row_lt R8.out
  have Y9 := heap_new w8 (.cells #[.int .i64 m.frm, .int .i64 m.to, .int .i64 m.kind, .int .i64 m.epoch, .int .i64 m.seq, .int .i64 m.ack, .slice none 0 0] 47)
  have R9 : RdAt (w8.alloc (.cells #[.int .i64 m.frm, .int .i64 m.to, .int .i64 m.kind, .int .i64 m.epoch, .int .i64 m.seq, .int .i64 m.ack, .slice none 0 0] 47)) z _ (48) := R8.out.keep ((Keep.refl (S := Nil) w8).alloc (.cells #[.int .i64 m.frm, .int .i64 m.to, .int .i64 m.kind, .int .i64 m.epoch, .int .i64 m.seq, .int .i64 m.ack, .slice none 0 0] 47)) (fun e => e)
  have V9 := V8.out.alloc (.cells #[.int .i64 m.frm, .int .i64 m.to, .int .i64 m.kind, .int .i64 m.epoch, .int .i64 m.seq, .int .i64 m.ack, .slice none 0 0] 47)
  have Z9 := ((Keep.refl (S := Nil) w8).alloc (.cells #[.int .i64 m.frm, .int .i64 m.to, .int .i64 m.kind, .int .i64 m.epoch, .int .i64 m.seq, .int .i64 m.ack, .slice none 0 0] 47)).row Z8.out (fun e => e)
  have K9 := K8.out.alloc (.cells #[.int .i64 m.frm, .int .i64 m.to, .int .i64 m.kind, .int .i64 m.epoch, .int .i64 m.seq, .int .i64 m.ack, .slice none 0 0] 47)
  have hs9 := size_alloc w8 (.cells #[.int .i64 m.frm, .int .i64 m.to, .int .i64 m.kind, .int .i64 m.epoch, .int .i64 m.seq, .int .i64 m.ack, .slice none 0 0] 47)
  have hyz : w8.heap.size ≠ z := by omega
  have hyw : w.heap.size < w8.heap.size := by omega
  replace Y9 := hid Y9
  replace R9 := hid R9
  replace V9 := hid V9
  replace Z9 := hid Z9
  replace K9 := hid K9
  replace hs9 := hid hs9
  clear R8 V8 Z8 K8
  generalize w8.alloc (.cells #[.int .i64 m.frm, .int .i64 m.to, .int .i64 m.kind, .int .i64 m.epoch, .int .i64 m.seq, .int .i64 m.ack, .slice none 0 0] 47) = w9 at *
  generalize w8.heap.size = y at *
  have HL := packB_load m
  have H8 : Has8 (packB m) 48 m.load.length := packB_has m 6 (by omega)
  refine (rpart_good w9 B z 48 _ (packB m) m.load ⟨V9.out, ao1, cap1, rfl, hcap1⟩ R9.out H8 HL (by have := hl.out; have := HG.out.load; omega) (by have := hl.out; omega) hzB).mono ?_
  rintro e w10 ⟨q10, v10, rfl, r10, q10', hr, hk⟩
  obtain ⟨ao10, cap10, rfl⟩ := r10.shape
  have Y10 := hid (hk.row Y9.out (fun e => hyz e))
  have hY10 := row_lt Y10.out
  obtain ⟨x0, x1, x2, x3, x4, x5, x6⟩ : w10.cell? ⟨y, 0, none⟩ = some (.int .i64 m.frm) ∧ w10.cell? ⟨y, 1, none⟩ = some (.int .i64 m.to) ∧ w10.cell? ⟨y, 2, none⟩ = some (.int .i64 m.kind) ∧ w10.cell? ⟨y, 3, none⟩ = some (.int .i64 m.epoch) ∧ w10.cell? ⟨y, 4, none⟩ = some (.int .i64 m.seq) ∧ w10.cell? ⟨y, 5, none⟩ = some (.int .i64 m.ack) ∧ w10.cell? ⟨y, 6, none⟩ = some (.slice none 0 0) := by
    have k := row_cell Y10.out
    exact ⟨k 0, k 1, k 2, k 3, k 4, k 5, k 6⟩
  have xf := row_free Y10.out 6
  have Z10 := hid (hk.row Z9.out (fun e => hze e))
  have K10 := hid (K9.out.andThen hk (fun i hi e => by have e' : i = z := e; omega))
  have R10 := hid hr
  have P10 := hid r10
  have Q10 : Hid (y < q10) := hid (by have := hs9.out; omega)
  clear hr hk r10 Y9 R9 V9 Z9 K9 HL H8 q10'
  go_wp2_with fail
  have kS : Keep (One y) w10 (w10.setCell ⟨y, 6, none⟩ (.slice ao10 m.load.length cap10)) := (Keep.refl w10).setCell (S := One y) (p := ⟨y, 6, none⟩) (fun _ => rfl) _
  have Y11 : (w10.setCell ⟨y, 6, none⟩ (.slice ao10 m.load.length cap10)).heap[y]? = some (.cells #[.int .i64 m.frm, .int .i64 m.to, .int .i64 m.kind, .int .i64 m.epoch, .int .i64 m.seq, .int .i64 m.ack, .slice ao10 m.load.length cap10] 47 (0, 0)) := row_set Y10.out 6 _
  have Z11 := kS.row Z10.out (fun e => by have e' : w.heap.size = y := e; omega)
  have R11 := R10.out.keep kS (fun e => hyz (Eq.symm e))
  have K11 := K10.out.andThen kS (fun i hi e => by have e' : i = y := e; omega)
  have P11 := P10.out.keep kS (fun e => by have e' : q10 = y := e; have := Q10.out; omega)
  replace Y11 := hid Y11
  replace Z11 := hid Z11
  replace R11 := hid R11
  replace K11 := hid K11
  replace P11 := hid P11
  clear kS x0 x1 x2 x3 x4 x5 x6 xf Y10 Z10 R10 K10 P10
  generalize w10.setCell ⟨y, 6, none⟩ (.slice ao10 m.load.length cap10) = w11 at *
  refine (rend_good w11 z ao1 (packB m).length cap1 (by have h := R11.out; rw [show 48 + 8 + m.load.length = (packB m).length by have := hl.out; omega] at h; exact h)).mono ?_
  rintro e w12 ⟨rfl, k12⟩
  have Y12 := hid (k12.row Y11.out (fun e => e))
  have Z12 := hid (k12.row Z11.out (fun e => e))
  have K12 := hid (K11.out.trans k12)
  have P12 := hid (P11.out.keep k12 (fun e => e))
  obtain ⟨x0, x1, x2, x3, x4, x5, x6⟩ : w12.cell? ⟨y, 0, none⟩ = some (.int .i64 m.frm) ∧ w12.cell? ⟨y, 1, none⟩ = some (.int .i64 m.to) ∧ w12.cell? ⟨y, 2, none⟩ = some (.int .i64 m.kind) ∧ w12.cell? ⟨y, 3, none⟩ = some (.int .i64 m.epoch) ∧ w12.cell? ⟨y, 4, none⟩ = some (.int .i64 m.seq) ∧ w12.cell? ⟨y, 5, none⟩ = some (.int .i64 m.ack) ∧ w12.cell? ⟨y, 6, none⟩ = some (.slice ao10 m.load.length cap10) := by
    have k := row_cell Y12.out
    exact ⟨k 0, k 1, k 2, k 3, k 4, k 5, k 6⟩
  clear k12 Y11 Z11 K11 P11 R11
  have hfd : (Instr.field 99 (.agg #[.int .i64 0, .int .i64 0]) 0).run Try.prog w12 = .ok (.int .i64 0) w12 := by kernel_rfl
  go_wp2_with fail
  have hrg := right_good w12 m ao10 cap10 HG.out
  unfold mV at hrg
  refine hrg.mono ?_
  rintro e w13 ⟨rfl, k13⟩
  have Y13 := hid (k13.row Y12.out (fun e => e))
  have Z13 := hid (k13.row Z12.out (fun e => e))
  have K13 := hid (K12.out.trans k13)
  have P13 := hid (P12.out.keep k13 (fun e => e))
  have hz13 := row_lt Z13.out
  clear x0 x1 x2 x3 x4 x5 x6 hfd
  obtain ⟨x0, x1, x2, x3, x4, x5, x6⟩ : w13.cell? ⟨y, 0, none⟩ = some (.int .i64 m.frm) ∧ w13.cell? ⟨y, 1, none⟩ = some (.int .i64 m.to) ∧ w13.cell? ⟨y, 2, none⟩ = some (.int .i64 m.kind) ∧ w13.cell? ⟨y, 3, none⟩ = some (.int .i64 m.epoch) ∧ w13.cell? ⟨y, 4, none⟩ = some (.int .i64 m.seq) ∧ w13.cell? ⟨y, 5, none⟩ = some (.int .i64 m.ack) ∧ w13.cell? ⟨y, 6, none⟩ = some (.slice ao10 m.load.length cap10) := by
    have k := row_cell Y13.out
    exact ⟨k 0, k 1, k 2, k 3, k 4, k 5, k 6⟩
  obtain ⟨f0, f1, f2, f3, f4, f5, f6, g0, g1, g2, g3, g4, g5, g6⟩ := msg_cells Z13.out
  clear k13 hrg Y12 Z12 K12 P12
  go_wp2_with fail
  obtain ⟨W, hW, KR, KK, RR⟩ := wrote_msg (.int .i64 m.frm) (.int .i64 m.to) (.int .i64 m.kind) (.int .i64 m.epoch) (.int .i64 m.seq) (.int .i64 m.ack) (.slice ao10 m.load.length cap10) Z13.out
  rw [← hW]
  have KK' := KK Nil _ K13.out (fun h => absurd h (Nat.lt_irrefl _))
  have RR' := RR _ _ _ _ _ _ P13.out (by have := Q10.out; omega)
  have k := row_cell KR
  have c0 : W.cell? ⟨w.heap.size, 0, none⟩ = some (.int .i64 m.frm) := k 0
  have c1 : W.cell? ⟨w.heap.size, 1, none⟩ = some (.int .i64 m.to) := k 1
  have c2 : W.cell? ⟨w.heap.size, 2, none⟩ = some (.int .i64 m.kind) := k 2
  have c3 : W.cell? ⟨w.heap.size, 3, none⟩ = some (.int .i64 m.epoch) := k 3
  have c4 : W.cell? ⟨w.heap.size, 4, none⟩ = some (.int .i64 m.seq) := k 4
  have c5 : W.cell? ⟨w.heap.size, 5, none⟩ = some (.int .i64 m.ack) := k 5
  have c6 : W.cell? ⟨w.heap.size, 6, none⟩ = some (.slice ao10 m.load.length cap10) := k 6
  clear hW f0 f1 f2 f3 f4 f5 f6 g0 g1 g2 g3 g4 g5 g6 KK RR k KR
  refine bodyPost_ret (v := .tuple #[mV m (.slice ao10 m.load.length cap10), .int .i64 0]) ?_ rfl ⟨q10, _, rfl, RR', by have := Q10.out; omega, KK'⟩
  clear KK' RR' K13 Z13 Y13 P13
  simp [results, Try.results33, go_sem, c0, c1, c2, c3, c4, c5, c6, mV]
end Go.Proofs.Ytjlgolkippleaaa
