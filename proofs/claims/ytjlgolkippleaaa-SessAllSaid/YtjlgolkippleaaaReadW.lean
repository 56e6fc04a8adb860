/-
  The reference's Reader where all that is asked for is there: peek, Int, Part, End.
-/
import Derived.Test.YtjlgolkippleaaaPack2
namespace Go.Proofs.Ytjlgolkippleaaa
open Go.RowKit

/-- a Reader without a fault -/
def RdAt (w : World) (z : Nat) (v : Value) (at_ : Nat) : Prop := w.heap[z]? = some (.cells #[v, .int .i64 (at_ : Nat), .int .i64 0, .int .i64 0] 101 (0, 0))
theorem RdAt.keep {S : Nat → Prop} {w w' : World} {z : Nat} {v : Value} {n : Nat} (h : RdAt w z v n) (k : Keep S w w') (hs : ¬ S z) : RdAt w' z v n := k.row h hs
theorem RdAt.cells {w : World} {z : Nat} {v : Value} {n : Nat} (h : RdAt w z v n) : w.cell? ⟨z, 0, none⟩ = some v ∧ w.cell? ⟨z, 1, none⟩ = some (.int .i64 (n : Nat)) ∧ w.cell? ⟨z, 2, none⟩ = some (.int .i64 0) ∧ w.cell? ⟨z, 3, none⟩ = some (.int .i64 0) ∧ w.frozen? ⟨z, 1, none⟩ = false := by
  have k := row_cell h
  exact ⟨k 0, k 1, k 2, k 3, row_free h 1⟩

/-- a number lies in the bytes -/
def Has8 (bs : List UInt8) (at_ x : Nat) : Prop := ∀ k, k < 8 → bs[at_ + k]? = some (UInt8.ofNat (x / 256 ^ k))
theorem or_byte (n y : Nat) (h : n < 72057594037927936) (hy : y < 256) : bits BinOp.or IntKind.u64 ((n : Int) * 256) (y : Int) = ((n * 256 + y : Nat) : Int) := by
  have e1 : BitVec.ofInt 64 ((n : Int) * 256) = BitVec.ofNat 64 (n * 256) := by
    rw [show ((n : Int) * 256) = ((n * 256 : Nat) : Int) by omega, BitVec.ofInt_natCast]
  have e3 : BitVec.ofInt 64 (y : Int) = BitVec.ofNat 64 y := BitVec.ofInt_natCast _ _
  have e2 : (BitVec.ofInt 64 ((n : Int) * 256) ||| BitVec.ofInt 64 (y : Int)).toNat = n * 256 + y := by
    rw [e1, e3, BitVec.toNat_or, BitVec.toNat_ofNat, BitVec.toNat_ofNat, Nat.mod_eq_of_lt (by omega), Nat.mod_eq_of_lt (by omega)]
    have := Nat.shiftLeft_add_eq_or_of_lt (i := 8) (b := y) (by omega) n
    rw [Nat.shiftLeft_eq, show (2 : Nat) ^ 8 = 256 from rfl] at this
    omega
  have e4 : bits BinOp.or IntKind.u64 ((n : Int) * 256) (y : Int) = IntKind.u64.wrap (((BitVec.ofInt 64 ((n : Int) * 256) ||| BitVec.ofInt 64 (y : Int)).toNat : Nat) : Int) := rfl
  rw [e4, e2]
  exact IntWalk.u64_in _ (by omega)
def PeekRel (x : Nat) (n k : Value) : Prop := (∃ j : Nat, j < 8 ∧ k = .int .i64 j ∧ n = .int .u64 ((x / 256 ^ (j + 1) : Nat) : Int)) ∨ (k = .int .i64 (-1) ∧ n = .int .u64 (x : Nat))
theorem step256 (x j : Nat) : x / 256 ^ (j + 1) * 256 + x / 256 ^ j % 256 = x / 256 ^ j := by
  rw [Nat.pow_succ, ← Nat.div_div_eq_div_mul]
  omega
set_option maxRecDepth 100000 in
set_option maxHeartbeats 2000000 in
theorem peek_good (w : World) (B z at_ x : Nat) (v : Value) (bs : List UInt8) (h : Bts B w v bs) (hr : RdAt w z v at_) (h8 : Has8 bs at_ x) (hl : bs.length ≤ 100000) (hx : x ≤ 2147483648) :
    Calls Try.prog 54 #[.pointer (some ⟨z, 0, none⟩)] w fun e w' => e = .returned (.int .u64 (x : Nat)) ∧ Keep Nil w w' := by
  obtain ⟨ao, cap, rfl, hc⟩ := h
  have hlen : at_ + 8 ≤ bs.length := by
    have := h8 7 (by omega)
    have := (List.getElem?_eq_some_iff.1 this).1
    omega
  obtain ⟨b, off, rfl, -, hcc⟩ := hc (by omega)
  have HCC := hid hcc
  have H8 := hid h8
  obtain ⟨x0, x1, x2, x3, -⟩ := hr.cells
  have HR := hid hr
  have hw : IntKind.i64.wrap ((bs.length : Int) - (at_ : Nat)) = (bs.length : Int) - (at_ : Nat) := IntWalk.i64_in _ (by omega)
  have hd : decide ((bs.length : Int) - (at_ : Nat) < 8) = false := by simp; omega
  clear hc hcc h8 hr
  go_enter Try.func54, Try.ntmps54
  go_wp2_with fail
  go_quiet (fail)
  go_wp2_with fail
  clear hw hd
  have KK := hid (keep_drewN nq (Keep.refl (S := Nil) w))
  generalize w.drewN nq = w1 at *
  go_loopw [3, 4] (fun n k wr => PeekRel x n k ∧ Keep Nil w wr) (fun _ k _ => (intOf k + 1).toNat)
  case atStart => exact ⟨.inl ⟨7, by omega, rfl, by rw [show x / 256 ^ (7 + 1) = 0 from Nat.div_eq_of_lt (by omega)]; rfl⟩, KK.out⟩
  case round =>
    obtain ⟨hrel, hkp⟩ := hrel
    have HKP := hid hkp
    have y0 := hkp.cell x0 (fun e => e)
    have y1 := hkp.cell x1 (fun e => e)
    clear hkp
    rcases hrel with ⟨j, hj, rfl, rfl⟩ | ⟨rfl, rfl⟩
    · have hjl : at_ + j < bs.length := by omega
      have hb : bs[at_ + j] = UInt8.ofNat (x / 256 ^ j) := by
        have := H8.out j hj
        rw [List.getElem?_eq_getElem hjl] at this
        exact Option.some.inj this
      have yb := HKP.out.cell (HCC.out (at_ + j) hjl) (fun e => e)
      rw [hb, UInt8.toNat_ofNat'] at yb
      have hs := hid (step256 x j)
      have hn : x / 256 ^ (j + 1) ≤ 8388608 := by
        rw [Nat.pow_succ, ← Nat.div_div_eq_div_mul]
        have : x / 256 ^ j ≤ x := Nat.div_le_self _ _
        omega
      replace hb := hid hb
      have hwa : IntKind.i64.wrap (((at_ : Nat) : Int) + (j : Nat)) = ((at_ + j : Nat) : Int) := by rw [IntWalk.i64_in _ (by omega)]; rfl
      generalize hgn : x / 256 ^ (j + 1) = n at *
      generalize hgb : x / 256 ^ j % 2 ^ 8 = y at *
      have hor := or_byte n y (by omega) (by omega)
      have hwy : IntKind.u64.wrap (y : Nat) = (y : Nat) := IntWalk.u64_in _ (by omega)
      have hsy : Hid (n * 256 + y = x / 256 ^ j) := hid (by
        have h := hs.out
        have h' := hgb
        omega)
      replace hgn := hid hgn
      replace hgb := hid hgb
      go_wp2_with fail
      go_quiet (fail)
      go_wp2_with fail
      go_roundw
      case rel =>
        refine ⟨?_, keep_drewN _ HKP.out⟩
        rw [show ((n : Int) * 256 + (y : Int)) = ((n * 256 + y : Nat) : Int) by simp, hsy.out]
        rcases j with _ | j
        · exact .inr ⟨by go_num, by simp⟩
        · exact .inl ⟨j, by omega, by congr 1; omega, rfl⟩
      case measure => simp [intOf] <;> omega
    · go_wp2
      go_ret
      exact ⟨rfl, HKP.out⟩

set_option maxHeartbeats 1000000 in
theorem int_good (w : World) (B z at_ x : Nat) (v : Value) (bs : List UInt8) (h : Bts B w v bs) (hr : RdAt w z v at_) (h8 : Has8 bs at_ x) (hl : bs.length ≤ 100000) (hx : x ≤ 2147483648) :
    Calls Try.prog 47 #[.pointer (some ⟨z, 0, none⟩), .int .i64 2147483648] w fun e w' => e = .returned (.int .i64 (x : Nat)) ∧ RdAt w' z v (at_ + 8) ∧ Keep (One z) w w' := by
  have HP := hid (peek_good w B z at_ x v bs h hr h8 hl hx)
  have HR := hid hr
  have hlen : at_ + 8 ≤ bs.length := by
    have := h8 7 (by omega)
    have := (List.getElem?_eq_some_iff.1 this).1
    omega
  have wr1 : IntKind.u64.wrap 2147483648 = 2147483648 := by decide
  have wr2 : IntKind.i64.wrap (x : Nat) = (x : Nat) := IntWalk.i64_in _ (by omega)
  have wr3 : IntKind.i64.wrap ((at_ : Nat) + 8) = ((at_ : Nat) : Int) + 8 := IntWalk.i64_in _ (by omega)
  have hd : decide (2147483648 < ((x : Nat) : Int)) = false := by simp; omega
  clear h hr h8
  go_enter Try.func47, Try.ntmps47
  go_wp2_with fail
  refine HP.out.mono ?_
  rintro e w1 ⟨rfl, k1⟩
  have HR1 := hid (HR.out.keep k1 (fun e => e))
  have K1 := hid k1
  obtain ⟨x0, x1, x2, x3, x4⟩ := HR1.out.cells
  clear k1
  go_wp2
  go_ret
  refine ⟨rfl, ?_, ?_⟩
  · exact row_set HR1.out 1 _
  · exact (K1.out.mono (fun _ _ e => e.elim)).setCell (S := One z) (p := ⟨z, 1, none⟩) (fun _ => rfl) _
theorem Bts.cut {B : Nat} {w : World} {b off cap : Nat} {xs : List UInt8} (h : Bts B w (.slice (some ⟨b, off, none⟩) xs.length cap) xs) (k n : Nat) (c : Nat) (hk : k + n ≤ xs.length) : Bts B w (.slice (some ⟨b, off + k, none⟩) n c) ((xs.drop k).take n) := by
  obtain ⟨_, _, e, hc⟩ := h
  cases e
  have hl : ((xs.drop k).take n).length = n := by rw [List.length_take, List.length_drop]; omega
  refine ⟨_, c, by rw [hl], fun hp => ?_⟩
  obtain ⟨b', off', e, h1, h2⟩ := hc (by omega)
  cases e
  refine ⟨b, off + k, rfl, h1, fun j hj => ?_⟩
  rw [Nat.add_assoc, h2 (k + j) (by omega), List.getElem_take, List.getElem_drop]
theorem Bts.empty {B : Nat} {w : World} (ao : Option Addr) (c : Nat) : Bts B w (.slice ao 0 c) [] := ⟨ao, c, rfl, fun h => absurd h (Nat.lt_irrefl _)⟩
theorem RdAt.mut {B z : Nat} {w : World} {v : Value} {n : Nat} (h : RdAt w z v n) (hz : B ≤ z) : Mut B w (One z) := by
  rintro k rfl
  exact ⟨hz, fun cur fr e => by rw [show w.heap[k]? = _ from h] at e; simp at e⟩
set_option maxRecDepth 100000 in
set_option maxHeartbeats 2000000 in
theorem rpart_good (w : World) (B z at_ : Nat) (v : Value) (bs ls : List UInt8) (h : Blk B w v bs) (hr : RdAt w z v at_) (h8 : Has8 bs at_ ls.length) (hb : (bs.drop (at_ + 8)).take ls.length = ls) (hl : bs.length ≤ 100000) (hat : at_ + 8 + ls.length ≤ bs.length) (hz : B ≤ z) :
    Calls Try.prog 48 #[.pointer (some ⟨z, 0, none⟩)] w fun e w' => ∃ q v', e = .returned v' ∧ RowAt w' 5 1 q v' ls.length (bcells ls) ∧ w.heap.size ≤ q ∧ RdAt w' z v (at_ + 8 + ls.length) ∧ Keep (One z) w w' := by
  obtain ⟨h, ao, cap, rfl, hcap⟩ := h
  obtain ⟨b, off, rfl, -⟩ : ∃ b off, ao = some ⟨b, off, none⟩ ∧ True := by
    obtain ⟨_, _, e, hc⟩ := h
    cases e
    obtain ⟨b, off, e, -⟩ := hc (by omega)
    exact ⟨b, off, e, trivial⟩
  have HP := hid (peek_good w B z at_ ls.length _ bs h hr h8 hl (by omega))
  have HR := hid hr
  have HV := hid h
  have HB := hid hb
  generalize hn : ls.length = n at *
  have wr1 : IntKind.i64.wrap ((bs.length : Int) - (at_ : Nat)) = (bs.length : Int) - (at_ : Nat) := IntWalk.i64_in _ (by omega)
  obtain ⟨r, hr1, hr2⟩ : ∃ r : Nat, (bs.length : Int) - (at_ : Nat) - 8 = r ∧ n ≤ r := ⟨bs.length - at_ - 8, by omega, by omega⟩
  have wr2 : IntKind.i64.wrap ((bs.length : Int) - (at_ : Nat) - 8) = r := by rw [hr1]; exact IntWalk.i64_in _ (by omega)
  have wr3 : IntKind.u64.wrap (r : Nat) = (r : Nat) := IntWalk.u64_in _ (by omega)
  obtain ⟨f, hf⟩ : ∃ f, at_ + 8 = f := ⟨_, rfl⟩
  obtain ⟨t, ht⟩ : ∃ t, f + n = t := ⟨_, rfl⟩
  have wr4 : IntKind.i64.wrap ((at_ : Nat) + 8) = (f : Int) := by rw [show ((at_ : Nat) : Int) + 8 = f by omega]; exact IntWalk.i64_in _ (by omega)
  have wr5 : IntKind.i64.wrap (n : Nat) = (n : Nat) := IntWalk.i64_in _ (by omega)
  have wr6 : IntKind.i64.wrap ((f : Int) + (n : Nat)) = (t : Int) := by rw [show (f : Int) + (n : Nat) = t by omega]; exact IntWalk.i64_in _ (by omega)
  have hft : f ≤ t := by omega
  have htl : t ≤ bs.length := by omega
  have htc : t ≤ cap := by omega
  have hd1 : decide (2147483648 < ((n : Nat) : Int)) = false := by simp; omega
  have hd2 : decide (((r : Nat) : Int) < ((n : Nat) : Int)) = false := by simp; omega
  have hd3 : decide (r < n) = false := by simp; omega
  replace hr1 := hid hr1
  replace hn := hid hn
  replace hf := hid hf
  replace ht := hid ht
  clear h hr h8 hb
  go_enter Try.func48, Try.ntmps48
  go_wp2_with fail
  refine HP.out.mono ?_
  rintro e w1 ⟨rfl, k1⟩
  have HR1 := hid (HR.out.keep k1 (fun e => e))
  have K1 := hid k1
  have V1 := hid (HV.out.keep k1 Mut.nil)
  obtain ⟨x0, x1, x2, x3, x4⟩ := HR1.out.cells
  clear k1 HV
  go_wp2_with fail
  go_quiet (fail)
  go_wp2_with fail
  have RW : RdAt ((w1.drewN nq).setCell ⟨z, 1, none⟩ (.int .i64 (t : Int))) z (.slice (some ⟨b, off, none⟩) bs.length cap) t := row_set HR1.out 1 _
  have KW : Keep (One z) w ((w1.drewN nq).setCell ⟨z, 1, none⟩ (.int .i64 (t : Int))) := (keep_drewN nq (K1.out.mono (fun _ _ e => e.elim))).setCell (S := One z) (p := ⟨z, 1, none⟩) (fun _ => rfl) _
  have VW : Bts B ((w1.drewN nq).setCell ⟨z, 1, none⟩ (.int .i64 (t : Int))) (.slice (some ⟨b, off, none⟩) bs.length cap) bs := V1.out.drewN.keep ((Keep.refl _).setCell (S := One z) (p := ⟨z, 1, none⟩) (fun _ => rfl) (.int .i64 (t : Int))) (HR1.out.mut hz)
  replace VW := hid VW
  replace KW := hid KW
  replace RW := hid RW
  clear x0 x1 x2 x3 x4 HR1 K1 V1 wr1 wr2 wr3 wr4 wr5 wr6 hd1 hd2 hd3
  generalize (w1.drewN nq).setCell ⟨z, 1, none⟩ (.int .i64 (t : Int)) = W at *
  have y0 : W.drew.cell? ⟨z, 0, none⟩ = some (.slice (some ⟨b, off, none⟩) bs.length cap) := row_cell RW.out 0
  have y1 : W.drew.cell? ⟨z, 1, none⟩ = some (.int .i64 (t : Int)) := row_cell RW.out 1
  have hll : Hid (t - f = n ∧ ls.length = n ∧ n ≤ 100000) := hid ⟨by have := ht.out; omega, hn.out, by omega⟩
  have hls : Hid ((bs.drop f).take (t - f) = ls) := hid (by rw [hll.out.1, ← HB.out, hf.out])
  have hend : Hid (∀ (q : Nat) (v' : Value) (w' : World), RowAt w' 5 1 q v' ls.length (bcells ls) → W.heap.size ≤ q → Keep Nil W w' → ∃ q v'', Ending.returned v' = Ending.returned v'' ∧ RowAt w' 5 1 q v'' n (bcells ls) ∧ w.heap.size ≤ q ∧ RdAt w' z (.slice (some ⟨b, off, none⟩) bs.length cap) (at_ + 8 + n) ∧ Keep (One z) w w') := hid (by
    intro q v' w' h1 h2 h3
    refine ⟨q, v', rfl, by rw [← hn.out]; exact h1, Nat.le_trans KW.out.size h2, ?_, KW.out.trans (h3.mono (fun _ _ e => e.elim))⟩
    have e1 := hf.out
    have e2 := ht.out
    rw [show at_ + 8 + n = t by omega]
    exact RW.out.keep h3 (fun e => e))
  have VS : Hid (Bts B W.drew (.slice (if cap = f then some ⟨b, off, none⟩ else some ⟨b, off + f, none⟩) (t - f) (cap - f)) ls) := hid (by
    by_cases hcz : cap = f
    · rw [if_pos hcz]
      have h0 : t - f = 0 := by omega
      have hl0 : ls = [] := List.eq_nil_of_length_eq_zero (by have := hll.out; omega)
      rw [h0, hl0]
      exact Bts.empty _ _
    · rw [if_neg hcz]
      have h := VW.out.drew.cut f (t - f) (cap - f) (by omega)
      rw [hls.out] at h
      exact h)
  go_wp2_with fail
  go_region_held3 (fun w' => w'.cell? ⟨z, 0, none⟩ = some (.slice (some ⟨b, off, none⟩) bs.length cap) ∧ w'.cell? ⟨z, 1, none⟩ = some (.int .i64 (t : Int)))
    (first | (with_reducible exact ⟨y0, y1⟩) | (with_reducible exact ⟨z0, z1⟩))
    ((first
      | ((refine step_append_row _ rfl _ _ 27 27 rfl 5 (.int .u8 0) 1 1 Try.underlying27 info5 rfl W.heap.size (.slice none 0 0) 0 [] rfl (RowAt.nil _ _ _ _) _ ls.length (bcells ls) rfl VS.out.src (by have := hll.out; simp only [maxLen]; omega) (by have := hll.out; omega) ?_); intro q2 ao2 cap2 w2 r2 k2 h2; have K2 : Keep Nil W w2 := (Keep.refl W).drew.trans (k2.mono (fun i hi e => by have e1 := e.1; have : W.drew.heap.size = W.heap.size := rfl; omega)); have z0 := K2.cell y0 (fun e => e); have z1 := K2.cell y1 (fun e => e); have HE := hid (hend.out q2 _ w2 (by simpa using r2) (by have : W.drew.heap.size = W.heap.size := rfl; rcases h2 with h | ⟨h, -⟩ <;> omega) K2); clear r2 k2 h2 K2)))
  go_wp2
  all_goals
    go_ret
    obtain ⟨q5, v5, he5, h1, h2, h3, h4⟩ := HE.out
    first
      | exact ⟨q5, v5, he5, h1, h2, h3, h4⟩
      | (have hcf : cap = f := by assumption
         subst hcf
         exact ⟨q5, v5, he5, h1, h2, h3, h4⟩)

theorem row_drewN {w : World} {b n : Nat} {o : Obj} (h : w.heap[b]? = some o) : (w.drewN n).heap[b]? = some o := h
theorem rend_good (w : World) (z : Nat) (ao : Option Addr) (n cap : Nat) (hr : RdAt w z (.slice ao n cap) n) :
    Calls Try.prog 49 #[.pointer (some ⟨z, 0, none⟩)] w fun e w' => e = .returned (.agg #[.int .i64 0, .int .i64 0]) ∧ Keep Nil w w' := by
  have HR := hid (hr.keep ((Keep.refl (S := Nil) w).alloc (.cells #[.int .i64 0, .int .i64 0] 99 (0, 0))) (fun e => e))
  have HK := hid ((Keep.refl (S := Nil) w).alloc (.cells #[.int .i64 0, .int .i64 0] 99 (0, 0)))
  have hz := row_lt hr
  have hzz : Hid ((w.alloc (.cells #[.int .i64 0, .int .i64 0] 99 (0, 0))).heap[w.heap.size]? = some (.cells #[.int .i64 0, .int .i64 0] 99 (0, 0))) := hid (heap_new _ _)
  obtain ⟨x0, x1, x2, x3, x4⟩ := HR.out.cells
  clear hr
  go_enter Try.func49, Try.ntmps49
  go_wp2_with fail
  go_quiet (fail)
  go_wp2_with fail
  have hrow := row_set (row_set (row_drewN (n := nq) hzz.out) 0 (.int .i64 0)) 1 (.int .i64 0)
  have kk := (((keep_drewN nq HK.out).setCell (S := Nil) (p := ⟨w.heap.size, 0, none⟩) (fun h => absurd h (Nat.lt_irrefl _)) (.int .i64 0)).setCell (S := Nil) (p := ⟨w.heap.size, 1, none⟩) (fun h => absurd h (Nat.lt_irrefl _)) (.int .i64 0))
  generalize ((((w.alloc (Obj.cells #[Value.int IntKind.i64 0, Value.int IntKind.i64 0] 99)).drewN nq).setCell ⟨w.heap.size, 0, none⟩ (.int .i64 0)).setCell ⟨w.heap.size, 1, none⟩ (.int .i64 0)) = W at *
  have y0 : W.cell? ⟨w.heap.size, 0, none⟩ = some (.int .i64 0) := row_cell hrow 0
  have y1 : W.cell? ⟨w.heap.size, 1, none⟩ = some (.int .i64 0) := row_cell hrow 1
  refine bodyPost_ret (v := .agg #[.int .i64 0, .int .i64 0]) (by simp [results, Try.results49, go_sem, y0, y1]) rfl ⟨rfl, kk⟩
end Go.Proofs.Ytjlgolkippleaaa
