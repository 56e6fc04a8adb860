/-
  pack.Reader where all that is asked for is there: New, Get, Int, Fault.
-/
import Derived.Test.YtdecljdhdclmoaaPack
import Derived.BigQuiet
namespace Go.Proofs.Ytdecljdhdclmoaa
open Go.RowKit
variable {w w' : World}

/-- a Reader without a fault -/
def RdAt (w : World) (z : Nat) (v : Value) (at_ : Nat) : Prop := w.heap[z]? = some (.cells #[v, .int .i64 (at_ : Nat), .int .i64 0, .int .i64 0] 89 (0, 0))
theorem RdAt.keep {S : Nat → Prop} {w w' : World} {z : Nat} {v : Value} {n : Nat} (h : RdAt w z v n) (k : Keep S w w') (hs : ¬ S z) : RdAt w' z v n := k.row h hs
theorem RdAt.cells {w : World} {z : Nat} {v : Value} {n : Nat} (h : RdAt w z v n) : w.cell? ⟨z, 0, none⟩ = some v ∧ w.cell? ⟨z, 1, none⟩ = some (.int .i64 (n : Nat)) ∧ w.cell? ⟨z, 2, none⟩ = some (.int .i64 0) ∧ w.cell? ⟨z, 3, none⟩ = some (.int .i64 0) ∧ w.frozen? ⟨z, 1, none⟩ = false := by
  have k := row_cell h
  exact ⟨k 0, k 1, k 2, k 3, row_free h 1⟩
/-- a number lies in the bytes -/
def Has8 (bs : List UInt8) (at_ x : Nat) : Prop := ∀ k, k < 8 → bs[at_ + k]? = some (UInt8.ofNat (x / 256 ^ k))

theorem new_rd (w : World) (ao : Option Addr) (l cap : Nat) : Calls Try.prog 36 #[.slice ao l cap] w fun e w' => ∃ z, e = .returned (.pointer (some ⟨z, 0, none⟩)) ∧ w.heap.size ≤ z ∧ RdAt w' z (.slice ao l cap) 0 ∧ Keep Nil w w' := by
  go_enter Try.func36, Try.ntmps36
  go_wp2
  go_ret
  exact ⟨_, rfl, Nat.le_refl _, heap_new _ _, (Keep.refl w).alloc _⟩
theorem well_good {z n : Nat} {v : Value} (h : RdAt w z v n) : Calls Try.prog 44 #[.pointer (some ⟨z, 0, none⟩)] w fun e w' => e = .returned (.bool true) ∧ w' = w := by
  obtain ⟨x0, x1, x2, x3, -⟩ := h.cells
  clear h
  go_enter Try.func44, Try.ntmps44
  go_wp2
  go_ret
  exact ⟨rfl, rfl⟩
theorem left_good {z n l cap : Nat} {ao : Option Addr} (h : RdAt w z (.slice ao l cap) n) (hn : n ≤ l) (hl : l ≤ 100000) : Calls Try.prog 45 #[.pointer (some ⟨z, 0, none⟩)] w fun e w' => e = .returned (.int .i64 ((l - n : Nat) : Int)) ∧ Keep Nil w w' := by
  obtain ⟨x0, x1, x2, x3, -⟩ := h.cells
  have hw : IntKind.i64.wrap ((l : Int) - (n : Nat)) = ((l - n : Nat) : Int) := by rw [IntWalk.i64_in _ (by omega)]; omega
  clear h
  go_enter Try.func45, Try.ntmps45
  go_wp2_with fail
  go_quiet (fail)
  go_wp2
  go_ret
  exact ⟨rfl, keep_drewN _ (Keep.refl w)⟩
theorem fault_good {z n : Nat} {v : Value} (h : RdAt w z v n) : Calls Try.prog 39 #[.pointer (some ⟨z, 0, none⟩)] w fun e w' => e = .returned (.agg #[.int .i64 0, .int .i64 0]) ∧ Keep Nil w w' := by
  obtain ⟨x0, x1, x2, x3, -⟩ := h.cells
  have hz := row_lt h
  clear h
  go_enter Try.func39, Try.ntmps39
  go_wp2_with fail
  refine bodyPost_ret (v := .agg #[.int .i64 0, .int .i64 0]) (by simp [results, Try.results39, go_sem]) rfl ?_
  exact ⟨rfl, (Keep.refl w).alloc _⟩
theorem skip_good {z n f : Nat} {off l cap b : Nat} (h : RdAt w z (.slice (some ⟨b, off, none⟩) l cap) n) (hf : n + 8 = f) (hn : f ≤ l) (hlc : l ≤ cap) (hl : l ≤ 100000) : Calls Try.prog 42 #[.pointer (some ⟨z, 0, none⟩), .int .i64 8] w fun e w' => (∃ v', e = .returned v') ∧ RdAt w' z (.slice (some ⟨b, off, none⟩) l cap) f ∧ Keep (One z) w w' := by
  have H := hid h
  obtain ⟨x0, x1, x2, x3, x4⟩ := h.cells
  have hw : IntKind.i64.wrap ((n : Int) + 8) = (f : Int) := by rw [IntWalk.i64_in _ (by omega)]; omega
  have hw2 : IntKind.i64.wrap ((f : Int) - 8) = (n : Int) := by rw [IntWalk.i64_in _ (by omega)]; omega
  have hnf : n ≤ f := by omega
  have hfc : f ≤ cap := by omega
  have hcn : ¬ cap = n := by omega
  replace hf := hid hf
  clear h
  go_enter Try.func42, Try.ntmps42
  go_wp2_with fail
  go_quiet (fail)
  go_wp2
  go_ret
  exact ⟨⟨_, rfl⟩, row_set H.out 1 _, keep_drewN _ (keep_set z 1 _)⟩
theorem or_shift (n y s : Nat) (hn : n < 2 ^ s) (hy : y < 256) (hs : s ≤ 56) : bits BinOp.or IntKind.u64 (n : Int) ((y * 2 ^ s : Nat) : Int) = ((y * 2 ^ s + n : Nat) : Int) := by
  have h56 : (2 : Nat) ^ s ≤ 2 ^ 56 := Nat.pow_le_pow_right (by omega) hs
  have hb : y * 2 ^ s ≤ 255 * 2 ^ 56 := Nat.mul_le_mul (by omega) h56
  have hb2 : (255 : Nat) * 2 ^ 56 + 2 ^ 56 ≤ 18446744073709551616 := by decide
  have e1 : BitVec.ofInt 64 (n : Int) = BitVec.ofNat 64 n := BitVec.ofInt_natCast _ _
  have e3 : BitVec.ofInt 64 ((y * 2 ^ s : Nat) : Int) = BitVec.ofNat 64 (y * 2 ^ s) := BitVec.ofInt_natCast _ _
  have e2 : (BitVec.ofInt 64 (n : Int) ||| BitVec.ofInt 64 ((y * 2 ^ s : Nat) : Int)).toNat = y * 2 ^ s + n := by
    rw [e1, e3, BitVec.toNat_or, BitVec.toNat_ofNat, BitVec.toNat_ofNat, Nat.mod_eq_of_lt (by omega), Nat.mod_eq_of_lt (by omega), Nat.or_comm]
    have := Nat.shiftLeft_add_eq_or_of_lt (i := s) (b := n) hn y
    rw [Nat.shiftLeft_eq] at this
    omega
  have e4 : bits BinOp.or IntKind.u64 (n : Int) ((y * 2 ^ s : Nat) : Int) = IntKind.u64.wrap (((BitVec.ofInt 64 (n : Int) ||| BitVec.ofInt 64 ((y * 2 ^ s : Nat) : Int)).toNat : Nat) : Int) := rfl
  rw [e4, e2]
  exact IntWalk.u64_in _ (by omega)
theorem mod_step (x k : Nat) : x / 256 ^ k % 256 * 2 ^ (8 * k) + x % 256 ^ k = x % 256 ^ (k + 1) := by
  rw [Nat.pow_mul, show (2 : Nat) ^ 8 = 256 from rfl, Nat.pow_succ, Nat.mod_mul, Nat.mul_comm]
  omega
set_option maxRecDepth 100000 in
set_option maxHeartbeats 2000000 in
theorem peek_good (z at_ x : Nat) (v : Value) (bs : List UInt8) (h : Bts 0 w v bs) (hcap : ∃ ao cap, v = .slice ao bs.length cap ∧ bs.length ≤ cap) (hr : RdAt w z v at_) (h8 : Has8 bs at_ x) (hl : bs.length ≤ 1000) (hx : x < 18446744073709551616) :
    Calls Try.prog 41 #[.pointer (some ⟨z, 0, none⟩)] w fun e w' => e = .returned (.tuple #[.int .u64 (x : Nat), .bool true]) ∧ Keep Nil w w' := by
  obtain ⟨ao, cap, rfl, hcap⟩ := hcap
  have hlen : at_ + 8 ≤ bs.length := by
    have := h8 7 (by omega)
    have := (List.getElem?_eq_some_iff.1 this).1
    omega
  obtain ⟨b, off, rfl, hcc⟩ : ∃ b off, ao = some ⟨b, off, none⟩ ∧ ∀ j (h : j < bs.length), w.cell? ⟨b, off + j, none⟩ = some (.int .u8 (bs[j].toNat : Int)) := by
    obtain ⟨_, _, e, hc⟩ := h
    cases e
    obtain ⟨b, off, h1, -, h2⟩ := hc (by omega)
    exact ⟨b, off, h1, h2⟩
  have HCC := hid hcc
  have H8 := hid h8
  obtain ⟨x0, x1, x2, x3, -⟩ := hr.cells
  have HR := hid hr
  obtain ⟨f, hf⟩ : ∃ f, at_ + 8 = f := ⟨_, rfl⟩
  have hw : IntKind.i64.wrap ((at_ : Int) + 8) = (f : Int) := by rw [IntWalk.i64_in _ (by omega)]; omega
  have hw2 : ¬ ((bs.length - at_ : Nat) : Int) < 8 := by omega
  have hnf : at_ ≤ f := by omega
  have hfl : f ≤ bs.length := by omega
  have hfc : f ≤ cap := by omega
  have hcn : ¬ cap = at_ := by omega
  have hf8 : f - at_ = 8 := by omega
  have HW := hid (well_good hr)
  have HL := hid (left_good hr (by omega) (by omega))
  replace hf := hid hf
  clear h h8 hr hcc
  go_enter Try.func41, Try.ntmps41
  go_wp2_with fail
  refine HW.out.mono ?_
  rintro e w1 ⟨rfl, rfl⟩
  go_wp2_with fail
  refine HL.out.mono ?_
  rintro e w2 ⟨rfl, k2⟩
  have K2 := hid k2
  have y0 := k2.cell x0 (fun e => e)
  have y1 := k2.cell x1 (fun e => e)
  clear k2 x0 x1 x2 x3
  go_wp2_with fail
  go_quiet (fail)
  go_wp2_with fail
  have KK := hid (keep_drewN nq K2.out)
  generalize w2.drewN nq = w3 at *
  go_loopw [4, 49] (fun nv kv wr => ∃ k : Nat, k ≤ 8 ∧ kv = .int .i64 k ∧ nv = .int .u64 ((x % 256 ^ k : Nat) : Int) ∧ wr = w3) (fun _ kv _ => 8 - (intOf kv).toNat)
  case atStart => exact ⟨0, by omega, rfl, by simp [Nat.mod_one], rfl⟩
  case round =>
    obtain ⟨k, hk, rfl, rfl, rfl⟩ := hrel
    by_cases hk8 : k < 8
    · have hjl : at_ + k < bs.length := by omega
      have hb : bs[at_ + k] = UInt8.ofNat (x / 256 ^ k) := by
        have := H8.out k hk8
        rw [List.getElem?_eq_getElem hjl] at this
        exact Option.some.inj this
      have yb := KK.out.cell (HCC.out (at_ + k) hjl) (fun e => e)
      rw [hb, UInt8.toNat_ofNat', ← Nat.add_assoc] at yb
      have hms := hid (mod_step x k)
      have hnl : x % 256 ^ k < 2 ^ (8 * k) := by
        rw [Nat.pow_mul]
        exact Nat.mod_lt _ (Nat.pow_pos (by decide))
      have hyl : x / 256 ^ k % 2 ^ 8 < 256 := Nat.mod_lt _ (by decide)
      have hor := or_shift (x % 256 ^ k) (x / 256 ^ k % 2 ^ 8) (8 * k) hnl hyl (by omega)
      have hmul : x / 256 ^ k % 2 ^ 8 * 2 ^ (8 * k) ≤ 255 * 2 ^ 56 := Nat.mul_le_mul (by omega) (Nat.pow_le_pow_right (by omega) (by omega))
      have hd : decide ((k : Int) < 8) = true := by simp; omega
      have hw8 : IntKind.i64.wrap (8 * (k : Int)) = ((8 * k : Nat) : Int) := by rw [IntWalk.i64_in _ (by omega)]; rfl
      rw [show (2 : Nat) ^ 8 = 256 from rfl] at *
      replace hb := hid hb
      replace hms := hms
      generalize hgs : 8 * k = s at *
      generalize hgn : x % 256 ^ k = n at *
      generalize hgy : x / 256 ^ k % 256 = y at *
      replace hgs := hid hgs
      replace hgn := hid hgn
      replace hgy := hid hgy
      have hres : Hid (Value.int IntKind.u64 (bits BinOp.or IntKind.u64 (n : Int) (IntKind.u64.wrap ((y : Int) * 2 ^ min s 64))) = Value.int IntKind.u64 ((x % 256 ^ (k + 1) : Nat) : Int)) := hid (by
        rw [Nat.min_eq_left (by have := hgs.out; omega)]
        rw [show ((y : Int) * 2 ^ s) = ((y * 2 ^ s : Nat) : Int) by simp]
        rw [show IntKind.u64.wrap ((y * 2 ^ s : Nat) : Int) = ((y * 2 ^ s : Nat) : Int) from IntWalk.u64_in _ (by omega)]
        rw [hor, hms.out])
      clear hor hmul
      go_wp2_with fail
      exact ⟨⟨k + 1, by omega, by go_num, hres.out, trivial⟩, by simp [intOf]; omega⟩
    · obtain rfl : k = 8 := by omega
      rw [Nat.mod_eq_of_lt (show x < 256 ^ 8 from hx)]
      go_wp2
      go_ret2
      exact ⟨rfl, KK.out⟩
theorem get_good (z at_ x : Nat) (v : Value) (bs : List UInt8) (h : Bts 0 w v bs) (hcap : ∃ ao cap, v = .slice ao bs.length cap ∧ bs.length ≤ cap) (hr : RdAt w z v at_) (h8 : Has8 bs at_ x) (hl : bs.length ≤ 1000) (hx : x < 18446744073709551616) :
    Calls Try.prog 37 #[.pointer (some ⟨z, 0, none⟩)] w fun e w' => e = .returned (.int .u64 (x : Nat)) ∧ RdAt w' z v (at_ + 8) ∧ Keep (One z) w w' := by
  have HP := hid (peek_good z at_ x v bs h hcap hr h8 hl hx)
  have HR := hid hr
  have hlen : at_ + 8 ≤ bs.length := by
    have := h8 7 (by omega)
    have := (List.getElem?_eq_some_iff.1 this).1
    omega
  obtain ⟨ao, cap, rfl, hcp⟩ := hcap
  obtain ⟨b, off, rfl⟩ : ∃ b off, ao = some ⟨b, off, none⟩ := by
    obtain ⟨_, _, e, hc⟩ := h
    cases e
    obtain ⟨b, off, h1, -, h2⟩ := hc (by omega)
    exact ⟨b, off, h1⟩
  clear h h8 hr
  go_enter Try.func37, Try.ntmps37
  go_wp2_with fail
  refine HP.out.mono ?_
  rintro e w1 ⟨rfl, k1⟩
  have HR1 := hid (HR.out.keep k1 (fun e => e))
  have K1 := hid k1
  clear k1
  go_wp2_with fail
  refine (skip_good (f := at_ + 8) HR1.out rfl hlen hcp (by omega)).mono ?_
  rintro e w2 ⟨⟨v', rfl⟩, hr2, k2⟩
  have HR2 := hid hr2
  have K2 := hid ((K1.out.mono (fun _ _ e => e.elim)).trans k2)
  clear hr2 k2
  go_wp2
  go_ret
  exact ⟨rfl, HR2.out, K2.out⟩
theorem int_good (z at_ x most : Nat) (v : Value) (bs : List UInt8) (h : Bts 0 w v bs) (hcap : ∃ ao cap, v = .slice ao bs.length cap ∧ bs.length ≤ cap) (hr : RdAt w z v at_) (h8 : Has8 bs at_ x) (hl : bs.length ≤ 1000) (hm : most ≤ 4611686018427387904) (hx : x ≤ most) :
    Calls Try.prog 38 #[.pointer (some ⟨z, 0, none⟩), .int .i64 most] w fun e w' => e = .returned (.int .i64 (x : Nat)) ∧ RdAt w' z v (at_ + 8) ∧ Keep (One z) w w' := by
  have HP := hid (peek_good z at_ x v bs h hcap hr h8 hl (by omega))
  have HR := hid hr
  have hlen : at_ + 8 ≤ bs.length := by
    have := h8 7 (by omega)
    have := (List.getElem?_eq_some_iff.1 this).1
    omega
  obtain ⟨ao, cap, rfl, hcp⟩ := hcap
  obtain ⟨b, off, rfl⟩ : ∃ b off, ao = some ⟨b, off, none⟩ := by
    obtain ⟨_, _, e, hc⟩ := h
    cases e
    obtain ⟨b, off, h1, -, h2⟩ := hc (by omega)
    exact ⟨b, off, h1⟩
  have w1 : IntKind.u64.wrap (most : Int) = most := IntWalk.u64_in _ (by omega)
  have w2 : IntKind.i64.wrap (x : Int) = x := IntWalk.i64_in _ (by omega)
  have hd : decide ((most : Int) < (x : Int)) = false := by simp; omega
  have hd2 : ¬ most < x := by omega
  have hd0 : ¬ (most : Int) < 0 := by omega
  clear h h8 hr
  go_enter Try.func38, Try.ntmps38
  go_wp2_with fail
  refine HP.out.mono ?_
  rintro e w1 ⟨rfl, k1⟩
  have HR1 := hid (HR.out.keep k1 (fun e => e))
  have K1 := hid k1
  clear k1
  go_wp2_with fail
  refine (skip_good (f := at_ + 8) HR1.out rfl hlen hcp (by omega)).mono ?_
  rintro e w2 ⟨⟨v', rfl⟩, hr2, k2⟩
  have HR2 := hid hr2
  have K2 := hid ((K1.out.mono (fun _ _ e => e.elim)).trans k2)
  clear hr2 k2
  go_wp2
  go_ret
  exact ⟨rfl, HR2.out, K2.out⟩
end Go.Proofs.Ytdecljdhdclmoaa
