/-
  The reference's More, Seal, Open.
-/
import Derived.Test.YtjlgolkippleaaaSum
import Derived.Test.YtjlgolkippleaaaAlive
namespace Go.Proofs.Ytjlgolkippleaaa
open Go.RowKit

theorem take_snocL {α : Type} (xs : List α) (k : Nat) (h : k < xs.length) : xs.take (k + 1) = xs.take k ++ [xs[k]] := by
  rw [List.take_succ_eq_append_getElem h]
set_option maxHeartbeats 1000000 in
theorem more_one (w : World) (B : Nat) (v : Value) (xs : List UInt8) (h : Bts B w v xs) (hl : xs.length ≤ 140737488355328) :
    Calls Try.prog 56 #[.int .u32 1, v] w fun e w' => e = .returned (.int .u32 (moreL xs : Nat)) ∧ w = w' := by
  obtain ⟨ao, cap, rfl, hc⟩ := h
  go_enter Try.func56, Try.ntmps56
  go_wp2_with fail
  go_loop [5, 6, 7] (fun a b i => ∃ k : Nat, k ≤ xs.length ∧ i = .int .i64 k ∧ a = .int .u32 ((sumAB (xs.take k)).1 : Nat) ∧ b = .int .u32 ((sumAB (xs.take k)).2 : Nat)) (fun _ _ i => xs.length - (intOf i).toNat)
  case atStart => exact ⟨0, Nat.zero_le _, rfl, rfl, rfl⟩
  case round =>
    obtain ⟨k, hk, rfl, rfl, rfl⟩ := hrel
    obtain ⟨l1, l2⟩ := sumAB_lt (xs.take k)
    by_cases hkn : k < xs.length
    · obtain ⟨b, off, rfl, -, hcc⟩ := hc (by omega)
      have cv := hcc k hkn
      have hb := UInt8.toNat_lt xs[k]
      have HS : Hid (sumAB (xs.take (k + 1)) = stepAB (sumAB (xs.take k)) xs[k]) := hid (by rw [take_snocL xs k hkn, sumAB_snoc])
      clear hcc hc
      generalize sumAB (xs.take k) = s at *
      obtain ⟨a, b'⟩ := s
      simp only at l1 l2 ⊢
      generalize xs[k] = x at *
      go_wp2
      all_goals
        go_round
        case rel => exact ⟨k + 1, by omega, by go_num, by rw [HS.out]; simp [stepAB], by rw [HS.out]; simp [stepAB]⟩
        case measure => simp [intOf] <;> omega
    · obtain rfl : k = xs.length := by omega
      rw [List.take_length]
      rw [List.take_length] at l1 l2
      have hm : moreL xs = (sumAB xs).2 * 65536 + (sumAB xs).1 := rfl
      generalize sumAB xs = s at *
      go_wp2
      go_ret
      exact ⟨rfl, rfl⟩

theorem src_bytes4 (w : World) (a b c d : Int) :
    Src Try.prog 1 27 (.slice (some ⟨w.heap.size, 0, none⟩) 4 4) 4 [.int .u8 a, .int .u8 b, .int .u8 c, .int .u8 d] (w.alloc (.cells #[.int .u8 a, .int .u8 b, .int .u8 c, .int .u8 d] 5)) := by
  refine Src.ofSlice _ Try.underlying27 _ _ _ _ rfl (fun j u hu => ?_) (by simp [Value.oneCell'])
  rw [Addr.add_lit, row_cell (heap_new _ _), Nat.zero_add, ← hu]
  simp
theorem Bts.take {B : Nat} {w : World} {ao : Option Addr} {cap : Nat} {xs : List UInt8} (h : Bts B w (.slice ao xs.length cap) xs) (n : Nat) (hn : n ≤ xs.length) : Bts B w (.slice ao n cap) (xs.take n) := by
  obtain ⟨_, _, e, hc⟩ := h
  cases e
  have hl : (xs.take n).length = n := by rw [List.length_take, Nat.min_eq_left hn]
  refine ⟨ao, cap, by rw [hl], fun hp => ?_⟩
  obtain ⟨b, off, e, h1, h2⟩ := hc (by omega)
  refine ⟨b, off, e, h1, fun j hj => ?_⟩
  rw [h2 j (by omega), List.getElem_take]
/-- bytes that lie where nobody writes, in a slice that is right -/
def Blk (B : Nat) (w : World) (v : Value) (xs : List UInt8) : Prop := Bts B w v xs ∧ ∃ ao cap, v = .slice ao xs.length cap ∧ xs.length ≤ cap
theorem RowAt.blk {B : Nat} {w : World} {q n : Nat} {v : Value} {xs : List UInt8} (h : RowAt w 5 1 q v n (bcells xs)) : Blk B w v xs := by
  refine ⟨Bts.of_row h, ?_⟩
  have hl := h.length
  rw [bcells_length, Nat.mul_one] at hl
  rcases h with ⟨h0, h1, ao, rfl⟩ | ⟨off, cap, cur, rfl, h2, h3, h4, h5⟩
  · exact ⟨ao, 0, by rw [hl, h0], by omega⟩
  · exact ⟨_, cap, by rw [hl], by omega⟩
theorem Blk.keep {B : Nat} {w w' : World} {v : Value} {xs : List UInt8} {S : Nat → Prop} (h : Blk B w v xs) (k : Keep S w w') (hS : Mut B w S) : Blk B w' v xs := ⟨h.1.keep k hS, h.2⟩
theorem Blk.nil (B : Nat) (w : World) : Blk B w (.slice none 0 0) [] := ⟨Bts.nil B w, none, 0, rfl, Nat.le_refl _⟩

/-- Seal's answer -/
def Sealed (B : Nat) (w : World) (xs : List UInt8) (e : Ending) (w' : World) : Prop :=
  ∃ q v, e = .returned v ∧ RowAt w' 5 1 q v (xs.length + 4) (bcells (sealL xs)) ∧ w.heap.size ≤ q ∧ Keep Nil w w' ∧ Blk B w' v (sealL xs)
set_option maxHeartbeats 1000000 in
theorem seal_any (w : World) (B : Nat) (v : Value) (xs : List UInt8) (h : Bts B w v xs) (hl : xs.length ≤ 1099511627776) :
    Calls Try.prog 52 #[v] w (Sealed B w xs) := by
  obtain ⟨ao, cap, rfl, -⟩ := id h
  have HM := hid (more_one w B _ xs h (by omega))
  have HV := hid h
  have hlt := moreL_lt xs
  have hs : Hid (sealL xs = xs ++ sumBytes (moreL xs)) := hid rfl
  clear h
  generalize moreL xs = s at *
  go_enter Try.func52, Try.ntmps52
  go_wp2_with fail
  refine HM.out.mono ?_
  rintro e w' ⟨rfl, rfl⟩
  go_wp2_with (at_builtin; refine wpList_append_row _ rfl _ _ 27 27 rfl 5 (.int .u8 0) 1 1 Try.underlying27 info5 rfl w.heap.size (.slice none 0 0) 0 [] rfl (RowAt.nil _ _ _ _) _ xs.length (bcells xs) rfl HV.out.src (by simp only [maxLen]; omega) (by omega) ?_)
  intro q1 ao1 cap1 w1 r1 k1 h1
  have hq1 : w.heap.size ≤ q1 := by rcases h1 with h | ⟨h, -⟩ <;> omega
  have K1 : Keep Nil w w1 := k1.mono (fun k hk e => by have := e.1; omega)
  have R1 := hid r1
  have KK1 := hid K1
  clear r1 k1 h1 K1
  have HN : Hid (bcells (sumBytes s) = [.int .u8 ((s : Int) / 16777216), .int .u8 ((s : Int) / 65536 % 256), .int .u8 ((s : Int) / 256 % 256), .int .u8 ((s : Int) % 256)]) := hid (by
    simp only [sumBytes, bcells, List.map_cons, List.map_nil, UInt8.toNat_ofNat']
    congr 1
    · congr 1; omega)
  go_wp2_with (at_builtin; refine wpList_append_row _ rfl _ _ 27 27 rfl 5 (.int .u8 0) 1 1 Try.underlying27 info5 rfl q1 (.slice ao1 xs.length cap1) xs.length (bcells xs) rfl (R1.out.alloc _) _ 4 _ rfl (src_bytes4 w1 _ _ _ _) (by simp only [maxLen]; omega) (by omega) ?_)
  intro q2 ao2 cap2 w2 r2 k2 h2
  have K2 : Keep Nil w w2 := (KK1.out.alloc _).andThen k2 (fun k hk e => by have := e.1; omega)
  have R2 : RowAt w2 5 1 q2 (.slice ao2 (xs.length + 4) cap2) (xs.length + 4) (bcells (sealL xs)) := by
    rw [hs.out, bcells, List.map_append]
    have h := r2
    rw [← HN.out] at h
    exact h
  have Q2 : w.heap.size ≤ q2 := by
    rcases h2 with h | ⟨h, -⟩
    · omega
    · have := KK1.out.size
      omega
  have R2 := hid R2
  have K2 := hid K2
  clear r2 k2 h2 HN
  go_wp2
  go_ret
  exact ⟨q2, _, rfl, R2.out, Q2, K2.out, R2.out.blk⟩
set_option maxRecDepth 100000 in
set_option maxHeartbeats 1000000 in
theorem open_bad (w : World) (B : Nat) (v : Value) (xs : List UInt8) (h : Blk B w v xs) (hl : xs.length ≤ 1099511627776) (hb : openBad xs) :
    Calls Try.prog 46 #[v] w fun e w' => e = .returned (.tuple #[.slice none 0 0, .int .i64 4]) ∧ Keep Nil w w' := by
  obtain ⟨h, ao, cap, rfl, hcap⟩ := h
  by_cases h4 : xs.length < 4
  · obtain ⟨kk, hkk⟩ : ∃ kk : Int, (xs.length : Int) - 4 = kk := ⟨_, rfl⟩
    have hw : IntKind.i64.wrap ((xs.length : Int) - 4) = kk := by rw [hkk]; exact IntWalk.i64_in _ (by omega)
    have hneg : kk < 0 := by omega
    have hd : decide (kk < 0) = true := decide_eq_true hneg
    have x1 := h.drew.convert
    clear h hb hkk
    go_enter Try.func46, Try.ntmps46
    go_wp2_with fail
    go_quiet (fail)
    go_wp2
    go_ret2
    exact ⟨rfl, keep_drewN _ (Keep.refl _)⟩
  · have hns : sealL (xs.take (xs.length - 4)) ≠ xs := hb.resolve_left h4
    have hl4 : 4 ≤ xs.length := by omega
    have x1 := h.drew.convert
    have V1 := h.drew.take (xs.length - 4) (by omega)
    have hlt : (xs.take (xs.length - 4)).length = xs.length - 4 := by rw [List.length_take]; omega
    have HS := seal_any w.drew B _ _ V1 (by omega)
    have HV := hid h
    unfold Sealed at HS
    have hne : (sealL (xs.take (xs.length - 4)) == xs) = false := beq_eq_false_iff_ne.2 hns
    obtain ⟨n, hn1, hn2⟩ : ∃ n : Nat, (xs.length : Int) - 4 = n ∧ xs.length - 4 = n := ⟨xs.length - 4, by omega, rfl⟩
    have hw : IntKind.i64.wrap ((xs.length : Int) - 4) = n := by rw [hn1]; exact IntWalk.i64_in _ (by omega)
    rw [hn2] at HS hne V1 hlt
    have HS := hid HS
    have hnl : n ≤ xs.length := by omega
    have hnc : n ≤ cap := by omega
    have hd : decide ((n : Int) < 0) = false := by simp
    have N1 := hid hn1
    have N2 := hid hn2
    generalize sealL (xs.take n) = ys at *
    clear h hb hns hn1 hn2 V1 hlt
    go_enter Try.func46, Try.ntmps46
    go_wp2_with fail
    go_region_with
      ((first | (go_at_call 52; refine HS.out.mono ?_; rintro e w1 ⟨q, v, rfl, r1, q1, k1, b1⟩; have x2 := (HV.out.keep ((Keep.refl w).drew.trans k1) Mut.nil).convert; have y2 := b1.1.convert; have K1 := hid k1; clear k1 r1 q1 b1)))
    all_goals
      go_wp2
      go_ret2
      exact ⟨rfl, (Keep.refl w).drew.trans K1.out⟩
/-- Open's answer -/
def OpenPost (B : Nat) (w : World) (xs : List UInt8) (e : Ending) (w' : World) : Prop :=
  ∃ v, e = .returned (.tuple #[v, .int .i64 0]) ∧ Blk B w' v xs ∧ Keep Nil w w'
set_option maxRecDepth 100000 in
set_option maxHeartbeats 1000000 in
theorem open_good (w : World) (B : Nat) (v : Value) (ys : List UInt8) (h : Blk B w v (sealL ys)) (hl : ys.length ≤ 1099511627770) :
    Calls Try.prog 46 #[v] w (OpenPost B w ys) := by
  obtain ⟨h, ao, cap, rfl, hcap⟩ := h
  have x1 := h.drew.convert
  have ho := open_seal ys
  have hle := sealL_length ys
  rw [hle, Nat.add_sub_cancel] at ho
  have V1 := h.drew.take ys.length (by omega)
  rw [ho] at V1
  have HS := hid (seal_any w.drew B _ _ V1 (by omega))
  unfold Sealed at HS
  have HV := hid h
  have HO := hid ho
  rw [hle] at hcap
  have hw : IntKind.i64.wrap (((sealL ys).length : Int) - 4) = ys.length := by rw [hle, show (((ys.length + 4 : Nat) : Int) - 4) = ys.length by omega]; exact IntWalk.i64_in _ (by omega)
  have hd : decide ((ys.length : Int) < 0) = false := by simp
  have hne : (sealL ys == sealL ys) = true := by simp
  have hnl : ys.length ≤ cap := by omega
  have HLE := hid hle
  clear h ho V1 hle
  generalize sealL ys = xs at *
  go_enter Try.func46, Try.ntmps46
  go_wp2_with fail
  go_region_with
    ((first | (go_at_call 52; refine HS.out.mono ?_; rintro e w1 ⟨q, v, rfl, r1, q1, k1, b1⟩; have x2 := (HV.out.keep ((Keep.refl w).drew.trans k1) Mut.nil).convert; have y2 := b1.1.convert; have K1 := hid k1; clear k1 r1 q1 b1)))
  all_goals
    have VV := (HV.out.keep ((Keep.refl w).drew.trans K1.out) Mut.nil).take ys.length (by have := HLE.out; omega)
    rw [HO.out] at VV
    have VV := hid VV
    go_wp2_with (at_builtin; refine wpList_append_row _ rfl _ _ 27 27 rfl 5 (.int .u8 0) 1 1 Try.underlying27 info5 rfl w1.heap.size (.slice none 0 0) 0 [] rfl (RowAt.nil _ _ _ _) _ ys.length (bcells ys) rfl VV.out.src (by simp only [maxLen]; omega) (by omega) ?_)
    intro q3 ao3 cap3 w3 r3 k3 h3
    have K3 : Keep Nil w w3 := ((Keep.refl w).drew.trans K1.out).andThen k3 (fun k hk e => by have := e.1; have := K1.out.size; have h : k < w.heap.size := hk; have : w.drew.heap.size = w.heap.size := rfl; omega)
    have K3 := hid K3
    have R3 := hid r3
    clear k3 h3 r3
    go_wp2
    go_ret2
    exact ⟨_, rfl, RowAt.blk (by simpa using R3.out), K3.out⟩
end Go.Proofs.Ytjlgolkippleaaa
