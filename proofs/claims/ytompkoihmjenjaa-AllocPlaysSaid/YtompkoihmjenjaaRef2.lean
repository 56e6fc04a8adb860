/-
  The reference's allocator: its functions that write.
-/
import Derived.Test.YtompkoihmjenjaaRef
import Derived.Deep.RegionHeld3
namespace Go.Proofs.Ytompkoihmjenjaa
open Go.RowKit

theorem settleG_pos {y : Int} (h : 1 ≤ y) : settleG y = y := by unfold settleG; omega
theorem settleG_le (y : Int) : (settleG y == 0) = decide (y ≤ 0) := by
  unfold settleG
  by_cases h : y ≤ 0
  · rw [decide_eq_true h]; simp; omega
  · rw [decide_eq_false h]; simp; omega

set_option maxHeartbeats 1000000 in
theorem rright (w : World) (r rc rm : Nat) (cs : List Int) (f n : Int) (hn9 : n ≤ 9223372036854775807) (hf9 : f ≤ 9223372036854775807) (H : Ref w r rc rm cs) :
   Calls Try.prog 33 #[.pointer (some ⟨r, 0, none⟩), .int .i64 f, .int .i64 n] w fun e w' => e = .returned (.int .i64 (heldErr cs f n)) ∧ w = w' := by
  have h := H.p0
  have hl := H.len
  by_cases hbad : n < 1 ∨ f < 0 ∨ (cs.length : Int) < n ∨ (cs.length : Int) - n < f
  · have e : heldErr cs f n = 1 := if_pos hbad
    rw [e]; clear e
    by_cases h1 : n < 1
    · go_enter Try.func33, Try.ntmps33
      go_wp2
      go_ret
      exact ⟨rfl, rfl⟩
    · by_cases h2 : f < 0
      · go_enter Try.func33, Try.ntmps33
        go_wp2
        go_ret
        exact ⟨rfl, rfl⟩
      · by_cases h3 : (cs.length : Int) ≤ f
        · clear hbad
          go_enter Try.func33, Try.ntmps33
          go_wp2
          go_ret
          exact ⟨rfl, rfl⟩
        · have h4 : (cs.length : Int) - f < n := by omega
          clear hbad
          go_enter Try.func33, Try.ntmps33
          go_wp2
          go_ret
          exact ⟨rfl, rfl⟩
  · obtain ⟨f, rfl⟩ := Int.eq_ofNat_of_zero_le (by omega : 0 ≤ f)
    obtain ⟨n, rfl⟩ := Int.eq_ofNat_of_zero_le (by omega : 0 ≤ n)
    have hfn : f + n ≤ cs.length := by omega
    have hn1 : 1 ≤ n := by omega
    have hee : heldErr cs f n = if ((cs.drop f).take n).any (fun x => decide (x ≤ 0)) then 9 else 0 := if_neg hbad
    have q1 : ((n : Int) < 1) = False := by simp; omega
    clear hbad
    have HEE := hid hee
    clear hee q1
    go_enter Try.func33, Try.ntmps33
    go_wp2
    go_loop [7] (fun i => ∃ k : Nat, k ≤ n ∧ i = .int .i64 ((f : Int) + k) ∧ ∀ j, j < k → 1 ≤ cs.getD (f + j) 0) (fun i => n - (intOf i - f).toNat)
    case atStart => exact ⟨0, Nat.zero_le _, by simp, fun j hj => absurd hj (Nat.not_lt_zero _)⟩
    case round =>
      obtain ⟨k, hk, rfl, hpre⟩ := hrel
      have HPRE := hid hpre
      clear hpre
      by_cases hkn : k < n
      · have hc := H.at_ (f + k) (by omega)
        have hm := hid (seg_mem cs f n k hfn hkn)
        have hg := settleG_le (cs.getD (f + k) 0)
        by_cases hy : cs.getD (f + k) 0 ≤ 0
        · rw [decide_eq_true hy] at hg
          have hany := hid (List.any_eq_true.2 ⟨_, hm.out, by simpa using hy⟩ : ((cs.drop f).take n).any (fun x => decide (x ≤ 0)) = true)
          clear hy
          generalize settleG (cs.getD (f + k) 0) = v at *
          go_wp2
          go_ret
          exact ⟨ret_int (by rw [HEE.out, if_pos hany.out]), rfl⟩
        · rw [decide_eq_false hy] at hg
          have hp2 : Hid (∀ j, j < k + 1 → 1 ≤ cs.getD (f + j) 0) := hid (fun j hj => by
            rcases (by omega : j < k ∨ j = k) with h' | rfl
            · exact HPRE.out j h'
            · omega)
          clear hy
          generalize settleG (cs.getD (f + k) 0) = v at *
          go_wp2
          go_round
          case rel => exact ⟨k + 1, by omega, by go_num, hp2.out⟩
          case measure => simp [intOf] <;> omega
      · go_wp2
        go_ret
        refine ⟨ret_int ?_, rfl⟩
        rw [HEE.out, if_neg]
        rw [List.any_eq_true]
        rintro ⟨x, hx, hle⟩
        obtain ⟨j, hj, rfl⟩ := List.mem_iff_getElem.1 hx
        have hj' : j < n := by simp at hj; omega
        have := HPRE.out j (by omega)
        have e : ((cs.drop f).take n)[j] = cs.getD (f + j) 0 := by simp [List.getD, show f + j < cs.length by omega]
        rw [e] at hle
        simp at hle
        rw [List.getD, show cs[f + j]? = some (cs[f + j]'(by omega)) by simp [show f + j < cs.length by omega]] at this
        simp at this
        omega

theorem cell_far {w : World} {b i : Nat} {a : Addr} {u : Value} (h : w.cell? ⟨b, i, none⟩ = some u) (hne : b ≠ a.block) (v : Value) : (w.setCell a v).cell? ⟨b, i, none⟩ = some u := by
  rw [World.cell?_setCell_other _ _ _ _ (by intro e; apply hne; rw [e])]; exact h

/-- what a function that writes leaves of the reference's allocator -/
structure RWrote (r rc rm : Nat) (cs : List Int) (w w' : World) : Prop where
  ref : Ref w' r rc rm cs
  keep : Keep (Three r rc rm) w w'
theorem RWrote.none {w : World} {r rc rm : Nat} {cs : List Int} (H : Ref w r rc rm cs) : RWrote r rc rm cs w w := ⟨H, Keep.refl _⟩

set_option maxHeartbeats 1000000 in
theorem rshare (w : World) (r rc rm : Nat) (cs : List Int) (f n : Int) (hn9 : n ≤ 9223372036854775807) (hf9 : f ≤ 9223372036854775807) (H : Ref w r rc rm cs) :
   Calls Try.prog 19 #[.pointer (some ⟨r, 0, none⟩), .int .i64 f, .int .i64 n] w fun e w' => e = .returned (.int .i64 (shareErr cs f n)) ∧ RWrote r rc rm (shareTo cs f n) w w' := by
  have hk := rright w r rc rm cs f n hn9 hf9 H
  have h := H.p0
  have hl := H.len
  by_cases h0 : heldErr cs f n = 0
  · obtain ⟨a, b, rfl, rfl, hb, hab, hpos⟩ := heldErr_zero h0
    rw [h0] at hk
    have hee : shareErr cs a b = if ((cs.drop a).take b).any (fun x => decide (1048576 ≤ x)) then 6 else 0 := if_pos h0
    have hto : shareTo cs a b = if shareErr cs a b = 0 then upd cs a b (· + 1) else cs := rfl
    have HK := hid hk
    have HP := hid hpos
    have HE := hid hee
    have HT := hid hto
    clear hk hpos hee hto h0
    go_enter Try.func19, Try.ntmps19
    go_wp2_with (go_at_call 33; refine (HK.out).mono ?_; rintro e w' ⟨rfl, rfl⟩)
    go_loop [8] (fun i => ∃ k : Nat, k ≤ b ∧ i = .int .i64 ((a : Int) + k) ∧ ∀ j, j < k → cs.getD (a + j) 0 < 1048576) (fun i => b - (intOf i - a).toNat)
    case atStart => exact ⟨0, Nat.zero_le _, by simp, fun j hj => absurd hj (Nat.not_lt_zero _)⟩
    case round =>
      obtain ⟨k, hk, rfl, hpre⟩ := hrel
      have HPRE := hid hpre
      clear hpre
      by_cases hkn : k < b
      · have hc := H.at_ (a + k) (by omega)
        have hm := seg_mem cs a b k hab hkn
        have hp := HP.out _ hm
        rw [settleG_pos hp] at hc
        have HM := hid hm
        clear hm
        by_cases hy : 1048576 ≤ cs.getD (a + k) 0
        · have hany := hid (List.any_eq_true.2 ⟨_, HM.out, by simpa using hy⟩ : ((cs.drop a).take b).any (fun x => decide (1048576 ≤ x)) = true)
          generalize cs.getD (a + k) 0 = v at *
          go_wp2
          go_ret
          have he : shareErr cs a b = 6 := by rw [HE.out, if_pos hany.out]
          refine ⟨ret_int he.symm, ?_⟩
          rw [HT.out, he, if_neg (by omega)]
          exact RWrote.none H
        · have hp2 : Hid (∀ j, j < k + 1 → cs.getD (a + j) 0 < 1048576) := hid (fun j hj => by
            rcases (by omega : j < k ∨ j = k) with h' | rfl
            · exact HPRE.out j h'
            · omega)
          generalize cs.getD (a + k) 0 = v at *
          go_wp2
          go_round
          case rel => exact ⟨k + 1, by omega, by go_num, hp2.out⟩
          case measure => simp [intOf] <;> omega
      · have he : shareErr cs a b = 0 := by
          rw [HE.out, if_neg]
          rw [List.any_eq_true]
          rintro ⟨x, hx, hle⟩
          obtain ⟨j, hj, rfl⟩ := List.mem_iff_getElem.1 hx
          have hj' : j < b := by simp at hj; omega
          have := HPRE.out j (by omega)
          have e : ((cs.drop a).take b)[j] = cs.getD (a + j) 0 := by simp [List.getD, show a + j < cs.length by omega]
          rw [e] at hle
          have hle' := of_decide_eq_true hle
          omega
        have ht : shareTo cs a b = upd cs a b (· + 1) := by rw [HT.out, if_pos he]
        have HE0 := hid he
        have HT0 := hid ht
        have HLO : Hid (∀ j, j < b → cs.getD (a + j) 0 < 1048576) := hid (fun j hj => HPRE.out j (by omega))
        clear he ht HE HT HPRE
        go_wp2_with fail
        go_loopw [9] (fun i wr => ∃ k : Nat, k ≤ b ∧ i = .int .i64 ((a : Int) + k) ∧ RWrote r rc rm (upd cs a k (· + 1)) w wr) (fun i _ => b - (intOf i - a).toNat)
        case atStart => exact ⟨0, Nat.zero_le _, by simp, by rw [upd_zero]; exact RWrote.none H⟩
        case round =>
          obtain ⟨j, hj, rfl, hwr⟩ := hrel
          by_cases hjb : j < b
          · have hc := hwr.ref.at_ (a + j) (by simp; omega)
            rw [upd_next _ _ _ _ (by omega)] at hc
            have h0 := hwr.ref.p0
            simp only [upd_len] at h0
            have hfz := hwr.ref.free1 (a + j)
            have hp := HP.out _ (seg_mem cs a b j hab hjb)
            have hq := HLO.out j hjb
            rw [settleG_pos hp] at hc
            have hnx := hwr.ref.set (a + j) (cs.getD (a + j) 0 + 1) (cs.getD (a + j) 0 + 1) (settleG_pos (by omega)).symm (by
              rw [upd_next _ _ _ _ (by omega), beq_eq_false_iff_ne.2 (by omega), beq_eq_false_iff_ne.2 (by omega)])
            have e1 : (upd cs a j (· + 1)).set (a + j) (cs.getD (a + j) 0 + 1) = upd cs a (j + 1) (· + 1) := upd_succ cs a j (· + 1)
            rw [e1] at hnx
            have HN := hid hnx
            have HKp := hid (hwr.keep.setCell (p := ⟨rc, a + j, none⟩) (fun _ => .inr (.inl rfl)) (.int .i64 (cs.getD (a + j) 0 + 1)))
            clear hnx e1 hwr
            generalize cs.getD (a + j) 0 = v at *
            go_wp2
            go_roundw
            case rel => exact ⟨j + 1, by omega, by go_num, HN.out, HKp.out⟩
            case measure => simp [intOf] <;> omega
          · obtain rfl : j = b := by omega
            go_wp2
            go_ret
            exact ⟨ret_int HE0.out.symm, by rw [HT0.out]; exact hwr⟩
  · have hee : shareErr cs f n = heldErr cs f n := if_neg h0
    have hto : shareTo cs f n = cs := by unfold shareTo; rw [hee, if_neg h0]
    rw [hee, hto]
    have hne : (heldErr cs f n != 0) = true := by simpa using h0
    clear hee hto h0
    generalize heldErr cs f n = x at *
    have HK := hid hk; clear hk
    go_enter Try.func19, Try.ntmps19
    go_wp2_with (go_at_call 33; refine (HK.out).mono ?_; rintro e w' ⟨rfl, rfl⟩)
    go_ret
    exact ⟨rfl, RWrote.none H⟩

set_option maxHeartbeats 1000000 in
theorem rdrop (w : World) (r rc rm : Nat) (cs : List Int) (f n : Int) (hn9 : n ≤ 9223372036854775807) (hf9 : f ≤ 9223372036854775807) (hbig : ∀ x ∈ cs, x ≤ 1048576) (H : Ref w r rc rm cs) :
   Calls Try.prog 20 #[.pointer (some ⟨r, 0, none⟩), .int .i64 f, .int .i64 n] w fun e w' => e = .returned (.tuple #[.int .i64 (goneOf cs f n), .int .i64 (heldErr cs f n)]) ∧ RWrote r rc rm (dropTo cs f n) w w' := by
  have hk := rright w r rc rm cs f n hn9 hf9 H
  have hl := H.len
  by_cases h0 : heldErr cs f n = 0
  · obtain ⟨a, b, rfl, rfl, hb, hab, hpos⟩ := heldErr_zero h0
    have hto : dropTo cs a b = upd cs a b less := if_pos h0
    have hgo : goneOf cs a b = ones cs a b := if_pos h0
    rw [hto, hgo, h0]
    rw [h0] at hk
    have HK := hid hk
    have HP := hid hpos
    have HB := hid hbig
    clear hk h0 hpos hto hgo hbig
    go_enter Try.func20, Try.ntmps20
    go_wp2_with (go_at_call 33; refine (HK.out).mono ?_; rintro e w' ⟨rfl, rfl⟩)
    go_loopw [9, 10] (fun g i wr => ∃ k : Nat, k ≤ b ∧ i = .int .i64 ((a : Int) + k) ∧ g = .int .i64 (ones cs a k) ∧ RWrote r rc rm (upd cs a k less) w wr) (fun _ i _ => b - (intOf i - a).toNat)
    case atStart => exact ⟨0, Nat.zero_le _, by simp, rfl, by rw [upd_zero]; exact RWrote.none H⟩
    case round =>
      obtain ⟨k, hk, rfl, rfl, hwr⟩ := hrel
      by_cases hkb : k < b
      · have hc := hwr.ref.at_ (a + k) (by simp; omega)
        rw [upd_next _ _ _ _ (by omega)] at hc
        have hmk := hwr.ref.mark (a + k) (by simp; omega)
        rw [upd_next _ _ _ _ (by omega)] at hmk
        have h0 := hwr.ref.p0
        have h1 := hwr.ref.p1
        simp only [upd_len] at h0 h1
        have hf1 := hwr.ref.free1 (a + k)
        have hf2 := hwr.ref.free2 (a + k)
        have hmem := seg_mem cs a b k hab hkb
        have hp := HP.out _ hmem
        have hq := HB.out _ (List.mem_of_mem_drop (List.mem_of_mem_take hmem))
        clear hmem
        have hon := ones_step cs a k (by omega)
        have hle := ones_le cs a k
        rw [settleG_pos hp] at hc
        by_cases h1' : cs.getD (a + k) 0 = 1
        · have hnx := hwr.ref.wait (a + k)
          have e1 : (upd cs a k less).set (a + k) (-1) = upd cs a (k + 1) less := by rw [← upd_succ, h1']; rfl
          rw [e1] at hnx
          rw [if_pos h1'] at hon
          rw [h1'] at hc hmk
          have HN := hid hnx
          have HKp := hid ((hwr.keep.setCell (p := ⟨rc, a + k, none⟩) (fun _ => .inr (.inl rfl)) (.int .i64 0)).setCell (p := ⟨rm, a + k, none⟩) (fun _ => .inr (.inr rfl)) (.bool true))
          have HO := hid hon
          have k1 := cell_far (a := ⟨rc, a + k, none⟩) h0 hwr.ref.n1 (.int .i64 0)
          have k2 := cell_far (a := ⟨rc, a + k, none⟩) h1 hwr.ref.n1 (.int .i64 0)
          have k3 := cell_far (a := ⟨rc, a + k, none⟩) hmk (fun e => hwr.ref.n3 e.symm) (.int .i64 0)
          clear hnx e1 hwr hon h1' hp hq
          go_wp2
          go_roundw
          case rel => exact ⟨k + 1, by omega, by go_num, by rw [HO.out]; go_num, HN.out, HKp.out⟩
          case measure => simp [intOf] <;> omega
        · have hnx := hwr.ref.set (a + k) (cs.getD (a + k) 0 - 1) (cs.getD (a + k) 0 - 1) (settleG_pos (by omega)).symm (by
            rw [upd_next _ _ _ _ (by omega), beq_eq_false_iff_ne.2 (by omega), beq_eq_false_iff_ne.2 (by omega)])
          have e1 : (upd cs a k less).set (a + k) (cs.getD (a + k) 0 - 1) = upd cs a (k + 1) less := by
            rw [← upd_succ]; unfold less; rw [if_neg h1']
          rw [e1] at hnx
          rw [if_neg h1'] at hon
          have HN := hid hnx
          have HKp := hid (hwr.keep.setCell (p := ⟨rc, a + k, none⟩) (fun _ => .inr (.inl rfl)) (.int .i64 (cs.getD (a + k) 0 - 1)))
          have HO := hid hon
          have k1 := cell_far (a := ⟨rc, a + k, none⟩) h0 hwr.ref.n1 (.int .i64 (cs.getD (a + k) 0 - 1))
          have hne : (cs.getD (a + k) 0 - 1 == 0) = false := beq_eq_false_iff_ne.2 (by omega)
          clear hnx e1 hwr hon h1'
          generalize cs.getD (a + k) 0 = v at *
          go_wp2
          go_roundw
          case rel => exact ⟨k + 1, by omega, by go_num, by rw [HO.out]; rfl, HN.out, HKp.out⟩
          case measure => simp [intOf] <;> omega
      · go_wp2
        go_ret2
        obtain rfl : k = b := by omega
        exact ⟨rfl, hwr⟩
  · have hto : dropTo cs f n = cs := if_neg h0
    have hgo : goneOf cs f n = 0 := if_neg h0
    rw [hgo, hto]
    have hne : (heldErr cs f n != 0) = true := by simpa using h0
    clear hgo hto h0
    generalize heldErr cs f n = x at *
    have HK := hid hk; clear hk
    go_enter Try.func20, Try.ntmps20
    go_wp2_with (go_at_call 33; refine (HK.out).mono ?_; rintro e w' ⟨rfl, rfl⟩)
    go_ret2
    exact ⟨rfl, RWrote.none H⟩

/-- Take -/
def RTakePost (r rc rm : Nat) (cs : List Int) (n : Nat) (w : World) (e : Ending) (w' : World) : Prop :=
  (∃ f : Nat, e = .returned (.tuple #[.int .i64 f, .int .i64 0]) ∧ freeAt cs n f ∧ (∀ g, g < f → ¬ freeAt cs n g) ∧ RWrote r rc rm (upd cs f n (fun _ => 1)) w w')
  ∨ (e = .returned (.tuple #[.int .i64 0, .int .i64 7]) ∧ (∀ g, ¬ freeAt cs n g) ∧ w = w')
theorem rtake_bad (w : World) (r : Nat) (n : Int) (hn : n < 1) : Calls Try.prog 18 #[.pointer (some ⟨r, 0, none⟩), .int .i64 n] w fun e w' => e = .returned (.tuple #[.int .i64 0, .int .i64 1]) ∧ w = w' := by
  go_enter Try.func18, Try.ntmps18
  go_wp2
  go_ret2
  exact ⟨rfl, rfl⟩
set_option maxHeartbeats 1000000 in
theorem rtake_some (w : World) (r rc rm : Nat) (cs : List Int) (m : Nat) (hm1 : 1 ≤ m) (hm9 : m ≤ 9223372036854775807) (hlo : ∀ x ∈ cs, -1 ≤ x) (H : Ref w r rc rm cs) :
    Calls Try.prog 18 #[.pointer (some ⟨r, 0, none⟩), .int .i64 m] w (RTakePost r rc rm cs m w) := by
  have h := H.p0
  have hl := H.len
  have q0 : decide ((m : Int) < 1) = false := by simp; omega
  go_enter Try.func18, Try.ntmps18
  go_wp2
  go_loop [6, 7] (fun y i => ∃ (a t : Nat), a ≤ cs.length ∧ i = .int .i64 a ∧ y = .int .i64 t ∧ Scan cs m a t) (fun _ i => cs.length - (intOf i).toNat)
  case atStart => exact ⟨0, 0, Nat.zero_le _, rfl, rfl, Scan.start cs m hm1⟩
  case round =>
    obtain ⟨a, t, ha, rfl, rfl, hsc⟩ := hrel
    have hra := hsc.le
    have SC := hid hsc
    clear hsc
    by_cases hat : a < cs.length
    · have hfr := rfree_any w r rc rm cs H a hat (hlo _ (getD_mem hat))
      by_cases h0 : cs.getD a 0 = 0
      · rw [h0] at hfr
        have HF := hid hfr
        by_cases hrm : t + 1 = m
        · have hhit := hid (SC.out.hit (by omega) h0 hrm)
          have q1 : ((t : Int) + 1 == m) = true := by rw [beq_iff_eq]; omega
          obtain ⟨f, hf⟩ : ∃ f, f = a + 1 - m := ⟨_, rfl⟩
          have q3 : (a : Int) - m + 1 = f := by omega
          have q4 : f + m = a + 1 := by omega
          have HH : Hid (freeAt cs m f ∧ ∀ g, g < f → ¬ freeAt cs m g) := by rw [hf]; exact hhit
          have Q4 := hid q4
          have HRM := hid hrm
          clear hfr h0 hf hhit q4 hrm
          go_wp2_with (go_at_call 32; refine HF.out.mono ?_; rintro e w' ⟨rfl, rfl⟩)
          clear q3
          go_loopw [9] (fun i wr => ∃ x : Nat, x ≤ m ∧ i = .int .i64 ((f : Int) + x) ∧ RWrote r rc rm (upd cs f x (fun _ => 1)) w wr) (fun i _ => m - (intOf i - f).toNat)
          case atStart => exact ⟨0, Nat.zero_le _, by simp, by rw [upd_zero]; exact RWrote.none H⟩
          case round =>
            obtain ⟨x, hx, rfl, hwr⟩ := hrel
            have q4 := Q4.out
            by_cases hxm : x < m
            · have c1 := hwr.ref.at_ (f + x) (by simp; omega)
              rw [upd_next _ _ _ _ (by omega)] at c1
              have c0 := hwr.ref.p0
              simp only [upd_len] at c0
              have cf := hwr.ref.free1 (f + x)
              have hz := HH.out.1.2 x hxm
              have hnx := hwr.ref.set (f + x) 1 1 rfl (by rw [upd_next _ _ _ _ (by omega), hz]; rfl)
              have e1 : (upd cs f x (fun _ => 1)).set (f + x) 1 = upd cs f (x + 1) (fun _ => 1) := upd_succ cs f x (fun _ => 1)
              rw [e1] at hnx
              have HN := hid hnx
              have HKp := hid (hwr.keep.setCell (p := ⟨rc, f + x, none⟩) (fun _ => .inr (.inl rfl)) (.int .i64 1))
              have hle : (f : Int) + x ≤ a := by omega
              clear hnx e1 hwr hz q4
              go_wp2
              go_roundw
              case rel => exact ⟨x + 1, by omega, by go_num, HN.out, HKp.out⟩
              case measure => simp [intOf] <;> omega
            · obtain rfl : x = m := by omega
              have hle : ¬ (f : Int) + x ≤ a := by omega
              clear q4
              go_wp2
              go_ret2
              exact .inl ⟨f, rfl, HH.out.1, HH.out.2, hwr⟩
        · have s2 := hid (SC.out.free h0 hrm)
          have q1 : ((t : Int) + 1 == m) = false := beq_eq_false_iff_ne.2 (by omega)
          clear hfr h0 hrm
          go_wp2_with (go_at_call 32; refine HF.out.mono ?_; rintro e w' ⟨rfl, rfl⟩)
          go_round
          case rel => exact ⟨a + 1, t + 1, by omega, by go_num, by go_num, s2.out⟩
          case measure => simp [intOf] <;> omega
      · have s2 := hid (SC.out.held hm1 h0)
        rw [beq_eq_false_iff_ne.2 h0] at hfr
        have HF := hid hfr
        have q1 : ((0 : Int) == m) = false := beq_eq_false_iff_ne.2 (by omega)
        clear hfr h0
        go_wp2_with (go_at_call 32; refine HF.out.mono ?_; rintro e w' ⟨rfl, rfl⟩)
        go_round
        case rel => exact ⟨a + 1, 0, by omega, by go_num, rfl, s2.out⟩
        case measure => simp [intOf] <;> omega
    · go_wp2
      go_ret2
      exact .inr ⟨rfl, fun g hg => SC.out.no g (by have := hg.1; omega) hg, rfl⟩

theorem rsettle (w : World) (r rc rm : Nat) (cs : List Int) (H : Ref w r rc rm cs) :
    Calls Try.prog 21 #[.pointer (some ⟨r, 0, none⟩)] w fun e w' => e = .returned (.int .i64 (cnt (-1) cs)) ∧ ∃ rm', Ref w' r rc rm' (cs.map settleG) ∧ w.heap.size ≤ rm' ∧ Keep (One r) w w' := by
  have hW := hid (rwaiting w r rc rm cs H)
  have h1 := H.p1
  have h0 := H.p0
  have hl := H.len
  have hf : w.frozen? ⟨r, 1, none⟩ = false := row_free H.ptr 1
  have hmkB := run_make_row' (P := Try.prog) 34 4 (.bool false) 1 Try.underlying34 info4 rfl .i64 .i64 cs.length (by omega) (by omega)
  rw [made_bools] at hmkB
  have hfa : ∀ o, (w.alloc o).frozen? ⟨r, 1, none⟩ = false := fun o => by rw [World.frozen?_alloc_old _ _ _ (Nat.ne_of_lt (row_lt H.ptr))]; exact hf
  have hca : ∀ o, (w.alloc o).cell? ⟨r, 1, none⟩ = some (.slice (some ⟨rm, 0, none⟩) cs.length cs.length) := fun o => by rw [World.cell?_alloc_lt _ _ _ (row_lt H.ptr)]; exact h1
  go_enter Try.func21, Try.ntmps21
  go_wp2_with (go_at_call 24; refine hW.out.mono ?_; rintro e w' ⟨rfl, rfl⟩)
  go_ret
  have hr := row_lt H.ptr
  refine ⟨rfl, w.heap.size, ⟨?_, ?_, ?_, by simpa using hl⟩, Nat.le_refl _, Keep.setCell (S := One r) ((Keep.refl _).alloc _) (p := ⟨r, 1, none⟩) (fun _ => rfl) _⟩
  · rw [row_set (row_alloc H.ptr _)]; simp
  · rw [List.map_map]
    have : (cs.map (settleG ∘ settleG)) = cs.map settleG := List.map_congr_left (fun x _ => by simp [settleG])
    rw [this]
    exact row_other (row_alloc H.row _) (fun e => H.n1 e.symm) _
  · refine row_other ?_ (by show w.heap.size ≠ r; omega) _
    rw [heap_new, List.map_map]
    congr 3
    apply List.ext_getElem
    · simp
    · intro i h1 h2
      simp [settleG]; omega

theorem rnew_bad (w : World) (u : Int) (h : u < 1 ∨ 4096 < u) : Calls Try.prog 17 #[.int .i64 u] w fun e w' => e = .returned (.tuple #[.agg #[.slice none 0 0, .slice none 0 0], .int .i64 1]) ∧ Keep Nil w w' := by
  by_cases h1 : u < 1
  · go_enter Try.func17, Try.ntmps17
    go_wp2
    refine bodyPost_ret (v := .tuple #[.agg #[.slice none 0 0, .slice none 0 0], .int .i64 1]) (by simp [results, Try.results17, go_sem]) rfl ⟨rfl, ?_⟩
    exact (Keep.refl _).alloc _
  · have h2 : 4096 < u := by omega
    clear h
    go_enter Try.func17, Try.ntmps17
    go_wp2
    refine bodyPost_ret (v := .tuple #[.agg #[.slice none 0 0, .slice none 0 0], .int .i64 1]) (by simp [results, Try.results17, go_sem]) rfl ⟨rfl, ?_⟩
    exact (Keep.refl _).alloc _
def RMade (n : Nat) (w : World) (e : Ending) (w' : World) : Prop := ∃ rc rm, e = .returned (.tuple #[.agg #[.slice (some ⟨rc, 0, none⟩) n n, .slice (some ⟨rm, 0, none⟩) n n], .int .i64 0]) ∧
  w'.heap[rc]? = some (.cells (ints (List.replicate n 0)) 3 (0, 0)) ∧ w'.heap[rm]? = some (.cells (bools (List.replicate n false)) 4 (0, 0)) ∧ w.heap.size ≤ rc ∧ w.heap.size ≤ rm ∧ Keep Nil w w'
set_option maxHeartbeats 1000000 in
theorem rnew_good (w : World) (n : Nat) (h1 : 1 ≤ n) (h2 : n ≤ 4096) : Calls Try.prog 17 #[.int .i64 n] w (RMade n w) := by
  have hmkI := run_make_row' (P := Try.prog) 37 3 (.int .i64 0) 8 Try.underlying37 info3 rfl .i64 .i64 n (by omega) (by omega)
  rw [made_ints] at hmkI
  have hmkB := run_make_row' (P := Try.prog) 34 4 (.bool false) 1 Try.underlying34 info4 rfl .i64 .i64 n (by omega) (by omega)
  rw [made_bools] at hmkB
  go_enter Try.func17, Try.ntmps17
  go_wp2
  go_region
  · go_wp2
    refine bodyPost_ret (v := .tuple #[.agg #[.slice (some ⟨w.heap.size + 1, 0, none⟩) n n, .slice (some ⟨w.heap.size + 1 + 1, 0, none⟩) n n], .int .i64 0]) (by simp [results, Try.results17, go_sem]) rfl ⟨w.heap.size + 1, w.heap.size + 1 + 1, rfl, ?_, ?_, by omega, by omega, ?_⟩
    · exact row_drew (row_alloc (heap_new' _ _ _ (by simp)) _)
    · exact row_drew (heap_new' _ _ _ (by simp))
    · exact ((((Keep.refl _).alloc _).alloc _).alloc _).drew
  · go_wp2
    refine bodyPost_ret (v := .tuple #[.agg #[.slice (some ⟨w.heap.size + 1 + 1, 0, none⟩) n n, .slice (some ⟨w.heap.size + 1, 0, none⟩) n n], .int .i64 0]) (by simp [results, Try.results17, go_sem]) rfl ⟨w.heap.size + 1 + 1, w.heap.size + 1, rfl, ?_, ?_, by omega, by omega, ?_⟩
    · exact row_drew (heap_new' _ _ _ (by simp))
    · exact row_drew (row_alloc (heap_new' _ _ _ (by simp)) _)
    · exact ((((Keep.refl _).alloc _).alloc _).alloc _).drew
end Go.Proofs.Ytompkoihmjenjaa
