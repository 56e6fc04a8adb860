/-
  AllocAll: free, waiting and held units are all together: the walk. And what every act of a script leaves.
-/
import Derived.Test.YtompkoihmjenjaaAlive
namespace Go.Proofs.Ytompkoihmjenjaa
open Go.RowKit

/-- the counts of an allocator of U units -/
structure Good (U : Nat) (cs : List Int) : Prop where
  len : cs.length = U
  low : ∀ x ∈ cs, -1 ≤ x
  high : ∀ x ∈ cs, x ≤ 1048576
theorem Good.rep (U : Nat) : Good U (List.replicate U 0) := by
  refine ⟨by simp, fun x hx => ?_, fun x hx => ?_⟩ <;> (rw [(List.mem_replicate.1 hx).2]; omega)
theorem mem_upd {cs : List Int} {f k : Nat} {g : Int → Int} {x : Int} (h : x ∈ upd cs f k g) : x ∈ cs ∨ ∃ i, f ≤ i ∧ i < f + k ∧ i < cs.length ∧ x = g (cs.getD i 0) := by
  obtain ⟨i, hi, rfl⟩ := List.mem_iff_getElem.1 h
  have hi' : i < cs.length := by simpa using hi
  simp only [upd, List.getElem_mapIdx]
  by_cases e : f ≤ i ∧ i < f + k
  · rw [if_pos e]; exact .inr ⟨i, e.1, e.2, hi', by simp [List.getD, hi']⟩
  · rw [if_neg e]; exact .inl (List.getElem_mem hi')
theorem getD_mem {cs : List Int} {i : Nat} (h : i < cs.length) : cs.getD i 0 ∈ cs := by
  simp [List.getD, h]
theorem Good.taken {U f n : Nat} {cs : List Int} (h : Good U cs) : Good U (upd cs f n (fun _ => 1)) := by
  refine ⟨by simpa using h.len, fun x hx => ?_, fun x hx => ?_⟩
  · rcases mem_upd hx with h' | ⟨i, _, _, _, rfl⟩
    · exact h.low x h'
    · omega
  · rcases mem_upd hx with h' | ⟨i, _, _, _, rfl⟩
    · exact h.high x h'
    · omega
theorem Good.settled {U : Nat} {cs : List Int} (h : Good U cs) : Good U (cs.map settleG) := by
  refine ⟨by simpa using h.len, fun x hx => ?_, fun x hx => ?_⟩
  · obtain ⟨y, hy, rfl⟩ := List.mem_map.1 hx
    unfold settleG; omega
  · obtain ⟨y, hy, rfl⟩ := List.mem_map.1 hx
    have := h.high y hy
    unfold settleG; omega
theorem Good.shared {U : Nat} {cs : List Int} (h : Good U cs) (f n : Int) : Good U (shareTo cs f n) := by
  unfold shareTo
  by_cases e : shareErr cs f n = 0
  · rw [if_pos e]
    have h0 : heldErr cs f n = 0 := by
      unfold shareErr at e
      by_cases e0 : heldErr cs f n = 0
      · exact e0
      · rw [if_neg e0] at e; exact e
    obtain ⟨a, b, rfl, rfl, hb, hab, hpos⟩ := heldErr_zero h0
    have hlow : ∀ i, i < b → cs.getD (a + i) 0 < 1048576 := by
      intro i hi
      unfold shareErr at e
      rw [if_pos h0] at e
      rcases Int.lt_or_le (cs.getD (a + i) 0) 1048576 with h' | h'
      · exact h'
      · have hm := seg_mem cs a b i hab hi
        rw [if_pos (List.any_eq_true.2 ⟨_, by simpa using hm, by simpa using h'⟩)] at e
        omega
    refine ⟨by simpa using h.len, fun x hx => ?_, fun x hx => ?_⟩
    · rcases mem_upd hx with h' | ⟨i, _, _, hi, rfl⟩
      · exact h.low x h'
      · have := h.low _ (getD_mem hi); omega
    · rcases mem_upd hx with h' | ⟨i, hi1, hi2, hi, rfl⟩
      · exact h.high x h'
      · have := hlow (i - a) (by simp at hi1 hi2; omega)
        rw [show a + (i - a) = i by simp at hi1; omega] at this
        omega
  · rw [if_neg e]; exact h
theorem Good.dropped {U : Nat} {cs : List Int} (h : Good U cs) (f n : Int) : Good U (dropTo cs f n) := by
  unfold dropTo
  by_cases e : heldErr cs f n = 0
  · rw [if_pos e]
    obtain ⟨a, b, rfl, rfl, hb, hab, hpos⟩ := heldErr_zero e
    have hp : ∀ i, i < b → 1 ≤ cs.getD (a + i) 0 := fun i hi => hpos _ (seg_mem cs a b i hab hi)
    refine ⟨by simpa using h.len, fun x hx => ?_, fun x hx => ?_⟩
    · rcases mem_upd hx with h' | ⟨i, hi1, hi2, hi, rfl⟩
      · exact h.low x h'
      · have := hp (i - a) (by simp at hi1 hi2; omega)
        rw [show a + (i - a) = i by simp at hi1; omega] at this
        unfold less; split <;> omega
    · rcases mem_upd hx with h' | ⟨i, hi1, hi2, hi, rfl⟩
      · exact h.high x h'
      · have := h.high _ (getD_mem hi)
        unfold less; split <;> omega
  · rw [if_neg e]; exact h

/-- what an act leaves -/
structure Left (p c U : Nat) (w w' : World) : Prop where
  has : ∃ cs, Has w' p c cs ∧ Good U cs
  keep : Keep (One c) w w'
theorem Wrote.left {p c U : Nat} {cs xs : List Int} {w w' : World} (H : Has w p c cs) (h : Wrote c xs w w') (hg : Good U cs) (hx : Good U xs) : Left p c U w w' :=
  ⟨⟨xs, h.has H (by rw [hx.len, hg.len]), hx⟩, h.keep⟩
theorem Left.same {p c U : Nat} {cs : List Int} {w : World} (H : Has w p c cs) (hg : Good U cs) : Left p c U w w := ⟨⟨cs, H, hg⟩, Keep.refl _⟩

theorem take_left (w : World) (p c U : Nat) (cs : List Int) (n : Int) (hn : n ≤ 9223372036854775807) (H : Has w p c cs) (hg : Good U cs) :
    Calls Try.prog 11 #[.pointer (some ⟨p, 0, none⟩), .int .i64 n] w fun e w' => ∃ x y : Int, e = .returned (.tuple #[.int .i64 x, .int .i64 y]) ∧ Left p c U w w' := by
  by_cases h1 : n < 1
  · exact (take_bad w p c cs n h1 H).mono fun e w' ⟨he, hw⟩ => ⟨0, 1, he, hw ▸ Left.same H hg⟩
  · obtain ⟨n, rfl⟩ := Int.eq_ofNat_of_zero_le (by omega : 0 ≤ n)
    refine (take_some w p c cs n (by omega) (by omega) H).mono ?_
    rintro e w' (⟨f, he, _, _, hw⟩ | ⟨he, _, hw⟩)
    · exact ⟨f, 0, he, hw.left H hg hg.taken⟩
    · exact ⟨0, 7, he, hw ▸ Left.same H hg⟩
theorem share_left (w : World) (p c U : Nat) (cs : List Int) (f n : Int) (hn : n ≤ 9223372036854775807) (H : Has w p c cs) (hg : Good U cs) :
    Calls Try.prog 12 #[.pointer (some ⟨p, 0, none⟩), .int .i64 f, .int .i64 n] w fun e w' => ∃ x : Int, e = .returned (.int .i64 x) ∧ Left p c U w w' :=
  (share_some w p c cs f n hn H).mono fun _ _ ⟨he, hw⟩ => ⟨_, he, hw.left H hg (hg.shared f n)⟩
theorem drop_left (w : World) (p c U : Nat) (cs : List Int) (f n : Int) (hn : n ≤ 9223372036854775807) (H : Has w p c cs) (hg : Good U cs) :
    Calls Try.prog 13 #[.pointer (some ⟨p, 0, none⟩), .int .i64 f, .int .i64 n] w fun e w' => ∃ x y : Int, e = .returned (.tuple #[.int .i64 x, .int .i64 y]) ∧ Left p c U w w' :=
  (drop_some w p c cs f n hn hg.high H).mono fun _ _ ⟨he, hw⟩ => ⟨_, _, he, hw.left H hg (hg.dropped f n)⟩
theorem settle_left (w : World) (p c U : Nat) (cs : List Int) (H : Has w p c cs) (hg : Good U cs) :
    Calls Try.prog 15 #[.pointer (some ⟨p, 0, none⟩)] w fun e w' => ∃ x : Int, e = .returned (.int .i64 x) ∧ Left p c U w w' :=
  (settle_some w p c cs hg.low H).mono fun _ _ ⟨he, hw⟩ => ⟨_, he, hw.left H hg hg.settled⟩

/-- a script in memory: of the i-th act the kind, the place and the number -/
structure Script (w : World) (ao : Option Addr) (len : Nat) (K F N : Nat → Int) : Prop where
  le : len ≤ 9223372036854775807
  at_ : ∀ i, i < len → ∃ b o, ao = some ⟨b, o, none⟩ ∧ w.cell? ⟨b, o + i * 3, none⟩ = some (.int .u8 (K i)) ∧ w.cell? ⟨b, o + i * 3 + 1, none⟩ = some (.int .i64 (F i)) ∧
    w.cell? ⟨b, o + i * 3 + 2, none⟩ = some (.int .i64 (N i)) ∧ 0 ≤ K i ∧ K i ≤ 255 ∧ F i ≤ 9223372036854775807 ∧ -9223372036854775808 ≤ F i ∧ N i ≤ 9223372036854775807 ∧ -9223372036854775808 ≤ N i
theorem Script.below {w w' : World} {ao : Option Addr} {len : Nat} {K F N : Nat → Int} (h : Script w ao len K F N) (hb : Below w.heap.size w w') : Script w' ao len K F N := by
  refine ⟨h.le, fun i hi => ?_⟩
  obtain ⟨b, o, e, h1, h2, h3, r⟩ := h.at_ i hi
  exact ⟨b, o, e, (hb.cell (World.block_lt_of_cell? _ _ h1)).trans h1, (hb.cell (World.block_lt_of_cell? _ _ h2)).trans h2, (hb.cell (World.block_lt_of_cell? _ _ h3)).trans h3, r⟩
theorem Has.alloc {w : World} {p c : Nat} {cs : List Int} (h : Has w p c cs) (o : Obj) : Has (w.alloc o) p c cs :=
  ⟨row_alloc h.ptr _, row_alloc h.row _, h.len⟩
theorem Left.below {p c U B : Nat} {w w' : World} (h : Left p c U w w') (hc : B ≤ c) (hB : B ≤ w.heap.size) : Below B w w' :=
  h.keep.below (fun _ e => by rw [e]; exact hc) hB

/-- how many of the first k are held -/
def pos (cs : List Int) (k : Nat) : Nat := ((cs.take k).filter (fun x => decide (0 < x))).length
theorem pos_le (cs : List Int) (k : Nat) : pos cs k ≤ k := Nat.le_trans (List.length_filter_le _ _) (List.length_take_le _ _)
theorem pos_hit (cs : List Int) (k : Nat) (hk : k < cs.length) (h : 0 < countAt cs k) : pos cs (k + 1) = pos cs k + 1 := by
  unfold countAt at h
  rw [if_pos (by omega)] at h
  have h' : 0 < cs[k] := by simp only [Int.toNat_natCast, List.getD, List.getElem?_eq_getElem hk, Option.getD_some] at h; omega
  unfold pos
  rw [List.take_succ_eq_append_getElem hk, List.filter_append]
  simp [h']
theorem pos_miss (cs : List Int) (k : Nat) (hk : k < cs.length) (h : ¬ 0 < countAt cs k) : pos cs (k + 1) = pos cs k := by
  unfold countAt at h
  rw [if_pos (by omega)] at h
  have h' : ¬ 0 < cs[k] := by simp only [Int.toNat_natCast, List.getD, List.getElem?_eq_getElem hk, Option.getD_some] at h; omega
  unfold pos
  rw [List.take_succ_eq_append_getElem hk, List.filter_append]
  simpa using h'
theorem all_sum (cs : List Int) (h : ∀ x ∈ cs, -1 ≤ x) : cnt 0 cs + cnt (-1) cs + (cs.filter (fun x => decide (0 < x))).length = cs.length := by
  unfold cnt
  induction cs with
  | nil => rfl
  | cons x r ih =>
    have hx := h x (List.mem_cons_self ..)
    have ih := ih fun y hy => h y (List.mem_cons_of_mem _ hy)
    rcases (by omega : x = 0 ∨ x = -1 ∨ 0 < x) with rfl | rfl | h'
    · simp; omega
    · simp; omega
    · have h1 : (x == 0) = false := beq_eq_false_iff_ne.2 (by omega)
      have h2 : (x == -1) = false := beq_eq_false_iff_ne.2 (by omega)
      simp [h1, h2, h'] ; omega

set_option maxHeartbeats 2000000 in
theorem all_any (w : World) (u : Int) (ao : Option Addr) (len cap : Nat) (K F N : Nat → Int) (hS : Script w ao len K F N) :
    Calls Try.prog 7 #[.int .i64 u, .slice ao len cap] w fun e w' => e = .returned (.bool true) ∧ Below w.heap.size w w' := by
  by_cases hu : u < 1 ∨ 4096 < u
  · go_enter Try.func7, Try.ntmps7
    go_wp2_with (first | (go_at_call 9; refine (new_bad _ _ hu).mono ?_; rintro e w' ⟨rfl, rfl⟩) | (go_at_call 10; refine (alive_any _).mono ?_; rintro e w' ⟨rfl, hb⟩))
    go_ret
    exact ⟨rfl, hb⟩
  obtain ⟨U, rfl⟩ := Int.eq_ofNat_of_zero_le (by omega : 0 ≤ u)
  have hU1 : 1 ≤ U := by omega
  have hU2 : U ≤ 4096 := by omega
  clear hu
  have hle := hS.le
  go_enter Try.func7, Try.ntmps7
  go_wp2_with fail
  refine (new_good _ U hU1 hU2).mono ?_
  rintro e w1 ⟨p, c, rfl, h1⟩
  have b1 := h1.below (Nat.le_refl _)
  have hc := h1.cnew
  go_wp2_with fail
  refine (alive_any _).mono ?_
  rintro e w2 ⟨rfl, b2⟩
  have H2 := h1.has.below b2
  have b2 := b1.trans (b2.mono b1.size)
  clear h1 b1
  go_wp2_with fail
  go_loopw [29] (fun i wr => ∃ k : Nat, k ≤ len ∧ i = .int .i64 k ∧ (∃ cs, Has wr p c cs ∧ Good U cs) ∧ Below w.heap.size w wr) (fun i _ => len - (intOf i).toNat)
  case atStart => exact ⟨0, Nat.zero_le _, rfl, ⟨_, H2, Good.rep U⟩, b2⟩
  case round =>
    obtain ⟨k, hk, rfl, ⟨cs, hwr, hg⟩, hbr⟩ := hrel
    by_cases hkl : k < len
    · obtain ⟨b, o, rfl, c0, c1, c2, hK0, hK1, hF1, hF0, hN1, hN0⟩ := (hS.below hbr).at_ k hkl
      generalize K k = kk at *
      generalize F k = ff at *
      generalize N k = nn at *
      have HS := hid hS
      clear hS
      have hwa := fun o => hwr.alloc o
      have hba := fun o => hbr.alloc hbr.size o
      have HA := hid hwa
      have HB := hid hba
      have HH := hid hwr
      have HBB := hid hbr
      clear hwa hba hwr hbr
      go_wp2_with fail
      all_goals
        first
          | ((with_reducible refine (take_left _ p c U cs _ hN1 (HA.out _) hg).mono ?_); rintro e w4 ⟨x, y, rfl, hl⟩)
          | ((with_reducible refine (share_left _ p c U cs _ _ hN1 (HA.out _) hg).mono ?_); rintro e w4 ⟨x, rfl, hl⟩)
          | ((with_reducible refine (drop_left _ p c U cs _ _ hN1 (HA.out _) hg).mono ?_); rintro e w4 ⟨x, y, rfl, hl⟩)
          | ((with_reducible refine (settle_left _ p c U cs (HA.out _) hg).mono ?_); rintro e w4 ⟨x, rfl, hl⟩)
        have b4 := (HB.out _).trans (hl.below hc (HB.out _).size)
        obtain ⟨⟨cs', H4, G4⟩, _⟩ := hl
        have G5 := hid G4
        have hlow := hid G4.low
        have hlen := G4.len
        clear G4
        go_wp2_with fail
        go_loop [9, 61] (fun h i => ∃ j : Nat, j ≤ U ∧ i = .int .i64 j ∧ h = .int .i64 (pos cs' j)) (fun _ i => U - (intOf i).toNat)
        case atStart => exact ⟨0, Nat.zero_le _, rfl, rfl⟩
        case round =>
          obtain ⟨j, hj, rfl, rfl⟩ := hrel
          have hpl := pos_le cs' j
          by_cases hjU : j < U
          · have hco := hid (count_some w4 p c cs' j H4)
            by_cases hpo : 0 < countAt cs' j
            · have hph := hid (pos_hit cs' j (by omega) hpo)
              generalize countAt cs' j = v at *
              go_wp2_with (go_at_call 16; refine hco.out.mono ?_; rintro e w' ⟨rfl, rfl⟩)
              go_round
              case rel => exact ⟨j + 1, by omega, by go_num, by rw [hph.out]; go_num⟩
              case measure => simp [intOf] <;> omega
            · have hph := hid (pos_miss cs' j (by omega) hpo)
              generalize countAt cs' j = v at *
              go_wp2_with (go_at_call 16; refine hco.out.mono ?_; rintro e w' ⟨rfl, rfl⟩)
              go_round
              case rel => exact ⟨j + 1, by omega, by go_num, by rw [hph.out]⟩
              case measure => simp [intOf] <;> omega
          · have hsum : cnt 0 cs' + cnt (-1) cs' + pos cs' j = U := by
              have := all_sum cs' hlow.out
              unfold pos
              rw [List.take_of_length_le (by omega)]; omega
            have hF := hid (free_some w4 p c cs' H4)
            have hW := hid (waiting_some w4 p c cs' H4)
            generalize cnt 0 cs' = n1 at *
            generalize cnt (-1) cs' = n2 at *
            generalize pos cs' j = n3 at *
            have hn1 : n1 ≤ 4096 := by omega
            have hn2 : n2 ≤ 4096 := by omega
            have hn3 : n3 ≤ 4096 := by omega
            have hne : ((n1 : Int) + n2 + n3 != U) = false := by rw [bne_eq_false_iff_eq]; omega
            have HL := hid hlen
            clear hsum hlen
            go_wp2_with (first | (go_at_call 14; refine hF.out.mono ?_; rintro e w' ⟨rfl, rfl⟩) | (go_at_call 23; refine hW.out.mono ?_; rintro e w' ⟨rfl, rfl⟩))
            go_roundw
            case rel => exact ⟨k + 1, by omega, by go_num, ⟨cs', H4, G5.out⟩, b4⟩
            case measure => simp [intOf] <;> omega
    · go_wp2
      go_ret
      exact ⟨rfl, hbr⟩
end Go.Proofs.Ytompkoihmjenjaa
