/-
  AllocFirst: no row of as many free units begins ahead of the one that is taken; what is refused for want of room has none: the walk.
-/
import Derived.Test.YtompkoihmjenjaaTaken
namespace Go.Proofs.Ytompkoihmjenjaa
open Go.RowKit

/-- the allocator, and a row of bools beside it -/
structure Sb (U p c q : Nat) (cs : List Int) (g : Nat → Bool) (w : World) : Prop where
  has : Has w p c cs
  good : Good U cs
  row : w.heap[q]? = some (.cells (bools (tabB U g)) 4 (0, 0))
theorem Sb.qc {U p c q : Nat} {cs : List Int} {g : Nat → Bool} {w : World} (h : Sb U p c q cs g w) : q ≠ c := by
  intro e; have h1 := h.row; rw [e, h.has.row] at h1; simp at h1
theorem Sb.qp {U p c q : Nat} {cs : List Int} {g : Nat → Bool} {w : World} (h : Sb U p c q cs g w) : q ≠ p := by
  intro e; have h1 := h.row; rw [e, h.has.ptr] at h1; simp at h1
theorem Sb.alloc {U p c q : Nat} {cs : List Int} {g : Nat → Bool} {w : World} (h : Sb U p c q cs g w) (o : Obj) : Sb U p c q cs g (w.alloc o) :=
  ⟨h.has.alloc o, h.good, row_alloc h.row o⟩
theorem Sb.act {U p c q : Nat} {cs xs : List Int} {g : Nat → Bool} {w w' : World} (h : Sb U p c q cs g w) (k : Wrote c xs w w') (hx : Good U xs) : Sb U p c q xs g w' :=
  ⟨k.has h.has (by rw [hx.len, h.good.len]), hx, k.keep.row h.row h.qc⟩
theorem Sb.left {U p c q : Nat} {cs : List Int} {g : Nat → Bool} {w w' : World} (h : Sb U p c q cs g w) (k : Left p c U w w') : ∃ xs, Sb U p c q xs g w' := by
  obtain ⟨⟨xs, hx, hg⟩, hk⟩ := k
  exact ⟨xs, hx, hg, hk.row h.row h.qc⟩
theorem Sb.cell {U p c q : Nat} {cs : List Int} {g : Nat → Bool} {w : World} (h : Sb U p c q cs g w) (i : Nat) (hi : i < U) : w.cell? ⟨q, i, none⟩ = some (.bool (g i)) := by
  rw [row_cell h.row, bools_get _ _ (by rw [tabB_len]; exact hi), tabB_get _ _ _ hi]
theorem Sb.free {U p c q : Nat} {cs : List Int} {g : Nat → Bool} {w : World} (h : Sb U p c q cs g w) (i : Nat) : w.frozen? ⟨q, i, none⟩ = false := row_free h.row i
theorem Sb.set {U p c q : Nat} {cs : List Int} {g : Nat → Bool} {w : World} (h : Sb U p c q cs g w) (j : Nat) (b : Bool) :
    Sb U p c q cs (fun i => if i = j then b else g i) (w.setCell ⟨q, j, none⟩ (.bool b)) :=
  ⟨⟨row_other h.has.ptr (fun e => h.qp e.symm) _, row_other h.has.row (fun e => h.qc e.symm) _, h.has.len⟩, h.good, by rw [row_set h.row, bools_set, tabB_set]⟩

/-- the scan: the last r units ahead of i are free, not the one ahead of them; no row of n lies ahead of i -/
structure Scan (cs : List Int) (n i r : Nat) : Prop where
  le : r ≤ i
  run : ∀ t, i - r ≤ t → t < i → cs.getD t 0 = 0
  stop : r = i ∨ cs.getD (i - 1 - r) 0 ≠ 0
  short : r < n
  no : ∀ g, g + n ≤ i → ¬ freeAt cs n g
theorem Scan.start (cs : List Int) (n : Nat) (hn : 1 ≤ n) : Scan cs n 0 0 :=
  ⟨Nat.le_refl _, fun t _ h => absurd h (Nat.not_lt_zero _), .inl rfl, hn, fun g hg => by omega⟩
theorem Scan.held {cs : List Int} {n i r : Nat} (h : Scan cs n i r) (hn : 1 ≤ n) (hi : cs.getD i 0 ≠ 0) : Scan cs n (i + 1) 0 := by
  refine ⟨Nat.zero_le _, fun t h1 h2 => by omega, .inr (by simpa using hi), hn, fun g hg hf => ?_⟩
  rcases (by omega : g + n ≤ i ∨ g + n = i + 1) with h' | h'
  · exact h.no g h' hf
  · apply hi
    have := hf.2 (i - g) (by omega)
    rwa [show g + (i - g) = i by omega] at this
theorem Scan.free {cs : List Int} {n i r : Nat} (h : Scan cs n i r) (hi : cs.getD i 0 = 0) (hr : r + 1 ≠ n) : Scan cs n (i + 1) (r + 1) := by
  have hs := h.short
  have hl := h.le
  refine ⟨by omega, fun t h1 h2 => ?_, ?_, by omega, fun g hg hf => ?_⟩
  · rcases (by omega : t < i ∨ t = i) with h' | rfl
    · exact h.run t (by omega) h'
    · exact hi
  · rcases h.stop with h' | h'
    · exact .inl (by omega)
    · exact .inr (by rwa [show i + 1 - 1 - (r + 1) = i - 1 - r by omega])
  · rcases (by omega : g + n ≤ i ∨ g + n = i + 1) with h' | h'
    · exact h.no g h' hf
    · rcases h.stop with h2 | h2
      · omega
      · apply h2
        have := hf.2 (i - 1 - r - g) (by omega)
        rwa [show g + (i - 1 - r - g) = i - 1 - r by omega] at this
/-- the row is full: it is the first -/
theorem Scan.hit {cs : List Int} {n i r : Nat} (h : Scan cs n i r) (hc : i < cs.length) (hi : cs.getD i 0 = 0) (hr : r + 1 = n) : freeAt cs n (i + 1 - n) ∧ ∀ g, g < i + 1 - n → ¬ freeAt cs n g := by
  have hl := h.le
  refine ⟨⟨by omega, fun t ht => ?_⟩, fun g hg => h.no g (by omega)⟩
  rcases (by omega : i + 1 - n + t < i ∨ i + 1 - n + t = i) with h' | h'
  · exact h.run _ (by omega) h'
  · rw [h']; exact hi

set_option maxRecDepth 100000 in
set_option maxHeartbeats 4000000 in
theorem first_any (w : World) (u : Int) (ao : Option Addr) (len cap : Nat) (K F N : Nat → Int) (n : Int) (hn9 : n ≤ 9223372036854775807) (hS : Script w ao len K F N) :
    Calls Try.prog 5 #[.int .i64 u, .slice ao len cap, .int .i64 n] w fun e w' => e = .returned (.bool true) ∧ Below w.heap.size w w' := by
  by_cases hu : u < 1 ∨ 4096 < u
  · go_enter Try.func5, Try.ntmps5
    go_wp2_with (first | (go_at_call 9; refine (new_bad _ _ hu).mono ?_; rintro e w' ⟨rfl, rfl⟩) | (go_at_call 10; refine (alive_any _).mono ?_; rintro e w' ⟨rfl, hb⟩))
    go_ret
    exact ⟨rfl, hb⟩
  obtain ⟨U, rfl⟩ := Int.eq_ofNat_of_zero_le (by omega : 0 ≤ u)
  have hU1 : 1 ≤ U := by omega
  have hU2 : U ≤ 4096 := by omega
  clear hu
  have hle := hS.le
  have hmkB := run_make_row' (P := Try.prog) 34 4 (.bool false) 1 Try.underlying34 info4 rfl .i64 .i64 U (by omega) (by omega)
  rw [made_bools, tabB_rep] at hmkB
  go_enter Try.func5, Try.ntmps5
  go_wp2_with fail
  refine (new_good _ U hU1 hU2).mono ?_
  rintro e w1 ⟨p, c, rfl, h1⟩
  have b1 := h1.below (Nat.le_refl _)
  have hc := h1.cnew
  go_wp2_with fail
  refine (alive_any _).mono ?_
  rintro e w2 ⟨rfl, b2⟩
  have H2 := h1.has.below b2
  have b2 := b1.trans (b2.mono b1.size)
  clear h1 b1
  have hq := b2.size
  go_wp2_with fail
  have sb0 : Sb U p c w2.heap.size _ (fun _ => false) (w2.alloc (.cells (bools (tabB U (fun _ => false))) 4)) := ⟨H2.alloc _, Good.rep U, heap_new _ _⟩
  have b0 := b2.alloc b2.size (.cells (bools (tabB U (fun _ => false))) 4)
  have SB := hid sb0
  have B0 := hid b0
  clear sb0 b0 b2 H2
  generalize w2.heap.size = q at *
  go_loopw [38] (fun i wr => ∃ (k : Nat) (g : Nat → Bool), k ≤ U ∧ i = .int .i64 k ∧ Sb U p c q (List.replicate U 0) g wr ∧ Below w.heap.size w wr) (fun i _ => U - (intOf i).toNat)
  case atStart => exact ⟨0, _, Nat.zero_le _, rfl, SB.out, B0.out⟩
  case round =>
    obtain ⟨k, g, hk, rfl, sb, hb⟩ := hrel
    by_cases hkU : k < U
    · have c1 := sb.cell k hkU
      have c2 := sb.free k
      have S2 := hid (sb.set k true)
      have B2 := hid (hb.setCell (p := ⟨q, k, none⟩) hq (.bool true))
      clear sb hb
      go_wp2_with fail
      go_roundw
      case rel => exact ⟨k + 1, _, by omega, by go_num, S2.out, B2.out⟩
      case measure => simp [intOf] <;> omega
    · clear SB B0
      have SB := hid sb
      have B0 := hid hb
      clear sb hb
      obtain rfl : k = U := by omega
      go_wp2_with fail
      go_loopw [47] (fun i w3 => ∃ (j : Nat) (cs : List Int), j ≤ len ∧ i = .int .i64 j ∧ Sb k p c q cs g w3 ∧ Below w.heap.size w w3) (fun i _ => len - (intOf i).toNat)
      case atStart => exact ⟨0, _, Nat.zero_le _, rfl, SB.out, B0.out⟩
      case round =>
        obtain ⟨j, cs, hj, rfl, sb, hb⟩ := hrel
        by_cases hjl : j < len
        · obtain ⟨b, o, rfl, c0, c1, c2, hK0, hK1, hF1, hF0, hN1, hN0⟩ := (hS.below hb).at_ j hjl
          generalize K j = kk at *
          generalize F j = ff at *
          generalize N j = nn at *
          have HS := hid hS
          have S3 := hid (fun o => sb.alloc o)
          have B3 := hid (fun o => hb.alloc hb.size o)
          clear hS sb hb
          go_wp2_with fail
          all_goals
            first
              | ((with_reducible refine (take_left _ p c k cs _ hN1 (S3.out _).has (S3.out (.stringIter ⟨#[]⟩ 0)).good).mono ?_); rintro e w4 ⟨x, y, rfl, hl⟩)
              | ((with_reducible refine (share_left _ p c k cs _ _ hN1 (S3.out _).has (S3.out (.stringIter ⟨#[]⟩ 0)).good).mono ?_); rintro e w4 ⟨x, rfl, hl⟩)
              | ((with_reducible refine (drop_left _ p c k cs _ _ hN1 (S3.out _).has (S3.out (.stringIter ⟨#[]⟩ 0)).good).mono ?_); rintro e w4 ⟨x, y, rfl, hl⟩)
              | ((with_reducible refine (settle_left _ p c k cs (S3.out _).has (S3.out (.stringIter ⟨#[]⟩ 0)).good).mono ?_); rintro e w4 ⟨x, rfl, hl⟩)
            have B4 := hid ((B3.out _).trans (hl.below hc (B3.out _).size))
            obtain ⟨xs, s4⟩ := (S3.out _).left hl
            have S4 := hid s4
            clear s4 hl c0 c1 c2
            go_wp2_with fail
            go_roundw
            case rel => exact ⟨j + 1, xs, by omega, by go_num, S4.out, B4.out⟩
            case measure => simp [intOf] <;> omega
        · go_wp2_with fail
          refine (settle_some _ p c cs sb.good.low sb.has).mono ?_
          rintro e w4 ⟨rfl, h4⟩
          have S4 := hid (sb.act h4 sb.good.settled)
          have B4 := hid (hb.trans (h4.keep.below (fun _ e => by rw [e]; exact hc) hb.size))
          have hnn : ∀ x ∈ cs.map settleG, 0 ≤ x := by
            intro x hx
            obtain ⟨y, _, rfl⟩ := List.mem_map.1 hx
            unfold settleG; omega
          clear h4 sb hb
          generalize cs.map settleG = xs at *
          have HNN := hid hnn
          clear hnn
          go_wp2_with fail
          go_loopw [83] (fun i w5 => ∃ (t : Nat) (g' : Nat → Bool), t ≤ k ∧ i = .int .i64 t ∧ Sb k p c q xs g' w5 ∧ (∀ i, i < t → g' i = (xs.getD i 0 == 0)) ∧ Below w.heap.size w w5) (fun i _ => k - (intOf i).toNat)
          case atStart => exact ⟨0, g, Nat.zero_le _, rfl, S4.out, fun i hi => absurd hi (Nat.not_lt_zero _), B4.out⟩
          case round =>
            obtain ⟨t, g', ht, rfl, s5, hg5, b5⟩ := hrel
            by_cases htk : t < k
            · have c1 := s5.cell t htk
              have c2 := s5.free t
              have hlx := s5.good.len
              have hct : countAt xs t = xs.getD t 0 := by
                unfold countAt
                rw [if_pos (by omega)]
                have := HNN.out _ (getD_mem (cs := xs) (i := t) (by omega))
                simp only [Int.toNat_natCast]; omega
              have hco := count_some _ p c xs t s5.has
              rw [hct] at hco
              have HC := hid hco
              have S5 := hid (s5.set t (xs.getD t 0 == 0))
              have G5 := hid hg5
              have B5 := hid (b5.setCell (p := ⟨q, t, none⟩) hq (.bool (xs.getD t 0 == 0)))
              clear hct hco s5 hg5 b5
              have G6 : Hid (∀ i, i < t + 1 → (if i = t then (xs.getD t 0 == 0) else g' i) = (xs.getD i 0 == 0)) := hid (fun i hi => by
                by_cases e : i = t
                · rw [if_pos e, e]
                · rw [if_neg e]; exact G5.out i (by omega))
              generalize xs.getD t 0 = v at *
              go_wp2_with (go_at_call 16; refine HC.out.mono ?_; rintro e w' ⟨rfl, rfl⟩)
              go_roundw
              case rel => exact ⟨t + 1, _, by omega, by go_num, S5.out, G6.out, B5.out⟩
              case measure => simp [intOf] <;> omega
            · obtain rfl : t = k := by omega
              have S5 := hid s5
              have G5 := hid hg5
              have B5 := hid b5
              clear s5 hg5 b5
              by_cases hn1 : n < 1
              · go_wp2_with fail
                refine (take_bad _ p c xs n hn1 S5.out.has).mono ?_
                rintro e w6 ⟨rfl, rfl⟩
                go_wp2
                go_ret
                exact ⟨rfl, B5.out⟩
              · obtain ⟨m, rfl⟩ := Int.eq_ofNat_of_zero_le (by omega : 0 ≤ n)
                have hm1 : 1 ≤ m := by omega
                have hlx := S5.out.good.len
                go_wp2_with fail
                refine (take_some _ p c xs m hm1 (by omega) S5.out.has).mono ?_
                rintro e w6 (⟨f0, rfl, hfr, hfb, h6⟩ | ⟨rfl, hno, rfl⟩)
                · have S6 := hid (S5.out.act h6 S5.out.good.taken)
                  have B6 := hid (B5.out.trans (h6.keep.below (fun _ e => by rw [e]; exact hc) B5.out.size))
                  have HFR := hid hfr
                  have HFB := hid hfb
                  clear h6 hfr hfb
                  go_wp2_with fail
                  go_loop [16, 106] (fun y i => ∃ (a r : Nat), a ≤ t ∧ i = .int .i64 a ∧ y = .int .i64 r ∧ Scan xs m a r) (fun _ i => t - (intOf i).toNat)
                  case atStart => exact ⟨0, 0, Nat.zero_le _, rfl, rfl, Scan.start xs m hm1⟩
                  case round =>
                    obtain ⟨a, r, ha, rfl, rfl, hsc⟩ := hrel
                    have hra := hsc.le
                    have SC := hid hsc
                    clear hsc
                    by_cases hat : a < t
                    · have c1 := S6.out.cell a hat
                      rw [G5.out a hat] at c1
                      by_cases h0 : xs.getD a 0 = 0
                      · rw [h0] at c1
                        by_cases hrm : r + 1 = m
                        · have hhit := SC.out.hit (by omega) h0 hrm
                          have hfa : f0 = a + 1 - m := by
                            rcases Nat.lt_trichotomy f0 (a + 1 - m) with h | h | h
                            · exact absurd HFR.out (hhit.2 _ h)
                            · exact h
                            · exact absurd hhit.1 (HFB.out _ h)
                          have q1 : ((r : Int) + 1 == m) = true := by rw [beq_iff_eq]; omega
                          have q2 : ((f0 : Int) == (a : Int) - m + 1) = true := by rw [beq_iff_eq]; omega
                          clear hhit hfa hrm h0
                          go_wp2_with fail
                          go_ret
                          exact ⟨rfl, B6.out⟩
                        · have s2 := hid (SC.out.free h0 hrm)
                          have q1 : ((r : Int) + 1 == m) = false := beq_eq_false_iff_ne.2 (by omega)
                          clear hrm h0
                          go_wp2_with fail
                          go_round
                          case rel => exact ⟨a + 1, r + 1, by omega, by go_num, by go_num, s2.out⟩
                          case measure => simp [intOf] <;> omega
                      · have s2 := hid (SC.out.held hm1 h0)
                        rw [beq_eq_false_iff_ne.2 h0] at c1
                        have q1 : ((0 : Int) == m) = false := beq_eq_false_iff_ne.2 (by omega)
                        clear h0
                        go_wp2_with fail
                        go_round
                        case rel => exact ⟨a + 1, 0, by omega, by go_num, rfl, s2.out⟩
                        case measure => simp [intOf] <;> omega
                    · exact absurd HFR.out (SC.out.no _ (by have := HFR.out.1; omega))
                · have S6 := S5
                  have B6 := B5
                  have HNO := hid hno
                  clear hno
                  go_wp2_with fail
                  go_loop [16, 106] (fun y i => ∃ (a r : Nat), a ≤ t ∧ i = .int .i64 a ∧ y = .int .i64 r ∧ Scan xs m a r) (fun _ i => t - (intOf i).toNat)
                  case atStart => exact ⟨0, 0, Nat.zero_le _, rfl, rfl, Scan.start xs m hm1⟩
                  case round =>
                    obtain ⟨a, r, ha, rfl, rfl, hsc⟩ := hrel
                    have hra := hsc.le
                    have SC := hid hsc
                    clear hsc
                    by_cases hat : a < t
                    · have c1 := S6.out.cell a hat
                      rw [G5.out a hat] at c1
                      by_cases h0 : xs.getD a 0 = 0
                      · rw [h0] at c1
                        by_cases hrm : r + 1 = m
                        · exact absurd (SC.out.hit (by omega) h0 hrm).1 (HNO.out _)
                        · have s2 := hid (SC.out.free h0 hrm)
                          have q1 : ((r : Int) + 1 == m) = false := beq_eq_false_iff_ne.2 (by omega)
                          clear hrm h0
                          go_wp2_with fail
                          go_round
                          case rel => exact ⟨a + 1, r + 1, by omega, by go_num, by go_num, s2.out⟩
                          case measure => simp [intOf] <;> omega
                      · have s2 := hid (SC.out.held hm1 h0)
                        rw [beq_eq_false_iff_ne.2 h0] at c1
                        have q1 : ((0 : Int) == m) = false := beq_eq_false_iff_ne.2 (by omega)
                        clear h0
                        go_wp2_with fail
                        go_round
                        case rel => exact ⟨a + 1, 0, by omega, by go_num, rfl, s2.out⟩
                        case measure => simp [intOf] <;> omega
                    · go_wp2_with fail
                      go_ret
                      exact ⟨rfl, B6.out⟩
end Go.Proofs.Ytompkoihmjenjaa
