/-
  AllocTaken: no unit that is held, or waits, is taken: the walk.
-/
import Derived.Test.YtompkoihmjenjaaAll
namespace Go.Proofs.Ytompkoihmjenjaa
open Go.RowKit

/-- a list by its function -/
def tab (U : Nat) (f : Nat → Int) : List Int := (List.range U).map f
theorem tab_len (U : Nat) (f : Nat → Int) : (tab U f).length = U := by simp [tab]
theorem tab_get (U : Nat) (f : Nat → Int) (i : Nat) (h : i < U) : (tab U f).getD i 0 = f i := by simp [tab, List.getD, h]
theorem tab_set (U : Nat) (f : Nat → Int) (j : Nat) (v : Int) : (tab U f).set j v = tab U (fun i => if i = j then v else f i) := by
  apply List.ext_getElem
  · simp [tab]
  · intro i h1 h2
    rw [List.getElem_set]
    by_cases e : j = i
    · subst e; simp [tab]
    · rw [if_neg e]; simp [tab, if_neg (fun h : i = j => e h.symm)]
theorem tab_rep (U : Nat) : List.replicate U (0 : Int) = tab U (fun _ => 0) := by
  apply List.ext_getElem <;> simp [tab]
def tabB (U : Nat) (f : Nat → Bool) : List Bool := (List.range U).map f
theorem tabB_len (U : Nat) (f : Nat → Bool) : (tabB U f).length = U := by simp [tabB]
theorem tabB_get (U : Nat) (f : Nat → Bool) (i : Nat) (h : i < U) : (tabB U f).getD i false = f i := by simp [tabB, List.getD, h]
theorem tabB_set (U : Nat) (f : Nat → Bool) (j : Nat) (v : Bool) : (tabB U f).set j v = tabB U (fun i => if i = j then v else f i) := by
  apply List.ext_getElem
  · simp [tabB]
  · intro i h1 h2
    rw [List.getElem_set]
    by_cases e : j = i
    · subst e; simp [tabB]
    · rw [if_neg e]; simp [tabB, if_neg (fun h : i = j => e h.symm)]
theorem tabB_rep (U : Nat) (b : Bool) : List.replicate U b = tabB U (fun _ => b) := by
  apply List.ext_getElem <;> simp [tabB]

/-- the allocator, and the row of those that wait -/
structure St (U p c q : Nat) (cs : List Int) (g : Nat → Bool) (w : World) : Prop where
  has : Has w p c cs
  good : Good U cs
  row : w.heap[q]? = some (.cells (bools (tabB U g)) 4 (0, 0))
  imp : ∀ i, g i = true → cs.getD i 0 = -1
theorem St.keep {U p c q : Nat} {cs : List Int} {g : Nat → Bool} {S : Nat → Prop} {w w' : World} (h : St U p c q cs g w) (k : Keep S w w') (hS : ∀ b, S b → b < w.heap.size → b ≠ p ∧ b ≠ c ∧ b ≠ q) : St U p c q cs g w' := by
  have np : ¬ S p := fun s => (hS p s (row_lt h.has.ptr)).1 rfl
  have nc : ¬ S c := fun s => (hS c s (row_lt h.has.row)).2.1 rfl
  have nq : ¬ S q := fun s => (hS q s (row_lt h.row)).2.2 rfl
  exact ⟨⟨k.row h.has.ptr np, k.row h.has.row nc, h.has.len⟩, h.good, k.row h.row nq, h.imp⟩
theorem St.new {U p c q : Nat} {cs : List Int} {g : Nat → Bool} {w w' : World} (h : St U p c q cs g w) (k : Keep (fun b => w.heap.size ≤ b) w w') : St U p c q cs g w' :=
  h.keep k (fun b hb hl => absurd hl (by omega))
theorem St.qc {U p c q : Nat} {cs : List Int} {g : Nat → Bool} {w : World} (h : St U p c q cs g w) : q ≠ c := by
  intro e; have h1 := h.row; rw [e, h.has.row] at h1; simp at h1
theorem St.qp {U p c q : Nat} {cs : List Int} {g : Nat → Bool} {w : World} (h : St U p c q cs g w) : q ≠ p := by
  intro e; have h1 := h.row; rw [e, h.has.ptr] at h1; simp at h1
/-- behind an act -/
theorem St.act {U p c q : Nat} {cs xs : List Int} {g : Nat → Bool} {w w' : World} (h : St U p c q cs g w) (k : Wrote c xs w w') (hx : Good U xs) (hi : ∀ i, cs.getD i 0 = -1 → xs.getD i 0 = -1) : St U p c q xs g w' :=
  ⟨k.has h.has (by rw [hx.len, h.good.len]), hx, k.keep.row h.row h.qc, fun i hg => hi i (h.imp i hg)⟩
theorem St.cell {U p c q : Nat} {cs : List Int} {g : Nat → Bool} {w : World} (h : St U p c q cs g w) (i : Nat) (hi : i < U) : w.cell? ⟨q, i, none⟩ = some (.bool (g i)) := by
  rw [row_cell h.row, bools_get _ _ (by rw [tabB_len]; exact hi), tabB_get _ _ _ hi]
theorem St.free {U p c q : Nat} {cs : List Int} {g : Nat → Bool} {w : World} (h : St U p c q cs g w) (i : Nat) : w.frozen? ⟨q, i, none⟩ = false := row_free h.row i
theorem St.set {U p c q : Nat} {cs : List Int} {g : Nat → Bool} {w : World} (h : St U p c q cs g w) (j : Nat) (b : Bool) (hb : b = true → cs.getD j 0 = -1) :
    St U p c q cs (fun i => if i = j then b else g i) (w.setCell ⟨q, j, none⟩ (.bool b)) := by
  refine ⟨⟨row_other h.has.ptr (fun e => h.qp e.symm) _, row_other h.has.row (fun e => h.qc e.symm) _, h.has.len⟩, h.good, by rw [row_set h.row, bools_set, tabB_set], fun i hi => ?_⟩
  by_cases e : i = j
  · subst e; exact hb (by simpa using hi)
  · exact h.imp i (by simpa [e] using hi)

/-- an act turns no unit that waits -/
theorem take_waits {cs : List Int} {n f : Nat} (h : freeAt cs n f) (i : Nat) (hi : cs.getD i 0 = -1) : (upd cs f n (fun _ => 1)).getD i 0 = -1 := by
  have hl : i < cs.length := by
    rcases Nat.lt_or_ge i cs.length with h' | h'
    · exact h'
    · simp [List.getD, h'] at hi
  rw [upd_get _ _ _ _ _ hl]
  by_cases e : f ≤ i ∧ i < f + n
  · have := h.2 (i - f) (by omega)
    rw [show f + (i - f) = i by omega] at this; omega
  · rw [if_neg e]; exact hi
theorem upd_waits {cs : List Int} {a b : Nat} {g : Int → Int} (hp : ∀ x ∈ (cs.drop a).take b, 1 ≤ x) (hab : a + b ≤ cs.length) (i : Nat) (hi : cs.getD i 0 = -1) : (upd cs a b g).getD i 0 = -1 := by
  have hl : i < cs.length := by
    rcases Nat.lt_or_ge i cs.length with h' | h'
    · exact h'
    · simp [List.getD, h'] at hi
  rw [upd_get _ _ _ _ _ hl]
  by_cases e : a ≤ i ∧ i < a + b
  · have := hp _ (seg_mem cs a b (i - a) hab (by omega))
    rw [show a + (i - a) = i by omega] at this; omega
  · rw [if_neg e]; exact hi
theorem share_waits (cs : List Int) (f n : Int) (i : Nat) (hi : cs.getD i 0 = -1) : (shareTo cs f n).getD i 0 = -1 := by
  unfold shareTo
  by_cases e : shareErr cs f n = 0
  · rw [if_pos e]
    have h0 : heldErr cs f n = 0 := by
      unfold shareErr at e
      by_cases e0 : heldErr cs f n = 0
      · exact e0
      · rw [if_neg e0] at e; exact e
    obtain ⟨a, b, rfl, rfl, hb, hab, hpos⟩ := heldErr_zero h0
    exact upd_waits hpos hab i hi
  · rw [if_neg e]; exact hi
theorem drop_waits (cs : List Int) (f n : Int) (i : Nat) (hi : cs.getD i 0 = -1) : (dropTo cs f n).getD i 0 = -1 := by
  unfold dropTo
  by_cases e : heldErr cs f n = 0
  · rw [if_pos e]
    obtain ⟨a, b, rfl, rfl, hb, hab, hpos⟩ := heldErr_zero e
    exact upd_waits hpos hab i hi
  · rw [if_neg e]; exact hi
/-- what was held and is not any more waits -/
theorem drop_gone (cs : List Int) (f n : Int) (i : Nat) (hi : i < cs.length) (h1 : 0 < countAt cs i) (h2 : countAt (dropTo cs f n) i = 0) (hl : (dropTo cs f n).length = cs.length) : (dropTo cs f n).getD i 0 = -1 := by
  unfold countAt at h1 h2
  rw [if_pos (by omega)] at h1
  rw [if_pos (by omega)] at h2
  simp only [Int.toNat_natCast] at h1 h2
  unfold dropTo at h2 ⊢
  by_cases e : heldErr cs f n = 0
  · rw [if_pos e] at h2 ⊢
    obtain ⟨a, b, rfl, rfl, hb, hab, hpos⟩ := heldErr_zero e
    rw [upd_get _ _ _ _ _ hi] at h2 ⊢
    by_cases e' : (a : Int).toNat ≤ i ∧ i < (a : Int).toNat + (b : Int).toNat
    · rw [if_pos e'] at h2 ⊢
      unfold less at h2 ⊢
      split
      · rfl
      · rename_i h3; rw [if_neg h3] at h2; omega
    · rw [if_neg e'] at h2; omega
  · rw [if_neg e] at h2; omega

/-- the row of the counts before an act -/
def bef (cs : List Int) (j i : Nat) : Int := if i < j then countAt cs i else 0
theorem bef_next (U : Nat) (cs : List Int) (j : Nat) : (tab U (bef cs j)).set j (countAt cs j) = tab U (bef cs (j + 1)) := by
  rw [tab_set]
  unfold tab
  apply List.map_congr_left
  intro i _
  unfold bef
  by_cases e : i = j
  · subst e; simp
  · by_cases e2 : i < j
    · simp [e, e2, show i < j + 1 by omega]
    · simp [e, e2, show ¬ i < j + 1 by omega]

set_option maxRecDepth 100000 in
set_option maxHeartbeats 4000000 in
theorem taken_any (w : World) (u : Int) (ao : Option Addr) (len cap : Nat) (K F N : Nat → Int) (hS : Script w ao len K F N) :
    Calls Try.prog 4 #[.int .i64 u, .slice ao len cap] w fun e w' => e = .returned (.bool true) ∧ Below w.heap.size w w' := by
  by_cases hu : u < 1 ∨ 4096 < u
  · go_enter Try.func4, Try.ntmps4
    go_wp2_with (first | (go_at_call 9; refine (new_bad _ _ hu).mono ?_; rintro e w' ⟨rfl, rfl⟩) | (go_at_call 10; refine (alive_any _).mono ?_; rintro e w' ⟨rfl, hb⟩))
    go_ret
    exact ⟨rfl, hb⟩
  obtain ⟨U, rfl⟩ := Int.eq_ofNat_of_zero_le (by omega : 0 ≤ u)
  have hU1 : 1 ≤ U := by omega
  have hU2 : U ≤ 4096 := by omega
  clear hu
  have hle := hS.le
  have hmkI := run_make_row' (P := Try.prog) 37 3 (.int .i64 0) 8 Try.underlying37 info3 rfl .i64 .i64 U (by omega) (by omega)
  rw [made_ints, tab_rep] at hmkI
  have hmkB := run_make_row' (P := Try.prog) 34 4 (.bool false) 1 Try.underlying34 info4 rfl .i64 .i64 U (by omega) (by omega)
  rw [made_bools, tabB_rep] at hmkB
  go_enter Try.func4, Try.ntmps4
  go_wp2_with fail
  refine (new_good _ U hU1 hU2).mono ?_
  rintro e w1 ⟨p, c, rfl, h1⟩
  have b1 := h1.below (Nat.le_refl _)
  have hc := h1.cnew
  go_wp2_with fail
  refine (alive_any _).mono ?_
  rintro e w2 ⟨rfl, b2⟩
  have H2 := h1.has.below b2
  have b2 := b1.trans (b2.mono b1.size)
  clear h1 b1
  go_wp2_with fail
  go_loopw [7, 36] (fun v i wr => ∃ (k q : Nat) (cs : List Int) (g : Nat → Bool), k ≤ len ∧ i = .int .i64 k ∧ v = .slice (some ⟨q, 0, none⟩) U U ∧ St U p c q cs g wr ∧ w.heap.size ≤ q ∧ Below w.heap.size w wr) (fun _ i _ => len - (intOf i).toNat)
  case atStart => exact ⟨0, w2.heap.size, _, _, Nat.zero_le _, rfl, rfl, ⟨H2.alloc _, Good.rep U, heap_new _ _, fun i hi => by simp at hi⟩, b2.size, b2.alloc b2.size _⟩
  case round =>
    obtain ⟨k, q, cs, g, hk, rfl, rfl, hst, hq, hbr⟩ := hrel
    obtain ⟨wo, rfl⟩ : ∃ wo : World, wo = wr := ⟨_, rfl⟩
    by_cases hkl : k < len
    · obtain ⟨b, o, rfl, c0, c1, c2, hK0, hK1, hF1, hF0, hN1, hN0⟩ := (hS.below hbr).at_ k hkl
      generalize K k = kk at *
      generalize F k = ff at *
      generalize N k = nn at *
      have HS := hid hS
      clear hS
      have ST := hid hst
      have BR := hid hbr
      clear hst hbr
      go_wp2_with fail
      clear c0 c1 c2
      go_loopw [44] (fun i w3 => ∃ j : Nat, j ≤ U ∧ i = .int .i64 j ∧ w3.heap[wo.heap.size + 1]? = some (.cells (ints (tab U (bef cs j))) 3 (0, 0)) ∧
        Keep (One (wo.heap.size + 1)) ((wo.alloc (.cells #[.int .u8 kk, .int .i64 ff, .int .i64 nn] 36)).alloc (.cells (ints (tab U (fun _ => 0))) 3)) w3) (fun i _ => U - (intOf i).toNat)
      case atStart =>
        refine ⟨0, Nat.zero_le _, rfl, ?_, Keep.refl _⟩
        rw [heap_new' _ _ _ (by simp)]
        rfl
      case round =>
        obtain ⟨j, hj, rfl, hrow, hkeep⟩ := hrel
        have l1 := row_lt ST.out.has.ptr
        have l2 := row_lt ST.out.has.row
        have l3 := row_lt ST.out.row
        have st3 : St U p c q cs g wr := (ST.out.keep (((Keep.refl (S := Nil) wo).alloc _).alloc _) (fun x hx => hx.elim)).keep hkeep (fun x hx _ => by
          have hx : x = wo.heap.size + 1 := hx
          omega)
        have hact : wr.heap[wo.heap.size]? = some (.cells #[.int .u8 kk, .int .i64 ff, .int .i64 nn] 36 (0, 0)) :=
          hkeep.row (row_alloc (heap_new _ _) _) (fun h => by have h : wo.heap.size = wo.heap.size + 1 := h; omega)
        have b3 : Below w.heap.size w wr := ((BR.out.alloc BR.out.size _).alloc (by simpa using Nat.le_succ_of_le BR.out.size) _).trans (hkeep.below (fun x hx => by
          have hx : x = wo.heap.size + 1 := hx
          have := BR.out.size; omega) (by have := BR.out.size; simp; omega))
        have hbig : w.heap.size ≤ wo.heap.size := BR.out.size
        generalize wo.heap.size = z at *
        by_cases hjU : j < U
        · have cnt := hid (count_some wr p c cs j st3.has)
          have hnx := hid (bef_next U cs j)
          have cc := row_cell hrow j
          rw [ints_get _ _ (by rw [tab_len]; exact hjU)] at cc
          have cf := row_free hrow j
          have hs := row_set hrow j (.int .i64 (countAt cs j))
          rw [ints_set, bef_next] at hs
          have HR := hid hrow
          have HX := hid hs
          have HK := hid (hkeep.setCell (p := ⟨z + 1, j, none⟩) (fun _ => rfl) (.int .i64 (countAt cs j)))
          have ST3 := hid st3
          have B3 := hid b3
          have HA := hid hact
          clear hrow hs hkeep st3 b3 hact
          generalize countAt cs j = v at *
          go_wp2_with (go_at_call 16; refine cnt.out.mono ?_; rintro e w' ⟨rfl, rfl⟩)
          go_roundw
          case rel => exact ⟨j + 1, by omega, by go_num, HX.out, HK.out⟩
          case measure => simp [intOf] <;> omega
        · obtain rfl : j = U := by omega
          have d0 := row_cell hact 0
          have d1 := row_cell hact 1
          have d2 := row_cell hact 2
          simp at d0 d1 d2
          have HR := hid hrow
          have HK := hid hkeep
          have ST3 := hid st3
          have B3 := hid b3
          have HA := hid hact
          clear hrow hkeep st3 b3 hact
          go_wp2_with fail
          · -- Take
            by_cases hn : nn < 1
            · refine (take_bad wr p c cs nn hn ST3.out.has).mono ?_
              rintro e w4 ⟨rfl, rfl⟩
              clear d0 d1 d2
              go_wp2_with fail
              go_roundw
              case rel => exact ⟨k + 1, q, _, g, by omega, by go_num, rfl, ST3.out, hq, B3.out⟩
              case measure => simp [intOf] <;> omega
            · obtain ⟨n, rfl⟩ := Int.eq_ofNat_of_zero_le (by omega : 0 ≤ nn)
              refine (take_some wr p c cs n (by omega) (by omega) ST3.out.has).mono ?_
              rintro e w4 (⟨f, rfl, hfr, _, h4⟩ | ⟨rfl, _, rfl⟩)
              · have st4 := hid (ST3.out.act h4 ST3.out.good.taken (fun i => take_waits hfr i))
                have b4 := hid (B3.out.trans (h4.keep.below (fun _ e => by rw [e]; exact hc) B3.out.size))
                have hlen := ST3.out.good.len
                have hfn : f + n ≤ j := by have := hfr.1; omega
                have ha4 := h4.keep.row HA.out (fun e => by have e : z = c := e; omega)
                have hr4 := h4.keep.row HR.out (fun e => by have e : z + 1 = c := e; omega)
                clear d0 d1 d2
                have d2 := row_cell ha4 2
                simp at d2
                have HR4 := hid hr4
                clear hr4 ha4
                have HFR := hid hfr
                have H4 := hid h4
                clear hfr h4
                go_wp2_with fail
                go_loop [14] (fun i => ∃ t : Nat, t ≤ n ∧ i = .int .i64 ((f : Int) + t)) (fun i => n - (intOf i - f).toNat)
                case atStart => exact ⟨0, Nat.zero_le _, by simp⟩
                case round =>
                  obtain ⟨t, ht, rfl⟩ := hrel
                  by_cases htn : t < n
                  · have h0 := HFR.out.2 t htn
                    have e1 := row_cell HR4.out (f + t)
                    rw [ints_get _ _ (by rw [tab_len]; omega), tab_get _ _ _ (by omega)] at e1
                    have e2 : bef cs j (f + t) = 0 := by
                      unfold bef
                      rw [if_pos (by omega)]
                      unfold countAt
                      rw [if_pos (by omega)]
                      simp only [Int.toNat_natCast, h0]; rfl
                    rw [e2] at e1
                    have e3 := st4.out.cell (f + t) (by omega)
                    have e4 : g (f + t) = false := by
                      cases hg : g (f + t) with
                      | false => rfl
                      | true => have := ST3.out.imp _ hg; omega
                    rw [e4] at e3
                    have e5 := count_some w4 p c _ ((f + t : Nat) : Int) st4.out.has
                    have e6 : countAt (upd cs f n (fun _ => 1)) ((f + t : Nat) : Int) = 1 := by
                      unfold countAt
                      rw [if_pos (by simp; omega)]
                      simp only [Int.toNat_natCast]
                      rw [upd_get _ _ _ _ _ (by omega), if_pos (by omega)]; rfl
                    rw [e6] at e5
                    have E5 := hid e5
                    rw [show ((f + t : Nat) : Int) = (f : Int) + t by omega] at E5
                    clear h0 e2 e4 e6 e5
                    go_wp2_with (go_at_call 16; refine E5.out.mono ?_; rintro e w' ⟨rfl, rfl⟩)
                    go_round
                    case rel => exact ⟨t + 1, by omega, by go_num⟩
                    case measure => simp [intOf] <;> omega
                  · go_wp2_with fail
                    go_roundw
                    case rel => exact ⟨k + 1, q, _, g, by omega, by go_num, rfl, st4.out, hq, b4.out⟩
                    case measure => simp [intOf] <;> omega
              · clear d0 d1 d2
                go_wp2_with fail
                go_roundw
                case rel => exact ⟨k + 1, q, _, g, by omega, by go_num, rfl, ST3.out, hq, B3.out⟩
                case measure => simp [intOf] <;> omega
          · -- Share
            refine (share_some wr p c cs ff nn hN1 ST3.out.has).mono ?_
            rintro e w4 ⟨rfl, h4⟩
            have st4 := hid (ST3.out.act h4 (ST3.out.good.shared ff nn) (fun i => share_waits cs ff nn i))
            have b4 := hid (B3.out.trans (h4.keep.below (fun _ e => by rw [e]; exact hc) B3.out.size))
            clear d0 d1 d2
            go_wp2_with fail
            go_roundw
            case rel => exact ⟨k + 1, q, _, g, by omega, by go_num, rfl, st4.out, hq, b4.out⟩
            case measure => simp [intOf] <;> omega
          · -- Drop
            refine (drop_some wr p c cs ff nn hN1 ST3.out.good.high ST3.out.has).mono ?_
            rintro e w4 ⟨rfl, h4⟩
            have st4 := ST3.out.act h4 (ST3.out.good.dropped ff nn) (fun i => drop_waits cs ff nn i)
            have b4 := B3.out.trans (h4.keep.below (fun _ e => by rw [e]; exact hc) B3.out.size)
            have r4 := h4.keep.row HR.out (fun e => by have e : z + 1 = c := e; omega)
            have hlc := ST3.out.good.len
            have hgone := hid (fun i hi => drop_gone cs ff nn i hi)
            have hle4 := st4.good.len
            generalize heldErr cs ff nn = x1 at *
            generalize goneOf cs ff nn = x2 at *
            generalize dropTo cs ff nn = xs at *
            clear h4 d0 d1 d2
            have HSt := hid st4
            have HB4 := hid b4
            have HR4 := hid r4
            clear st4 b4 r4
            go_wp2_with fail
            go_loopw [131] (fun i w5 => ∃ (t : Nat) (g' : Nat → Bool), t ≤ j ∧ i = .int .i64 t ∧ St j p c q xs g' w5 ∧ w5.heap[z + 1]? = some (.cells (ints (tab j (bef cs j))) 3 (0, 0)) ∧ Below w.heap.size w w5) (fun i _ => j - (intOf i).toNat)
            case atStart => exact ⟨0, g, Nat.zero_le _, rfl, HSt.out, HR4.out, HB4.out⟩
            case round =>
              obtain ⟨t, g', ht, rfl, st5, r5, b5⟩ := hrel
              by_cases htj : t < j
              · have e1 := row_cell r5 t
                rw [ints_get _ _ (by rw [tab_len]; omega), tab_get _ _ _ (by omega)] at e1
                have e2 : bef cs j t = countAt cs t := if_pos htj
                rw [e2] at e1
                have e3 := st5.cell t htj
                have e4 := st5.free t
                have zq : z + 1 ≠ q := fun e => by omega
                have n5 : ∀ v : Value, (wr.setCell ⟨q, t, none⟩ v).heap[z + 1]? = some (.cells (ints (tab j (bef cs j))) 3 (0, 0)) ∧ Below w.heap.size w (wr.setCell ⟨q, t, none⟩ v) :=
                  fun v => ⟨row_other r5 zq _, b5.setCell hq _⟩
                have e5 := hid (count_some wr p c xs t st5.has)
                have hg1 := hgone.out t (by omega)
                have N5 := hid n5
                have R5 := hid r5
                have B5 := hid b5
                clear n5 r5 b5 e2
                by_cases A : g' t = true
                · have S5 := hid (st5.set t true (fun _ => st5.imp t A))
                  rw [A] at e3
                  clear A st5 hg1
                  generalize countAt cs t = y1 at *
                  generalize countAt xs t = y2 at *
                  go_wp2_with (go_at_call 16; refine e5.out.mono ?_; rintro e w' ⟨rfl, rfl⟩)
                  go_roundw
                  case rel => exact ⟨t + 1, _, by omega, by go_num, S5.out, (N5.out _).1, (N5.out _).2⟩
                  case measure => simp [intOf] <;> omega
                · have A' : g' t = false := by simpa using A
                  rw [A'] at e3
                  by_cases C : 0 < countAt cs t ∧ countAt xs t = 0
                  · obtain ⟨C1, C2⟩ := C
                    have S5 := hid (st5.set t true (fun _ => hg1 C1 C2 (by omega)))
                    rw [C2] at e5
                    clear A A' st5 hg1 C2
                    generalize countAt cs t = y1 at *
                    go_wp2_with (go_at_call 16; refine e5.out.mono ?_; rintro e w' ⟨rfl, rfl⟩)
                    go_roundw
                    case rel => exact ⟨t + 1, _, by omega, by go_num, S5.out, (N5.out _).1, (N5.out _).2⟩
                    case measure => simp [intOf] <;> omega
                  · have S5 := hid (st5.set t false (fun h => by cases h))
                    clear A A' st5 hg1
                    generalize countAt cs t = y1 at *
                    generalize countAt xs t = y2 at *
                    by_cases C1 : 0 < y1
                    · have C2 : (y2 == 0) = false := beq_eq_false_iff_ne.2 (fun h => C ⟨C1, h⟩)
                      clear C
                      go_wp2_with (go_at_call 16; refine e5.out.mono ?_; rintro e w' ⟨rfl, rfl⟩)
                      go_roundw
                      case rel => exact ⟨t + 1, _, by omega, by go_num, S5.out, (N5.out _).1, (N5.out _).2⟩
                      case measure => simp [intOf] <;> omega
                    · clear C
                      go_wp2_with (go_at_call 16; refine e5.out.mono ?_; rintro e w' ⟨rfl, rfl⟩)
                      go_roundw
                      case rel => exact ⟨t + 1, _, by omega, by go_num, S5.out, (N5.out _).1, (N5.out _).2⟩
                      case measure => simp [intOf] <;> omega
              · go_wp2_with fail
                go_roundw
                case rel => exact ⟨k + 1, q, _, _, by omega, by go_num, rfl, st5, hq, b5⟩
                case measure => simp [intOf] <;> omega
          · -- Settle
            refine (settle_some wr p c cs ST3.out.good.low ST3.out.has).mono ?_
            rintro e w4 ⟨rfl, h4⟩
            have st4 := h4.has ST3.out.has (by simp)
            have b4 := hid (B3.out.trans (h4.keep.below (fun _ e => by rw [e]; exact hc) B3.out.size))
            have g4 := hid (ST3.out.good.settled)
            clear d0 d1 d2
            go_wp2_with fail
            go_roundw
            case rel => exact ⟨k + 1, w4.heap.size, _, _, by omega, by go_num, rfl, ⟨st4.alloc _, g4.out, heap_new _ _, fun i hi => by simp at hi⟩, b4.out.size, b4.out.alloc b4.out.size _⟩
            case measure => simp [intOf] <;> omega
    · go_wp2
      go_ret
      exact ⟨rfl, hbr⟩
end Go.Proofs.Ytompkoihmjenjaa
