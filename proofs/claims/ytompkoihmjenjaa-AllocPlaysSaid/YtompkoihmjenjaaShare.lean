/-
  What Share and Drop of the seat's allocator do: their answers and what they write.
-/
import Derived.Test.YtompkoihmjenjaaCount
namespace Go.Proofs.Ytompkoihmjenjaa
open Go.RowKit

/-- from f on so many elements go through g -/
def upd (cs : List Int) (f k : Nat) (g : Int → Int) : List Int := cs.mapIdx fun i x => if f ≤ i ∧ i < f + k then g x else x
@[simp] theorem upd_len (cs : List Int) (f k : Nat) (g : Int → Int) : (upd cs f k g).length = cs.length := by simp [upd]
theorem upd_zero (cs : List Int) (f : Nat) (g : Int → Int) : upd cs f 0 g = cs := by
  apply List.ext_getElem
  · simp
  · intro i h1 h2
    simp [upd]; omega
theorem upd_get (cs : List Int) (f k i : Nat) (g : Int → Int) (hi : i < cs.length) : (upd cs f k g).getD i 0 = if f ≤ i ∧ i < f + k then g (cs.getD i 0) else cs.getD i 0 := by
  simp [upd, List.getD, hi]
theorem upd_next (cs : List Int) (f k : Nat) (g : Int → Int) (hi : f + k < cs.length) : (upd cs f k g).getD (f + k) 0 = cs.getD (f + k) 0 := by
  rw [upd_get _ _ _ _ _ hi, if_neg (by omega)]
theorem upd_succ (cs : List Int) (f k : Nat) (g : Int → Int) : (upd cs f k g).set (f + k) (g (cs.getD (f + k) 0)) = upd cs f (k + 1) g := by
  apply List.ext_getElem
  · simp
  · intro i h1 h2
    have hi : i < cs.length := by simpa using h2
    rw [List.getElem_set]
    by_cases e : f + k = i
    · subst e
      simp [upd, List.getD, hi]
    · simp only [if_neg e, upd, List.getElem_mapIdx]
      by_cases h : f ≤ i ∧ i < f + k
      · rw [if_pos h, if_pos (by omega)]
      · rw [if_neg h, if_neg (by omega)]

/-- the row c alone was written: it is xs now -/
structure Wrote (c : Nat) (xs : List Int) (w w' : World) : Prop where
  row : w'.heap[c]? = some (.cells (ints xs) 3 (0, 0))
  keep : Keep (One c) w w'
theorem Wrote.none {w : World} {p c : Nat} {cs : List Int} (H : Has w p c cs) : Wrote c cs w w := ⟨H.row, Keep.refl _⟩
theorem Has.ne {w : World} {p c : Nat} {cs : List Int} (H : Has w p c cs) : p ≠ c := by
  intro e; have h1 := H.ptr; have h2 := H.row
  rw [e, h2] at h1; simp at h1
theorem Wrote.has {w w' : World} {p c : Nat} {cs xs : List Int} (H : Has w p c cs) (h : Wrote c xs w w') (hl : xs.length = cs.length) : Has w' p c xs :=
  ⟨by rw [hl]; exact h.keep.row H.ptr H.ne, h.row, by rw [hl]; exact H.len⟩
theorem Wrote.cell {w w' : World} {c : Nat} {xs : List Int} (h : Wrote c xs w w') (i : Nat) (hi : i < xs.length) : w'.cell? ⟨c, i, Option.none⟩ = some (.int .i64 (xs.getD i 0)) := by
  rw [row_cell h.row]; exact ints_get _ _ hi
theorem Wrote.free {w w' : World} {c : Nat} {xs : List Int} (h : Wrote c xs w w') (i : Nat) : w'.frozen? ⟨c, i, Option.none⟩ = false := row_free h.row i
theorem Wrote.set {w w' : World} {c : Nat} {xs : List Int} (h : Wrote c xs w w') (i : Nat) (v : Int) : Wrote c (xs.set i v) w (w'.setCell ⟨c, i, Option.none⟩ (.int .i64 v)) :=
  ⟨by rw [row_set h.row, ints_set], h.keep.setCell (fun _ => rfl) _⟩
theorem Wrote.next {w w' : World} {c f k : Nat} {cs : List Int} {g : Int → Int} (h : Wrote c (upd cs f k g) w w') (v : Int) (hv : v = g (cs.getD (f + k) 0)) :
    Wrote c (upd cs f (k + 1) g) w (w'.setCell ⟨c, f + k, Option.none⟩ (.int .i64 v)) := by
  have := h.set (f + k) v
  rw [hv, upd_succ] at this; rw [hv]; exact this

/-- the first -/
def hd0 : List Int → Int | [] => 0 | a :: _ => a
/-- the greatest of the first k -/
def fmax (l : List Int) (k : Nat) : Int := (l.take k).foldl max (hd0 l)
/-- the greatest -/
def mx (l : List Int) : Int := l.foldl max (hd0 l)
theorem fmax_one (l : List Int) (h : 1 ≤ l.length) : fmax l 1 = l.getD 0 0 := by
  cases l with
  | nil => simp at h
  | cons a r => simp [fmax, hd0]
theorem fmax_all (l : List Int) (k : Nat) (h : l.length ≤ k) : fmax l k = mx l := by
  unfold fmax mx; rw [List.take_of_length_le h]
theorem fmax_step (l : List Int) (k : Nat) (b : Int) (h : l[k]? = some b) : fmax l (k + 1) = max (fmax l k) b := by
  unfold fmax
  obtain ⟨hk, rfl⟩ := List.getElem?_eq_some_iff.1 h
  rw [List.take_succ_eq_append_getElem hk, List.foldl_append]; rfl
theorem foldl_max_iff (l : List Int) (a b : Int) : b ≤ l.foldl max a ↔ b ≤ a ∨ ∃ x ∈ l, b ≤ x := by
  induction l generalizing a with
  | nil => simp
  | cons x r ih =>
    simp only [List.foldl_cons, ih, List.mem_cons]
    constructor
    · rintro (h | ⟨y, hy, h⟩)
      · rcases (by omega : b ≤ a ∨ b ≤ x) with h | h
        · exact .inl h
        · exact .inr ⟨x, .inl rfl, h⟩
      · exact .inr ⟨y, .inr hy, h⟩
    · rintro (h | ⟨y, (rfl | hy), h⟩)
      · exact .inl (by omega)
      · exact .inl (by omega)
      · exact .inr ⟨y, hy, h⟩
theorem mx_iff (l : List Int) (b : Int) (h : 1 ≤ l.length) : b ≤ mx l ↔ l.any (fun x => decide (b ≤ x)) = true := by
  unfold mx
  rw [foldl_max_iff, List.any_eq_true]
  cases l with
  | nil => simp at h
  | cons a r => simp [hd0]

set_option maxHeartbeats 400000 in
theorem max_any (w : World) (c o m : Nat) (l : List Int) (hl : l.length ≤ 4096) (h1 : 1 ≤ l.length)
   (hc : ∀ i, i < l.length → w.cell? ⟨c, o + i, none⟩ = some (.int .i64 (l.getD i 0))) :
   Calls Try.prog 30 #[.slice (some ⟨c, o, none⟩) l.length m] w fun e w' => e = .returned (.int .i64 (mx l)) ∧ w = w' := by
  have hc0 : w.cell? ⟨c, o, none⟩ = some (.int .i64 (fmax l 1)) := by rw [fmax_one l h1]; exact hc 0 (by omega)
  have hlt : ¬ ((l.length : Int) < 1) := by omega
  go_enter Try.func30, Try.ntmps30
  go_wp2
  go_loop [3, 4] (fun x i => ∃ k : Nat, 1 ≤ k ∧ k ≤ l.length ∧ i = .int .i64 k ∧ x = .int .i64 (fmax l k)) (fun _ i => l.length - (intOf i).toNat)
  case atStart => exact ⟨1, Nat.le_refl _, h1, rfl, rfl⟩
  case round =>
    obtain ⟨k, hk1, hk, rfl, rfl⟩ := hrel
    by_cases hkl : k < l.length
    · obtain ⟨b, hb⟩ : ∃ b, l[k]? = some b := ⟨l[k], by simp [hkl]⟩
      have hcell : w.cell? ⟨c, o + k, none⟩ = some (.int .i64 b) := by rw [hc k hkl]; simp [List.getD, hb]
      have hs := hid (fmax_step l k b hb)
      clear hb hc
      go_wp2
      all_goals
        go_round
        case rel => exact ⟨k + 1, by omega, by omega, by go_num, by rw [hs.out]; go_num⟩
        case measure => simp [intOf]; omega
    · go_wp2
      go_ret
      exact ⟨ret_int (fmax_all l k (by omega)), rfl⟩

/-- Share: the error, and the counts behind it -/
def shareErr (cs : List Int) (f n : Int) : Int :=
  if heldErr cs f n = 0 then (if ((cs.drop f.toNat).take n.toNat).any (fun x => decide (1048576 ≤ x)) then 6 else 0) else heldErr cs f n
def shareTo (cs : List Int) (f n : Int) : List Int := if shareErr cs f n = 0 then upd cs f.toNat n.toNat (· + 1) else cs

theorem heldErr_zero {cs : List Int} {f n : Int} (h : heldErr cs f n = 0) : ∃ a b : Nat, f = a ∧ n = b ∧ 1 ≤ b ∧ a + b ≤ cs.length ∧ ∀ x ∈ (cs.drop a).take b, 1 ≤ x := by
  unfold heldErr at h
  split at h
  · omega
  · rename_i hb
    obtain ⟨a, rfl⟩ := Int.eq_ofNat_of_zero_le (by omega : 0 ≤ f)
    obtain ⟨b, rfl⟩ := Int.eq_ofNat_of_zero_le (by omega : 0 ≤ n)
    refine ⟨a, b, rfl, rfl, by omega, by omega, ?_⟩
    intro x hx
    rcases Int.lt_or_le 0 x with h' | h'
    · omega
    · have : ((cs.drop (a : Int).toNat).take (b : Int).toNat).any (fun x => decide (x ≤ 0)) = true := by
        rw [List.any_eq_true]; exact ⟨x, by simpa using hx, by simpa using h'⟩
      rw [if_pos this] at h; omega
theorem seg_mem (cs : List Int) (f n k : Nat) (h : f + n ≤ cs.length) (hk : k < n) : cs.getD (f + k) 0 ∈ (cs.drop f).take n := by
  rw [List.mem_iff_getElem]
  exact ⟨k, by simp; omega, by simp [List.getD, show f + k < cs.length by omega]⟩

set_option maxHeartbeats 1000000 in
theorem share_some (w : World) (p c : Nat) (cs : List Int) (f n : Int) (hn : n ≤ 9223372036854775807) (H : Has w p c cs) :
   Calls Try.prog 12 #[.pointer (some ⟨p, 0, none⟩), .int .i64 f, .int .i64 n] w fun e w' => e = .returned (.int .i64 (shareErr cs f n)) ∧ Wrote c (shareTo cs f n) w w' := by
  have hk := held_some w p c cs f n hn H
  by_cases h0 : heldErr cs f n = 0
  · obtain ⟨a, b, rfl, rfl, hb, hab, hpos⟩ := heldErr_zero h0
    have hval : heldVal c cs a b = .slice (some ⟨c, a, none⟩) b (cs.length - a) := by unfold heldVal; rw [if_pos h0]; simp
    rw [hval, h0] at hk
    have hc : ∀ i, i < ((cs.drop a).take b).length → w.cell? ⟨c, a + i, none⟩ = some (.int .i64 (((cs.drop a).take b).getD i 0)) := by
      intro i hi
      rw [seg_get _ _ _ _ hab hi]
      exact H.at _ (by simp at hi; omega)
    have hl := H.len
    have hsl := seg_len cs a b hab
    have hm := max_any w c a (cs.length - a) ((cs.drop a).take b) (by omega) (by omega) hc
    rw [hsl] at hm
    have hge := mx_iff ((cs.drop a).take b) 1048576 (by omega)
    have hee : shareErr cs a b = if ((cs.drop a).take b).any (fun x => decide (1048576 ≤ x)) then 6 else 0 := if_pos h0
    have hto : shareTo cs a b = if shareErr cs a b = 0 then upd cs a b (· + 1) else cs := rfl
    have HM := hid hm
    have HK := hid hk
    have HP := hid hpos
    clear hm hk hc hval h0 hpos hsl
    by_cases hbig : ((cs.drop a).take b).any (fun x => decide (1048576 ≤ x)) = true
    · rw [if_pos hbig] at hee
      rw [hee] at hto ⊢
      rw [hto]
      have hge' := hge.2 hbig
      clear hge hee hto hbig
      generalize mx ((cs.drop a).take b) = x at *
      go_enter Try.func12, Try.ntmps12
      go_wp2_with (first | (go_at_call 29; refine (HK.out).mono ?_; rintro e w' ⟨rfl, rfl⟩) | (go_at_call 30; refine (HM.out).mono ?_; rintro e w' ⟨rfl, rfl⟩))
      go_ret
      exact ⟨rfl, Wrote.none H⟩
    · rw [if_neg hbig] at hee
      rw [hee] at hto ⊢
      rw [if_pos rfl] at hto
      rw [hto]
      have hge' : ¬ 1048576 ≤ mx ((cs.drop a).take b) := fun h => hbig (hge.1 h)
      have hlow : ∀ k, k < b → cs.getD (a + k) 0 < 1048576 := by
        intro k hk
        rcases Int.lt_or_le (cs.getD (a + k) 0) 1048576 with h | h
        · exact h
        · exact absurd (List.any_eq_true.2 ⟨_, seg_mem cs a b k hab hk, by simpa using h⟩) hbig
      clear hge hee hto hbig
      generalize mx ((cs.drop a).take b) = x at *
      have HL := hid hlow; clear hlow
      go_enter Try.func12, Try.ntmps12
      go_wp2_with (first | (go_at_call 29; refine (HK.out).mono ?_; rintro e w' ⟨rfl, rfl⟩) | (go_at_call 30; refine (HM.out).mono ?_; rintro e w' ⟨rfl, rfl⟩))
      go_loopw [27] (fun i wr => ∃ k : Nat, k ≤ b ∧ i = .int .i64 k ∧ Wrote c (upd cs a k (· + 1)) w wr) (fun i _ => b - (intOf i).toNat)
      case atStart => exact ⟨0, Nat.zero_le _, rfl, by rw [upd_zero]; exact Wrote.none H⟩
      case round =>
        obtain ⟨k, hk, rfl, hwr⟩ := hrel
        by_cases hkb : k < b
        · have hcell := hwr.cell (a + k) (by simp; omega)
          rw [upd_next _ _ _ _ (by omega)] at hcell
          have hfree := hwr.free (a + k)
          have hlo := HL.out k hkb
          have hnext := hwr.next (cs.getD (a + k) 0 + 1) rfl
          have hp := HP.out _ (seg_mem cs a b k hab hkb)
          generalize cs.getD (a + k) 0 = y at *
          have HW := hid hwr; clear hwr
          have HN := hid hnext; clear hnext
          go_wp2
          go_roundw
          case rel => exact ⟨k + 1, by omega, by go_num, HN.out⟩
          case measure => simp [intOf]; omega
        · go_wp2
          go_ret
          obtain rfl : k = b := by omega
          exact ⟨rfl, hwr⟩
  · have hee : shareErr cs f n = heldErr cs f n := if_neg h0
    have hto : shareTo cs f n = cs := by unfold shareTo; rw [hee, if_neg h0]
    rw [hee, hto]
    have hne : (heldErr cs f n != 0) = true := by simpa using h0
    clear hee hto h0
    generalize heldVal c cs f n = v at *
    generalize heldErr cs f n = x at *
    have HK := hid hk; clear hk
    go_enter Try.func12, Try.ntmps12
    go_wp2_with (go_at_call 29; refine (HK.out).mono ?_; rintro e w' ⟨rfl, rfl⟩)
    go_ret
    exact ⟨rfl, Wrote.none H⟩
theorem share_nil (w : World) (f n : Int) : Calls Try.prog 12 #[.pointer none, .int .i64 f, .int .i64 n] w fun e w' => e = .returned (.int .i64 2) ∧ w = w' := by
  go_enter Try.func12, Try.ntmps12
  go_wp2_with (go_at_call 29; refine (held_nil _ _ _).mono ?_; rintro e w' ⟨rfl, rfl⟩)
  go_ret
  exact ⟨rfl, rfl⟩
theorem share_bare (w : World) (p : Nat) (f n : Int) (h : w.cell? ⟨p, 0, none⟩ = some (.slice none 0 0)) : Calls Try.prog 12 #[.pointer (some ⟨p, 0, none⟩), .int .i64 f, .int .i64 n] w fun e w' => e = .returned (.int .i64 2) ∧ w = w' := by
  go_enter Try.func12, Try.ntmps12
  go_wp2_with (go_at_call 29; refine (held_bare _ _ _ _ h).mono ?_; rintro e w' ⟨rfl, rfl⟩)
  go_ret
  exact ⟨rfl, rfl⟩

/-- Drop: one less; what comes to 0 waits -/
def less (y : Int) : Int := if y = 1 then -1 else y - 1
def dropTo (cs : List Int) (f n : Int) : List Int := if heldErr cs f n = 0 then upd cs f.toNat n.toNat less else cs
/-- how many of the first k from a on are held once -/
def ones (cs : List Int) (a k : Nat) : Nat := cnt 1 ((cs.drop a).take k)
def goneOf (cs : List Int) (f n : Int) : Int := if heldErr cs f n = 0 then ones cs f.toNat n.toNat else 0
theorem ones_step (cs : List Int) (a k : Nat) (h : a + k < cs.length) : ones cs a (k + 1) = ones cs a k + (if cs.getD (a + k) 0 = 1 then 1 else 0) := by
  unfold ones
  have hl : k < (cs.drop a).length := by simp; omega
  by_cases e : cs.getD (a + k) 0 = 1
  · rw [if_pos e]
    simp only [cnt]
    rw [List.take_succ_eq_append_getElem hl, List.filter_append]
    have : (cs.drop a)[k] = 1 := by rw [← e]; simp [List.getD, h]
    simp [this]
  · rw [if_neg e]
    simp only [cnt]
    rw [List.take_succ_eq_append_getElem hl, List.filter_append]
    have : (cs.drop a)[k] ≠ 1 := by rw [show (cs.drop a)[k] = cs.getD (a + k) 0 by simp [List.getD, h]]; exact e
    simpa using this
theorem ones_le (cs : List Int) (a k : Nat) : ones cs a k ≤ k := Nat.le_trans (cnt_le _ _) (List.length_take_le _ _)

set_option maxHeartbeats 1000000 in
theorem drop_some (w : World) (p c : Nat) (cs : List Int) (f n : Int) (hn : n ≤ 9223372036854775807) (hbig : ∀ x ∈ cs, x ≤ 1048576) (H : Has w p c cs) :
   Calls Try.prog 13 #[.pointer (some ⟨p, 0, none⟩), .int .i64 f, .int .i64 n] w fun e w' => e = .returned (.tuple #[.int .i64 (goneOf cs f n), .int .i64 (heldErr cs f n)]) ∧ Wrote c (dropTo cs f n) w w' := by
  have hk := held_some w p c cs f n hn H
  by_cases h0 : heldErr cs f n = 0
  · obtain ⟨a, b, rfl, rfl, hb, hab, hpos⟩ := heldErr_zero h0
    have hval : heldVal c cs a b = .slice (some ⟨c, a, none⟩) b (cs.length - a) := by unfold heldVal; rw [if_pos h0]; simp
    rw [hval, h0] at hk
    have hl := H.len
    have hto : dropTo cs a b = upd cs a b less := if_pos h0
    have hgo : goneOf cs a b = ones cs a b := if_pos h0
    rw [hto, hgo, h0]
    have HK := hid hk
    have HP := hid hpos
    have HB := hid hbig
    clear hk hval h0 hpos hto hgo hbig
    go_enter Try.func13, Try.ntmps13
    go_wp2_with (go_at_call 29; refine (HK.out).mono ?_; rintro e w' ⟨rfl, rfl⟩)
    go_loopw [10, 24] (fun g i wr => ∃ k : Nat, k ≤ b ∧ i = .int .i64 k ∧ g = .int .i64 (ones cs a k) ∧ Wrote c (upd cs a k less) w wr) (fun _ i _ => b - (intOf i).toNat)
    case atStart => exact ⟨0, Nat.zero_le _, rfl, rfl, by rw [upd_zero]; exact Wrote.none H⟩
    case round =>
      obtain ⟨k, hk, rfl, rfl, hwr⟩ := hrel
      by_cases hkb : k < b
      · have hcell := hwr.cell (a + k) (by simp; omega)
        rw [upd_next _ _ _ _ (by omega)] at hcell
        have hfree := hwr.free (a + k)
        have hmem := seg_mem cs a b k hab hkb
        have hp := HP.out _ hmem
        have hq := HB.out _ (List.mem_of_mem_drop (List.mem_of_mem_take hmem))
        clear hmem
        have hon := ones_step cs a k (by omega)
        have hle := ones_le cs a k
        by_cases h1 : cs.getD (a + k) 0 = 1
        · have hnext := (hwr.set (a + k) 0).set (a + k) (-1)
          have h2 : ((upd cs a k less).set (a + k) 0).set (a + k) (-1) = upd cs a (k + 1) less := by
            rw [List.set_set, ← upd_succ, h1]; rfl
          rw [h2] at hnext
          rw [if_pos h1] at hon
          rw [h1] at hcell
          clear h1 h2 hp hq
          have HW := hid hwr; clear hwr
          have HN := hid hnext; clear hnext
          have HO := hid hon; clear hon
          go_wp2
          go_roundw
          case rel => exact ⟨k + 1, by omega, by go_num, by rw [HO.out]; go_num, HN.out⟩
          case measure => simp [intOf]; omega
        · have hnext := hwr.next (cs.getD (a + k) 0 - 1) (by unfold less; rw [if_neg h1])
          rw [if_neg h1] at hon
          have hne : (cs.getD (a + k) 0 - 1 == 0) = false := beq_eq_false_iff_ne.2 (by omega)
          clear h1
          generalize cs.getD (a + k) 0 = y at *
          have HW := hid hwr; clear hwr
          have HN := hid hnext; clear hnext
          have HO := hid hon; clear hon
          go_wp2
          go_roundw
          case rel => exact ⟨k + 1, by omega, by go_num, by rw [HO.out]; rfl, HN.out⟩
          case measure => simp [intOf]; omega
      · go_wp2
        go_ret2
        obtain rfl : k = b := by omega
        exact ⟨rfl, hwr⟩
  · have hto : dropTo cs f n = cs := if_neg h0
    have hgo : goneOf cs f n = 0 := if_neg h0
    rw [hgo, hto]
    have hne : (heldErr cs f n != 0) = true := by simpa using h0
    clear hgo hto h0
    generalize heldVal c cs f n = v at *
    generalize heldErr cs f n = x at *
    have HK := hid hk; clear hk
    go_enter Try.func13, Try.ntmps13
    go_wp2_with (go_at_call 29; refine (HK.out).mono ?_; rintro e w' ⟨rfl, rfl⟩)
    go_ret2
    exact ⟨rfl, Wrote.none H⟩
theorem drop_nil (w : World) (f n : Int) : Calls Try.prog 13 #[.pointer none, .int .i64 f, .int .i64 n] w fun e w' => e = .returned (.tuple #[.int .i64 0, .int .i64 2]) ∧ w = w' := by
  go_enter Try.func13, Try.ntmps13
  go_wp2_with (go_at_call 29; refine (held_nil _ _ _).mono ?_; rintro e w' ⟨rfl, rfl⟩)
  go_ret2
  exact ⟨rfl, rfl⟩
theorem drop_bare (w : World) (p : Nat) (f n : Int) (h : w.cell? ⟨p, 0, none⟩ = some (.slice none 0 0)) : Calls Try.prog 13 #[.pointer (some ⟨p, 0, none⟩), .int .i64 f, .int .i64 n] w fun e w' => e = .returned (.tuple #[.int .i64 0, .int .i64 2]) ∧ w = w' := by
  go_enter Try.func13, Try.ntmps13
  go_wp2_with (go_at_call 29; refine (held_bare _ _ _ _ h).mono ?_; rintro e w' ⟨rfl, rfl⟩)
  go_ret2
  exact ⟨rfl, rfl⟩
end Go.Proofs.Ytompkoihmjenjaa
