/-
  The sessions' End: its functions that only read, New, put, Send.
-/
import Derived.Test.YtjlgolkippleaaaClone
import Derived.Deep.RegionHeld3
import Derived.BigQuiet
import Derived.Deep.QuietTactic
namespace Go.Proofs.Ytjlgolkippleaaa
open Go.RowKit

/-- what an End stands for -/
structure ES where
  node : Int
  peer : Int
  epoch : Int
  base : Int
  opened : List (List UInt8)
  came : Int
  owes : Bool

/-- an End's block -/
def endCells (E : ES) (v : Value) : Array Value := #[.int .i64 E.node, .int .i64 E.peer, .int .i64 E.epoch, .int .i64 E.base, v, .int .i64 E.came, .bool E.owes]
structure EndAt (B : Nat) (w : World) (p q : Nat) (E : ES) : Prop where
  pB : B ≤ p
  qB : B ≤ q
  block : ∃ v vs, w.heap[p]? = some (.cells (endCells E v) 76 (0, 0)) ∧ RowAt w 27 1 q v E.opened.length vs ∧ ∀ i (h : i < E.opened.length), ∃ u, vs[i]? = some u ∧ Bts B w u E.opened[i]
  qt : q = p ∨ ∃ cur, w.heap[q]? = some (.cells cur 27 (0, 0))

/-- the two blocks of an End -/
abbrev Two (p q : Nat) : Nat → Prop := fun k => k = p ∨ k = q
section
variable {B p q : Nat} {w w' : World} {E : ES}
theorem EndAt.mut (h : EndAt B w p q E) : Mut B w (Two p q) := by
  obtain ⟨v, vs, hb, _⟩ := h.block
  rintro k (rfl | rfl)
  · exact ⟨h.pB, fun cur fr e => by rw [hb] at e; simp at e⟩
  · refine ⟨h.qB, fun cur fr e => ?_⟩
    rcases h.qt with rfl | ⟨cur', hq⟩
    · rw [hb] at e; simp at e
    · rw [hq] at e; simp at e
theorem EndAt.lt (h : EndAt B w p q E) : p < w.heap.size ∧ q < w.heap.size := by
  obtain ⟨v, vs, hb, _⟩ := h.block
  have hp := row_lt hb
  refine ⟨hp, ?_⟩
  rcases h.qt with rfl | ⟨cur', hq⟩
  · exact hp
  · exact row_lt hq
theorem EndAt.keep {S : Nat → Prop} (h : EndAt B w p q E) (k : Keep S w w') (hS : Mut B w S) (hp : ¬ S p) (hq : ¬ S q) : EndAt B w' p q E := by
  obtain ⟨v, vs, hb, hr, hx⟩ := h.block
  refine ⟨h.pB, h.qB, ⟨v, vs, k.row hb hp, hr.keep k hq, fun i hi => ?_⟩, h.qt.imp id (fun ⟨cur, e⟩ => ⟨cur, k.row e hq⟩)⟩
  obtain ⟨u, hu, hbt⟩ := hx i hi
  exact ⟨u, hu, hbt.keep k hS⟩
theorem EndAt.alloc (h : EndAt B w p q E) (o : Obj) : EndAt B (w.alloc o) p q E := h.keep ((Keep.refl w).alloc o) Mut.nil (fun e => e) (fun e => e)
theorem EndAt.drewN {n : Nat} (h : EndAt B w p q E) : EndAt B (w.drewN n) p q E := ⟨h.pB, h.qB, h.block, h.qt⟩
theorem EndAt.cells (h : EndAt B w p q E) : w.cell? ⟨p, 0, none⟩ = some (.int .i64 E.node) ∧ w.cell? ⟨p, 1, none⟩ = some (.int .i64 E.peer) ∧ w.cell? ⟨p, 2, none⟩ = some (.int .i64 E.epoch) ∧
    w.cell? ⟨p, 3, none⟩ = some (.int .i64 E.base) ∧ (∃ ao cap, w.cell? ⟨p, 4, none⟩ = some (.slice ao E.opened.length cap)) ∧ w.cell? ⟨p, 5, none⟩ = some (.int .i64 E.came) ∧ w.cell? ⟨p, 6, none⟩ = some (.bool E.owes) := by
  obtain ⟨v, vs, hb, hr, _⟩ := h.block
  obtain ⟨ao, cap, rfl⟩ := hr.shape
  have k := row_cell hb
  exact ⟨by rw [k]; rfl, by rw [k]; rfl, by rw [k]; rfl, by rw [k]; rfl, ⟨ao, cap, by rw [k]; rfl⟩, by rw [k]; rfl, by rw [k]; rfl⟩
end

/-! ### ok, and the readers -/
theorem ok_nil (w : World) : Calls Try.prog 36 #[.pointer none] w fun e w' => e = .returned (.bool false) ∧ w = w' := by
  go_enter Try.func36, Try.ntmps36
  go_wp2
  go_ret
  exact ⟨rfl, rfl⟩
theorem ok_cell (w : World) (p : Nat) (x : Int) (h : w.cell? ⟨p, 2, none⟩ = some (.int .i64 x)) : Calls Try.prog 36 #[.pointer (some ⟨p, 0, none⟩)] w fun e w' => e = .returned (.bool (decide (0 < x))) ∧ w = w' := by
  by_cases hx : 0 < x
  · have hd := decide_eq_true hx
    rw [hd]
    go_enter Try.func36, Try.ntmps36
    go_wp2
    go_ret
    exact ⟨rfl, rfl⟩
  · have hd := decide_eq_false hx
    rw [hd]
    go_enter Try.func36, Try.ntmps36
    go_wp2
    go_ret
    exact ⟨rfl, rfl⟩
theorem ok_end {B p q : Nat} {w : World} {E : ES} (h : EndAt B w p q E) (he : 0 < E.epoch) : Calls Try.prog 36 #[.pointer (some ⟨p, 0, none⟩)] w fun e w' => e = .returned (.bool true) ∧ w = w' := by
  have := ok_cell w p _ h.cells.2.2.1
  rwa [decide_eq_true he] at this
/-- no End: nil, or one of epoch 0 -/
def NoEnd (w : World) (a : Option Addr) : Prop := a = none ∨ ∃ p, a = some ⟨p, 0, none⟩ ∧ w.cell? ⟨p, 2, none⟩ = some (.int .i64 0)
theorem ok_none {w : World} {a : Option Addr} (h : NoEnd w a) : Calls Try.prog 36 #[.pointer a] w fun e w' => e = .returned (.bool false) ∧ w = w' := by
  rcases h with rfl | ⟨p, rfl, h⟩
  · exact ok_nil w
  · exact ok_cell w p 0 h

theorem open_end {B p q : Nat} {w : World} {E : ES} (h : EndAt B w p q E) (he : 0 < E.epoch) : Calls Try.prog 14 #[.pointer (some ⟨p, 0, none⟩)] w fun e w' => e = .returned (.int .i64 E.opened.length) ∧ w = w' := by
  have hk := hid (ok_end h he)
  obtain ⟨c0, c1, c2, c3, ⟨ao, cap, c4⟩, c5, c6⟩ := h.cells
  clear h
  go_enter Try.func14, Try.ntmps14
  go_wp2_with (go_at_call 36; refine hk.out.mono ?_; rintro e w' ⟨rfl, rfl⟩)
  go_ret
  exact ⟨rfl, rfl⟩
theorem open_none {w : World} {a : Option Addr} (h : NoEnd w a) : Calls Try.prog 14 #[.pointer a] w fun e w' => e = .returned (.int .i64 0) ∧ w = w' := by
  have hk := hid (ok_none h)
  clear h
  go_enter Try.func14, Try.ntmps14
  go_wp2_with (go_at_call 36; refine hk.out.mono ?_; rintro e w' ⟨rfl, rfl⟩)
  go_ret
  exact ⟨rfl, rfl⟩
theorem owes_end {B p q : Nat} {w : World} {E : ES} (h : EndAt B w p q E) (he : 0 < E.epoch) : Calls Try.prog 15 #[.pointer (some ⟨p, 0, none⟩)] w fun e w' => e = .returned (.bool E.owes) ∧ w = w' := by
  have hk := hid (ok_end h he)
  obtain ⟨c0, c1, c2, c3, ⟨ao, cap, c4⟩, c5, c6⟩ := h.cells
  clear h
  go_enter Try.func15, Try.ntmps15
  go_wp2_with (go_at_call 36; refine hk.out.mono ?_; rintro e w' ⟨rfl, rfl⟩)
  go_ret
  exact ⟨rfl, rfl⟩
theorem owes_none {w : World} {a : Option Addr} (h : NoEnd w a) : Calls Try.prog 15 #[.pointer a] w fun e w' => e = .returned (.bool false) ∧ w = w' := by
  have hk := hid (ok_none h)
  clear h
  go_enter Try.func15, Try.ntmps15
  go_wp2_with (go_at_call 36; refine hk.out.mono ?_; rintro e w' ⟨rfl, rfl⟩)
  go_ret
  exact ⟨rfl, rfl⟩
theorem came_end {B p q : Nat} {w : World} {E : ES} (h : EndAt B w p q E) (he : 0 < E.epoch) : Calls Try.prog 16 #[.pointer (some ⟨p, 0, none⟩)] w fun e w' => e = .returned (.int .i64 E.came) ∧ w = w' := by
  have hk := hid (ok_end h he)
  obtain ⟨c0, c1, c2, c3, ⟨ao, cap, c4⟩, c5, c6⟩ := h.cells
  clear h
  go_enter Try.func16, Try.ntmps16
  go_wp2_with (go_at_call 36; refine hk.out.mono ?_; rintro e w' ⟨rfl, rfl⟩)
  go_ret
  exact ⟨rfl, rfl⟩
theorem came_none {w : World} {a : Option Addr} (h : NoEnd w a) : Calls Try.prog 16 #[.pointer a] w fun e w' => e = .returned (.int .i64 0) ∧ w = w' := by
  have hk := hid (ok_none h)
  clear h
  go_enter Try.func16, Try.ntmps16
  go_wp2_with (go_at_call 36; refine hk.out.mono ?_; rintro e w' ⟨rfl, rfl⟩)
  go_ret
  exact ⟨rfl, rfl⟩
theorem epoch_end {B p q : Nat} {w : World} {E : ES} (h : EndAt B w p q E) (he : 0 < E.epoch) : Calls Try.prog 17 #[.pointer (some ⟨p, 0, none⟩)] w fun e w' => e = .returned (.int .i64 E.epoch) ∧ w = w' := by
  have hk := hid (ok_end h he)
  obtain ⟨c0, c1, c2, c3, ⟨ao, cap, c4⟩, c5, c6⟩ := h.cells
  clear h
  go_enter Try.func17, Try.ntmps17
  go_wp2_with (go_at_call 36; refine hk.out.mono ?_; rintro e w' ⟨rfl, rfl⟩)
  go_ret
  exact ⟨rfl, rfl⟩
theorem epoch_none {w : World} {a : Option Addr} (h : NoEnd w a) : Calls Try.prog 17 #[.pointer a] w fun e w' => e = .returned (.int .i64 0) ∧ w = w' := by
  have hk := hid (ok_none h)
  clear h
  go_enter Try.func17, Try.ntmps17
  go_wp2_with (go_at_call 36; refine hk.out.mono ?_; rintro e w' ⟨rfl, rfl⟩)
  go_ret
  exact ⟨rfl, rfl⟩

/-! ### New -/
theorem isNode_any (w : World) (n : Int) : Calls Try.prog 37 #[.int .i64 n] w fun e w' => e = .returned (.bool (decide (0 ≤ n ∧ n < 16))) ∧ w = w' := by
  by_cases h1 : 0 ≤ n
  · by_cases h2 : n < 16
    · rw [decide_eq_true ⟨h1, h2⟩]
      have d1 := decide_eq_true h1
      have d2 := decide_eq_true h2
      go_enter Try.func37, Try.ntmps37
      go_wp2
      go_ret
      exact ⟨rfl, rfl⟩
    · rw [decide_eq_false (fun e => h2 e.2)]
      have d1 := decide_eq_true h1
      have d2 := decide_eq_false h2
      go_enter Try.func37, Try.ntmps37
      go_wp2
      go_ret
      exact ⟨rfl, rfl⟩
  · rw [decide_eq_false (fun e => h1 e.1)]
    have d1 := decide_eq_false h1
    go_enter Try.func37, Try.ntmps37
    go_wp2
    go_ret
    exact ⟨rfl, rfl⟩

/-- what New takes -/
def NewOk (a b c : Int) : Prop := (0 ≤ a ∧ a < 16) ∧ (0 ≤ b ∧ b < 16) ∧ a ≠ b ∧ 1 ≤ c ∧ c ≤ 2147483648
theorem new_bad (w : World) (a b c : Int) (h : ¬ NewOk a b c) : Calls Try.prog 18 #[.int .i64 a, .int .i64 b, .int .i64 c] w fun e w' => e = .returned (.tuple #[.pointer none, .int .i64 1]) ∧ w = w' := by
  have i1 := hid (isNode_any w a)
  have i2 := hid (isNode_any w b)
  by_cases h1 : 0 ≤ a ∧ a < 16
  · by_cases h2 : 0 ≤ b ∧ b < 16
    · rw [decide_eq_true h1] at i1
      rw [decide_eq_true h2] at i2
      by_cases h3 : a = b
      · subst h3
        clear h h1 h2
        go_enter Try.func18, Try.ntmps18
        go_wp2_with (first | (go_at_call 37; refine i1.out.mono ?_; rintro e w' ⟨rfl, rfl⟩))
        go_ret2
        exact ⟨rfl, rfl⟩
      · have h3' : (a == b) = false := beq_eq_false_iff_ne.2 h3
        by_cases h4 : c < 1
        · clear h h1 h2
          go_enter Try.func18, Try.ntmps18
          go_wp2_with fail
          refine i1.out.mono ?_
          rintro e w' ⟨rfl, rfl⟩
          go_wp2_with fail
          refine i2.out.mono ?_
          rintro e w' ⟨rfl, rfl⟩
          go_wp2
          go_ret2
          exact ⟨rfl, rfl⟩
        · have h5 : 2147483648 < c := by unfold NewOk at h; omega
          clear h h1 h2
          go_enter Try.func18, Try.ntmps18
          go_wp2_with fail
          refine i1.out.mono ?_
          rintro e w' ⟨rfl, rfl⟩
          go_wp2_with fail
          refine i2.out.mono ?_
          rintro e w' ⟨rfl, rfl⟩
          go_wp2
          go_ret2
          exact ⟨rfl, rfl⟩
    · rw [decide_eq_true h1] at i1
      rw [decide_eq_false h2] at i2
      clear h h1 h2
      go_enter Try.func18, Try.ntmps18
      go_wp2_with fail
      refine i1.out.mono ?_
      rintro e w' ⟨rfl, rfl⟩
      go_wp2_with fail
      refine i2.out.mono ?_
      rintro e w' ⟨rfl, rfl⟩
      go_wp2
      go_ret2
      exact ⟨rfl, rfl⟩
  · rw [decide_eq_false h1] at i1
    clear h h1
    go_enter Try.func18, Try.ntmps18
    go_wp2_with (first | (go_at_call 37; refine i1.out.mono ?_; rintro e w' ⟨rfl, rfl⟩))
    go_ret2
    exact ⟨rfl, rfl⟩

/-- a new End -/
def newE (a b c : Int) : ES := ⟨a, b, c, 0, [], 0, false⟩
theorem new_good (w : World) (B : Nat) (hB : B ≤ w.heap.size) (a b c : Int) (h : NewOk a b c) :
    Calls Try.prog 18 #[.int .i64 a, .int .i64 b, .int .i64 c] w fun e w' => e = .returned (.tuple #[.pointer (some ⟨w.heap.size, 0, none⟩), .int .i64 0]) ∧ EndAt B w' w.heap.size w.heap.size (newE a b c) ∧ Keep Nil w w' := by
  have i1 := hid (isNode_any w a)
  have i2 := hid (isNode_any w b)
  obtain ⟨h1, h2, h3, h4, h5⟩ := h
  rw [decide_eq_true h1] at i1
  rw [decide_eq_true h2] at i2
  have h3' : (a == b) = false := beq_eq_false_iff_ne.2 h3
  clear h1 h2
  go_enter Try.func18, Try.ntmps18
  go_wp2_with fail
  refine i1.out.mono ?_
  rintro e w' ⟨rfl, rfl⟩
  go_wp2_with fail
  refine i2.out.mono ?_
  rintro e w' ⟨rfl, rfl⟩
  go_wp2
  go_ret2
  refine ⟨rfl, ⟨hB, hB, ⟨_, _, heap_new _ _, RowAt.nil _ _ _ _, fun i hi => absurd hi (Nat.not_lt_zero _)⟩, .inl rfl⟩, (Keep.refl _).alloc _⟩

end Go.Proofs.Ytjlgolkippleaaa
