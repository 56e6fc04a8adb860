/-
  Small facts on memory for the proofs over this seat: what a call keeps ('Keep'), and a row of cells by its block. No Go text in sight.
-/
import Derived.Deep.AppendSrc
import Derived.Deep.Upon
import Derived.Lib.SmallJoins
import Derived.WalkKit
import Derived.WalkSpells
import Derived.Handy
namespace Go.Proofs.Ytdecljdhdclmoaa
open Go.RowKit

theorem hid {p : Prop} (h : p) : Hid p := h

/-- The blocks of w that are not in S are in w' as they were. -/
structure Keep (S : Nat → Prop) (w w' : World) : Prop where
  os : w'.os = w.os
  tape : w'.tape = w.tape
  output : w'.output = w.output
  size : w.heap.size ≤ w'.heap.size
  block : ∀ k, k < w.heap.size → ¬ S k → w'.heap[k]? = w.heap[k]?

namespace Keep
variable {S : Nat → Prop} {a b c w w' : World}
theorem refl (w : World) : Keep S w w := ⟨rfl, rfl, rfl, Nat.le_refl _, fun _ _ _ => rfl⟩
theorem trans (h : Keep S a b) (k : Keep S b c) : Keep S a c :=
  ⟨k.os.trans h.os, k.tape.trans h.tape, k.output.trans h.output, Nat.le_trans h.size k.size,
    fun i hi hs => (k.block i (Nat.lt_of_lt_of_le hi h.size) hs).trans (h.block i hi hs)⟩
theorem mono {T : Nat → Prop} (h : Keep S w w') (hs : ∀ k, k < w.heap.size → S k → T k) : Keep T w w' :=
  ⟨h.os, h.tape, h.output, h.size, fun k hk ht => h.block k hk fun s => ht (hs k hk s)⟩
theorem drew (h : Keep S a w) : Keep S a w.drew := ⟨h.os, h.tape, h.output, h.size, h.block⟩
theorem alloc (h : Keep S a w) (o : Obj) : Keep S a (w.alloc o) :=
  h.trans ⟨rfl, rfl, rfl, by simp, fun k hk _ => Below.heap_alloc _ _ _ hk⟩
theorem setCell (h : Keep S a w) {p : Addr} (hp : p.block < a.heap.size → S p.block) (u : Value) : Keep S a (w.setCell p u) := by
  refine ⟨h.os, h.tape, h.output, by simpa using h.size, fun k hk hs => ?_⟩
  rw [Below.heap_setCell _ _ _ _ (fun (e : k = p.block) => hs (by rw [e] at hk ⊢; exact hp hk))]
  exact h.block k hk hs
theorem below {B : Nat} (h : Keep S w w') (hS : ∀ k, S k → B ≤ k) (hB : B ≤ w.heap.size) : Below B w w' :=
  ⟨h.os, h.tape, h.output, h.size, fun k hk => h.block k (by omega) (fun s => by have := hS k s; omega)⟩
theorem of_below {B : Nat} (h : Below B w w') : Keep (fun k => B ≤ k) w w' :=
  ⟨h.os, h.tape, h.output, h.size, fun k _ hs => h.block k (by omega)⟩
/-- A block that a call keeps. -/
theorem row {v : Obj} {k : Nat} (h : Keep S w w') (hk : w.heap[k]? = some v) (hs : ¬ S k) : w'.heap[k]? = some v := by
  have : k < w.heap.size := by
    rcases Nat.lt_or_ge k w.heap.size with h' | h'
    · exact h'
    · simp [Array.getElem?_eq_none h'] at hk
  rw [h.block k this hs]; exact hk
/-- what is written behind is either written already or not there yet -/
theorem andThen {T : Nat → Prop} (h : Keep S a b) (k : Keep T b c) (hs : ∀ k, k < a.heap.size → T k → S k) : Keep S a c :=
  ⟨k.os.trans h.os, k.tape.trans h.tape, k.output.trans h.output, Nat.le_trans h.size k.size,
    fun i hi hn => (k.block i (Nat.lt_of_lt_of_le hi h.size) (fun t => hn (hs i hi t))).trans (h.block i hi hn)⟩
end Keep

/-- One block alone. -/
abbrev One (c : Nat) : Nat → Prop := fun k => k = c
/-- No block. -/
abbrev Nil : Nat → Prop := fun _ => False

section
variable {w : World} {b : Nat} {vs : Array Value} {t : TypeId}
theorem row_lt {o : Obj} (h : w.heap[b]? = some o) : b < w.heap.size := by
  rcases Nat.lt_or_ge b w.heap.size with h' | h'
  · exact h'
  · simp [Array.getElem?_eq_none h'] at h
theorem row_cell (h : w.heap[b]? = some (.cells vs t (0, 0))) (i : Nat) : w.cell? ⟨b, i, none⟩ = vs[i]? := by
  simp [World.cell?, h]
theorem row_free (h : w.heap[b]? = some (.cells vs t (0, 0))) (i : Nat) : w.frozen? ⟨b, i, none⟩ = false := by
  simp [World.frozen?, h]
theorem row_set (h : w.heap[b]? = some (.cells vs t (0, 0))) (i : Nat) (v : Value) :
    (w.setCell ⟨b, i, none⟩ v).heap[b]? = some (.cells (vs.setIfInBounds i v) t (0, 0)) := by
  simp only [World.setCell, Array.getElem?_modify, if_true, h]
  rfl
theorem row_other {o : Obj} (h : w.heap[b]? = some o) {a : Addr} (ha : b ≠ a.block) (v : Value) : (w.setCell a v).heap[b]? = some o := by
  rw [Below.heap_setCell _ _ _ _ ha]; exact h
theorem row_alloc {o : Obj} (h : w.heap[b]? = some o) (x : Obj) : (w.alloc x).heap[b]? = some o := by
  rw [Below.heap_alloc _ _ _ (row_lt h)]; exact h
theorem row_drew {o : Obj} (h : w.heap[b]? = some o) : w.drew.heap[b]? = some o := h
end

theorem heap_new (w : World) (o : Obj) : (w.alloc o).heap[w.heap.size]? = some o := by
  show (w.heap.push o)[w.heap.size]? = _
  simp
theorem heap_new' (w : World) (o : Obj) (k : Nat) (h : k = w.heap.size) : (w.alloc o).heap[k]? = some o := by
  subst h; exact heap_new w o


theorem tape_setCells (b : Nat) : ∀ (news : List Value) (o : Nat) (w : World), (w.setCells b o news).tape = w.tape
  | [], _, _ => rfl
  | u :: r, o, w => by rw [World.setCells, tape_setCells b r]; rfl
theorem size_setCells (b : Nat) : ∀ (news : List Value) (o : Nat) (w : World), (w.setCells b o news).heap.size = w.heap.size
  | [], _, _ => rfl
  | u :: r, o, w => by rw [World.setCells, size_setCells b r]; simp

/-! ### rows of elements, wherever they lie -/
theorem block_setCells (b : Nat) (t : TypeId) : ∀ (news : List Value) (o : Nat) (w : World) (cur : Array Value), w.heap[b]? = some (.cells cur t (0, 0)) →
    ∃ cur' : Array Value, (w.setCells b o news).heap[b]? = some (.cells cur' t (0, 0)) ∧ cur'.size = cur.size ∧ (∀ j, j < o → cur'[j]? = cur[j]?) ∧
      (∀ j, j < news.length → o + j < cur.size → cur'[o + j]? = news[j]?)
  | [], o, w, cur, h => ⟨cur, h, rfl, fun _ _ => rfl, fun j hj => absurd hj (Nat.not_lt_zero _)⟩
  | u :: r, o, w, cur, h => by
    have h1 := row_set h o u
    obtain ⟨cur', k1, k2, k3, k4⟩ := block_setCells b t r (o + 1) _ _ h1
    refine ⟨cur', k1, by simpa using k2, fun j hj => ?_, fun j hj hs => ?_⟩
    · rw [k3 j (by omega), Array.getElem?_setIfInBounds_ne (by omega)]
    · cases j with
      | zero => rw [k3 (o + 0) (by omega), Nat.add_zero, Array.getElem?_setIfInBounds_self_of_lt (by omega)]; rfl
      | succ j =>
        have := k4 j (by simpa using hj) (by rw [Array.size_setIfInBounds]; omega)
        rw [show o + (j + 1) = o + 1 + j by omega, this]
        simp

/-- v: n elements of s cells each, of type e: they lie in block q (an empty one without room: wherever). -/
def RowAt (w : World) (e s q : Nat) (v : Value) (n : Nat) (xs : List Value) : Prop :=
  (n = 0 ∧ xs = [] ∧ ∃ ao, v = .slice ao 0 0) ∨
  ∃ off cap cur, v = .slice (some ⟨q, off, none⟩) n cap ∧ w.heap[q]? = some (.cells cur e (0, 0)) ∧ xs.length = n * s ∧ n ≤ cap ∧ cap ≤ maxLen ∧ off + cap * s ≤ cur.size ∧ ∀ j, j < n * s → cur[off + j]? = xs[j]?
/-- the block that a value owns, and which may be written -/
def Typ (w : World) (q e : Nat) : Nat → Prop := fun k => k = q ∧ ∃ cur, w.heap[k]? = some (.cells cur e (0, 0))
theorem RowAt.length {w : World} {e s q n : Nat} {v : Value} {xs : List Value} (h : RowAt w e s q v n xs) : xs.length = n * s := by
  rcases h with ⟨rfl, rfl, _⟩ | ⟨_, _, _, _, _, h, _⟩
  · simp
  · exact h
theorem RowAt.shape {w : World} {e s q n : Nat} {v : Value} {xs : List Value} (h : RowAt w e s q v n xs) : ∃ ao cap, v = .slice ao n cap := by
  rcases h with ⟨rfl, rfl, ao, rfl⟩ | ⟨off, cap, cur, rfl, _⟩
  · exact ⟨_, _, rfl⟩
  · exact ⟨_, _, rfl⟩
theorem RowAt.nil (w : World) (e s q : Nat) : RowAt w e s q (.slice none 0 0) 0 [] := .inl ⟨rfl, rfl, none, rfl⟩
theorem RowAt.keep {w w' : World} {S : Nat → Prop} {e s q n : Nat} {v : Value} {xs : List Value} (h : RowAt w e s q v n xs) (k : Keep S w w') (hq : ¬ S q) : RowAt w' e s q v n xs := by
  rcases h with h | ⟨off, cap, cur, h1, h2, h3⟩
  · exact .inl h
  · exact .inr ⟨off, cap, cur, h1, k.row h2 hq, h3⟩
theorem RowAt.cell {w : World} {e s q n : Nat} {xs : List Value} {ao : Option Addr} {m cap : Nat} (h : RowAt w e s q (.slice ao m cap) n xs) (j : Nat) (hj : j < n * s) :
    ∃ off, ao = some ⟨q, off, none⟩ ∧ w.cell? ⟨q, off + j, none⟩ = xs[j]? := by
  rcases h with ⟨rfl, rfl, _⟩ | ⟨off, cap, cur, h1, h2, h3, h4, h5, h6, h7⟩
  · simp at hj
  · cases h1
    exact ⟨off, rfl, by rw [row_cell h2, h7 j hj]⟩
theorem RowAt.src {P : Program} {w : World} {e s q n : Nat} {v : Value} {xs : List Value} (h : RowAt w e s q v n xs) {tx e' : TypeId} (ht : P.underlying tx = some (.slice e')) (h1 : ∀ u ∈ xs, u.oneCell' = true) : Src P s tx v n xs w := by
  rcases h with ⟨rfl, rfl, ao, rfl⟩ | ⟨off, cap, cur, rfl, hb, hl, hle, hm, hfit, hc⟩
  · cases ao with
    | none => exact Src.ofNil w ht 0
    | some a => exact Src.ofSlice w ht a 0 0 [] (by simp) (fun j u hu => by simp at hu) (by simp)
  · refine Src.ofSlice w ht _ n cap xs hl (fun j u hu => ?_) h1
    rw [Addr.add_lit, row_cell hb, hc j (by have := (List.getElem?_eq_some_iff.1 hu).1; omega)]
    exact hu

theorem run_append_row {P : Program} (w : World) (t tx ty e : TypeId) (i : TypeInfo) (z : Value) (s bytes : Nat) (ht : P.underlying t = some (.slice e)) (hi : P.info? e = some i) (hz : i.zero = some z)
    (hs : i.size = s) (hby : i.bytes = bytes) (hzs : z.cells.size = s) (q : Nat) (v : Value) (n : Nat) (xs : List Value) (h : RowAt w e s q v n xs)
    (x : Value) (m : Nat) (news : List Value) (hx : Src P s tx x m news w) (b1 : n + m ≤ maxLen) (b2 : (n + m) * bytes ≤ 140737488355328) :
    ∃ q' ao cap w', (Builtin.append_ #[t, tx] ty #[v, x]).run P w = .ok (.slice ao (n + m) cap) w' ∧ RowAt w' e s q' (.slice ao (n + m) cap) (n + m) (xs ++ news) ∧
      Keep (Typ w q e) w w' ∧ (q' = q ∨ (w.heap.size ≤ q' ∧ ∃ cur, w'.heap[q']? = some (.cells cur e (0, 0)))) := by
  subst hs
  subst hby
  have hnl := hx.newsLen
  have grow : ∀ (bs : Option Addr) (sc : Nat), v = .slice bs n sc → sc < n + m → xs.length = n * i.size →
      (Builtin.firstCells i.size n (.slice bs n sc)).run P w.drew = .ok xs.toArray w.drew →
      ∃ q' ao cap w', (Builtin.append_ #[t, tx] ty #[v, x]).run P w = .ok (.slice ao (n + m) cap) w' ∧ RowAt w' e i.size q' (.slice ao (n + m) cap) (n + m) (xs ++ news) ∧
      Keep (Typ w q e) w w' ∧ (q' = q ∨ (w.heap.size ≤ q' ∧ ∃ cur, w'.heap[q']? = some (.cells cur e (0, 0)))) := by
    rintro bs sc rfl hg hxl hold
    have hrun := run_append_grow_src (P := P) w t tx ty e i z ht hi hz bs n sc xs hold x m news hx hg (by simp only [maxLen] at b1; omega) (growslice_fits hg b2)
    have hge := grownCap_ge w (n + m) sc e
    have hcm := grownCap_le_maxLen w (n + m) sc e b1
    have hL : (xs ++ news).length = (n + m) * i.size := by rw [List.length_append, hxl, hnl, Nat.add_mul]
    have hblk := heap_new w.drew (.cells ((xs ++ news).toArray ++ Builtin.zeroCells z.cells (grownCap w (n + m) sc e - (n + m))) e (0, 0))
    refine ⟨w.heap.size, _, _, _, hrun, .inr ⟨0, _, _, rfl, hblk, hL, hge, hcm, ?_, fun j hj => ?_⟩, ((Keep.refl w).drew.alloc _), .inr ⟨Nat.le_refl _, _, hblk⟩⟩
    · rw [Array.size_append, List.size_toArray, hL, size_zeroCells, hzs, ← Nat.add_mul, Nat.zero_add]
      exact Nat.mul_le_mul_right _ (by omega)
    · rw [Nat.zero_add, Array.getElem?_append_left (by simp only [List.size_toArray]; omega), List.getElem?_toArray]
  rcases h with ⟨rfl, rfl, ao, rfl⟩ | ⟨off, cap, cur, rfl, hb, hl, hle, hm, hfit, hc⟩
  · by_cases hm : m = 0
    · subst hm
      obtain rfl : news = [] := List.eq_nil_of_length_eq_zero (by simpa using hnl)
      exact ⟨q, ao, 0, w, run_append_nothing (P := P) w t tx ty e i ht hi ao 0 0 (Nat.le_refl _) x hx, .inl ⟨rfl, rfl, ao, rfl⟩, Keep.refl _, .inl rfl⟩
    · refine grow ao 0 rfl (by omega) (by simp) ?_
      cases ao with
      | none => exact run_firstCells_none w.drew i.size 0 0 0
      | some a' => exact run_firstCells_some w.drew i.size 0 a' 0 0 [] (by simp) (by intro _ _ h'; simp at h')
  · by_cases hr : n + m ≤ cap
    · have hcap : (n + m) * i.size ≤ cap * i.size := Nat.mul_le_mul_right _ hr
      rw [Nat.add_mul] at hcap
      have hrun := run_append_room_src (P := P) w t tx ty e i ht hi q off n cap x m news hx hr
        (fun j hj => by rw [row_cell hb]; simp; omega) (fun j hj => row_free hb _)
      obtain ⟨cur', k1, k2, k3, k4⟩ := block_setCells q e news (off + n * i.size) w cur hb
      refine ⟨q, _, _, _, hrun, .inr ⟨off, cap, cur', rfl, k1, ?_, hr, hm, by omega, fun j hj => ?_⟩, ⟨World.os_setCells _ _ _ _, ?_, World.output_setCells _ _ _ _, ?_, fun k hk hn => World.heap_setCells_other w q _ news hk (fun e' => hn ⟨e', cur, by rw [e']; exact hb⟩)⟩, .inl rfl⟩
      · rw [List.length_append, hl, hnl, Nat.add_mul]
      · rw [Nat.add_mul] at hj
        by_cases hjn : j < n * i.size
        · rw [k3 _ (by omega), hc j hjn, List.getElem?_append_left (by omega)]
        · have := k4 (j - n * i.size) (by omega) (by omega)
          rw [show off + n * i.size + (j - n * i.size) = off + j by omega] at this
          rw [this, List.getElem?_append_right (by omega), hl]
      · exact tape_setCells _ _ _ _
      · exact Nat.le_of_eq (size_setCells _ _ _ _).symm
    · refine grow (some ⟨q, off, none⟩) cap rfl (by omega) hl ?_
      refine run_firstCells_some w.drew i.size n ⟨q, off, none⟩ n cap xs hl (fun j u hu => ?_)
      rw [Addr.add_lit]
      show w.cell? _ = _
      rw [row_cell hb, hc j (by have := (List.getElem?_eq_some_iff.1 hu).1; omega)]
      exact hu

end Go.Proofs.Ytdecljdhdclmoaa
