/-
  TopTransfers: small facts for the walk.
-/
import Derived.Test.YtdecljdhdclmoaaLogs
namespace Go.Proofs.Ytdecljdhdclmoaa
open Go.RowKit
variable {w w' : World} {b p c : Nat} {d d1 d2 : DS}

/-- what Commit of two places comes to -/
def TwoPost (w : World) (b p c g n : Nat) (pend : Bool) (d : DS) (x y : UInt8) (e : Ending) (w' : World) : Prop :=
  ∃ o d', commitD d n pend [(0, [x]), (2, [y])] = (o, d') ∧ e = .returned (okV o) ∧ DiskAt w' b p c d' ∧ (o = true → LogAt w' g b (n + 1) true false) ∧ Keep (Dg b p c g) w w'
theorem cmt_ups {g n : Nat} {pend : Bool} (hg : LogAt w g b n pend false) (h : DiskAt w b p c d) (hn : n ≤ 100000) (x y : UInt8) (wa wb : World) (ka : Keep Nil w wa) (u v : Value) (hu : Bts 0 wa u [x]) (hv : Bts 0 wa v [y]) (q : Nat) (hq : wa.heap.size = q)
    (hb : Keep Nil (wa.alloc (.cells #[.int .i64 0, u, .int .i64 2, v] 35)) wb) :
    Calls Try.prog 8 #[.pointer (some ⟨g, 0, none⟩), .slice (some ⟨q, 0, none⟩) 2 2] wb (TwoPost w b p c g n pend d x y) := by
  have KA : Keep Nil w wb := (ka.alloc _).trans hb
  have U := (ups_two wa 0 2 u v _ _ hu hv).keep hb (fun e => e) Mut.nil
  rw [hq] at U
  have hm := cmt_some (hg.keep KA (fun e => e)) (h.nil KA) hn _ [(0, [x]), (2, [y])] U (by
    have := ka.size
    rintro (e | e)
    · exact h.new (by omega) e
    · have := row_lt hg; omega) (ups_ok_two 0 2 [x] [y] (by omega) (by omega) (by simp) (by omega) (by simp))
  refine hm.mono ?_
  rintro e w1 ⟨rfl, h1, h2, h3⟩
  exact ⟨_, _, rfl, rfl, h1, h2, (KA.mono (fun _ _ e => e.elim)).trans h3⟩
/-- Commit of two places whose bytes were made here -/
theorem cmt_two {g n : Nat} {pend : Bool} (hg : LogAt w g b n pend false) (h : DiskAt w b p c d) (hn : n ≤ 100000) (x y : UInt8) :
    Calls Try.prog 8 #[.pointer (some ⟨g, 0, none⟩), .slice (some ⟨w.heap.size + 1 + 1, 0, none⟩) 2 2]
      (((w.alloc (.cells #[.int .u8 (x.toNat : Int)] 5)).alloc (.cells #[.int .u8 (y.toNat : Int)] 5)).alloc (.cells #[.int .i64 0, .slice (some ⟨w.heap.size, 0, none⟩) 1 1, .int .i64 2, .slice (some ⟨w.heap.size + 1, 0, none⟩) 1 1] 35)) (TwoPost w b p c g n pend d x y) := by
  have s1 : (w.alloc (.cells #[.int .u8 (x.toNat : Int)] 5)).heap.size = w.heap.size + 1 := by simp
  have B2 := bts_byte (w.alloc (.cells #[.int .u8 (x.toNat : Int)] 5)) y
  rw [s1] at B2
  exact cmt_ups hg h hn x y _ _ (((Keep.refl w).alloc _).alloc _) _ _ ((bts_byte w x).alloc _) B2 _ (by simp) (Keep.refl _)
theorem cmt_two1 {g n : Nat} {pend : Bool} (hg : LogAt w g b n pend false) (h : DiskAt w b p c d) (hn : n ≤ 100000) (x y : UInt8) :
    Calls Try.prog 8 #[.pointer (some ⟨g, 0, none⟩), .slice (some ⟨w.heap.size + 1 + 1, 0, none⟩) 2 2]
      (((w.alloc (.cells #[.int .u8 (x.toNat : Int)] 5)).alloc (.cells #[.int .u8 (y.toNat : Int)] 5)).alloc (.cells #[.int .i64 0, .slice (some ⟨w.heap.size, 0, none⟩) 1 1, .int .i64 2, .slice (some ⟨w.heap.size + 1, 0, none⟩) 1 1] 35)).drew (TwoPost w b p c g n pend d x y) := by
  have s1 : (w.alloc (.cells #[.int .u8 (x.toNat : Int)] 5)).heap.size = w.heap.size + 1 := by simp
  have B2 := bts_byte (w.alloc (.cells #[.int .u8 (x.toNat : Int)] 5)) y
  rw [s1] at B2
  exact cmt_ups hg h hn x y _ _ (((Keep.refl w).alloc _).alloc _) _ _ ((bts_byte w x).alloc _) B2 _ (by simp) (Keep.refl _).drew
theorem cmt_two2 {g n : Nat} {pend : Bool} (hg : LogAt w g b n pend false) (h : DiskAt w b p c d) (hn : n ≤ 100000) (x y : UInt8) :
    Calls Try.prog 8 #[.pointer (some ⟨g, 0, none⟩), .slice (some ⟨w.heap.size + 1 + 1, 0, none⟩) 2 2]
      (((w.alloc (.cells #[.int .u8 (y.toNat : Int)] 5)).alloc (.cells #[.int .u8 (x.toNat : Int)] 5)).alloc (.cells #[.int .i64 0, .slice (some ⟨w.heap.size + 1, 0, none⟩) 1 1, .int .i64 2, .slice (some ⟨w.heap.size, 0, none⟩) 1 1] 35)).drew (TwoPost w b p c g n pend d x y) := by
  have s1 : (w.alloc (.cells #[.int .u8 (y.toNat : Int)] 5)).heap.size = w.heap.size + 1 := by simp
  have B2 := bts_byte (w.alloc (.cells #[.int .u8 (y.toNat : Int)] 5)) x
  rw [s1] at B2
  exact cmt_ups hg h hn x y _ _ (((Keep.refl w).alloc _).alloc _) _ _ B2 ((bts_byte w y).alloc _) _ (by simp) (Keep.refl _).drew
theorem u8_add (x y : UInt8) : IntKind.u8.wrap ((x.toNat : Int) + (y.toNat : Int)) = ((x + y).toNat : Int) := by
  rw [IntKind.wrap_u8, UInt8.toNat_add]; omega
theorem u8_sub (x y : UInt8) : IntKind.u8.wrap ((x.toNat : Int) - (y.toNat : Int)) = ((x - y).toNat : Int) := by
  have := y.toNat_lt
  rw [IntKind.wrap_u8, UInt8.toNat_sub]; omega
theorem pad48_head (x : UInt8) (r : List UInt8) : (pad48 (x :: r)).headD 0 = x := by simp [pad48]
theorem pair_moved {A B : List UInt8} (h : Pair A B) (m : UInt8) : Pair (pad48 [A.headD 0 - m]) (pad48 [B.headD 0 + m]) := by
  refine ⟨pad48_length _ (by simp), pad48_length _ (by simp), ?_⟩
  rw [pad48_head, pad48_head, ← h.2.2]
  generalize A.headD 0 = x
  generalize B.headD 0 = y
  apply UInt8.toNat.inj
  have h1 := x.toNat_lt
  have h2 := m.toNat_lt
  rw [UInt8.toNat_add, UInt8.toNat_add, UInt8.toNat_add, UInt8.toNat_sub]
  omega
/-- the first byte of what a log read -/
theorem first_byte {v : Value} {X : List UInt8} (h : Bts 0 w v X) (hX : X.length = 48) : ∃ bb off cap, v = .slice (some ⟨bb, off, none⟩) 48 cap ∧ w.cell? ⟨bb, off, none⟩ = some (.int .u8 ((X.headD 0).toNat : Int)) ∧ ∃ cur fr, w.heap[bb]? = some (.cells cur 5 fr) := by
  obtain ⟨ao, cap, rfl, hc⟩ := h
  obtain ⟨bb, off, rfl, ht, hcell⟩ := hc (by omega)
  have x0 := hcell 0 (by omega)
  refine ⟨bb, off, cap, by rw [hX], ?_, ?_⟩
  · rw [Nat.add_zero] at x0
    rw [x0]
    cases X with
    | nil => simp at hX
    | cons a r => rfl
  · rcases ht with ht | ht
    · omega
    · exact ht
theorem not_dg {g n bb : Nat} {x y : Bool} {cur : Array Value} {fr : Nat × Nat} (hg : LogAt w g b n x y) (h : DiskAt w b p c d) (e : w.heap[bb]? = some (.cells cur 5 fr)) : ¬ Dg b p c g bb := by
  rintro (hd | rfl)
  · exact (h.mut bb hd).2 cur fr e
  · rw [show w.heap[bb]? = _ from hg] at e; simp at e
/-- losses that came in -/
structure Losses (w : World) (ao : Option Addr) (len : Nat) : Prop where
  at_ : ∀ i, i < len → ∃ (b off : Nat) (s : UInt8) (u : Value) (ks : List Bool), ao = some ⟨b, off, none⟩ ∧ b < w.heap.size ∧ w.cell? ⟨b, off + i * 2, none⟩ = some (.int .u8 (s.toNat : Int)) ∧ w.cell? ⟨b, off + i * 2 + 1, none⟩ = some u ∧ BoolsAt w.heap.size w u ks
/-- the loop's state -/
def TopRel (W : World) (b p c T : Nat) (lv iv : Value) (wr : World) : Prop :=
  ∃ (k g n : Nat) (pend : Bool) (A B : List UInt8) (d : DS), k ≤ T ∧ iv = .int .i64 k ∧ lv = .pointer (some ⟨g, 0, none⟩) ∧ LogAt wr g b n pend false ∧ DiskAt wr b p c d ∧ Calm d ∧ GoodPC d n pend A B ∧ Pair A B ∧ n ≤ k + 1 ∧ W.heap.size ≤ g ∧ Keep Nil W wr
end Go.Proofs.Ytdecljdhdclmoaa
