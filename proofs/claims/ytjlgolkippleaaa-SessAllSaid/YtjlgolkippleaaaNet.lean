/-
  The world of two ends and a network in memory: what a call leaves of it.
-/
import Derived.Test.YtjlgolkippleaaaFair2
namespace Go.Proofs.Ytjlgolkippleaaa
open Go.RowKit

theorem RowAt.keepT {w w' : World} {S : Nat → Prop} {e s q n : Nat} {v : Value} {xs : List Value} (h : RowAt w e s q v n xs) (k : Keep S w w') (hq : ∀ cur, w.heap[q]? = some (.cells cur e (0, 0)) → ¬ S q) : RowAt w' e s q v n xs := by
  rcases h with h | ⟨off, cap, cur, h1, h2, h3⟩
  · exact .inl h
  · exact .inr ⟨off, cap, cur, h1, k.row h2 (hq cur h2), h3⟩
/-- what may be written without a datagram being lost -/
def Mut2 (B : Nat) (w : World) (S : Nat → Prop) : Prop := Mut B w S ∧ ∀ k, S k → ∀ cur, w.heap[k]? ≠ some (.cells cur 96 (0, 0))
theorem Mut2.nil {B : Nat} {w : World} : Mut2 B w Nil := ⟨Mut.nil, fun _ h => h.elim⟩
theorem GramsAt.keepT {S : Nat → Prop} {B : Nat} {w w' : World} {g : Nat} {v : Value} {gs : List GS} {us : List Value} (h : GramsAt B w g v gs us) (k : Keep S w w') (hS : Mut2 B w S) : GramsAt B w' g v gs us := by
  refine ⟨h.row.keepT k (fun cur e hs => hS.2 _ hs cur e), h.len, fun i hi => ?_⟩
  obtain ⟨u, h1, h2⟩ := h.each i hi
  exact ⟨u, h1, h2.keep k hS.1⟩
theorem EndAt.mut2 {B p q : Nat} {w : World} {E : ES} (h : EndAt B w p q E) : Mut2 B w (Two p q) := by
  refine ⟨h.mut, ?_⟩
  obtain ⟨v, vs, hb, _⟩ := h.block
  rintro k (rfl | rfl) cur e
  · rw [hb] at e; simp at e
  · rcases h.qt with rfl | ⟨cur', hq⟩
    · rw [hb] at e; simp at e
    · rw [hq] at e; simp at e

/-- the loads that were sent, in a row -/
def SentAt (B : Nat) (w : World) (t : Nat) (u : Value) (ls : List (List UInt8)) (vs : List Value) : Prop :=
  RowAt w 27 1 t u ls.length vs ∧ vs.length = ls.length ∧ ∀ i (h : i < ls.length), ∃ x, vs[i]? = some x ∧ Bts B w x ls[i]
theorem SentAt.keepT {S : Nat → Prop} {B : Nat} {w w' : World} {t : Nat} {u : Value} {ls : List (List UInt8)} {vs : List Value} (h : SentAt B w t u ls vs) (k : Keep S w w') (hS : Mut B w S) (ht : ∀ cur, w.heap[t]? = some (.cells cur 27 (0, 0)) → ¬ S t) : SentAt B w' t u ls vs := by
  obtain ⟨h1, h2, h3⟩ := h
  refine ⟨h1.keepT k ht, h2, fun i hi => ?_⟩
  obtain ⟨x, h4, h5⟩ := h3 i hi
  exact ⟨x, h4, h5.keep k hS⟩

/-- where everything lies -/
structure Lay where
  p : Nat → Nat
  q : Nat → Nat
  t : Nat → Nat
  g : Nat → Nat
  v : Nat → Value
  u : Nat → Value
  us : Nat → List Value
  vs : Nat → List Value
def netCells (L : Lay) (M : WM) : Array Value := #[.pointer (some ⟨L.p 0, 0, none⟩), .pointer (some ⟨L.p 1, 0, none⟩), L.v 0, L.v 1, L.u 0, L.u 1, .int .i64 (M.C 0 : Nat), .int .i64 (M.C 1 : Nat), .bool false]
structure NetAt (B : Nat) (w : World) (W : Nat) (L : Lay) (M : WM) : Prop where
  block : w.heap[W]? = some (.cells (netCells L M) 41 (0, 0))
  BW : B ≤ W
  ends : ∀ i, i < 2 → EndAt B w (L.p i) (L.q i) (M.E i)
  bags : ∀ i, i < 2 → GramsAt B w (L.g i) (L.v i) (M.G i) (L.us i)
  sent : ∀ i, i < 2 → SentAt B w (L.t i) (L.u i) (M.S i) (L.vs i)
  tlt : ∀ i, i < 2 → L.t i < w.heap.size ∧ B ≤ L.t i
  pq : L.p 0 ≠ L.p 1 ∧ L.q 0 ≠ L.q 1 ∧ L.p 0 ≠ L.q 1 ∧ L.p 1 ≠ L.q 0
  tt : L.t 0 = L.t 1 → L.t 0 = W
  tq : ∀ i j, i < 2 → j < 2 → L.t i ≠ L.p j ∧ L.t i ≠ L.q j
  Wp : ∀ i, i < 2 → W ≠ L.p i ∧ W ≠ L.q i

section
variable {B W : Nat} {w w' : World} {L : Lay} {M : WM}
theorem NetAt.lt (h : NetAt B w W L M) : W < w.heap.size := row_lt h.block
theorem NetAt.keep {S : Nat → Prop} (h : NetAt B w W L M) (k : Keep S w w') (hS : Mut2 B w S) (hW : ¬ S W) (hp : ∀ i, i < 2 → ¬ S (L.p i) ∧ ¬ S (L.q i)) (ht : ∀ i, i < 2 → ¬ S (L.t i)) : NetAt B w' W L M :=
  ⟨k.row h.block hW, h.BW, fun i hi => (h.ends i hi).keep k hS.1 (hp i hi).1 (hp i hi).2, fun i hi => (h.bags i hi).keepT k hS, fun i hi => (h.sent i hi).keepT k hS.1 (fun _ _ => ht i hi),
    fun i hi => ⟨Nat.lt_of_lt_of_le (h.tlt i hi).1 k.size, (h.tlt i hi).2⟩, h.pq, h.tt, h.tq, h.Wp⟩
theorem NetAt.nil (h : NetAt B w W L M) (k : Keep Nil w w') : NetAt B w' W L M := h.keep k Mut2.nil (fun e => e) (fun _ _ => ⟨fun e => e, fun e => e⟩) (fun _ _ e => e)
theorem NetAt.mutW (h : NetAt B w W L M) : Mut2 B w (One W) := by
  refine ⟨?_, ?_⟩
  · rintro k rfl
    exact ⟨h.BW, fun cur fr e => by rw [h.block] at e; simp at e⟩
  · rintro k rfl cur e
    rw [h.block] at e; simp at e
theorem NetAt.cells (h : NetAt B w W L M) : w.cell? ⟨W, 0, none⟩ = some (.pointer (some ⟨L.p 0, 0, none⟩)) ∧ w.cell? ⟨W, 1, none⟩ = some (.pointer (some ⟨L.p 1, 0, none⟩)) ∧ w.cell? ⟨W, 2, none⟩ = some (L.v 0) ∧ w.cell? ⟨W, 3, none⟩ = some (L.v 1) ∧
    w.cell? ⟨W, 4, none⟩ = some (L.u 0) ∧ w.cell? ⟨W, 5, none⟩ = some (L.u 1) ∧ w.cell? ⟨W, 6, none⟩ = some (.int .i64 (M.C 0 : Nat)) ∧ w.cell? ⟨W, 7, none⟩ = some (.int .i64 (M.C 1 : Nat)) ∧ w.cell? ⟨W, 8, none⟩ = some (.bool false) := by
  have k := row_cell h.block
  exact ⟨k 0, k 1, k 2, k 3, k 4, k 5, k 6, k 7, k 8⟩
theorem NetAt.free (h : NetAt B w W L M) (i : Nat) : w.frozen? ⟨W, i, none⟩ = false := row_free h.block i
theorem NetAt.drew (h : NetAt B w W L M) : NetAt B w.drew W L M := h.nil (Keep.refl w).drew
theorem NetAt.drewN {n : Nat} (h : NetAt B w W L M) : NetAt B (w.drewN n) W L M := h.nil (keep_drewN n (Keep.refl w))
/-- W's own block is written, nothing else: so stands all but it -/
theorem NetAt.stored (h : NetAt B w W L M) (L' : Lay) (M' : WM) (i : Nat) (x : Value) (hc : (netCells L M).setIfInBounds i x = netCells L' M')
    (h1 : ∀ j, L'.p j = L.p j) (h2 : ∀ j, L'.q j = L.q j) (h3 : ∀ j, M'.E j = M.E j)
    (h4 : ∀ j, j < 2 → GramsAt B w (L'.g j) (L'.v j) (M'.G j) (L'.us j)) (h5 : ∀ j, j < 2 → SentAt B w (L'.t j) (L'.u j) (M'.S j) (L'.vs j))
    (h6 : ∀ j, j < 2 → L'.t j < w.heap.size ∧ B ≤ L'.t j) (h7 : L'.t 0 = L'.t 1 → L'.t 0 = W) (h8 : ∀ i j, i < 2 → j < 2 → L'.t i ≠ L.p j ∧ L'.t i ≠ L.q j) : NetAt B (w.setCell ⟨W, i, none⟩ x) W L' M' := by
  have k : Keep (One W) w (w.setCell ⟨W, i, none⟩ x) := (Keep.refl w).setCell (S := One W) (p := ⟨W, i, none⟩) (fun _ => rfl) x
  have hm := h.mutW
  refine ⟨?_, h.BW, fun j hj => ?_, fun j hj => (h4 j hj).keepT k hm, fun j hj => (h5 j hj).keepT k hm.1 (fun cur e e' => ?_), fun j hj => ⟨Nat.lt_of_lt_of_le (h6 j hj).1 k.size, (h6 j hj).2⟩, ?_, h7, ?_, ?_⟩
  · rw [← hc]; exact row_set h.block i x
  · rw [h1, h2, h3]
    exact (h.ends j hj).keep k hm.1 (fun e => (h.Wp j hj).1 e.symm) (fun e => (h.Wp j hj).2 e.symm)
  · have e2 : L'.t j = W := e'
    rw [e2, h.block] at e; simp at e
  · rw [h1, h1, h2, h2]; exact h.pq
  · intro i j hi hj; rw [h1, h2]; exact h8 i j hi hj
  · intro j hj; rw [h1, h2]; exact h.Wp j hj
theorem netCells_bad (L : Lay) (M : WM) : (netCells L M).setIfInBounds 8 (.bool false) = netCells L M := rfl
theorem NetAt.bad (h : NetAt B w W L M) : NetAt B (w.setCell ⟨W, 8, none⟩ (.bool false)) W L M :=
  h.stored L M 8 _ (netCells_bad L M) (fun _ => rfl) (fun _ => rfl) (fun _ => rfl) h.bags h.sent h.tlt h.tt h.tq
theorem NetAt.cameUp (h : NetAt B w W L M) (s : Nat) (hs : s < 2) (c : Nat) : NetAt B (w.setCell ⟨W, 6 + s, none⟩ (.int .i64 (c : Nat))) W L { M with C := upd M.C s c } := by
  refine h.stored L _ (6 + s) _ ?_ (fun _ => rfl) (fun _ => rfl) (fun _ => rfl) h.bags h.sent h.tlt h.tt h.tq
  rcases (by omega : s = 0 ∨ s = 1) with rfl | rfl <;> rfl
/-- an end has turned -/
theorem NetAt.turned (h : NetAt B w W L M) {s q' : Nat} {E' : ES} (hs : s < 2) (k : Keep (Two (L.p s) (L.q s)) w w') (he : EndAt B w' (L.p s) q' E') (hq : q' = L.q s ∨ w.heap.size ≤ q') :
    NetAt B w' W { L with q := upd L.q s q' } { M with E := upd M.E s E' } := by
  have hm := (h.ends s hs).mut2
  have hW := h.Wp s hs
  have hWl := h.lt
  obtain ⟨a1, a2, a3, a4⟩ := h.pq
  have l0 := (h.ends 0 (by omega)).lt
  have l1 := (h.ends 1 (by omega)).lt
  refine ⟨k.row h.block (fun e => by rcases e with e | e; exact hW.1 e; exact hW.2 e), h.BW, fun i hi => ?_, fun i hi => (h.bags i hi).keepT k hm, fun i hi => (h.sent i hi).keepT k hm.1 (fun _ _ e => by have := h.tq i s hi hs; rcases e with e | e; exact this.1 e; exact this.2 e),
    fun i hi => ⟨Nat.lt_of_lt_of_le (h.tlt i hi).1 k.size, (h.tlt i hi).2⟩, ?_, h.tt, fun i j hi hj => ?_, fun i hi => ?_⟩
  · by_cases his : i = s
    · subst his
      show EndAt B w' (L.p i) (upd L.q i q' i) (upd M.E i E' i)
      rw [upd_self, upd_self]; exact he
    · show EndAt B w' (L.p i) (upd L.q s q' i) (upd M.E s E' i)
      rw [upd_ne _ _ his, upd_ne _ _ his]
      refine (h.ends i hi).keep k hm.1 ?_ ?_
      · rcases (by omega : (s = 0 ∧ i = 1) ∨ (s = 1 ∧ i = 0)) with ⟨rfl, rfl⟩ | ⟨rfl, rfl⟩ <;> (rintro (e | e) <;> omega)
      · rcases (by omega : (s = 0 ∧ i = 1) ∨ (s = 1 ∧ i = 0)) with ⟨rfl, rfl⟩ | ⟨rfl, rfl⟩ <;> (rintro (e | e) <;> omega)
  · rcases (by omega : s = 0 ∨ s = 1) with rfl | rfl
    · show _ ∧ upd L.q 0 q' 0 ≠ upd L.q 0 q' 1 ∧ L.p 0 ≠ upd L.q 0 q' 1 ∧ L.p 1 ≠ upd L.q 0 q' 0
      rw [upd_self, upd_ne _ _ (by omega)]
      refine ⟨a1, ?_, a3, ?_⟩ <;> rcases hq with hq | hq <;> omega
    · show _ ∧ upd L.q 1 q' 0 ≠ upd L.q 1 q' 1 ∧ L.p 0 ≠ upd L.q 1 q' 1 ∧ L.p 1 ≠ upd L.q 1 q' 0
      rw [upd_self, upd_ne _ _ (by omega)]
      refine ⟨a1, ?_, ?_, a4⟩ <;> rcases hq with hq | hq <;> omega
  · have := h.tq i j hi hj
    have ht := (h.tlt i hi).1
    refine ⟨this.1, ?_⟩
    show L.t i ≠ upd L.q s q' j
    by_cases hjs : j = s
    · subst hjs; rw [upd_self]; rcases hq with hq | hq <;> omega
    · rw [upd_ne _ _ hjs]; exact this.2
  · have := h.Wp i hi
    refine ⟨this.1, ?_⟩
    show W ≠ upd L.q s q' i
    by_cases hjs : i = s
    · subst hjs; rw [upd_self]; rcases hq with hq | hq <;> omega
    · rw [upd_ne _ _ hjs]; exact this.2
/-- a bag has turned -/
theorem NetAt.bagged (h : NetAt B w W L M) {s : Nat} {gs : List GS} (hs : s < 2) (hb : BagTo B W (2 + s) gs w w') :
    ∃ L', L'.p = L.p ∧ NetAt B w' W L' { M with G := upd M.G s gs } ∧ Keep (One W) w w' := by
  obtain ⟨g, v, us, hg, hG, k⟩ := hb
  have kS : Keep (One W) w (w.setCell ⟨W, 2 + s, none⟩ v) := (Keep.refl w).setCell (S := One W) (p := ⟨W, 2 + s, none⟩) (fun _ => rfl) v
  have k' : Keep (One W) w w' := kS.trans (k.mono (fun _ _ e => e.elim))
  have hm := h.mutW
  refine ⟨{ L with g := upd L.g s g, v := upd L.v s v, us := upd L.us s us }, rfl, ⟨?_, h.BW, fun i hi => ?_, fun i hi => ?_, fun i hi => ?_, fun i hi => ⟨Nat.lt_of_lt_of_le (h.tlt i hi).1 k'.size, (h.tlt i hi).2⟩, h.pq, h.tt, h.tq, h.Wp⟩, k'⟩
  · refine k.row ?_ (fun e => e)
    have := row_set h.block (2 + s) v
    rw [this]
    rcases (by omega : s = 0 ∨ s = 1) with rfl | rfl <;> rfl
  · exact (h.ends i hi).keep k' hm.1 (fun e => (h.Wp i hi).1 e.symm) (fun e => (h.Wp i hi).2 e.symm)
  · show GramsAt B w' (upd L.g s g i) (upd L.v s v i) (upd M.G s gs i) (upd L.us s us i)
    by_cases his : i = s
    · subst his; simp only [upd_self]; exact hG
    · simp only [upd_ne _ _ his]
      exact (h.bags i hi).keepT k' hm
  · exact (h.sent i hi).keepT k' hm.1 (fun cur e e' => by have e2 : L.t i = W := e'; rw [e2, h.block] at e; simp at e)
end

end Go.Proofs.Ytjlgolkippleaaa
