/-
  The plain law: whenever the power goes off in a commit, what is found behind is the old pair or the new one. No Go text in sight.
-/
import Derived.Test.YtdecljdhdclmoaaSettle
import Derived.Test.YtdecljdhdclmoaaCommitK
import Derived.Test.YtdecljdhdclmoaaStart
namespace Go.Proofs.Ytdecljdhdclmoaa
open Go.RowKit

/-- commit behind settle: the entries, the head, the places -/
def commitT (d : DS) (n : Nat) (l : List (Nat × List UInt8)) : Bool × DS :=
  if (putsD d 3 (secsL l)).1 then
    (if (headD (putsD d 3 (secsL l)).2 (n + 1) l.length).1 then (true, (layD (headD (putsD d 3 (secsL l)).2 (n + 1) l.length).2 (fullL l)).2)
    else (false, (headD (putsD d 3 (secsL l)).2 (n + 1) l.length).2))
  else (false, (putsD d 3 (secsL l)).2)
/-- commit -/
def commitD (d : DS) (n : Nat) (pend : Bool) (l : List (Nat × List UInt8)) : Bool × DS :=
  if (settleD d n pend).1 then commitT (settleD d n pend).2 n l else (false, (settleD d n pend).2)

/-! ### one step, a write, a flush -/
/-- the disk is on and not armed -/
def Calm (d : DS) : Prop := d.off = false ∧ d.armed = false
theorem stepD_pc (d : DS) : (stepD d).2.plate = d.plate ∧ (stepD d).2.cache = d.cache := by
  unfold stepD
  split
  · exact ⟨rfl, rfl⟩
  · split
    · split <;> exact ⟨rfl, rfl⟩
    · exact ⟨rfl, rfl⟩
theorem stepD_calm {d : DS} (h : Calm d) : stepD d = (true, d) := by
  unfold stepD
  rw [h.1, h.2]; rfl
def upd (c : Nat → Option (List UInt8)) (i : Nat) (xs : List UInt8) : Nat → Option (List UInt8) := fun j => if j = i then some xs else c j
theorem write_case (d : DS) (i : Nat) (xs : List UInt8) : (writeD d i xs).2.plate = d.plate ∧ (((writeD d i xs).1 = true ∧ (writeD d i xs).2.cache = upd d.cache i (padL xs)) ∨ ((writeD d i xs).1 = false ∧ (writeD d i xs).2.cache = d.cache)) := by
  obtain ⟨h1, h2⟩ := stepD_pc d
  unfold writeD
  split
  · refine ⟨h1, .inl ⟨rfl, ?_⟩⟩
    funext j
    simp only [upd, h2]
  · exact ⟨h1, .inr ⟨rfl, h2⟩⟩
theorem write_calm {d : DS} (h : Calm d) (i : Nat) (xs : List UInt8) : (writeD d i xs).1 = true ∧ Calm (writeD d i xs).2 := by
  unfold writeD
  rw [stepD_calm h]
  exact ⟨rfl, h⟩
theorem flush_case (d : DS) : ((flushD d).1 = true ∧ (flushD d).2.cache = (fun _ => none) ∧ (flushD d).2.plate = fun i => (d.cache i).getD (d.plate i)) ∨ ((flushD d).1 = false ∧ (flushD d).2.cache = d.cache ∧ (flushD d).2.plate = d.plate) := by
  obtain ⟨h1, h2⟩ := stepD_pc d
  unfold flushD
  split
  · exact .inl ⟨rfl, rfl, by simp only [h1, h2]⟩
  · exact .inr ⟨rfl, h2, h1⟩
theorem flush_calm {d : DS} (h : Calm d) : (flushD d).1 = true ∧ Calm (flushD d).2 := by
  unfold flushD
  rw [stepD_calm h]
  exact ⟨rfl, h⟩

/-! ### some writes and a flush -/
def over (c : Nat → Option (List UInt8)) : Nat → List (List UInt8) → Nat → Option (List UInt8)
  | _, [] => c
  | k, xs :: r => over (upd c k (padL xs)) (k + 1) r
theorem puts_case : ∀ (xss : List (List UInt8)) (d : DS) (k : Nat),
    ((putsD d k xss).1 = true ∧ (putsD d k xss).2.cache = (fun _ => none) ∧ (putsD d k xss).2.plate = fun i => (over d.cache k xss i).getD (d.plate i)) ∨
    ((putsD d k xss).1 = false ∧ (putsD d k xss).2.plate = d.plate ∧ ∃ m, m ≤ xss.length ∧ (putsD d k xss).2.cache = over d.cache k (xss.take m))
  | [], d, k => by
    rcases flush_case d with ⟨h1, h2, h3⟩ | ⟨h1, h2, h3⟩
    · exact .inl ⟨h1, h2, h3⟩
    · exact .inr ⟨h1, h3, 0, Nat.le_refl _, h2⟩
  | xs :: r, d, k => by
    obtain ⟨h1, h2⟩ := write_case d k xs
    rcases h2 with ⟨h2, h3⟩ | ⟨h2, h3⟩
    · have e : putsD d k (xs :: r) = putsD (writeD d k xs).2 (k + 1) r := by rw [putsD, if_pos h2]
      rw [e]
      have := puts_case r (writeD d k xs).2 (k + 1)
      rw [h1, h3] at this
      rcases this with ⟨g1, g2, g3⟩ | ⟨g1, g2, m, g3, g4⟩
      · exact .inl ⟨g1, g2, g3⟩
      · exact .inr ⟨g1, g2, m + 1, by simpa using g3, g4⟩
    · have e : putsD d k (xs :: r) = (false, (writeD d k xs).2) := by rw [putsD, if_neg (by rw [h2]; simp)]
      rw [e]
      exact .inr ⟨rfl, h1, 0, Nat.zero_le _, h3⟩
theorem puts_calm : ∀ (xss : List (List UInt8)) (d : DS) (k : Nat), Calm d → (putsD d k xss).1 = true ∧ Calm (putsD d k xss).2
  | [], d, k, h => flush_calm h
  | xs :: r, d, k, h => by
    obtain ⟨h1, h2⟩ := write_calm h k xs
    rw [putsD, if_pos h1]
    exact puts_calm r _ _ h2
theorem head_case (d : DS) (n m : Nat) :
    ((headD d n m).1 = true ∧ (headD d n m).2.cache = (fun _ => none) ∧ (headD d n m).2.plate = fun i => if i = 0 then padL (headL n m) else (d.cache i).getD (d.plate i)) ∨
    ((headD d n m).1 = false ∧ (headD d n m).2.plate = d.plate ∧ ((headD d n m).2.cache = d.cache ∨ (headD d n m).2.cache = upd d.cache 0 (padL (headL n m)))) := by
  rcases puts_case [headL n m] d 0 with ⟨h1, h2, h3⟩ | ⟨h1, h2, k, h3, h4⟩
  · refine .inl ⟨h1, h2, h3.trans ?_⟩
    funext i
    simp only [over, upd]
    split <;> rfl
  · refine .inr ⟨h1, h2, ?_⟩
    rcases (by simp at h3; omega : k = 0 ∨ k = 1) with rfl | rfl
    · exact .inl h4
    · exact .inr h4
theorem head_calm {d : DS} (h : Calm d) (n m : Nat) : (headD d n m).1 = true ∧ Calm (headD d n m).2 := puts_calm _ _ _ h
def overL (c : Nat → Option (List UInt8)) : List (Nat × List UInt8) → Nat → Option (List UInt8)
  | [] => c
  | a :: l => overL (upd c (9 + a.1) (padL a.2)) l
theorem lay_case : ∀ (l : List (Nat × List UInt8)) (d : DS), (layD d l).2.plate = d.plate ∧ ((layD d l).1 = true ∧ (layD d l).2.cache = overL d.cache l ∨ ∃ m, m ≤ l.length ∧ (layD d l).2.cache = overL d.cache (l.take m))
  | [], d => ⟨rfl, .inl ⟨rfl, rfl⟩⟩
  | a :: l, d => by
    obtain ⟨h1, h2⟩ := write_case d (9 + a.1) a.2
    rcases h2 with ⟨h2, h3⟩ | ⟨h2, h3⟩
    · have e : layD d (a :: l) = layD (writeD d (9 + a.1) a.2).2 l := by rw [layD, if_pos h2]
      rw [e]
      obtain ⟨g1, g2⟩ := lay_case l (writeD d (9 + a.1) a.2).2
      rw [h3] at g2
      refine ⟨g1.trans h1, ?_⟩
      rcases g2 with ⟨g2, g3⟩ | ⟨m, g2, g3⟩
      · exact .inl ⟨g2, g3⟩
      · exact .inr ⟨m + 1, by simpa using g2, g3⟩
    · have e : layD d (a :: l) = (false, (writeD d (9 + a.1) a.2).2) := by rw [layD, if_neg (by rw [h2]; simp)]
      rw [e]
      exact ⟨h1, .inr ⟨0, Nat.zero_le _, h3⟩⟩
theorem lay_calm : ∀ (l : List (Nat × List UInt8)) (d : DS), Calm d → (layD d l).1 = true ∧ (layD d l).2.cache = overL d.cache l ∧ Calm (layD d l).2
  | [], d, h => ⟨rfl, rfl, h⟩
  | a :: l, d, h => by
    obtain ⟨h1, h2⟩ := write_calm h (9 + a.1) a.2
    have e : layD d (a :: l) = layD (writeD d (9 + a.1) a.2).2 l := by rw [layD, if_pos h1]
    rw [e]
    obtain ⟨g1, g2, g3⟩ := lay_calm l _ h2
    refine ⟨g1, g2.trans ?_, g3⟩
    obtain ⟨-, ⟨-, h3⟩ | ⟨h3, -⟩⟩ := write_case d (9 + a.1) a.2
    · rw [h3]; rfl
    · rw [h1] at h3; cases h3

/-! ### the pair -/
/-- what a plate tells: the pair A, B, of the change n -/
def SafeF (f : Nat → List UInt8) (n : Nat) (A B : List UInt8) : Prop :=
  (f 0 = padL (headL n 0) ∧ f 9 = padL A ∧ f 11 = padL B) ∨ (f 0 = padL (headL n 2) ∧ f 3 = padL (entryL 0 A) ∧ f 4 = padL (entryL 2 B))
/-- the same sum -/
def Pair (A B : List UInt8) : Prop := A.length = 48 ∧ B.length = 48 ∧ A.headD 0 + B.headD 0 = 255
def Safe (f : Nat → List UInt8) (N : Nat) : Prop := ∃ n A B, n ≤ N ∧ Pair A B ∧ SafeF f n A B
/-- a disk whose log stands at the change n with the pair A, B -/
def GoodPC (d : DS) (n : Nat) (pend : Bool) (A B : List UInt8) : Prop :=
  (pend = false ∧ d.plate 0 = padL (headL n 0) ∧ (∀ i, d.cache i = none) ∧ d.plate 9 = padL A ∧ d.plate 11 = padL B) ∨
  (pend = true ∧ d.plate 0 = padL (headL n 2) ∧ d.plate 3 = padL (entryL 0 A) ∧ d.plate 4 = padL (entryL 2 B) ∧ (∀ i, i ≠ 9 → i ≠ 11 → d.cache i = none) ∧ viewD d 9 = padL A ∧ viewD d 11 = padL B)
theorem some_none {d : DS} {f : Nat → List UInt8} (h : Some12 d f) (i : Nat) (hc : d.cache i = none) : f i = d.plate i := by
  rcases h i with h | h
  · exact h
  · rw [hc] at h; cases h
theorem some_upd {d : DS} {f : Nat → List UInt8} {c : Nat → Option (List UInt8)} {i : Nat} {xs : List UInt8} (h : Some12 d f) (hc : d.cache = upd c i xs) (j : Nat) (hj : j ≠ i) (hn : c j = none) : f j = d.plate j :=
  some_none h j (by rw [hc, upd, if_neg hj, hn])
theorem some_upd_self {d : DS} {f : Nat → List UInt8} {c : Nat → Option (List UInt8)} {i : Nat} {xs : List UInt8} (h : Some12 d f) (hc : d.cache = upd c i xs) : f i = d.plate i ∨ f i = xs := by
  rcases h i with h | h
  · exact .inl h
  · rw [hc, upd, if_pos rfl] at h
    cases h
    exact .inr rfl

/-- settle: each state on the way holds the pair; at the end the head tells so -/
theorem settle_case (d : DS) (n : Nat) (pend : Bool) (A B : List UInt8) (h : GoodPC d n pend A B) :
    (∀ f, Some12 (settleD d n pend).2 f → SafeF f n A B) ∧ ((settleD d n pend).1 = true → GoodPC (settleD d n pend).2 n false A B) := by
  rcases h with ⟨rfl, h0, hc, h9, h11⟩ | ⟨rfl, h0, h3, h4, hc, h9, h11⟩
  · rw [show settleD d n false = (true, d) from rfl]
    exact ⟨fun f hf => .inl ⟨(some_none hf 0 (hc 0)).trans h0, (some_none hf 9 (hc 9)).trans h9, (some_none hf 11 (hc 11)).trans h11⟩, fun _ => .inl ⟨rfl, h0, hc, h9, h11⟩⟩
  · rw [show settleD d n true = if (flushD d).1 then headD (flushD d).2 n 0 else (false, (flushD d).2) from rfl]
    rcases flush_case d with ⟨e1, e2, e3⟩ | ⟨e1, e2, e3⟩
    · rw [if_pos e1]
      generalize (flushD d).2 = d1 at *
      have p0 : d1.plate 0 = padL (headL n 2) := by rw [e3]; simp only [hc 0 (by omega) (by omega)]; exact h0
      have p3 : d1.plate 3 = padL (entryL 0 A) := by rw [e3]; simp only [hc 3 (by omega) (by omega)]; exact h3
      have p4 : d1.plate 4 = padL (entryL 2 B) := by rw [e3]; simp only [hc 4 (by omega) (by omega)]; exact h4
      have p9 : d1.plate 9 = padL A := by rw [e3]; exact h9
      have p11 : d1.plate 11 = padL B := by rw [e3]; exact h11
      have cn : ∀ i, d1.cache i = none := fun i => by rw [e2]
      rcases head_case d1 n 0 with ⟨g1, g2, g3⟩ | ⟨g1, g2, g3⟩
      · generalize headD d1 n 0 = r at *
        obtain ⟨o, d2⟩ := r
        simp only at g1 g2 g3 ⊢
        have q0 : d2.plate 0 = padL (headL n 0) := by rw [g3]; simp
        have q9 : d2.plate 9 = padL A := by rw [g3]; simp [cn]; exact p9
        have q11 : d2.plate 11 = padL B := by rw [g3]; simp [cn]; exact p11
        have cn2 : ∀ i, d2.cache i = none := fun i => by rw [g2]
        exact ⟨fun f hf => .inl ⟨(some_none hf 0 (cn2 0)).trans q0, (some_none hf 9 (cn2 9)).trans q9, (some_none hf 11 (cn2 11)).trans q11⟩, fun _ => .inl ⟨rfl, q0, cn2, q9, q11⟩⟩
      · generalize headD d1 n 0 = r at *
        obtain ⟨o, d2⟩ := r
        simp only at g1 g2 g3 ⊢
        subst g1
        refine ⟨fun f hf => ?_, fun e => by cases e⟩
        rcases g3 with g3 | g3
        · have cn2 : ∀ i, d2.cache i = none := fun i => by rw [g3]; exact cn i
          rw [← g2] at p0 p3 p4
          exact .inr ⟨(some_none hf 0 (cn2 0)).trans p0, (some_none hf 3 (cn2 3)).trans p3, (some_none hf 4 (cn2 4)).trans p4⟩
        · rw [← g2] at p0 p3 p4 p9 p11
          rcases some_upd_self hf g3 with hh | hh
          · exact .inr ⟨hh.trans p0, (some_upd hf g3 3 (by omega) (cn 3)).trans p3, (some_upd hf g3 4 (by omega) (cn 4)).trans p4⟩
          · exact .inl ⟨hh, (some_upd hf g3 9 (by omega) (cn 9)).trans p9, (some_upd hf g3 11 (by omega) (cn 11)).trans p11⟩
    · rw [if_neg (by rw [e1]; simp)]
      refine ⟨fun f hf => .inr ⟨?_, ?_, ?_⟩, fun e => by cases e⟩
      · exact (some_none hf 0 (by rw [e2]; exact hc 0 (by omega) (by omega))).trans (by rw [e3]; exact h0)
      · exact (some_none hf 3 (by rw [e2]; exact hc 3 (by omega) (by omega))).trans (by rw [e3]; exact h3)
      · exact (some_none hf 4 (by rw [e2]; exact hc 4 (by omega) (by omega))).trans (by rw [e3]; exact h4)
theorem settle_calm {d : DS} (h : Calm d) (n : Nat) (pend : Bool) : (settleD d n pend).1 = true ∧ Calm (settleD d n pend).2 := by
  unfold settleD
  cases pend
  · exact ⟨rfl, h⟩
  · obtain ⟨h1, h2⟩ := flush_calm h
    rw [if_pos rfl, if_pos h1]
    exact head_calm h2 n 0
theorem secs_two (X Y : List UInt8) : secsL [(0, X), (2, Y)] = [entryL 0 (pad48 X), entryL 2 (pad48 Y)] := rfl
theorem full_two (X Y : List UInt8) : fullL [(0, X), (2, Y)] = [(0, pad48 X), (2, pad48 Y)] := rfl

/-- the rest of commit -/
theorem commitT_case (d : DS) (n : Nat) (A B X Y : List UInt8) (h : GoodPC d n false A B) :
    (∀ f, Some12 (commitT d n [(0, X), (2, Y)]).2 f → SafeF f n A B ∨ SafeF f (n + 1) (pad48 X) (pad48 Y)) ∧
    ((commitT d n [(0, X), (2, Y)]).1 = true → Calm d → GoodPC (commitT d n [(0, X), (2, Y)]).2 (n + 1) true (pad48 X) (pad48 Y)) := by
  have hg : d.plate 0 = padL (headL n 0) ∧ (∀ i, d.cache i = none) ∧ d.plate 9 = padL A ∧ d.plate 11 = padL B := by
    rcases h with ⟨-, h⟩ | ⟨hh, -⟩
    · exact h
    · cases hh
  obtain ⟨h0, hc, h9, h11⟩ := hg
  unfold commitT
  rw [secs_two, full_two]
  have hcalm : Calm d → Calm (putsD d 3 [entryL 0 (pad48 X), entryL 2 (pad48 Y)]).2 := fun e => (puts_calm _ _ _ e).2
  have hp := puts_case [entryL 0 (pad48 X), entryL 2 (pad48 Y)] d 3
  generalize putsD d 3 [entryL 0 (pad48 X), entryL 2 (pad48 Y)] = r at *
  obtain ⟨o1, d1⟩ := r
  simp only at hp hcalm ⊢
  rcases hp with ⟨rfl, e2, e3⟩ | ⟨rfl, e2, m, e3, e4⟩
  · rw [if_pos rfl]
    have cn : ∀ i, d1.cache i = none := fun i => by rw [e2]
    have p0 : d1.plate 0 = padL (headL n 0) := by rw [e3]; simp [over, upd, hc]; exact h0
    have p3 : d1.plate 3 = padL (entryL 0 (pad48 X)) := by rw [e3]; simp [over, upd]
    have p4 : d1.plate 4 = padL (entryL 2 (pad48 Y)) := by rw [e3]; simp [over, upd]
    have p9 : d1.plate 9 = padL A := by rw [e3]; simp [over, upd, hc]; exact h9
    have p11 : d1.plate 11 = padL B := by rw [e3]; simp [over, upd, hc]; exact h11
    rw [show [(0, X), (2, Y)].length = 2 from rfl]
    have hcalm2 : Calm d1 → Calm (headD d1 (n + 1) 2).2 := fun e => (head_calm e _ _).2
    have hh := head_case d1 (n + 1) 2
    generalize headD d1 (n + 1) 2 = r at *
    obtain ⟨o2, d2⟩ := r
    simp only at hh hcalm2 ⊢
    rcases hh with ⟨rfl, g2, g3⟩ | ⟨rfl, g2, g3⟩
    · rw [if_pos rfl]
      have q0 : d2.plate 0 = padL (headL (n + 1) 2) := by rw [g3]; simp
      have q3 : d2.plate 3 = padL (entryL 0 (pad48 X)) := by rw [g3]; simp [cn]; exact p3
      have q4 : d2.plate 4 = padL (entryL 2 (pad48 Y)) := by rw [g3]; simp [cn]; exact p4
      have cn2 : ∀ i, d2.cache i = none := fun i => by rw [g2]
      obtain ⟨k1, k2⟩ := lay_case [(0, pad48 X), (2, pad48 Y)] d2
      have k3 : Calm d2 → _ := fun e => lay_calm [(0, pad48 X), (2, pad48 Y)] d2 e
      generalize layD d2 [(0, pad48 X), (2, pad48 Y)] = r at *
      obtain ⟨o3, d3⟩ := r
      simp only at k1 k2 k3 ⊢
      have hcc : ∀ i, i ≠ 9 → i ≠ 11 → d3.cache i = none := fun i a b => by
        rcases k2 with ⟨-, k2⟩ | ⟨m, k0, k2⟩
        · rw [k2]; simp [overL, upd, a, b, cn2]
        · rcases (by simp at k0; omega : m = 0 ∨ m = 1 ∨ m = 2) with rfl | rfl | rfl <;> rw [k2] <;> simp [overL, upd, a, b, cn2]
      rw [← k1] at q0 q3 q4
      refine ⟨fun f hf => .inr (.inr ⟨(some_none hf 0 (hcc 0 (by omega) (by omega))).trans q0, (some_none hf 3 (hcc 3 (by omega) (by omega))).trans q3, (some_none hf 4 (hcc 4 (by omega) (by omega))).trans q4⟩), fun _ hca => ?_⟩
      obtain ⟨-, k5, -⟩ := k3 (hcalm2 (hcalm hca))
      exact .inr ⟨rfl, q0, q3, q4, hcc, by unfold viewD; rw [k5]; simp [overL, upd], by unfold viewD; rw [k5]; simp [overL, upd]⟩
    · rw [if_neg (by simp)]
      refine ⟨fun f hf => ?_, fun e => by cases e⟩
      simp only at hf
      rcases g3 with g3 | g3
      · have cn2 : ∀ i, d2.cache i = none := fun i => by rw [g3]; exact cn i
        rw [← g2] at p0 p9 p11
        exact .inl (.inl ⟨(some_none hf 0 (cn2 0)).trans p0, (some_none hf 9 (cn2 9)).trans p9, (some_none hf 11 (cn2 11)).trans p11⟩)
      · rw [← g2] at p0 p3 p4 p9 p11
        rcases some_upd_self hf g3 with hh | hh
        · exact .inl (.inl ⟨hh.trans p0, (some_upd hf g3 9 (by omega) (cn 9)).trans p9, (some_upd hf g3 11 (by omega) (cn 11)).trans p11⟩)
        · exact .inr (.inr ⟨hh, (some_upd hf g3 3 (by omega) (cn 3)).trans p3, (some_upd hf g3 4 (by omega) (cn 4)).trans p4⟩)
  · rw [if_neg (by simp)]
    refine ⟨fun f hf => .inl (.inl ?_), fun e => by cases e⟩
    simp only at hf
    have cn : ∀ i, i ≠ 3 → i ≠ 4 → d1.cache i = none := fun i a b => by
      rcases (by simp at e3; omega : m = 0 ∨ m = 1 ∨ m = 2) with rfl | rfl | rfl <;> rw [e4] <;> simp [over, upd, a, b, hc]
    rw [← e2] at h0 h9 h11
    exact ⟨(some_none hf 0 (cn 0 (by omega) (by omega))).trans h0, (some_none hf 9 (cn 9 (by omega) (by omega))).trans h9, (some_none hf 11 (cn 11 (by omega) (by omega))).trans h11⟩
theorem commitT_calm {d : DS} (h : Calm d) (n : Nat) (l : List (Nat × List UInt8)) : (commitT d n l).1 = true ∧ Calm (commitT d n l).2 := by
  obtain ⟨h1, h2⟩ := puts_calm (secsL l) d 3 h
  obtain ⟨h3, h4⟩ := head_calm h2 (n + 1) l.length
  unfold commitT
  rw [if_pos h1, if_pos h3]
  exact ⟨rfl, (lay_calm _ _ h4).2.2⟩
/-- a commit on a disk that is on and not armed -/
theorem commit_calm {d : DS} (h : Calm d) (n : Nat) (pend : Bool) (l : List (Nat × List UInt8)) : (commitD d n pend l).1 = true ∧ Calm (commitD d n pend l).2 := by
  obtain ⟨h1, h2⟩ := settle_calm h n pend
  unfold commitD
  rw [if_pos h1]
  exact commitT_calm h2 n l
theorem commit_good {d : DS} (h : Calm d) (n : Nat) (pend : Bool) (A B X Y : List UInt8) (hg : GoodPC d n pend A B) : GoodPC (commitD d n pend [(0, X), (2, Y)]).2 (n + 1) true (pad48 X) (pad48 Y) := by
  obtain ⟨h1, h2⟩ := settle_calm h n pend
  unfold commitD
  rw [if_pos h1]
  exact (commitT_case _ n A B X Y ((settle_case d n pend A B hg).2 h1)).2 (commitT_calm h2 n _).1 h2
/-- a commit wherever the power goes off -/
theorem commit_safe (d : DS) (n : Nat) (pend : Bool) (A B X Y : List UInt8) (hg : GoodPC d n pend A B) (hp : Pair A B) (hq : Pair (pad48 X) (pad48 Y)) (f : Nat → List UInt8) (hf : Some12 (commitD d n pend [(0, X), (2, Y)]).2 f) : Safe f (n + 1) := by
  obtain ⟨h1, h2⟩ := settle_case d n pend A B hg
  unfold commitD at hf
  split at hf
  · rename_i e
    rcases (commitT_case _ n A B X Y (h2 e)).1 f hf with h | h
    · exact ⟨n, A, B, by omega, hp, h⟩
    · exact ⟨n + 1, _, _, Nat.le_refl _, hq, h⟩
  · exact ⟨n, A, B, by omega, hp, h1 f hf⟩
/-- what Open makes of it -/
theorem open_safe (d : DS) (hc : Calm d) (hn : ∀ i, d.cache i = none) (N : Nat) (h : Safe d.plate N) :
    ∃ n l d1 d2 A B, n ≤ N ∧ l.length ≤ 6 ∧ viewD d 0 = padL (headL n l.length) ∧ JournalD d l ∧ (∀ a ∈ l, a.1 < 3) ∧ layD d l = (true, d1) ∧ flushD d1 = (true, d2) ∧ Calm d2 ∧ Pair A B ∧ GoodPC d2 n (decide (0 < l.length)) A B := by
  have hv : ∀ i, viewD d i = d.plate i := fun i => by unfold viewD; rw [hn]; rfl
  obtain ⟨n, A, B, h1, hp, hs⟩ := h
  rcases hs with ⟨h0, h9, h11⟩ | ⟨h0, h3, h4⟩
  · obtain ⟨f1, f2⟩ := flush_calm hc
    obtain ⟨-, f3, f4⟩ | ⟨f3, -⟩ := flush_case d
    · refine ⟨n, [], d, (flushD d).2, A, B, h1, by simp, (hv 0).trans h0, fun j hj => absurd hj (by simp), by simp, rfl, ?_, f2, hp, .inl ⟨rfl, ?_, fun i => by rw [f3], ?_, ?_⟩⟩
      · rw [← f1]
      · rw [f4]; simp only [hn]; exact h0
      · rw [f4]; simp only [hn]; exact h9
      · rw [f4]; simp only [hn]; exact h11
    · rw [f1] at f3; cases f3
  · obtain ⟨l1, l2, l3⟩ := lay_calm [(0, A), (2, B)] d hc
    have l4 := (lay_case [(0, A), (2, B)] d).1
    have hl : layD d [(0, A), (2, B)] = (true, (layD d [(0, A), (2, B)]).2) := by rw [← l1]
    generalize (layD d [(0, A), (2, B)]).2 = d1 at *
    obtain ⟨f1, f2⟩ := flush_calm l3
    obtain ⟨-, f3, f4⟩ | ⟨f3, -⟩ := flush_case d1
    · have hvw : ∀ i, viewD (flushD d1).2 i = (overL d.cache [(0, A), (2, B)] i).getD (d.plate i) := fun i => by
        unfold viewD; rw [f3, f4, l2, l4]; rfl
      have hpl : ∀ i, i ≠ 9 → i ≠ 11 → (flushD d1).2.plate i = d.plate i := fun i a b => by
        rw [f4, l2, l4]; simp [overL, upd, a, b, hn]
      refine ⟨n, [(0, A), (2, B)], d1, (flushD d1).2, A, B, h1, by simp, (hv 0).trans h0, fun j hj => ?_, by simp, hl, by rw [← f1], f2, hp, .inr ⟨rfl, ?_, ?_, ?_, fun i _ _ => by rw [f3], ?_, ?_⟩⟩
      · rcases (by simp at hj; omega : j = 0 ∨ j = 1) with rfl | rfl
        · exact ⟨(hv 3).trans h3, hp.1, by simp⟩
        · exact ⟨(hv 4).trans h4, hp.2.1, by simp⟩
      · exact (hpl 0 (by omega) (by omega)).trans h0
      · exact (hpl 3 (by omega) (by omega)).trans h3
      · exact (hpl 4 (by omega) (by omega)).trans h4
      · rw [hvw]; simp [overL, upd]
      · rw [hvw]; simp [overL, upd]
    · rw [f1] at f3; cases f3
/-- what a log reads -/
theorem good_view {d : DS} {n : Nat} {pend : Bool} {A B : List UInt8} (h : GoodPC d n pend A B) : viewD d 9 = padL A ∧ viewD d 11 = padL B := by
  rcases h with ⟨-, -, hc, h9, h11⟩ | ⟨-, -, -, -, -, h9, h11⟩
  · exact ⟨by unfold viewD; rw [hc]; exact h9, by unfold viewD; rw [hc]; exact h11⟩
  · exact ⟨h9, h11⟩
theorem padL_take (A : List UInt8) (h : A.length = 48) : (padL A).take 48 = A := by
  unfold padL
  rw [← h, List.take_left]
/-- GoodPC does not look at the fuse -/
theorem GoodPC.of {d d' : DS} {n : Nat} {pend : Bool} {A B : List UInt8} (h : GoodPC d n pend A B) (h1 : d'.plate = d.plate) (h2 : d'.cache = d.cache) : GoodPC d' n pend A B := by
  unfold GoodPC viewD at *
  rw [h1, h2]; exact h
end Go.Proofs.Ytdecljdhdclmoaa
