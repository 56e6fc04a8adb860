/-
  Log.Commit.
-/
import Derived.Test.YtdecljdhdclmoaaCommitW
namespace Go.Proofs.Ytdecljdhdclmoaa
open Go.RowKit
variable {w w' : World} {b p c : Nat} {d d1 d2 : DS}

def CmtPost (w : World) (b p c g n : Nat) (l : List (Nat × List UInt8)) (r : Bool × DS) (e : Ending) (w' : World) : Prop :=
  e = .returned (okV r.1) ∧ DiskAt w' b p c r.2 ∧ (r.1 = true → LogAt w' g b (n + 1) (decide (0 < l.length)) false) ∧ Keep (Dg b p c g) w w'

set_option maxRecDepth 100000 in
set_option maxHeartbeats 4000000 in
theorem cmt_some {g n q : Nat} {pend : Bool} (hg : LogAt w g b n pend false) (h : DiskAt w b p c d) (hn : n ≤ 100000) (v : Value) (l : List (Nat × List UInt8)) (hu : UpsAt w v q l) (hq : ¬ Dg b p c g q) (hl : UpsOk l) :
    Calls Try.prog 8 #[.pointer (some ⟨g, 0, none⟩), v] w (CmtPost w b p c g n l (commitD d n pend l)) := by
  have HG := hid hg
  have HN := hid (log_dk hg h)
  have HR := hid (right_good hg h v l hu hl)
  have HC := hid (fun (w1 : World) (k : Keep Nil w w1) => commit_some (hg.keep k (fun e => e)) (h.nil k) hn v l (hu.keep k (fun e => e) Mut.nil) hq hl)
  have HP : Hid (∀ w', DiskAt w' b p c (commitD d n pend l).2 → ((commitD d n pend l).1 = true → LogAt w' g b (n + 1) (decide (0 < l.length)) false) → Keep (Dg b p c g) w w' → CmtPost w b p c g n l (commitD d n pend l) (.returned (okV (commitD d n pend l).1)) w') := hid (fun w' h1 h2 h3 => ⟨rfl, h1, h2, h3⟩)
  generalize commitD d n pend l = r at *
  obtain ⟨o, d1⟩ := r
  simp only at *
  clear hg h hu hq hl
  go_enter Try.func8, Try.ntmps8
  go_wp2_with fail
  refine (lok_some HG.out).mono ?_
  rintro e w1 ⟨rfl, rfl⟩
  go_wp2_with fail
  refine HR.out.mono ?_
  rintro e w2 ⟨rfl, k2⟩
  have K2 := hid k2
  have HC2 := hid (HC.out w2 k2)
  clear k2
  go_wp2_with fail
  refine HC2.out.mono ?_
  rintro e w3 ⟨rfl, h3, ⟨n', x, g3, hx⟩, k3⟩
  have D3 := hid h3
  have G3 := hid g3
  have HX := hid hx
  have K3 : Hid (Keep (Dg b p c g) w1 w3) := hid ((K2.out.mono (fun _ _ e => e.elim)).trans k3)
  obtain ⟨c0, c1, c2, c3, c4⟩ := g3.cells
  clear h3 g3 hx k3
  cases o
  · rw [show okV false = .int .i64 8 from rfl] at *
    have KS : Keep (One g) w3 (w3.setCell ⟨g, 3, none⟩ (.bool true)) := keep_set _ _ _
    have D4 := D3.out.keep KS (fun i hi e => HN.out (by have e' : i = g := e; rw [← e']; exact hi))
    have HE := hid (HP.out _ D4 (fun e => by cases e) (K3.out.trans (KS.mono (fun _ _ e => .inr e))))
    clear KS D4
    go_wp2
    go_ret
    exact HE.out
  · rw [show okV true = .int .i64 0 from rfl] at *
    obtain ⟨rfl, rfl⟩ := HX.out rfl
    have KS : Keep (One g) w3 (w3.setCell ⟨g, 3, none⟩ (.bool false)) := keep_set _ _ _
    have D4 := D3.out.keep KS (fun i hi e => HN.out (by have e' : i = g := e; rw [← e']; exact hi))
    have G4 : LogAt (w3.setCell ⟨g, 3, none⟩ (.bool false)) g b (n + 1) (decide (0 < l.length)) false := row_set G3.out 3 _
    have HE := hid (HP.out _ D4 (fun _ => G4) (K3.out.trans (KS.mono (fun _ _ e => .inr e))))
    clear KS D4 G4
    go_wp2
    go_ret
    exact HE.out
end Go.Proofs.Ytdecljdhdclmoaa
