/-
  Log.mend and Open at a disk that is on, whose head and journal are what they should be.
-/
import Derived.Test.YtdecljdhdclmoaaLay
namespace Go.Proofs.Ytdecljdhdclmoaa
open Go.RowKit
variable {w w' : World} {b p c : Nat} {d d1 d2 : DS}

/-- a log on the disk at b -/
def LogAt (w : World) (g b n : Nat) (pend lost : Bool) : Prop := w.heap[g]? = some (.cells #[.pointer (some ⟨b, 0, none⟩), .int .i64 (n : Nat), .bool pend, .bool lost] 54 (0, 0))
theorem LogAt.keep {S : Nat → Prop} {g n : Nat} {x y : Bool} (h : LogAt w g b n x y) (k : Keep S w w') (hs : ¬ S g) : LogAt w' g b n x y := k.row h hs
theorem LogAt.cells {g n : Nat} {x y : Bool} (h : LogAt w g b n x y) : w.cell? ⟨g, 0, none⟩ = some (.pointer (some ⟨b, 0, none⟩)) ∧ w.cell? ⟨g, 1, none⟩ = some (.int .i64 (n : Nat)) ∧ w.cell? ⟨g, 2, none⟩ = some (.bool x) ∧ w.cell? ⟨g, 3, none⟩ = some (.bool y) ∧ (∀ i, w.frozen? ⟨g, i, none⟩ = false) := by
  have k := row_cell h
  exact ⟨k 0, k 1, k 2, k 3, row_free h⟩
theorem log_dk {g n : Nat} {x y : Bool} (h : LogAt w g b n x y) (hd : DiskAt w b p c d) : ¬ Dk b p c g := by
  obtain ⟨cur, h2, -⟩ := hd.plate
  obtain ⟨es, cl, h3, -⟩ := hd.cache
  rintro (rfl | rfl | rfl)
  · have := hd.head.symm.trans h; simp at this
  · have := h2.symm.trans h; simp at this
  · have := h3.symm.trans h; simp at this
/-- the disk's blocks and one more -/
def Dg (b p c g : Nat) : Nat → Prop := fun k => Dk b p c k ∨ k = g

set_option maxRecDepth 100000 in
set_option maxHeartbeats 2000000 in
theorem mend_good (h : DiskAt w b p c d) (ho : d.off = false) (g n0 : Nat) (x0 y0 : Bool) (hg : LogAt w g b n0 x0 y0) (n : Nat) (l : List (Nat × List UInt8)) (hn : n ≤ 1000000) (hl : l.length ≤ 6)
    (hv : viewD d 0 = padL (headL n l.length)) (hj : JournalD d l) (hp : ∀ a ∈ l, a.1 < 3) (hL : layD d l = (true, d1)) (hF : flushD d1 = (true, d2)) :
    Calls Try.prog 17 #[.pointer (some ⟨g, 0, none⟩)] w fun e w' => e = .returned (.int .i64 0) ∧ LogAt w' g b n (decide (0 < l.length)) false ∧ DiskAt w' b p c d2 ∧ Keep (Dg b p c g) w w' := by
  have HD := hid h
  have HG := hid hg
  have HN := hid (log_dk hg h)
  have HT := hid (told_good h ho n l.length hn hl hv)
  have HJ := hid hj
  have HPL : Hid (∀ a ∈ l, a.1 < 3 ∧ a.2.length ≤ 64) := hid (fun a ha => ⟨hp a ha, by obtain ⟨j, hj1, rfl⟩ := List.getElem_of_mem ha; have := (hj j hj1).2.1; omega⟩)
  obtain ⟨c0, c1, c2, c3, c4⟩ := hg.cells
  have hlen : decide ((0 : Int) < (l.length : Int)) = decide (0 < l.length) := by simp
  have HLEN := hid hlen
  have hL := hid hL
  have hF := hid hF
  clear h hg hv hj hp hlen
  go_enter Try.func17, Try.ntmps17
  go_wp2_with fail
  refine HT.out.mono ?_
  rintro e w1 ⟨rfl, k1⟩
  have K1 := hid k1
  have G1 := hid (HG.out.keep k1 (fun e => e))
  have D1 := hid (HD.out.nil k1)
  obtain ⟨c0', c1', c2', c3', c4'⟩ := G1.out.cells
  clear k1 c0 c1 c2 c3 c4
  go_wp2_with fail
  refine (journal_good D1.out ho l hl HJ.out).mono ?_
  rintro e w2 ⟨v, q, rfl, hu, hq, k2⟩
  obtain ⟨ao, cap, rfl⟩ := hu.shape
  have U2 := hid hu
  have K2 := hid (K1.out.trans k2)
  have G2 := hid (G1.out.keep k2 (fun e => e))
  have D2 := hid (D1.out.nil k2)
  have HQ : Hid (¬ Dk b p c q) := hid (D1.out.new hq)
  obtain ⟨y0, y1, y2, y3, y4⟩ := G2.out.cells
  clear hu hq k2 c0' c1' c2' c3' c4'
  go_wp2_with fail
  refine (lay_some D2.out _ q l U2.out HQ.out hl HPL.out).mono ?_
  rw [hL.out]
  rintro e w3 ⟨rfl, h3, k3⟩
  rw [show okV true = .int .i64 0 from rfl] at *
  have K3 := hid ((K2.out.mono (fun _ _ e => e.elim)).trans k3)
  have G3 := hid (G2.out.keep k3 HN.out)
  have D3 : Hid (DiskAt w3 b p c d1) := hid h3
  obtain ⟨z0, z1, z2, z3, z4⟩ := G3.out.cells
  clear k3 h3 y0 y1 y2 y3 y4
  go_wp2_with fail
  refine (flush_some D3.out).mono ?_
  rw [hF.out]
  rintro e w4 ⟨rfl, h4, k4⟩
  rw [show okV true = .int .i64 0 from rfl] at *
  have K4 := hid (K3.out.trans k4)
  have G4 := hid (G3.out.keep k4 HN.out)
  have D4 : Hid (DiskAt w4 b p c d2) := hid h4
  obtain ⟨u0, u1, u2, u3, u4⟩ := G4.out.cells
  clear k4 h4 z0 z1 z2 z3 z4
  have KS : Keep (One g) w4 (((w4.setCell ⟨g, 1, none⟩ (.int .i64 (n : Nat))).setCell ⟨g, 2, none⟩ (.bool (decide (0 < l.length)))).setCell ⟨g, 3, none⟩ (.bool false)) := ((keep_set _ _ _).trans (keep_set _ _ _)).trans (keep_set _ _ _)
  have G5 : Hid (LogAt (((w4.setCell ⟨g, 1, none⟩ (.int .i64 (n : Nat))).setCell ⟨g, 2, none⟩ (.bool (decide (0 < l.length)))).setCell ⟨g, 3, none⟩ (.bool false)) g b n (decide (0 < l.length)) false) := hid (row_set (row_set (row_set G4.out 1 _) 2 _) 3 _)
  have D5 := hid (D4.out.keep KS (fun i hi e => HN.out (by have e' : i = g := e; rw [← e']; exact hi)))
  have K5 : Hid (Keep (Dg b p c g) w _) := hid ((K4.out.mono (fun _ _ e => .inl e)).trans (KS.mono (fun _ _ e => .inr e)))
  clear KS
  go_wp2
  go_ret
  exact ⟨rfl, G5.out, D5.out, K5.out⟩
theorem open_good (h : DiskAt w b p c d) (ho : d.off = false) (n : Nat) (l : List (Nat × List UInt8)) (hn : n ≤ 1000000) (hl : l.length ≤ 6)
    (hv : viewD d 0 = padL (headL n l.length)) (hj : JournalD d l) (hp : ∀ a ∈ l, a.1 < 3) (hL : layD d l = (true, d1)) (hF : flushD d1 = (true, d2)) :
    Calls Try.prog 7 #[.pointer (some ⟨b, 0, none⟩)] w fun e w' => ∃ g, e = .returned (.tuple #[.pointer (some ⟨g, 0, none⟩), .int .i64 0]) ∧ LogAt w' g b n (decide (0 < l.length)) false ∧ DiskAt w' b p c d2 ∧ Keep (Dk b p c) w w' ∧ w.heap.size ≤ g := by
  have H := hid h
  have G0 : LogAt (w.alloc (.cells #[.pointer (some ⟨b, 0, none⟩), .int .i64 ((0 : Nat) : Int), .bool false, .bool false] 54)) w.heap.size b 0 false false := heap_new _ _
  have KA : Keep Nil w (w.alloc (.cells #[.pointer (some ⟨b, 0, none⟩), .int .i64 ((0 : Nat) : Int), .bool false, .bool false] 54)) := (Keep.refl w).alloc _
  have HM := hid (mend_good (h.nil KA) ho _ _ _ _ G0 n l hn hl hv hj hp hL hF)
  have HKA := hid KA
  clear h hv hj hp hL hF G0 KA
  go_enter Try.func7, Try.ntmps7
  go_wp2_with fail
  refine (may_some H.out).mono ?_
  rintro e w1 ⟨rfl, rfl⟩
  go_wp2_with fail
  refine HM.out.mono ?_
  rintro e w2 ⟨rfl, h1, h2, k2⟩
  have G2 := hid h1
  have D2 := hid h2
  have K2 : Hid (Keep (Dk b p c) w1 w2) := hid ((HKA.out.mono (T := Dk b p c) (fun _ _ e => e.elim)).andThen k2 (fun k hk e => by
    rcases e with e | e
    · exact e
    · omega))
  clear h1 h2 k2
  go_wp2
  go_ret2
  exact ⟨_, rfl, G2.out, D2.out, K2.out, Nat.le_refl _⟩
end Go.Proofs.Ytdecljdhdclmoaa
