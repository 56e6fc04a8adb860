/-
  jackstaytop.logs: true.
-/
import Derived.Test.YtdecljdhdclmoaaFresh
namespace Go.Proofs.Ytdecljdhdclmoaa
open Go.RowKit
variable {w w' : World} {b p c : Nat} {d d1 d2 : DS}

theorem ups_one (w : World) (a : Nat) (u : Value) (xs : List UInt8) (hb : Bts 0 w u xs) : UpsAt (w.alloc (.cells #[.int .i64 (a : Nat), u] 35)) (.slice (some ⟨w.heap.size, 0, none⟩) 1 1) w.heap.size [(a, xs)] :=
  ⟨[u], rfl, .inr ⟨0, 1, _, rfl, heap_new _ _, rfl, by simp, by simp [maxLen], by simp, fun j hj => by
    rcases (by simp at hj; omega : j = 0 ∨ j = 1) with rfl | rfl <;> rfl⟩, fun j h h' => by
    obtain rfl : j = 0 := by simp at h; omega
    exact hb.alloc _⟩
theorem ups_two (w : World) (a a' : Nat) (u u' : Value) (xs xs' : List UInt8) (hb : Bts 0 w u xs) (hb' : Bts 0 w u' xs') : UpsAt (w.alloc (.cells #[.int .i64 (a : Nat), u, .int .i64 (a' : Nat), u'] 35)) (.slice (some ⟨w.heap.size, 0, none⟩) 2 2) w.heap.size [(a, xs), (a', xs')] :=
  ⟨[u, u'], rfl, .inr ⟨0, 2, _, rfl, heap_new _ _, rfl, by simp, by simp [maxLen], by simp, fun j hj => by
    rcases (by simp at hj; omega : j = 0 ∨ j = 1 ∨ j = 2 ∨ j = 3) with rfl | rfl | rfl | rfl <;> rfl⟩, fun j h h' => by
    rcases (by simp at h; omega : j = 0 ∨ j = 1) with rfl | rfl
    · exact hb.alloc _
    · exact hb'.alloc _⟩
theorem bts_byte (w : World) (x : UInt8) : Bts 0 (w.alloc (.cells #[.int .u8 x.toNat] 5)) (.slice (some ⟨w.heap.size, 0, none⟩) 1 1) [x] :=
  ⟨_, 1, rfl, fun _ => ⟨_, 0, rfl, .inr ⟨_, _, heap_new _ _⟩, fun j hj => by
    obtain rfl : j = 0 := by simp at hj; omega
    rw [row_cell (heap_new _ _)]; rfl⟩⟩
/-- Open at a disk whose head tells of nothing to be laid -/
theorem open_fresh {d : DS} (h : Calm d) {n : Nat} {A B : List UInt8} (hg : GoodPC d n false A B) : ∃ d2, layD d [] = (true, d) ∧ flushD d = (true, d2) ∧ Calm d2 ∧ GoodPC d2 n false A B ∧ viewD d 0 = padL (headL n 0) := by
  rcases hg with ⟨-, h0, hc, h9, h11⟩ | ⟨hh, -⟩
  · obtain ⟨f1, f2⟩ := flush_calm h
    rcases flush_case d with ⟨-, f3, f4⟩ | ⟨f3, -⟩
    · refine ⟨(flushD d).2, rfl, by rw [← f1], f2, .inl ⟨rfl, ?_, fun i => by rw [f3], ?_, ?_⟩, by unfold viewD; rw [hc]; exact h0⟩
      · rw [f4]; simp only [hc]; exact h0
      · rw [f4]; simp only [hc]; exact h9
      · rw [f4]; simp only [hc]; exact h11
    · rw [f1] at f3; cases f3
  · cases hh
/-- a change of one place on a disk that is on, and Open behind a loss of power -/
theorem logs_commit {d : DS} (h : Calm d) (n : Nat) (X : List UInt8) (hX : X.length ≤ 48) :
    Calm (commitD d n false [(1, X)]).2 ∧ (commitD d n false [(1, X)]).1 = true ∧ ∀ f, Some12 (commitD d n false [(1, X)]).2 f → ∀ d', Calm d' → d'.plate = f → (∀ i, d'.cache i = none) →
      ∃ da db, viewD d' 0 = padL (headL (n + 1) 1) ∧ JournalD d' [(1, pad48 X)] ∧ layD d' [(1, pad48 X)] = (true, da) ∧ flushD da = (true, db) ∧ Calm db ∧ viewD db 10 = padL (pad48 X) := by
  obtain ⟨e1, e2⟩ := commit_calm h n false [(1, X)]
  refine ⟨e2, e1, fun f hf d' hd hp hc => ?_⟩
  have hk : (commitD d n false [(1, X)]).2.plate 0 = padL (headL (n + 1) 1) ∧ (commitD d n false [(1, X)]).2.plate 3 = padL (entryL 1 (pad48 X)) ∧ ∀ i, i ≠ 10 → (commitD d n false [(1, X)]).2.cache i = none := by
    have p1 := puts_calm (secsL [(1, X)]) d 3 h
    have p2 := puts_good h 3 (secsL [(1, X)])
    have ec : (commitD d n false [(1, X)]).2 = (layD (headD (putsD d 3 (secsL [(1, X)])).2 (n + 1) 1).2 (fullL [(1, X)])).2 := by
      show (commitT d n [(1, X)]).2 = _
      unfold commitT
      rw [if_pos p1.1, if_pos (head_calm p1.2 _ _).1]; rfl
    rw [ec]
    have q1 := head_calm p1.2 (n + 1) 1
    have q2 := head_good p1.2 (n + 1) 1
    generalize (putsD d 3 (secsL [(1, X)])).2 = d1 at *
    generalize (headD d1 (n + 1) 1) = r at *
    obtain ⟨o2, d2⟩ := r
    have r1 := lay_calm (fullL [(1, X)]) d2 q1.2
    have r2 := (lay_case (fullL [(1, X)]) d2).1
    simp only at *
    refine ⟨?_, ?_, fun i hi => ?_⟩
    · rw [r2, q2.2]; rfl
    · rw [r2, q2.2, p2.1, p2.2]; rfl
    · rw [r1.2.1, q2.1]
      simp [overL, fullL, upd, hi]
  obtain ⟨k0, k3, kc⟩ := hk
  have g0 : viewD d' 0 = padL (headL (n + 1) 1) := by unfold viewD; rw [hc, hp]; exact (some_none hf 0 (kc 0 (by omega))).trans k0
  have g3 : viewD d' 3 = padL (entryL 1 (pad48 X)) := by unfold viewD; rw [hc, hp]; exact (some_none hf 3 (kc 3 (by omega))).trans k3
  have r1 := lay_calm [(1, pad48 X)] d' hd
  have f1 := flush_calm r1.2.2
  rcases flush_case (layD d' [(1, pad48 X)]).2 with ⟨-, f3, f4⟩ | ⟨f3, -⟩
  · refine ⟨(layD d' [(1, pad48 X)]).2, (flushD (layD d' [(1, pad48 X)]).2).2, g0, fun j hj => ?_, by rw [← r1.1], by rw [← f1.1], f1.2, ?_⟩
    · obtain rfl : j = 0 := by simp at hj; omega
      exact ⟨g3, pad48_length X hX, by simp⟩
    · unfold viewD
      rw [f3, f4, r1.2.1]; rfl
  · rw [f1.1] at f3; cases f3
theorem bools_nil (B : Nat) (w : World) : BoolsAt B w (.slice none 0 0) [] := ⟨none, 0, rfl, fun h => absurd h (by simp)⟩
theorem ups_ok_one (a : Nat) (xs : List UInt8) (ha : a < 3) (hx : xs.length ≤ 48) : UpsOk [(a, xs)] := ⟨by simp, fun x h => by simp at h; subst h; exact ⟨ha, hx⟩, by simp⟩
theorem ups_ok_two (a a' : Nat) (xs xs' : List UInt8) (h : a ≠ a') (ha : a < 3) (hx : xs.length ≤ 48) (ha' : a' < 3) (hx' : xs'.length ≤ 48) : UpsOk [(a, xs), (a', xs')] :=
  ⟨by simp, fun x hh => by simp at hh; rcases hh with rfl | rfl; exact ⟨ha, hx⟩; exact ⟨ha', hx'⟩, by simp [h]⟩
theorem run_conv97 (w : World) : (convert 22 22 (.slice (some ⟨w.heap.size, 0, none⟩) 1 1)).run Try.prog (w.alloc (.cells #[.int .u8 97] 5)) = .ok (.slice (some ⟨w.heap.size, 0, none⟩) 1 1) (w.alloc (.cells #[.int .u8 97] 5 (1, 2))) :=
  Lib.run_convert_bytes_const w 22 5 #[.int .u8 97] 1 1 Try.underlying22 Try.underlying5
theorem bts_conv97 (w : World) : Bts 0 (w.alloc (.cells #[.int .u8 97] 5 (1, 2))) (.slice (some ⟨w.heap.size, 0, none⟩) 1 1) [97] :=
  ⟨_, 1, rfl, fun _ => ⟨_, 0, rfl, .inr ⟨_, _, heap_new _ _⟩, fun j hj => by
    obtain rfl : j = 0 := by simp at hj; omega
    have h := heap_new w (.cells #[.int .u8 97] 5 (1, 2))
    simp only [World.cell?, h]; rfl⟩⟩
theorem fresh_calm : Calm freshD := ⟨rfl, rfl⟩
/-- the log of a new disk -/
theorem open_new (w1 : World) (h : DiskAt w1 b p c (fmtD freshD)) : ∃ d2, Calm d2 ∧ GoodPC d2 0 false Z48 Z48 ∧
    Calls Try.prog 7 #[.pointer (some ⟨b, 0, none⟩)] w1 fun e w' => ∃ g, e = .returned (.tuple #[.pointer (some ⟨g, 0, none⟩), .int .i64 0]) ∧ LogAt w' g b 0 false false ∧ DiskAt w' b p c d2 ∧ Keep (Dk b p c) w1 w' ∧ w1.heap.size ≤ g := by
  obtain ⟨g1, g2⟩ := fmt_good fresh_calm
  obtain ⟨d2, e1, e2, e3, e4, e5⟩ := open_fresh g1 g2
  exact ⟨d2, e3, e4, open_good h g1.1 0 [] (by omega) (by simp) e5 (fun j hj => absurd hj (by simp)) (by simp) e1 e2⟩

set_option maxRecDepth 100000 in
set_option maxHeartbeats 8000000 in
theorem logs_some (w : World) : Calls Try.prog 5 #[] w fun e w' => e = .returned (.bool true) ∧ Keep Nil w w' := by
  go_enter Try.func5, Try.ntmps5
  go_wp2_with fail
  refine (new_some w).mono ?_
  rintro e w1 ⟨b, p, c, rfl, h1, k1, hn1⟩
  have D1 := hid h1
  have K1 := hid k1
  have HN := hid hn1
  clear h1 k1 hn1
  go_wp2_with fail
  refine (format_some D1.out fresh_calm).mono ?_
  rintro e w2 ⟨rfl, h2, k2⟩
  have K2 : Hid (Keep Nil w w2) := hid (K1.out.andThen k2 (fun i hi e => by have := HN.out i e; omega))
  obtain ⟨d2, hc2, -, ho⟩ := open_new w2 h2
  have HO := hid ho
  have HC2 := hid hc2
  clear h2 k2 ho hc2
  go_wp2_with fail
  refine HO.out.mono ?_
  rintro e w3 ⟨g, rfl, g3, h3, k3, hg3⟩
  have D3 := hid h3
  have G3 := hid g3
  have K3 : Hid (Keep Nil w w3) := hid (K2.out.andThen k3 (fun i hi e => by have := HN.out i e; omega))
  have HG : Hid (w.heap.size ≤ g) := hid (Nat.le_trans K2.out.size hg3)
  clear g3 h3 k3 hg3
  have hcv := run_conv97 w3
  have KA : Keep Nil w3 ((w3.alloc (.cells #[.int .u8 97] 5 (1, 2))).alloc (.cells #[.int .i64 ((1 : Nat) : Int), .slice (some ⟨w3.heap.size, 0, none⟩) 1 1] 35)) := ((Keep.refl w3).alloc _).alloc _
  obtain ⟨hk1, hk2, hk3⟩ := logs_commit HC2.out 0 [97] (by simp)
  have HK1 := hid hk1
  have HK3 := hid hk3
  have HM := cmt_some (G3.out.keep KA (fun e => e)) (D3.out.nil KA) (by omega) _ [(1, [97])] (ups_one _ 1 _ _ (bts_conv97 w3)) (by
    rintro (e | e)
    · exact D3.out.new (by simp) e
    · have := row_lt G3.out; simp at e; omega) (ups_ok_one 1 [97] (by omega) (by simp))
  rw [show (w3.alloc (.cells #[.int .u8 97] 5 (1, 2))).heap.size = w3.heap.size + 1 by simp] at HM
  generalize hdc : commitD d2 0 false [(1, [97])] = rc at *
  obtain ⟨oc, dc⟩ := rc
  simp only at hk2
  subst hk2
  have HMC := hid HM
  have HKA := hid KA
  clear hk1 hk3 HM KA hdc
  go_wp2_with fail
  refine HMC.out.mono ?_
  rintro e w4 ⟨rfl, h4, -, k4⟩
  rw [show okV (true, dc).1 = .int .i64 0 from rfl] at *
  have D4 := hid h4
  have K4 : Hid (Keep Nil w w4) := hid ((K3.out.trans HKA.out).andThen k4 (fun i hi e => by
    rcases e with e | e
    · have := HN.out i e; omega
    · have := HG.out; omega))
  clear h4 k4 hcv
  go_wp2_with fail
  refine (cut_some D4.out).mono ?_
  rintro e w5 ⟨rfl, h5, k5⟩
  have D5 := hid h5
  have K5 : Hid (Keep Nil w w5) := hid (K4.out.andThen k5 (fun i hi e => by have := HN.out i (.inl e); omega))
  clear h5 k5
  go_wp2_with fail
  refine (start_some D5.out 0 (fun i _ => Nat.zero_le _) _ [] (bools_nil 0 w5) rfl).mono ?_
  rintro e w6 ⟨rfl, f, hf, h6, k6⟩
  rw [show okV true = .int .i64 0 from rfl] at *
  have K6 : Hid (Keep Nil w w6) := hid (K5.out.andThen k6 (fun i hi e => by have := HN.out i e; omega))
  obtain ⟨da, db, a1, a2, a3, a4, a5, a6⟩ := HK3.out f hf ⟨f, fun _ => none, false, false, dc.fuse⟩ ⟨rfl, rfl⟩ rfl (fun _ => rfl)
  have HO6 := hid (open_good h6 rfl 1 [(1, pad48 [97])] (by omega) (by simp) a1 a2 (by simp) a3 a4)
  have HV := hid a6
  have HON := hid a5.1
  clear hf h6 k6 a1 a2 a3 a4 a5 a6
  go_wp2_with fail
  refine HO6.out.mono ?_
  rintro e w7 ⟨g7, rfl, g8, h7, k7, hg7⟩
  have D7 := hid h7
  have G7 := hid g8
  have K7 : Hid (Keep Nil w w7) := hid (K6.out.andThen k7 (fun i hi e => by have := HN.out i e; omega))
  clear h7 g8 k7 hg7
  have HRD := hid (lread_some G7.out D7.out HON.out 1 (by omega))
  rw [show 9 + 1 = 10 from rfl, HV.out] at HRD
  go_wp2_with fail
  refine HRD.out.mono ?_
  rintro e w8 ⟨v, rfl, hb, k8⟩
  rw [padL_take _ (pad48_length [97] (by simp))] at hb
  have K8 := hid (K7.out.trans k8)
  obtain ⟨ao, cap, rfl, hc⟩ := hb
  obtain ⟨bb, off, rfl, -, hcell⟩ := hc (by rw [pad48_length [97] (by simp)]; omega)
  have x0 := hcell 0 (by rw [pad48_length [97] (by simp)]; omega)
  replace x0 : w8.cell? ⟨bb, off, none⟩ = some (.int .u8 97) := x0
  rw [pad48_length [97] (by simp)]
  clear hc hcell k8
  go_wp2
  go_ret
  exact ⟨rfl, K8.out⟩
end Go.Proofs.Ytdecljdhdclmoaa
