/-
  Log.ok, Places, Log.Read, settle.
-/
import Derived.Test.YtdecljdhdclmoaaMend
namespace Go.Proofs.Ytdecljdhdclmoaa
open Go.RowKit
variable {w w' : World} {b p c : Nat} {d d1 d2 : DS}

theorem lok_some {g n : Nat} {x y : Bool} (h : LogAt w g b n x y) : Calls Try.prog 18 #[.pointer (some ⟨g, 0, none⟩)] w fun e w' => e = .returned (.bool true) ∧ w' = w := by
  obtain ⟨c0, c1, c2, c3, c4⟩ := h.cells
  clear h
  go_enter Try.func18, Try.ntmps18
  go_wp2
  go_ret
  exact ⟨rfl, rfl⟩
theorem places_some {g n : Nat} {x y : Bool} (h : LogAt w g b n x y) (hd : DiskAt w b p c d) : Calls Try.prog 21 #[.pointer (some ⟨g, 0, none⟩)] w fun e w' => e = .returned (.int .i64 3) ∧ w' = w := by
  obtain ⟨c0, c1, c2, c3, c4⟩ := h.cells
  have H := hid h
  have D := hid hd
  clear h hd
  go_enter Try.func21, Try.ntmps21
  go_wp2_with fail
  refine (lok_some H.out).mono ?_
  rintro e w1 ⟨rfl, rfl⟩
  go_wp2_with fail
  refine (sectors_some D.out).mono ?_
  rintro e w1 ⟨rfl, rfl⟩
  go_wp2
  go_ret
  exact ⟨rfl, rfl⟩
theorem lread_some {g n : Nat} {x y : Bool} (h : LogAt w g b n x y) (hd : DiskAt w b p c d) (ho : d.off = false) (a : Nat) (ha : a < 3) :
    Calls Try.prog 9 #[.pointer (some ⟨g, 0, none⟩), .int .i64 a] w fun e w' => ∃ v, e = .returned (.tuple #[v, .int .i64 0]) ∧ Bts 0 w' v ((viewD d (9 + a)).take 48) ∧ Keep Nil w w' := by
  obtain ⟨c0, c1, c2, c3, c4⟩ := h.cells
  have H := hid h
  have D := hid hd
  have HR := hid (read_some hd (9 + a) (by omega) ho)
  have HL := hid (hd.view_len (9 + a) (by omega))
  have hda : decide ((a : Int) < 3) = true := by simp; omega
  have hda2 : ¬ 3 ≤ a := by omega
  have hda3 : ¬ (3 : Int) ≤ (a : Int) := by omega
  have hw1 : IntKind.i64.wrap (9 + (a : Int)) = ((9 + a : Nat) : Int) := by rw [IntWalk.i64_in _ (by omega)]; rfl
  generalize viewD d (9 + a) = bs at *
  clear h hd
  go_enter Try.func9, Try.ntmps9
  go_wp2_with fail
  refine (lok_some H.out).mono ?_
  rintro e w1 ⟨rfl, rfl⟩
  go_wp2_with fail
  refine (places_some H.out D.out).mono ?_
  rintro e w1 ⟨rfl, rfl⟩
  go_wp2_with fail
  refine HR.out.mono ?_
  rintro e w2 ⟨q, v, rfl, r2, hq, k2⟩
  obtain ⟨ao, cap, rfl⟩ := r2.shape
  have hcap : 64 ≤ cap := by
    rcases r2 with ⟨h, -⟩ | ⟨_, _, _, e, -, -, h, -⟩
    · omega
    · cases e; exact h
  have h48 : 48 ≤ cap := by omega
  obtain ⟨bb, ob, rfl⟩ : ∃ bb ob, ao = some ⟨bb, ob, none⟩ := by
    rcases r2 with ⟨h, -⟩ | ⟨ob, _, _, e, -⟩
    · omega
    · cases e; exact ⟨_, _, rfl⟩
  rw [← HL.out] at r2
  have hct := (Bts.of_row (B := 0) r2).cut 0 48 cap (by rw [HL.out]; omega)
  rw [List.drop_zero, Nat.add_zero] at hct
  have HCT := hid hct
  have K2 := hid k2
  clear r2 hct k2 hq
  go_wp2
  go_ret2
  exact ⟨_, rfl, HCT.out, K2.out⟩
/-- settle -/
def settleD (d : DS) (n : Nat) (pend : Bool) : Bool × DS :=
  if pend then (if (flushD d).1 then headD (flushD d).2 n 0 else (false, (flushD d).2)) else (true, d)

set_option maxRecDepth 100000 in
set_option maxHeartbeats 2000000 in
theorem settle_some {g n : Nat} {pend : Bool} (hg : LogAt w g b n pend false) (h : DiskAt w b p c d) (hn : n ≤ 1000000) :
    Calls Try.prog 31 #[.pointer (some ⟨g, 0, none⟩)] w fun e w' => e = .returned (okV (settleD d n pend).1) ∧ DiskAt w' b p c (settleD d n pend).2 ∧ LogAt w' g b n (pend && !(settleD d n pend).1) false ∧ Keep (Dg b p c g) w w' := by
  have HD := hid h
  have HG := hid hg
  have HN := hid (log_dk hg h)
  obtain ⟨c0, c1, c2, c3, c4⟩ := hg.cells
  clear hg h
  cases pend
  · rw [show settleD d n false = (true, d) from rfl]
    go_enter Try.func31, Try.ntmps31
    go_wp2
    go_ret
    exact ⟨rfl, HD.out, HG.out, Keep.refl _⟩
  · have hF := hid (flush_some HD.out)
    rw [show settleD d n true = if (flushD d).1 then headD (flushD d).2 n 0 else (false, (flushD d).2) from rfl]
    generalize flushD d = rf at *
    obtain ⟨o1, d1⟩ := rf
    simp only at hF ⊢
    cases o1
    · rw [if_neg (by simp)]
      go_enter Try.func31, Try.ntmps31
      go_wp2_with fail
      refine hF.out.mono ?_
      rintro e w1 ⟨rfl, h1, k1⟩
      rw [show okV false = .int .i64 8 from rfl] at *
      have D1 : Hid (DiskAt w1 b p c d1) := hid h1
      have G1 := hid (HG.out.keep k1 HN.out)
      have K1 : Hid (Keep (Dg b p c g) w w1) := hid (k1.mono (fun _ _ e => .inl e))
      clear h1 k1
      go_wp2
      go_ret
      exact ⟨rfl, D1.out, G1.out, K1.out⟩
    · rw [if_pos rfl]
      have hH := hid (fun (w1 : World) (h1 : DiskAt w1 b p c d1) => head_some h1 n 0 hn (by omega))
      generalize headD d1 n 0 = rh at *
      obtain ⟨o2, d2⟩ := rh
      simp only at hH ⊢
      have hbody : ∀ (o : Bool), o = o2 → True := fun _ _ => trivial
      clear hbody
      cases o2
      · go_enter Try.func31, Try.ntmps31
        go_wp2_with fail
        refine hF.out.mono ?_
        rintro e w1 ⟨rfl, h1, k1⟩
        rw [show okV true = .int .i64 0 from rfl] at *
        rw [show okV false = .int .i64 8 from rfl] at *
        have D1 : Hid (DiskAt w1 b p c d1) := hid h1
        have G1 := hid (HG.out.keep k1 HN.out)
        have K1 := hid k1
        obtain ⟨e0, e1, e2, e3, e4⟩ := G1.out.cells
        clear h1 k1 c0 c1 c2 c3 c4
        go_wp2_with fail
        go_region_held3 (fun w' => w'.cell? ⟨g, 0, none⟩ = some (.pointer (some ⟨b, 0, none⟩)) ∧ w'.cell? ⟨g, 1, none⟩ = some (.int .i64 (n : Nat))) (first | exact ⟨e0, e1⟩ | exact ⟨f0, f1⟩)
          ((go_at_call 16; refine (hH.out w1.drew (D1.out.nil (Keep.refl w1).drew)).mono ?_; rintro e w2 ⟨rfl, h2, k2⟩; have D2 := hid h2; have G2 := hid (LogAt.keep (w := w1.drew) G1.out k2 HN.out); have K2 : Hid (Keep (Dk b p c) w w2) := hid (K1.out.drew.trans k2); obtain ⟨f0, f1, f2, f3, f4⟩ := G2.out.cells; clear h2 k2))
        go_wp2
        go_ret
        exact ⟨rfl, D2.out, G2.out, K2.out.mono (fun _ _ e => .inl e)⟩
      · go_enter Try.func31, Try.ntmps31
        go_wp2_with fail
        refine hF.out.mono ?_
        rintro e w1 ⟨rfl, h1, k1⟩
        rw [show okV true = .int .i64 0 from rfl] at *
        have D1 : Hid (DiskAt w1 b p c d1) := hid h1
        have G1 := hid (HG.out.keep k1 HN.out)
        have K1 := hid k1
        obtain ⟨e0, e1, e2, e3, e4⟩ := G1.out.cells
        clear h1 k1 c0 c1 c2 c3 c4
        go_wp2_with fail
        go_region_held3 (fun w' => w'.cell? ⟨g, 0, none⟩ = some (.pointer (some ⟨b, 0, none⟩)) ∧ w'.cell? ⟨g, 1, none⟩ = some (.int .i64 (n : Nat))) (first | exact ⟨e0, e1⟩ | exact ⟨f0, f1⟩)
          ((go_at_call 16; refine (hH.out w1.drew (D1.out.nil (Keep.refl w1).drew)).mono ?_; rintro e w2 ⟨rfl, h2, k2⟩; have D2 := hid h2; have G2 := hid (LogAt.keep (w := w1.drew) G1.out k2 HN.out); have K2 : Hid (Keep (Dk b p c) w w2) := hid (K1.out.drew.trans k2); obtain ⟨f0, f1, f2, f3, f4⟩ := G2.out.cells; clear h2 k2))
        have KS : Keep (One g) w2 (w2.setCell ⟨g, 2, none⟩ (.bool false)) := keep_set _ _ _
        have D3 := hid (D2.out.keep KS (fun i hi e => HN.out (by have e' : i = g := e; rw [← e']; exact hi)))
        have G3 : Hid (LogAt (w2.setCell ⟨g, 2, none⟩ (.bool false)) g b n false false) := hid (row_set G2.out 2 _)
        have K3 : Hid (Keep (Dg b p c g) w _) := hid ((K2.out.mono (fun _ _ e => .inl e)).trans (KS.mono (fun _ _ e => .inr e)))
        clear KS
        go_wp2
        go_ret
        exact ⟨rfl, D3.out, G3.out, K3.out⟩
end Go.Proofs.Ytdecljdhdclmoaa
