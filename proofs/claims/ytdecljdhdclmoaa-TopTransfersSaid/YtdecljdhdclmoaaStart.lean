/-
  Disk.Start.
-/
import Derived.Test.YtdecljdhdclmoaaFlush
namespace Go.Proofs.Ytdecljdhdclmoaa
open Go.RowKit
variable {w w' : World} {b p c : Nat} {d : DS}

/-- a row of Booleans below block B -/
def BoolsAt (B : Nat) (w : World) (v : Value) (ks : List Bool) : Prop :=
  ∃ ao cap, v = .slice ao ks.length cap ∧ (0 < ks.length → ∃ b off, ao = some ⟨b, off, none⟩ ∧ b < B ∧ ∀ j (h : j < ks.length), w.cell? ⟨b, off + j, none⟩ = some (.bool ks[j]))
theorem BoolsAt.keep {B : Nat} {v : Value} {ks : List Bool} {S : Nat → Prop} (h : BoolsAt B w v ks) (k : Keep S w w') (hs : ∀ i, S i → B ≤ i) : BoolsAt B w' v ks := by
  obtain ⟨ao, cap, rfl, hc⟩ := h
  refine ⟨ao, cap, rfl, fun hp => ?_⟩
  obtain ⟨b, off, rfl, h1, h2⟩ := hc hp
  exact ⟨b, off, rfl, h1, fun j hj => k.cell (h2 j hj) (fun e => by have := hs b e; omega)⟩
/-- the plate behind a loss of power: each sector is the plate's or the cache's -/
def Some12 (d : DS) (f : Nat → List UInt8) : Prop := ∀ i, f i = d.plate i ∨ d.cache i = some (f i)
def StartRel (w : World) (b p c : Nat) (d : DS) (k i : Value) (wr : World) : Prop :=
  ∃ (kk ii : Nat) (f : Nat → List UInt8), k = .int .i64 kk ∧ i = .int .i64 ii ∧ kk ≤ ii ∧ ii ≤ 12 ∧ Some12 d f ∧ DiskAt wr b p c ⟨f, d.cache, d.off, d.armed, d.fuse⟩ ∧ Keep (Dk b p c) w wr

set_option maxRecDepth 100000 in
set_option maxHeartbeats 1000000 in
theorem start_some (h : DiskAt w b p c d) (B : Nat) (hB : ∀ i, Dk b p c i → B ≤ i) (v : Value) (ks : List Bool) (hv : BoolsAt B w v ks) (ho : d.off = true) :
    Calls Try.prog 12 #[.pointer (some ⟨b, 0, none⟩), v] w fun e w' => e = .returned (okV true) ∧ ∃ f, Some12 d f ∧ DiskAt w' b p c ⟨f, fun _ => none, false, false, d.fuse⟩ ∧ Keep (Dk b p c) w w' := by
  have H := hid h
  have HV := hid hv
  have HB := hid hB
  obtain ⟨ao, cap, rfl, -⟩ := id hv
  have hz := zero59
  have hst := run_store_new
  have s1 : (secC Z64).size = 64 := by rw [secC_size, z64_length]
  have x2 : w.cell? ⟨b, 2, none⟩ = some (.bool true) := by rw [h.cells.2.2.1, ho]
  have x0 : w.cell? ⟨b, 0, none⟩ = some (.slice (some ⟨p, 0, none⟩) 12 12) := h.cells.1
  have hlen : ks.length = ks.length := rfl
  clear h hv hB hlen
  go_enter Try.func12, Try.ntmps12
  go_wp2_with fail
  refine (ok_some H.out).mono ?_
  rintro e w1 ⟨rfl, rfl⟩
  go_wp2_with fail
  go_loopw [5, 24] (fun k i wr => StartRel w1 b p c d k i wr) (fun _ i _ => 12 - (intOf i).toNat)
  case atStart => exact ⟨0, 0, d.plate, rfl, rfl, Nat.le_refl _, by omega, fun i => .inl rfl, H.out, Keep.refl _⟩
  case round =>
    obtain ⟨kk, ii, f, rfl, rfl, hki, hi, hf, hd, hk⟩ := hrel
    have HD := hid hd
    have HK := hid hk
    have HF := hid hf
    have c0 : wr.cell? ⟨b, 0, none⟩ = some (.slice (some ⟨p, 0, none⟩) 12 12) := hd.cells.1
    have c1 : wr.cell? ⟨b, 1, none⟩ = some (.map (some c)) := hd.cells.2.1
    clear x0 x2
    by_cases hi12 : ii < 12
    · have hlk := hd.look ii hi12
      have hw1 : IntKind.i64.wrap (((ii : Nat) : Int) + 1) = ((ii + 1 : Nat) : Int) := by rw [IntWalk.i64_in _ (by omega)]; rfl
      have hw2 : IntKind.i64.wrap (((kk : Nat) : Int) + 1) = ((kk + 1 : Nat) : Int) := by rw [IntWalk.i64_in _ (by omega)]; rfl
      cases hc : d.cache ii with
      | none =>
        simp only [hc, Option.getD_none, Option.isSome_none] at hlk
        clear hd hk hf
        have HREL : Hid (StartRel w1 b p c d (.int .i64 (kk : Nat)) (.int .i64 ((ii : Int) + 1)) (wr.alloc (.cells (secC Z64) 59))) := hid ⟨kk, ii + 1, f, rfl, by go_num, by omega, by omega, HF.out, HD.out.nil ((Keep.refl wr).alloc _), HK.out.trans (((Keep.refl (S := Nil) wr).alloc _).mono (fun _ _ e => e.elim))⟩
        go_wp2_with fail
        exact ⟨HREL.out, by simp [intOf]; omega⟩
      | some xs =>
        simp only [hc, Option.getD_some, Option.isSome_some] at hlk
        have hx := (hd.clen ii xs hc).2
        have s3 : (secC xs).size = 64 := by rw [secC_size, hx]
        have HREL : Hid (StartRel w1 b p c d (.int .i64 ((kk : Int) + 1)) (.int .i64 ((ii : Int) + 1)) (wr.alloc (.cells (secC xs) 59))) := hid ⟨kk + 1, ii + 1, f, by go_num, by go_num, by omega, by omega, HF.out, HD.out.nil ((Keep.refl wr).alloc _), HK.out.trans (((Keep.refl (S := Nil) wr).alloc _).mono (fun _ _ e => e.elim))⟩
        have hlt := hd.lt
        have hb := hlt b (.inl rfl)
        by_cases hkl : kk < ks.length
        · obtain ⟨bk, ofk, rfl, hbk, hck⟩ : ∃ bk off, ao = some ⟨bk, off, none⟩ ∧ bk < B ∧ ∀ j (h : j < ks.length), w1.cell? ⟨bk, off + j, none⟩ = some (.bool ks[j]) := by
            obtain ⟨_, _, e, hcc⟩ := HV.out
            cases e
            exact hcc (by omega)
          have y1 : wr.cell? ⟨bk, ofk + kk, none⟩ = some (.bool ks[kk]) := HK.out.cell (hck kk hkl) (fun e => by have := HB.out bk e; omega)
          have y2 : (wr.alloc (.cells (secC xs) 59)).cell? ⟨bk, ofk + kk, none⟩ = some (.bool ks[kk]) := cell_alloc _ y1
          have hkl' : decide ((kk : Int) < (ks.length : Int)) = true := by simp; omega
          cases hkv : ks[kk] with
          | false =>
            rw [hkv] at y1 y2
            clear hd hk hf hlt hck
            go_wp2_with fail
            exact ⟨HREL.out, by simp [intOf]; omega⟩
          | true =>
            rw [hkv] at y1 y2
            have hd5 : DiskAt (wr.alloc (.cells (secC xs) 59)).drew b p c _ := hd.nil ((Keep.refl wr).alloc _).drew
            have KA : Keep (One p) (wr.alloc (.cells (secC xs) 59)).drew ((wr.alloc (.cells (secC xs) 59)).drew.setCells p (ii * 64) (bcells xs)) := keep_setCells p (ii * 64) (bcells xs)
            have hd6 := disk_plate hd5 ii hi12 xs hx
            have r1 : (wr.alloc (.cells (secC xs) 59)).drew.rangeAt wr.heap.size 0 (bcells xs) := fun j v hj => by
              show (wr.alloc (.cells (secC xs) 59)).cell? _ = _
              rw [Nat.zero_add, row_cell (heap_new wr _), secC, List.getElem?_toArray, hj]
            have r2 := World.rangeAt_setCells_apart r1 p (ii * 64) (bcells xs) (.inl (by have := hlt p (.inr (.inl rfl)); omega))
            have t1 := plate_there hd5 ii hi12
            have t2 := plate_there hd6 ii hi12
            have a1 : (wr.alloc (.cells (secC xs) 59)).drew.cell? ⟨b, 0, none⟩ = some (.slice (some ⟨p, 0, none⟩) 12 12) := hd5.cells.1
            have a2 : ((wr.alloc (.cells (secC xs) 59)).drew.setCells p (ii * 64) (bcells xs)).cell? ⟨b, 0, none⟩ = some (.slice (some ⟨p, 0, none⟩) 12 12) := hd6.cells.1
            have hu := Try.underlying59
            have hl1 : (bcells xs).length = 64 := by rw [bcells_length, hx]
            have hi1 : (Try.prog.info? 59).map (·.size) = some (bcells xs).length := by rw [size59, hl1]
            have ho := bcells_one xs
            have hb0 : (0 : Int) ≤ (ii : Int) := Int.natCast_nonneg ii
            have hb1 : (ii : Int) < 12 := by omega
            have hb2 : ¬ 12 ≤ ii := by omega
            have HREL2 : Hid (StartRel w1 b p c d (.int .i64 ((kk : Int) + 1)) (.int .i64 ((ii : Int) + 1)) ((wr.alloc (.cells (secC xs) 59)).drew.setCells p (ii * 64) (bcells xs))) := hid ⟨kk + 1, ii + 1, _, by go_num, by go_num, by omega, by omega, (fun j => by
              simp only
              split
              · rename_i e; subst e; exact .inr hc
              · exact HF.out j), hd6, (HK.out.trans (((Keep.refl (S := Nil) wr).alloc (.cells (secC xs) 59)).drew.mono (fun _ _ e => e.elim))).trans (KA.mono (fun k _ e => .inr (.inl e)))⟩
            clear hd hk hf hlt hck hd5 hd6 KA
            go_wp2_with fail
            go_region_held3 (fun w' => w'.cell? ⟨b, 0, none⟩ = some (.slice (some ⟨p, 0, none⟩) 12 12) ∧ w'.rangeAt wr.heap.size 0 (bcells xs) ∧ w'.there p (ii * 64) 64) (first | exact ⟨a1, r1, t1⟩ | exact ⟨a2, r2, t2⟩) (fail)
            go_wp2_with fail
            exact ⟨HREL2.out, by simp [intOf]; omega⟩
        · have hkl' : decide ((kk : Int) < (ks.length : Int)) = false := by simp; omega
          clear hd hk hf hlt
          go_wp2_with fail
          exact ⟨HREL.out, by simp [intOf]; omega⟩
    · obtain rfl : ii = 12 := by omega
      clear hd hk hf
      go_wp2_with (refine wpList_clear rfl (.tmp 61) 45 _ _ rfl rfl HD.out.cache Try.underlying45 ?_)
      intro w5 hm5 k5
      have H5 := disk_clear HD.out hm5 k5
      have f5 : ∀ i, w5.frozen? ⟨b, i, none⟩ = false := row_free H5.head
      have c2 : w5.cell? ⟨b, 2, none⟩ = some (.bool d.off) := H5.cells.2.2.1
      have c3 : w5.cell? ⟨b, 3, none⟩ = some (.bool d.armed) := H5.cells.2.2.2.1
      have HX := hid (H5.put (off := false) (armed := false) (fuse := d.fuse) (row_set (row_set H5.head 2 (.bool false)) 3 (.bool false)) ((keep_set _ _ _).trans (keep_set _ _ _)) H5.fuse)
      have KX := hid ((HK.out.trans (k5.mono (fun k _ e => .inr (.inr e)))).trans (((keep_set b 2 (.bool false)).trans (keep_set b 3 (.bool false))).mono (fun k _ e => .inl e)))
      clear hm5 k5 H5
      go_wp2
      go_ret
      exact ⟨rfl, f, HF.out, HX.out, KX.out⟩
end Go.Proofs.Ytdecljdhdclmoaa
