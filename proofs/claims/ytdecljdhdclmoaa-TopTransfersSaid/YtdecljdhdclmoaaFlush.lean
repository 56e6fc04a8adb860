/-
  Disk.Flush.
-/
import Derived.Test.YtdecljdhdclmoaaWrite
import Derived.Test.YtdecljdhdclmoaaRange
namespace Go.Proofs.Ytdecljdhdclmoaa
open Go.RowKit
variable {w w' : World} {b p c : Nat} {d : DS}

/-- Flush -/
def flushD (d : DS) : Bool × DS :=
  if (stepD d).1 then (true, ⟨fun i => ((stepD d).2.cache i).getD ((stepD d).2.plate i), fun _ => none, (stepD d).2.off, (stepD d).2.armed, (stepD d).2.fuse⟩) else (false, (stepD d).2)
/-- the plate on the way -/
def partP (d : DS) (left : Int → Bool) (i : Nat) : List UInt8 := if left i then d.plate i else (d.cache i).getD (d.plate i)
theorem partP_start (d : DS) : partP d (fun i => (cacheF d.cache i).isSome) = d.plate := by
  funext i
  unfold partP cacheF
  simp only [Int.natCast_nonneg, if_true, Int.toNat_natCast, Option.isSome_map]
  cases d.cache i <;> rfl
theorem partP_end (d : DS) (left : Int → Bool) (h : ∀ i, left i = false) : partP d left = fun i => (d.cache i).getD (d.plate i) := by
  funext i
  unfold partP
  rw [h]; rfl
theorem partP_step (d : DS) (left : Int → Bool) (n : Nat) (xs : List UInt8) (h : d.cache n = some xs) : partP d (fun j => left j && !(j == (n : Int))) = fun j => if j = n then xs else partP d left j := by
  funext j
  unfold partP
  by_cases hj : j = n
  · subst hj; simp [h]
  · have : ((j : Int) == (n : Int)) = false := by simp; omega
    simp [hj, this]
theorem plate_put {f : Nat → List UInt8} (h : PlateAt w p f) (i : Nat) (hi : i < 12) (xs : List UInt8) (hx : xs.length = 64) : PlateAt (w.setCells p (i * 64) (bcells xs)) p (fun j => if j = i then xs else f j) := by
  obtain ⟨cur, h1, h2, h3⟩ := h
  obtain ⟨cur', k1, k2, k3, k4⟩ := block_setCells p 59 (bcells xs) (i * 64) w cur h1
  refine ⟨cur', k1, by rw [k2, h2], fun j hj l hl => ?_⟩
  by_cases hji : j = i
  · subst hji
    have := k4 l (by rw [bcells_length, hx]; exact hl) (by omega)
    simp only [if_true]
    rw [← this]
    congr 1
    omega
  · simp only [if_neg hji]
    rw [← h3 j hj l hl, ← row_cell k1, ← row_cell h1]
    refine World.cell?_setCells_out p (bcells xs) (i * 64) w ⟨p, 64 * j + l, none⟩ (fun _ _ => ?_)
    rw [bcells_length, hx]
    show 64 * j + l < i * 64 ∨ i * 64 + 64 ≤ 64 * j + l
    omega
theorem keep_setCells (q o : Nat) (vs : List Value) : Keep (One q) w (w.setCells q o vs) :=
  ⟨World.os_setCells _ _ _ _, tape_setCells _ _ _ _, World.output_setCells _ _ _ _, Nat.le_of_eq (size_setCells _ _ _ _).symm, fun _ hk hn => World.heap_setCells_other w q _ vs hk (fun e' => hn e')⟩
theorem disk_plate (h : DiskAt w b p c d) (i : Nat) (hi : i < 12) (xs : List UInt8) (hx : xs.length = 64) : DiskAt (w.setCells p (i * 64) (bcells xs)) b p c ⟨fun j => if j = i then xs else d.plate j, d.cache, d.off, d.armed, d.fuse⟩ := by
  have e1 := h.bp
  have e2 := h.pc
  obtain ⟨h1, h2, h3, h4, h5, h6⟩ := h
  have k : Keep (One p) w _ := keep_setCells p (i * 64) (bcells xs)
  refine ⟨k.row h1 e1, plate_put h2 i hi xs hx, h3.keep k (fun e => e2 e.symm), fun j hj => ?_, h5, h6⟩
  simp only
  split
  · exact hx
  · exact h4 j hj
theorem plate_there (h : DiskAt w b p c d) (i : Nat) (hi : i < 12) : w.there p (i * 64) 64 := by
  obtain ⟨cur, h1, h2, -⟩ := h.plate
  intro j hj
  refine ⟨?_, row_free h1 _⟩
  rw [row_cell h1]
  simp
  omega
theorem disk_clear (h : DiskAt w b p c d) (hm : MapAt w' c (fun _ => none)) (k : Keep (One c) w w') : DiskAt w' b p c ⟨d.plate, fun _ => none, d.off, d.armed, d.fuse⟩ := by
  have e1 := h.bc
  have e2 := h.pc
  obtain ⟨h1, ⟨cur, h2, h2'⟩, h3, h4, h5, h6⟩ := h
  refine ⟨k.row h1 e1, ⟨cur, k.row h2 e2, h2'⟩, ?_, h4, fun j ys hj => (by cases hj), h6⟩
  have : cacheF (fun _ => none) = fun _ => none := by funext i; unfold cacheF; split <;> rfl
  rw [this]; exact hm
/-- the loop of Flush -/
def FlushRel (w : World) (b p c r : Nat) (d : DS) (wr : World) : Prop :=
  ∃ left cnt, DiskAt wr b p c ⟨partP d left, d.cache, d.off, d.armed, d.fuse⟩ ∧ Ranges wr c r (cacheF d.cache) left cnt ∧ Keep (Dk b p c) w wr ∧ w.heap.size ≤ r

set_option maxRecDepth 100000 in
set_option maxHeartbeats 1000000 in
theorem flush_some (h : DiskAt w b p c d) : Calls Try.prog 25 #[.pointer (some ⟨b, 0, none⟩)] w fun e w' => e = .returned (okV (flushD d).1) ∧ DiskAt w' b p c (flushD d).2 ∧ Keep (Dk b p c) w w' := by
  have H := hid h
  have hz := zero59
  have hst := run_store_new
  have s1 : (secC Z64).size = 64 := by rw [secC_size, z64_length]
  have hstep := step_some h
  unfold flushD
  generalize stepD d = sd at hstep ⊢
  obtain ⟨o, d2⟩ := sd
  simp only at hstep ⊢
  replace hstep := hid hstep
  clear h
  cases o
  · have hgoal : Hid (∀ w', DiskAt w' b p c d2 → Keep (One b) w w' → (Ending.returned (.int .i64 8) = Ending.returned (okV (if false = true then (true, (⟨fun i => (d2.cache i).getD (d2.plate i), fun _ => none, d2.off, d2.armed, d2.fuse⟩ : DS)) else (false, d2)).1) ∧ DiskAt w' b p c (if false = true then (true, (⟨fun i => (d2.cache i).getD (d2.plate i), fun _ => none, d2.off, d2.armed, d2.fuse⟩ : DS)) else (false, d2)).2 ∧ Keep (Dk b p c) w w')) :=
      hid (fun w' h1 h2 => ⟨rfl, h1, h2.mono (fun k _ e => .inl e)⟩)
    go_enter Try.func25, Try.ntmps25
    go_wp2_with fail
    refine (ok_some H.out).mono ?_
    rintro e w1 ⟨rfl, rfl⟩
    go_wp2_with fail
    refine hstep.out.mono ?_
    rintro e w2 ⟨rfl, h2, k2⟩
    have H2 := hid h2
    have K2 := hid k2
    clear h2 k2
    go_wp2
    go_ret
    exact hgoal.out _ H2.out K2.out
  · rw [if_pos rfl]
    go_enter Try.func25, Try.ntmps25
    go_wp2_with fail
    refine (ok_some H.out).mono ?_
    rintro e w1 ⟨rfl, rfl⟩
    go_wp2_with fail
    refine hstep.out.mono ?_
    rintro e w2 ⟨rfl, h2, k2⟩
    obtain ⟨w3, cnt, hrun, hrg, k3, hs3⟩ := run_range (P := Try.prog) h2.cache Try.underlying45
    have c1 : w2.cell? ⟨b, 1, none⟩ = some (.map (some c)) := h2.cells.2.1
    have HR : Hid (FlushRel w1 b p c w2.heap.size d2 w3) := hid ⟨_, cnt, by rw [partP_start]; exact h2.nil k3, hrg, (k2.mono (fun k _ e => .inl e)).trans (k3.mono (fun _ _ e => e.elim)), k2.size⟩
    obtain ⟨r, hr⟩ : ∃ r, w2.heap.size = r := ⟨_, rfl⟩
    rw [hr] at HR hrun
    clear h2 k2 k3 hrg hs3
    go_wp2_with fail
    go_loopw [3] (fun _ wr => FlushRel w1 b p c r d2 wr) (fun _ wr => iterLeft wr c r)
    case atStart => exact HR.out
    case round =>
      obtain ⟨left, cnt, hd, hrg, hk, hr1⟩ := hrel
      rcases run_next (P := Try.prog) hrg 0 with ⟨h0, hl, hn⟩ | ⟨i, v, w4, cnt', hl, hf, hn, hrg4, hlt, k4, hs4, hen⟩
      · rw [partP_end d2 left hl] at hd
        have HD := hid hd
        have HK := hid hk
        have c1' : wr.cell? ⟨b, 1, none⟩ = some (.map (some c)) := hd.cells.2.1
        clear hd hk hrg hl h0
        go_wp2_with (refine wpList_clear rfl (.tmp 33) 45 _ _ rfl rfl HD.out.cache Try.underlying45 ?_)
        intro w5 hm5 k5
        have HX : Hid (DiskAt w5 b p c _) := hid (disk_clear HD.out hm5 k5)
        have KX := hid (HK.out.trans (k5.mono (fun k _ e => .inr (.inr e))))
        clear hm5 k5
        go_wp2
        go_ret
        exact ⟨rfl, HX.out, KX.out⟩
      · obtain ⟨n, xs, rfl, hcn, rfl⟩ := cacheF_some hf
        obtain ⟨hn12, hx⟩ := hd.clen n xs hcn
        have hrd : ∀ i, Dk b p c i → i ≠ r := fun i hi e => by have := H.out.lt i hi; omega
        have hne : ∀ i, Dk b p c i → i < w4.heap.size := fun i hi => by have := hd.lt i hi; omega
        have hd4 : DiskAt w4 b p c _ := hd.keep k4 (fun i hi e => hrd i hi e)
        have s3 : (secC xs).size = 64 := by rw [secC_size, hx]
        have hrlt : r < w4.heap.size := by obtain ⟨es, clock, since, seen, c0, -, -, h3, -⟩ := hrg4; exact row_lt h3
        have hd5 : DiskAt (w4.alloc (.cells (secC xs) 59)).drew b p c _ := hd4.nil ((Keep.refl w4).alloc _).drew
        have hrg5 : Ranges (w4.alloc (.cells (secC xs) 59)).drew c r _ _ cnt' := hrg4.keep ((Keep.refl (S := Nil) w4).alloc _).drew (fun e => e) (fun e => e)
        have KA : Keep (One p) (w4.alloc (.cells (secC xs) 59)).drew ((w4.alloc (.cells (secC xs) 59)).drew.setCells p (n * 64) (bcells xs)) := keep_setCells p (n * 64) (bcells xs)
        have hd6 := disk_plate hd5 n hn12 xs hx
        have hrg6 := hrg5.keep KA (fun e => hd5.pc e.symm) (fun e => hrd p (.inr (.inl rfl)) e.symm)
        have r1 : (w4.alloc (.cells (secC xs) 59)).drew.rangeAt w4.heap.size 0 (bcells xs) := fun j v hj => by
          show (w4.alloc (.cells (secC xs) 59)).cell? _ = _
          rw [Nat.zero_add, row_cell (heap_new w4 _), secC, List.getElem?_toArray, hj]
        have r2 := World.rangeAt_setCells_apart r1 p (n * 64) (bcells xs) (.inl (by have := hne p (.inr (.inl rfl)); omega))
        have t1 := plate_there hd5 n hn12
        have t2 := plate_there hd6 n hn12
        have a1 : (w4.alloc (.cells (secC xs) 59)).drew.cell? ⟨b, 0, none⟩ = some (.slice (some ⟨p, 0, none⟩) 12 12) := hd5.cells.1
        have a2 : ((w4.alloc (.cells (secC xs) 59)).drew.setCells p (n * 64) (bcells xs)).cell? ⟨b, 0, none⟩ = some (.slice (some ⟨p, 0, none⟩) 12 12) := hd6.cells.1
        have hu := Try.underlying59
        have hl1 : (bcells xs).length = 64 := by rw [bcells_length, hx]
        have hi1 : (Try.prog.info? 59).map (·.size) = some (bcells xs).length := by rw [size59, hl1]
        have ho := bcells_one xs
        have HREL : Hid (FlushRel w1 b p c r d2 ((w4.alloc (.cells (secC xs) 59)).drew.setCells p (n * 64) (bcells xs))) := hid ⟨_, cnt', by rw [partP_step d2 left n xs hcn]; exact hd6, hrg6,
          (((hk.andThen k4 (fun k hk e => by have e' : k = r := e; omega)).trans (((Keep.refl (S := Nil) w4).alloc (.cells (secC xs) 59)).drew.mono (fun _ _ e => e.elim))).trans (KA.mono (fun k _ e => .inr (.inl e)))), hr1⟩
        have HM : Hid (iterLeft ((w4.alloc (.cells (secC xs) 59)).drew.setCells p (n * 64) (bcells xs)) c r < iterLeft wr c r) := hid (by rw [hrg6.left_eq, hrg.left_eq]; exact hlt)
        have hb0 : (0 : Int) ≤ (n : Int) := Int.natCast_nonneg n
        have hb1 : (n : Int) < 12 := by omega
        have hb2 : ¬ 12 ≤ n := by omega
        clear hd hk hrg hl hf hrg4 hrg5 hrg6 k4 hd4 hd5 hd6 hlt hs4 KA hrlt hne hrd hcn c1
        go_wp2_with fail
        go_region_held3 (fun w' => w'.cell? ⟨b, 0, none⟩ = some (.slice (some ⟨p, 0, none⟩) 12 12) ∧ w'.rangeAt w4.heap.size 0 (bcells xs) ∧ w'.there p (n * 64) 64) (first | exact ⟨a1, r1, t1⟩ | exact ⟨a2, r2, t2⟩) (fail)
        go_wp2_with fail
        exact ⟨HREL.out, HM.out⟩
end Go.Proofs.Ytdecljdhdclmoaa
