/-
  Log.commit.
-/
import Derived.Test.YtdecljdhdclmoaaCommitL
import Derived.Test.YtdecljdhdclmoaaPlain
namespace Go.Proofs.Ytdecljdhdclmoaa
open Go.RowKit
variable {w w' : World} {b p c : Nat} {d d1 d2 : DS}

def CommitPost (w : World) (b p c g n : Nat) (l : List (Nat × List UInt8)) (r : Bool × DS) (e : Ending) (w' : World) : Prop :=
  e = .returned (okV r.1) ∧ DiskAt w' b p c r.2 ∧ (∃ n' x, LogAt w' g b n' x false ∧ (r.1 = true → n' = n + 1 ∧ x = decide (0 < l.length))) ∧ Keep (Dg b p c g) w w'

set_option maxRecDepth 100000 in
set_option maxHeartbeats 4000000 in
theorem commit_some {g n q : Nat} {pend : Bool} (hg : LogAt w g b n pend false) (h : DiskAt w b p c d) (hn : n ≤ 100000) (v : Value) (l : List (Nat × List UInt8)) (hu : UpsAt w v q l) (hq : ¬ Dg b p c g q) (hl : UpsOk l) :
    Calls Try.prog 20 #[.pointer (some ⟨g, 0, none⟩), v] w (CommitPost w b p c g n l (commitD d n pend l)) := by
  obtain ⟨ao, cap, rfl⟩ := hu.shape
  have HD := hid h
  have HG := hid hg
  have HN := hid (log_dk hg h)
  have HU := hid hu
  have HL := hid hl
  have HQ := hid hq
  have h6 : l.length ≤ 6 := hl.few
  have hS := hid (settle_some hg h (by omega))
  unfold commitD
  generalize settleD d n pend = rs at *
  obtain ⟨o1, d1⟩ := rs
  simp only at hS ⊢
  clear hg h hu hl hq
  cases o1
  · rw [if_neg (by simp)]
    have HP : Hid (∀ w', DiskAt w' b p c d1 → LogAt w' g b n (pend && !false) false → Keep (Dg b p c g) w w' → CommitPost w b p c g n l (false, d1) (.returned (.int .i64 8)) w') := hid (fun w' h1 h2 h3 => ⟨rfl, h1, ⟨n, _, h2, fun e => by cases e⟩, h3⟩)
    go_enter Try.func20, Try.ntmps20
    go_wp2_with fail
    refine hS.out.mono ?_
    rintro e w1 ⟨rfl, h1, h2, h3⟩
    rw [show okV false = .int .i64 8 from rfl] at *
    have HE := hid (HP.out w1 h1 h2 h3)
    clear h1 h2 h3
    go_wp2
    go_ret
    exact HE.out
  · rw [if_pos rfl]
    have hmk := run_make48
    go_enter Try.func20, Try.ntmps20
    go_wp2_with fail
    refine hS.out.mono ?_
    rintro e w1 ⟨rfl, h1, h2, h3⟩
    rw [show okV true = .int .i64 0 from rfl] at *
    have D1 : Hid (DiskAt w1 b p c d1) := hid h1
    have G1 := hid h2
    have K1 := hid h3
    clear h1 h2 h3
    go_wp2_with fail
    go_loopw [6, 7, 21] (fun sv fv iv wr => ∃ (k qs qf : Nat), k ≤ l.length ∧ iv = .int .i64 k ∧ SecsAt wr sv qs (secsL (l.take k)) ∧ UpsAt wr fv qf (fullL (l.take k)) ∧ w1.heap.size ≤ qs ∧ w1.heap.size ≤ qf ∧ Keep Nil w1 wr) (fun _ _ iv _ => l.length - (intOf iv).toNat)
    case atStart => exact ⟨0, w1.heap.size, w1.heap.size, Nat.zero_le _, rfl, ⟨[], rfl, RowAt.nil _ _ _ _, fun j h => absurd h (by simp)⟩, ⟨[], rfl, RowAt.nil _ _ _ _, fun j h => absurd h (by simp)⟩, Nat.le_refl _, Nat.le_refl _, Keep.refl _⟩
    case round =>
      obtain ⟨k, qs, qf, hk, rfl, hs, hf, hqs, hqf, hkp⟩ := hrel
      have hll : (l.take k).length = k := by rw [List.length_take]; omega
      obtain ⟨us6, s1, s2, s3⟩ := hs
      obtain ⟨aos, caps, rfl⟩ := s2.shape
      obtain ⟨us7, f1, f2, f3⟩ := hf
      obtain ⟨aof, capf, rfl⟩ := f2.shape
      rw [show (secsL (l.take k)).length = k by simp [secsL]; omega] at s1 s2 ⊢
      rw [show (fullL (l.take k)).length = k by simp [fullL]; omega] at f1 f2 ⊢
      have HS := hid (And.intro s1 (And.intro s2 s3))
      have HF := hid (And.intro f1 (And.intro f2 f3))
      have HK := hid hkp
      by_cases hkn : k < l.length
      · obtain ⟨ha, hxl⟩ := HL.out.each l[k] (List.getElem_mem hkn)
        have KU : Keep (Dg b p c g) w wr := K1.out.trans (HK.out.mono (fun _ _ e => e.elim))
        have hmu : Mut 0 w (Dg b p c g) := by
          rintro i (hi | rfl)
          · exact HD.out.mut i hi
          · exact ⟨Nat.zero_le _, fun cur fr e => by rw [show w.heap[i]? = _ from HG.out] at e; simp at e⟩
        obtain ⟨off, u, aou, capu, rfl, c0, c1, rfl, hb⟩ := (HU.out.keep KU HQ.out hmu).cell k hkn
        have hT := hid (take_snocL l k hkn)
        generalize hlk : l[k] = z at *
        replace hlk := hid hlk
        obtain ⟨a, xs⟩ := z
        simp only at *
        have HB := hid hb
        have hw1 : IntKind.u64.wrap (a : Int) = (a : Int) := IntWalk.u64_in _ (by omega)
        clear s1 s2 s3 f1 f2 f3 hll hkp hb KU hmu
        have hcp := hid (fun o1 => copy_pos (wr.alloc (.cells #[.int .i64 (a : Nat), .slice aou xs.length capu] 35)) (HB.out.alloc _) o1)
        have hsz : (wr.alloc (.cells #[.int .i64 (a : Nat), .slice aou xs.length capu] 35)).heap.size = wr.heap.size + 1 := by simp
        have hZ := hid (heap_new' (wr.alloc (.cells #[.int .i64 (a : Nat), .slice aou xs.length capu] 35)) (.cells (secC Z48) 5) (wr.heap.size + 1) hsz.symm)
        go_wp2_with (refine wpList_copy_splice rfl (.tmp 26) (.tmp 28) 22 22 rfl 5 Try.underlying22 size5 (some ⟨wr.heap.size + 1, 0, none⟩) aou 48 48 xs.length capu rfl rfl (wr.heap.size + 1) 0 (bcells Z48) 5 hZ.out (bcells xs) ?hn (fun hp => ⟨rfl, hcp.out _ (by rw [← bcells_length xs]; exact hp)⟩) ?hfit (bcells_one xs) (wr.heap.size + 1) _ (Below.refl _ _) (Nat.le_refl _) ?_)
        case hn => rw [bcells_length]; exact (Nat.min_eq_left hxl).symm
        case hfit => rw [bcells_length, bcells_length]; simp [Z48]; omega
        intro w2 hw2 k2
        have Z2 : Hid (w2.heap[wr.heap.size + 1]? = some (.cells (bcells (pad48 xs)).toArray 5 (0, 0))) := hid (by rw [← pad48_splice]; exact hw2.out)
        have K2 : Hid (Keep Nil wr w2) := hid ((((Keep.refl (S := Nil) wr).alloc _).alloc _).andThen (Keep.of_below k2) (fun i hi e => by omega))
        have Y2 := k2.block wr.heap.size (by omega)
        have Y3 : w2.heap[wr.heap.size]? = some (.cells #[.int .i64 (a : Nat), .slice aou xs.length capu] 35 (0, 0)) := Y2.trans (row_alloc (heap_new wr _) _)
        have y0 := row_cell Y3 0
        have y1 := row_cell Y3 1
        have B2 : Hid (Bts 0 w2 (.slice (some ⟨wr.heap.size + 1, 0, none⟩) 48 48) (pad48 xs)) := hid (by
          refine ⟨_, 48, by rw [pad48_length xs hxl], fun _ => ⟨_, 0, rfl, .inr ⟨_, _, Z2.out⟩, fun j hj => ?_⟩⟩
          rw [row_cell Z2.out, Nat.zero_add, ← bcells_get _ j hj, List.getElem?_toArray])
        have hsz2 : wr.heap.size + 2 ≤ w2.heap.size := by have := k2.size; simp at this; omega
        have hlt2 : wr.heap.size < w2.heap.size := by omega
        clear hw2 k2 Y2 hcp hZ hsz
        go_wp2_with fail
        have N0 := heap_new w2 (.cells #[.slice none 0 0] 63)
        have N1 : ((w2.alloc (.cells #[.slice none 0 0] 63)).alloc (.cells #[.int .u64 (a : Nat)] 65)).heap[w2.heap.size]? = _ := row_alloc N0 _
        have hnm : Nums ((w2.alloc (.cells #[.slice none 0 0] 63)).alloc (.cells #[.int .u64 (a : Nat)] 65)) (.slice (some ⟨w2.heap.size + 1, 0, none⟩) 1 1) [a] := ⟨_, 1, rfl, fun j hj => by
          rw [row_cell (heap_new' _ _ _ (by simp))]
          obtain rfl : j = 0 := by simp at hj; omega
          rfl⟩
        have hKA : Keep Nil w2 ((w2.alloc (.cells #[.slice none 0 0] 63)).alloc (.cells #[.int .u64 (a : Nat)] 65)) := ((Keep.refl w2).alloc _).alloc _
        refine (put_new _ w2.heap.size _ [a] N1 hnm ⟨_, _, rfl, by omega⟩ (by simp) (by intro x hx; simp at hx; omega)).mono ?_
        rintro e w3 ⟨rfl, q3, v3, hw3, hq3, k3⟩
        obtain ⟨ao3, cap3, rfl⟩ := hw3.2.shape
        have HW3 := hid hw3
        have K23 : Hid (Keep Nil w2 w3) := hid (hKA.andThen k3 (fun i hi e => by have e' : i = w2.heap.size := e; omega))
        have Y3' := K23.out.row Y3 (fun e => e)
        have z0 := row_cell Y3' 0
        have B3 := hid (B2.out.keep K23.out Mut.nil)
        clear N0 N1 hnm hKA hw3 hq3 k3 y0 y1
        go_wp2_with fail
        refine (bytes_wr w3 _ _ _ _ HW3.out (by rw [putL_length]; simp)).mono ?_
        rintro e w4 ⟨q4, ao4, cap4, rfl, r4, hq4, k4⟩
        have h8 : (putL [a]).length = 8 := by rw [putL_length]; rfl
        rw [h8] at r4 ⊢
        have K24 : Hid (Keep Nil w2 w4) := hid (K23.out.trans k4)
        have B4 := hid (B3.out.keep k4 Mut.nil)
        have P4 : Hid (Bts 0 w4 (.slice ao4 8 cap4) (putL [a])) := hid (Bts.of_row r4)
        have Y4 := k4.row Y3' (fun e => e)
        clear r4 k4 hq4 z0 Y3'
        go_wp2_with fail
        refine (concat_some _ _ _ [putL [a], pad48 xs] (rows_two w4 _ _ 22) (AllBts.two (P4.out.alloc _) (B4.out.alloc _)) (by simp) (by simp; omega) (by simp [pad48_length xs hxl]; omega)).mono ?_
        rintro e w5 ⟨q5, v5, rfl, r5, hq5, k5⟩
        obtain ⟨ao5, cap5, rfl⟩ := r5.shape
        have hfl : [putL [a], pad48 xs].flatten = entryL a (pad48 xs) := by simp [entryL]
        have hel : (entryL a (pad48 xs)).length = 56 := by rw [entryL, List.length_append, putL_length, pad48_length xs hxl]; rfl
        rw [hfl] at r5
        rw [hfl, hel]
        have E5 := hid (Bts.of_row (B := 0) r5)
        rw [hel] at E5 r5
        have K25 : Hid (Keep Nil w2 w5) := hid ((K24.out.alloc _).trans k5)
        have B5 := hid ((B4.out.alloc _).keep k5 Mut.nil)
        have Y5 := k5.row (row_alloc Y4 _) (fun e => e)
        clear r5 k5 hq5 Y4
        have S5 := hid (HS.out.2.1.keep (K2.out.trans K25.out) (fun e => e))
        have y5 := row_cell Y5 0
        go_wp2_with (at_builtin; refine wpList_append_row (w5.alloc (.cells #[.slice ao5 56 cap5] 22)) rfl _ _ 50 50 rfl 22 (.slice none 0 0) 1 24 Try.underlying50 info22 rfl qs (.slice aos k caps) k us6 rfl (RowAt.keep (S := Nil) S5.out ((Keep.refl w5).alloc _) (fun e => e)) _ 1 _ rfl (src_sl w5 _ rfl) (by simp only [maxLen]; omega) (by omega) ?_)
        intro q6 ao6 cap6 w6 r6 k6 h6'
        have Y6 := k6.row (row_alloc Y5 _) (by rintro ⟨e, cur, e1⟩; rw [row_alloc Y5] at e1; simp at e1)
        have y6 := row_cell Y6 0
        have hlt6 := row_lt Y6
        have S6 := hid r6
        have K6 := hid k6
        have Q6 := hid h6'
        have F5 := hid (HF.out.2.1.keep (K2.out.trans K25.out) (fun e => e))
        have F6 := hid (RowAt.keepTyp (RowAt.keep (S := Nil) F5.out ((Keep.refl w5).alloc _) (fun e => e)) k6 (by decide))
        clear r6 k6 h6' y5
        go_wp2_with (at_builtin; refine wpList_append_row (w6.alloc (.cells #[.int .i64 (a : Nat), .slice (some ⟨wr.heap.size + 1, 0, none⟩) 48 48] 35)) rfl _ _ 56 56 rfl 35 (.agg #[.int .i64 0, .slice none 0 0]) 2 32 Try.underlying56 info35 rfl qf (.slice aof k capf) k (upCells (fullL (l.take k)) us7) rfl (RowAt.keep (S := Nil) F6.out ((Keep.refl w6).alloc _) (fun e => e)) _ 1 _ rfl (src_up w6 a _ rfl) (by simp only [maxLen]; omega) (by omega) ?_)
        intro q7 ao7 cap7 w7 r7 k7 h7
        have KWA : Keep Nil wr (w5.alloc (.cells #[.slice ao5 56 cap5] 22)) := (K2.out.trans K25.out).alloc _
        have SEC6 : SecsAt w6 (.slice ao6 (k + 1) cap6) q6 (secsL (l.take k) ++ [entryL a (pad48 xs)]) := SecsAt.snoc (w := w5.alloc (.cells #[.slice ao5 56 cap5] 22)) (by rw [HS.out.1]; simp [secsL]; omega) (fun j h h' => (HS.out.2.2 j h h').keep KWA Mut.nil) K6.out (by rw [show (secsL (l.take k)).length = k by simp [secsL]; omega]; exact S6.out) (E5.out.alloc _)
        have KB : Keep Nil w6 (w6.alloc (.cells #[.int .i64 (a : Nat), .slice (some ⟨wr.heap.size + 1, 0, none⟩) 48 48] 35)) := (Keep.refl w6).alloc _
        have SEC7 : SecsAt w7 (.slice ao6 (k + 1) cap6) q6 (secsL (l.take k) ++ [entryL a (pad48 xs)]) := (SEC6.keep KB (fun e => e) Mut.nil).keepTyp k7
        have UPS7 : UpsAt w7 (.slice ao7 (k + 1) cap7) q7 (fullL (l.take k) ++ [(a, pad48 xs)]) := UpsAt.snoc (w := w6.alloc (.cells #[.int .i64 (a : Nat), .slice (some ⟨wr.heap.size + 1, 0, none⟩) 48 48] 35)) (by rw [HF.out.1]; simp [fullL]; omega) (fun j h h' => ((((HF.out.2.2 j h h').keep KWA Mut.nil).keep K6.out (Typ.mut (by decide))).keep KB Mut.nil)) k7 (by rw [show (fullL (l.take k)).length = k by simp [fullL]; omega]; exact r7) (((B5.out.alloc _).keep K6.out (Typ.mut (by decide))).keep KB Mut.nil)
        have KS : Keep Nil w1 w6 := (HK.out.trans KWA).andThen K6.out (fun i hi e => by have e1 := e.1; omega)
        have KT : Keep Nil w1 w7 := (KS.trans KB).andThen k7 (fun i hi e => by have e1 := e.1; omega)
        have hq6 : w1.heap.size ≤ q6 := by
          have e1 := HK.out.size
          have e2 := KWA.size
          rcases Q6.out with h | ⟨h, -⟩
          · exact Nat.le_trans hqs (Nat.le_of_eq h.symm)
          · exact Nat.le_trans e1 (Nat.le_trans e2 (by rw [show (w5.alloc (.cells #[.slice ao5 56 cap5] 22)).heap.size = w5.heap.size + 1 by simp]; exact h))
        have hq7 : w1.heap.size ≤ q7 := by
          have e1 := KS.size
          have e2 := KB.size
          rcases h7 with h | ⟨h, -⟩
          · exact Nat.le_trans hqf (Nat.le_of_eq h.symm)
          · exact Nat.le_trans e1 (Nat.le_trans e2 (by rw [show (w6.alloc (.cells #[.int .i64 (a : Nat), .slice (some ⟨wr.heap.size + 1, 0, none⟩) 48 48] 35)).heap.size = w6.heap.size + 1 by simp]; exact h))
        have HE := hid (show ∃ (k' qs qf : Nat), k' ≤ l.length ∧ Value.int .i64 ((k : Int) + 1) = .int .i64 k' ∧ SecsAt w7 (.slice ao6 (k + 1) cap6) qs (secsL (l.take k')) ∧ UpsAt w7 (.slice ao7 (k + 1) cap7) qf (fullL (l.take k')) ∧ w1.heap.size ≤ qs ∧ w1.heap.size ≤ qf ∧ Keep Nil w1 w7 from
          ⟨k + 1, q6, q7, by omega, by go_num, by rw [hT.out, secsL, List.map_append]; exact SEC7, by rw [hT.out, fullL, List.map_append]; exact UPS7, hq6, hq7, KT⟩)
        clear KWA SEC6 KB SEC7 UPS7 KS KT hq6 hq7 r7 k7 h7 y6
        go_wp2_with fail
        go_roundw
        case rel => exact HE.out
        case measure => simp [intOf] <;> omega
      · obtain rfl : k = l.length := by omega
        have htl : l.take l.length = l := List.take_length
        have SECS : SecsAt wr (.slice aos l.length caps) qs (secsL l) := by
          have h := (⟨us6, HS.out.1.trans (by simp [secsL]), by rw [show (secsL (l.take l.length)).length = l.length by simp [secsL]]; exact HS.out.2.1, HS.out.2.2⟩ : SecsAt wr (.slice aos l.length caps) qs (secsL (l.take l.length)))
          rwa [htl] at h
        have UPS : UpsAt wr (.slice aof l.length capf) qf (fullL l) := by
          have h := (⟨us7, HF.out.1.trans (by simp [fullL]), by rw [show (fullL (l.take l.length)).length = l.length by simp [fullL]]; exact HF.out.2.1, HF.out.2.2⟩ : UpsAt wr (.slice aof l.length capf) qf (fullL (l.take l.length)))
          rwa [htl] at h
        have DR := hid (D1.out.nil HK.out)
        have GR := hid (G1.out.keep HK.out (fun e => e))
        have HQS : ¬ Dk b p c qs := D1.out.new hqs
        have HQF : Hid (¬ Dk b p c qf) := hid (D1.out.new hqf)
        obtain ⟨us, hrows, hall⟩ := SECS.rows HQS
        obtain ⟨e0, e1, e2, e3, e4⟩ := GR.out.cells
        have UPSH := hid UPS
        have KR : Hid (Keep (Dg b p c g) w wr) := hid (K1.out.trans (HK.out.mono (fun _ _ e => e.elim)))
        have hW := hid (writes_some DR.out 3 _ us (secsL l) hrows hall (by simp [secsL]; omega) (by intro xs hx; obtain ⟨a, ha, rfl⟩ := List.mem_map.1 hx; have := (HL.out.each a ha).2; rw [entryL, List.length_append, putL_length, pad48_length a.2 this]; simp))
        have HP := hid (fun (w' : World) (dd : DS) (h1 : DiskAt w' b p c dd) (n' : Nat) (x : Bool) (h2 : LogAt w' g b n' x false) (h3 : Keep (Dg b p c g) w w') (h4 : commitT d1 n l = (false, dd)) =>
          (show CommitPost w b p c g n l (commitT d1 n l) (.returned (.int .i64 8)) w' from by rw [h4]; exact ⟨rfl, h1, ⟨n', x, h2, fun e => by cases e⟩, h3⟩))
        have HQ2 := hid (fun (w' : World) (dd : DS) (h1 : DiskAt w' b p c dd) (h2 : LogAt w' g b (n + 1) (decide (0 < l.length)) false) (h3 : Keep (Dg b p c g) w w') (h4 : commitT d1 n l = (true, dd)) =>
          (show CommitPost w b p c g n l (commitT d1 n l) (.returned (.int .i64 0)) w' from by rw [h4]; exact ⟨rfl, h1, ⟨_, _, h2, fun e => ⟨rfl, rfl⟩⟩, h3⟩))
        have hC : commitT d1 n l = (if (putsD d1 3 (secsL l)).1 then (if (headD (putsD d1 3 (secsL l)).2 (n + 1) l.length).1 then (true, (layD (headD (putsD d1 3 (secsL l)).2 (n + 1) l.length).2 (fullL l)).2) else (false, (headD (putsD d1 3 (secsL l)).2 (n + 1) l.length).2)) else (false, (putsD d1 3 (secsL l)).2)) := rfl
        generalize commitT d1 n l = R at *
        generalize putsD d1 3 (secsL l) = rp at *
        obtain ⟨o2, d2⟩ := rp
        simp only at hW hC
        clear s1 s2 s3 f1 f2 f3 hll hkp SECS UPS hrows hall
        cases o2
        · simp only [Bool.false_eq_true, if_false] at hC
          have hC := hid hC
          go_wp2_with fail
          refine hW.out.mono ?_
          rintro e w2 ⟨rfl, h2, k2⟩
          rw [show okV false = .int .i64 8 from rfl] at *
          have HE := hid (HP.out w2 d2 h2 _ _ (GR.out.keep k2 HN.out) (KR.out.trans (k2.mono (fun _ _ e => .inl e))) hC.out)
          clear h2 k2
          go_wp2
          go_ret
          exact HE.out
        · simp only [if_true] at hC
          have hH := hid (fun (w2 : World) (h2 : DiskAt w2 b p c d2) => head_some h2 (n + 1) l.length (by omega) (by omega))
          generalize headD d2 (n + 1) l.length = rh at *
          obtain ⟨o3, d3⟩ := rh
          simp only at hH hC
          have hwn : IntKind.i64.wrap ((n : Int) + 1) = ((n + 1 : Nat) : Int) := by rw [IntWalk.i64_in _ (by omega)]; rfl
          cases o3
          · simp only [Bool.false_eq_true, if_false] at hC
            have hC := hid hC
            go_wp2_with fail
            refine hW.out.mono ?_
            rintro e w2 ⟨rfl, h2, k2⟩
            rw [show okV true = .int .i64 0 from rfl] at *
            rw [show okV false = .int .i64 8 from rfl] at *
            have D2 : Hid (DiskAt w2 b p c d2) := hid h2
            have G2 := hid (GR.out.keep k2 HN.out)
            have K2 := hid (KR.out.trans (k2.mono (fun _ _ e => .inl e)))
            obtain ⟨a0, a1, a2, a3, a4⟩ := G2.out.cells
            clear h2 k2 e0 e1 e2 e3 e4
            go_wp2_with fail
            go_region_held3 (fun w' => w'.cell? ⟨g, 0, none⟩ = some (.pointer (some ⟨b, 0, none⟩)) ∧ w'.cell? ⟨g, 1, none⟩ = some (.int .i64 (n : Nat))) (first | exact ⟨a0, a1⟩ | exact ⟨f0, f1⟩)
              ((go_at_call 16; refine (hH.out w2.drew (D2.out.nil (Keep.refl w2).drew)).mono ?_; rintro e w3 ⟨rfl, h3, k3⟩; have D3 := hid h3; have G3 := hid (LogAt.keep (w := w2.drew) G2.out k3 HN.out); have K3 : Hid (Keep (Dg b p c g) w w3) := hid (K2.out.drew.trans (k3.mono (fun _ _ e => .inl e))); obtain ⟨f0, f1, f2, f3, f4⟩ := G3.out.cells; clear h3 k3))
            have HE := hid (HP.out w3 d3 D3.out _ _ G3.out K3.out hC.out)
            go_wp2
            go_ret
            exact HE.out
          · simp only [if_true] at hC
            have hC := hid hC
            have hlen : decide ((0 : Int) < (l.length : Int)) = decide (0 < l.length) := by simp
            go_wp2_with fail
            refine hW.out.mono ?_
            rintro e w2 ⟨rfl, h2, k2⟩
            rw [show okV true = .int .i64 0 from rfl] at *
            have D2 : Hid (DiskAt w2 b p c d2) := hid h2
            have G2 := hid (GR.out.keep k2 HN.out)
            have K2 := hid (KR.out.trans (k2.mono (fun _ _ e => .inl e)))
            have U2 := hid (UPSH.out.keep k2 HQF.out DR.out.mut)
            obtain ⟨a0, a1, a2, a3, a4⟩ := G2.out.cells
            clear h2 k2 e0 e1 e2 e3 e4
            go_wp2_with fail
            go_region_held3 (fun w' => w'.cell? ⟨g, 0, none⟩ = some (.pointer (some ⟨b, 0, none⟩)) ∧ w'.cell? ⟨g, 1, none⟩ = some (.int .i64 (n : Nat))) (first | exact ⟨a0, a1⟩ | exact ⟨f0, f1⟩)
              ((go_at_call 16; refine (hH.out w2.drew (D2.out.nil (Keep.refl w2).drew)).mono ?_; rintro e w3 ⟨rfl, h3, k3⟩; have D3 := hid h3; have G3 := hid (LogAt.keep (w := w2.drew) G2.out k3 HN.out); have U3 := hid (UpsAt.keep (w := w2.drew) U2.out k3 HQF.out (DiskAt.mut (D2.out.nil (Keep.refl w2).drew))); have K3 : Hid (Keep (Dg b p c g) w w3) := hid (K2.out.drew.trans (k3.mono (fun _ _ e => .inl e))); obtain ⟨f0, f1, f2, f3, f4⟩ := G3.out.cells; clear h3 k3))
            have KS : Keep (One g) w3 ((w3.setCell ⟨g, 1, none⟩ (.int .i64 ((n + 1 : Nat) : Int))).setCell ⟨g, 2, none⟩ (.bool (decide (0 < l.length)))) := (keep_set _ _ _).trans (keep_set _ _ _)
            have D4 := hid (D3.out.keep KS (fun i hi e => HN.out (by have e' : i = g := e; rw [← e']; exact hi)))
            have G4 : Hid (LogAt ((w3.setCell ⟨g, 1, none⟩ (.int .i64 ((n + 1 : Nat) : Int))).setCell ⟨g, 2, none⟩ (.bool (decide (0 < l.length)))) g b (n + 1) (decide (0 < l.length)) false) := hid (row_set (row_set G3.out 1 _) 2 _)
            have K4 := hid (K3.out.trans (KS.mono (fun _ _ e => .inr e)))
            have hmg : Mut 0 w3 (One g) := by
              rintro i rfl
              exact ⟨Nat.zero_le _, fun cur fr e => by rw [show w3.heap[i]? = _ from G3.out] at e; simp at e⟩
            have U4 := hid (U3.out.keep KS (fun e => by have e' : qf = g := e; have := row_lt G1.out; omega) hmg)
            have hY := hid (lay_some D4.out _ qf (fullL l) U4.out HQF.out (by simp [fullL]; omega) (by intro a ha; obtain ⟨a', ha', rfl⟩ := List.mem_map.1 ha; obtain ⟨e5, e6⟩ := HL.out.each a' ha'; exact ⟨e5, by rw [pad48_length _ e6]; omega⟩))
            clear KS hmg
            go_wp2_with fail
            refine hY.out.mono ?_
            rintro e w5 ⟨rfl, h5, k5⟩
            have HE := hid (HQ2.out w5 _ h5 (G4.out.keep k5 HN.out) (K4.out.trans (k5.mono (fun _ _ e => .inl e))) hC.out)
            clear h5 k5
            go_wp2
            go_ret
            exact HE.out
end Go.Proofs.Ytdecljdhdclmoaa
