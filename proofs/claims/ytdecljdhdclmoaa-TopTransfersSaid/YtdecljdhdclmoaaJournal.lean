/-
  wal.journal where the journal has what it should.
-/
import Derived.Test.YtdecljdhdclmoaaUps
namespace Go.Proofs.Ytdecljdhdclmoaa
open Go.RowKit
variable {w w' : World} {b p c : Nat} {d : DS}

/-- the journal's entries are l -/
def JournalD (d : DS) (l : List (Nat × List UInt8)) : Prop := ∀ j (h : j < l.length), viewD d (3 + j) = padL (entryL l[j].1 l[j].2) ∧ l[j].2.length = 48 ∧ l[j].1 ≤ 1000

set_option maxRecDepth 100000 in
set_option maxHeartbeats 4000000 in
theorem journal_good (h : DiskAt w b p c d) (ho : d.off = false) (l : List (Nat × List UInt8)) (hl : l.length ≤ 6) (hj : JournalD d l) :
    Calls Try.prog 29 #[.pointer (some ⟨b, 0, none⟩), .int .i64 (l.length : Nat)] w fun e w' => ∃ v q, e = .returned (.tuple #[v, .int .i64 0]) ∧ UpsAt w' v q l ∧ w.heap.size ≤ q ∧ Keep Nil w w' := by
  have H := hid h
  have HJ := hid hj
  clear h hj
  obtain ⟨n, hn⟩ : ∃ n, l.length = n := ⟨_, rfl⟩
  have hn := hid hn
  rw [hn.out] at hl ⊢
  go_enter Try.func29, Try.ntmps29
  go_wp2_with fail
  go_loopw [6, 12] (fun out iv wr => ∃ (k q : Nat), k ≤ n ∧ iv = .int .i64 k ∧ UpsAt wr out q (l.take k) ∧ w.heap.size ≤ q ∧ Keep Nil w wr ∧ (q < wr.heap.size ∨ (k = 0 ∧ out = .slice none 0 0))) (fun _ iv _ => n - (intOf iv).toNat)
  case atStart => exact ⟨0, w.heap.size, Nat.zero_le _, rfl, ⟨[], rfl, RowAt.nil _ _ _ _, fun j h => absurd h (by simp)⟩, Nat.le_refl _, Keep.refl _, .inr ⟨rfl, rfl⟩⟩
  case round =>
    obtain ⟨k, q, hk, rfl, hu, hq, hkp, hqk⟩ := hrel
    obtain ⟨ao, cap, rfl⟩ := hu.shape
    have hll : (l.take k).length = k := by rw [List.length_take, hn.out]; omega
    rw [hll] at hu ⊢
    have HU := hid hu
    have HK := hid hkp
    have HLL := hid hll
    have HQK := hid hqk
    clear hu hkp hll hqk
    by_cases hkn : k < n
    · have hkl : k < l.length := by rw [hn.out]; exact hkn
      obtain ⟨hvw, hx48, ha⟩ := HJ.out k hkl
      have hT := hid (take_snocL l k hkl)
      generalize hlk : l[k] = x at *
      replace hlk := hid hlk
      obtain ⟨a, xs⟩ := x
      simp only at hvw hx48 ha
      obtain ⟨hh8, hdt, hpl⟩ := entry_has a xs hx48
      have hR := hid (read_some (H.out.nil HK.out) (3 + k) (by omega) ho)
      rw [hvw] at hR
      have HH8 := hid hh8
      have HDT := hid hdt
      have HPL := hid hpl
      have HX := hid hx48
      generalize padL (entryL a xs) = bs at *
      have hw3 : IntKind.i64.wrap (3 + (k : Int)) = ((3 + k : Nat) : Int) := by rw [IntWalk.i64_in _ (by omega)]; rfl
      have hwa : IntKind.i64.wrap (a : Int) = (a : Int) := IntWalk.i64_in _ (by omega)
      clear hvw hx48 hh8 hdt hpl
      go_wp2_with fail
      refine hR.out.mono ?_
      rintro e w1 ⟨q1, v1, rfl, r1, hq1, k1⟩
      obtain ⟨aob, capb, rfl⟩ := r1.shape
      have hcap : 64 ≤ capb := by
        rcases r1 with ⟨h, -⟩ | ⟨_, _, _, e, -, -, h, -⟩
        · omega
        · cases e; exact h
      have hcn : ¬ capb = 8 := by omega
      have hcn2 : 56 ≤ capb := by omega
      have hcn3 : (56 : Int) ≤ (capb : Int) := by omega
      have hcn4 : ¬ (capb : Int) < 56 := by omega
      have hcn5 : ¬ capb < 56 := by omega
      obtain ⟨bb, ob, rfl⟩ : ∃ bb ob, aob = some ⟨bb, ob, none⟩ := by
        rcases r1 with ⟨h, -⟩ | ⟨ob, _, _, e, -⟩
        · omega
        · cases e; exact ⟨_, _, rfl⟩
      rw [← HPL.out] at r1
      have hbt := Bts.of_row (B := 0) r1
      have HC : Hid (∃ ao' cap', Value.slice (some ⟨bb, ob, none⟩) 64 capb = .slice ao' bs.length cap' ∧ bs.length ≤ cap') := hid ⟨_, capb, by rw [HPL.out], by rw [HPL.out]; exact hcap⟩
      have hct := hid (hbt.cut 8 48 (capb - 8) (by rw [HPL.out]; omega))
      rw [HDT.out] at hct
      rw [HPL.out] at hbt
      have B1 := hid hbt
      have HKR := hid k1
      have K1 := hid (HK.out.trans k1)
      have U1 := hid (HU.out.keep k1 (fun e => e) Mut.nil)
      clear r1 k1 hq1 hbt
      go_wp2_with fail
      refine (new_rd w1 (some ⟨bb, ob, none⟩) 64 capb).mono ?_
      rintro e w2 ⟨z, rfl, hz, hr2, k2⟩
      have K2 := hid (K1.out.trans k2)
      have B2 := hid (B1.out.keep k2 Mut.nil)
      have C2 := hid (hct.out.keep k2 Mut.nil)
      have U2 := hid (U1.out.keep k2 (fun e => e) Mut.nil)
      have R2 := hid hr2
      have hzw : w.heap.size ≤ z := Nat.le_trans K1.out.size hz
      obtain ⟨q', hu', hqz, hqw⟩ : ∃ q', UpsAt w2 (.slice ao k cap) q' (l.take k) ∧ q' ≠ z ∧ w.heap.size ≤ q' := by
        rcases HQK.out with h | ⟨h, h'⟩
        · exact ⟨q, U2.out, by have := HKR.out.size; omega, hq⟩
        · subst h
          cases h'
          exact ⟨z + 1, ⟨[], rfl, RowAt.nil _ _ _ _, fun j h => absurd h (by simp)⟩, by omega, by omega⟩
      obtain ⟨us, g1, g2, g3⟩ := hu'
      rw [HLL.out] at g1 g2
      have HG1 := hid g1
      have HG3 := hid g3
      have ROW := hid g2
      have KW : Hid (Keep Nil w w2.drew) := hid K2.out.drew
      clear k2 hr2 hct g1 g2 g3
      go_wp2_with fail
      go_region_held3 (fun _ => True) (exact trivial)
        ((first
          | (go_at_call 37; refine (get_good z 0 a _ bs B2.out.drew HC.out (row_drew R2.out) HH8.out (by rw [HPL.out]; omega) (by omega)).mono ?_; rintro e w3 ⟨rfl, hr3, k3⟩; have K3 := hid (KW.out.andThen k3 (fun i hi e => by have e' : i = z := e; omega)); have C3 := hid (C2.out.drew.keep k3 (RdAt.mut (row_drew R2.out))); have ROW3 := hid (RowAt.keep (w := w2.drew) ROW.out k3 hqz); have KZ := hid k3; clear hr3 k3)
          | (refine step_append_row (w3.alloc (.cells #[.int .i64 (a : Nat), .slice (some ⟨bb, ob + 8, none⟩) 48 (capb - 8)] 35)) rfl _ _ 56 56 rfl 35 (.agg #[.int .i64 0, .slice none 0 0]) 2 32 Try.underlying56 info35 rfl q' (.slice ao k cap) k (upCells (l.take k) us) rfl (RowAt.keep (S := Nil) ROW3.out ((Keep.refl w3).alloc _) (fun e => e)) _ 1 _ rfl (src_up w3 a _ rfl) (by simp only [maxLen]; omega) (by omega) ?_; intro q3 ao3 cap3 w4 r4 k4 h4; have R4 := hid r4; have K4 := hid k4; have Q4 := hid h4; clear r4 k4 h4)))
      all_goals
        have hmt : Mut 0 (w3.alloc (.cells #[.int .i64 (a : Nat), .slice (some ⟨bb, ob + 8, none⟩) 48 (capb - 8)] 35)) (Typ (w3.alloc (.cells #[.int .i64 (a : Nat), .slice (some ⟨bb, ob + 8, none⟩) 48 (capb - 8)] 35)) q' 35) := by
          rintro i ⟨rfl, cur, e⟩
          exact ⟨Nat.zero_le _, fun cur' fr e' => by rw [e] at e'; simp at e'⟩
        have hKA : Keep Nil w3 (w3.alloc (.cells #[.int .i64 (a : Nat), .slice (some ⟨bb, ob + 8, none⟩) 48 (capb - 8)] 35)) := (Keep.refl w3).alloc _
        have hups : UpsAt w4 (.slice ao3 (k + 1) cap3) q3 (l.take (k + 1)) := by
          rw [hT.out]
          refine ⟨us ++ [.slice (some ⟨bb, ob + 8, none⟩) 48 (capb - 8)], by rw [List.length_append, List.length_append, HG1.out, HLL.out]; rfl, ?_, fun j h1 h2 => ?_⟩
          · rw [upCells_snoc _ _ _ _ (by rw [HG1.out, HLL.out]), List.length_append, HLL.out]
            exact R4.out
          · by_cases hjk : j < us.length
            · have hjl : j < (l.take k).length := by rw [HLL.out, ← HG1.out]; exact hjk
              rw [List.getElem_append_left hjk, List.getElem_append_left hjl]
              exact ((((HG3.out j hjk hjl).drew.keep KZ.out (RdAt.mut (row_drew R2.out))).keep hKA Mut.nil).keep K4.out hmt)
            · have hj1 : j = us.length := by rw [List.length_append] at h1; simp at h1; omega
              have hj2 : j = (l.take k).length := by rw [hj1, HG1.out, HLL.out]
              rw [List.getElem_append_right (by omega), List.getElem_append_right (by omega)]
              simp only [hj1, Nat.sub_self, List.getElem_cons_zero]
              have h0 : (us.length - (l.take k).length) = 0 := by omega
              simp only [h0, List.getElem_cons_zero]
              exact (C3.out.keep hKA Mut.nil).keep K4.out hmt
        have hq3 : w.heap.size ≤ q3 := by
          have e1 := K3.out.size
          have e2 := hKA.size
          rcases Q4.out with h | ⟨h, -⟩ <;> omega
        have hKW : Keep Nil w w4 := (K3.out.trans hKA).andThen K4.out (fun i hi e => by have e' : i = q' := e.1; omega)
        have hlt : q3 < w4.heap.size := by
          rcases R4.out with ⟨h, -⟩ | ⟨_, _, _, _, h, -⟩
          · omega
          · exact row_lt h
        have HE := hid (show ∃ (k' q : Nat), k' ≤ n ∧ Value.int .i64 ((k : Int) + 1) = .int .i64 k' ∧ UpsAt w4 (.slice ao3 (k + 1) cap3) q (l.take k') ∧ w.heap.size ≤ q ∧ Keep Nil w w4 ∧ (q < w4.heap.size ∨ (k' = 0 ∧ Value.slice ao3 (k + 1) cap3 = .slice none 0 0)) from ⟨k + 1, q3, by omega, by go_num, hups, hq3, hKW, .inl hlt⟩)
        clear hmt hKA hups hq3 hKW hlt R4 K4 Q4 KZ ROW3 C3 K3
        go_wp2_with fail
        go_roundw
        case rel => exact HE.out
        case measure => simp [intOf] <;> omega
    · obtain rfl : k = n := by omega
      have hu := HU.out
      rw [List.take_of_length_le (by rw [hn.out]; exact Nat.le_refl _)] at hu
      have hu := hid hu
      go_wp2
      go_ret2
      exact ⟨_, q, rfl, hu.out, hq, HK.out⟩
end Go.Proofs.Ytdecljdhdclmoaa
