/-
  AllocPlays: an allocator answers every call, in every order, as the reference's does, and stands behind each as that does: the walk.
-/
import Derived.Test.YtompkoihmjenjaaRef2
import Derived.Deep.QuietTactic
import Derived.BigQuiet
namespace Go.Proofs.Ytompkoihmjenjaa
open Go.RowKit

theorem Ref.keep {S : Nat → Prop} {w w' : World} {r rc rm : Nat} {cs : List Int} (h : Ref w r rc rm cs) (k : Keep S w w') (h1 : ¬ S r) (h2 : ¬ S rc) (h3 : ¬ S rm) : Ref w' r rc rm cs :=
  ⟨k.row h.ptr h1, k.row h.row h2, k.row h.marks h3, h.len⟩
theorem Has.keep {S : Nat → Prop} {w w' : World} {p c : Nat} {cs : List Int} (h : Has w p c cs) (k : Keep S w w') (h1 : ¬ S p) (h2 : ¬ S c) : Has w' p c cs :=
  ⟨k.row h.ptr h1, k.row h.row h2, h.len⟩
/-- both allocators -/
structure Both (p c r rc rm : Nat) (xs ys : List Int) (w : World) : Prop where
  has : Has w p c xs
  ref : Ref w r rc rm ys
  ne : c ≠ rc
theorem Both.d1 {p c r rc rm : Nat} {xs ys : List Int} {w : World} (h : Both p c r rc rm xs ys w) : r ≠ c ∧ rm ≠ c ∧ p ≠ r ∧ p ≠ rc ∧ p ≠ rm := by
  refine ⟨fun e => ?_, fun e => ?_, fun e => ?_, fun e => ?_, fun e => ?_⟩
  · have h1 := h.ref.ptr; rw [e, h.has.row] at h1; simp at h1
  · have h1 := h.ref.marks; rw [e, h.has.row] at h1; simp at h1
  · have h1 := h.ref.ptr; rw [← e, h.has.ptr] at h1; simp at h1
  · have h1 := h.ref.row; rw [← e, h.has.ptr] at h1; simp at h1
  · have h1 := h.ref.marks; rw [← e, h.has.ptr] at h1; simp at h1
theorem Both.own {p c r rc rm : Nat} {xs ys zs : List Int} {w w' : World} (h : Both p c r rc rm xs ys w) (k : Wrote c zs w w') (hl : zs.length = xs.length) : Both p c r rc rm zs ys w' :=
  ⟨k.has h.has hl, h.ref.keep k.keep h.d1.1 (fun e => h.ne e.symm) h.d1.2.1, h.ne⟩
theorem Both.other {p c r rc rm : Nat} {xs ys zs : List Int} {w w' : World} (h : Both p c r rc rm xs ys w) (k : RWrote r rc rm zs w w') : Both p c r rc rm xs zs w' :=
  ⟨h.has.keep k.keep (fun e => e.elim h.d1.2.2.1 (fun e => e.elim h.d1.2.2.2.1 h.d1.2.2.2.2)) (fun e => e.elim (fun e => h.d1.1 e.symm) (fun e => e.elim h.ne (fun e => h.d1.2.1 e.symm))), k.ref, h.ne⟩
theorem Both.alloc {p c r rc rm : Nat} {xs ys : List Int} {w : World} (h : Both p c r rc rm xs ys w) (o : Obj) : Both p c r rc rm xs ys (w.alloc o) :=
  ⟨h.has.alloc o, ⟨row_alloc h.ref.ptr o, row_alloc h.ref.row o, row_alloc h.ref.marks o, h.ref.len⟩, h.ne⟩
theorem RWrote.below {r rc rm B : Nat} {xs : List Int} {w w' : World} (h : RWrote r rc rm xs w w') (h1 : B ≤ r) (h2 : B ≤ rc) (h3 : B ≤ rm) (hB : B ≤ w.heap.size) : Below B w w' :=
  h.keep.below (fun _ e => by rcases e with e | e | e <;> omega) hB

theorem rtake_exact {r rc rm : Nat} {cs : List Int} {n : Nat} {w : World} (f : Nat) (hn : 1 ≤ n) (hn2 : n ≤ 9223372036854775807) (hlo : ∀ x ∈ cs, -1 ≤ x) (H : Ref w r rc rm cs) (hf : freeAt cs n f) (hb : ∀ g, g < f → ¬ freeAt cs n g) :
    Calls Try.prog 18 #[.pointer (some ⟨r, 0, none⟩), .int .i64 n] w fun e w' => e = .returned (.tuple #[.int .i64 f, .int .i64 0]) ∧ RWrote r rc rm (upd cs f n (fun _ => 1)) w w' := by
  refine (rtake_some w r rc rm cs n hn hn2 hlo H).mono ?_
  rintro e w' (⟨g, he, hg, hgb, hw⟩ | ⟨_, hno, _⟩)
  · obtain rfl : g = f := by
      rcases Nat.lt_trichotomy g f with h | h | h
      · exact absurd hg (hb g h)
      · exact h
      · exact absurd hf (hgb f h)
    exact ⟨he, hw⟩
  · exact absurd hf (hno f)
theorem rtake_none {r rc rm : Nat} {cs : List Int} {n : Nat} {w : World} (hn : 1 ≤ n) (hn2 : n ≤ 9223372036854775807) (hlo : ∀ x ∈ cs, -1 ≤ x) (H : Ref w r rc rm cs) (hb : ∀ g, ¬ freeAt cs n g) :
    Calls Try.prog 18 #[.pointer (some ⟨r, 0, none⟩), .int .i64 n] w fun e w' => e = .returned (.tuple #[.int .i64 0, .int .i64 7]) ∧ w = w' := by
  refine (rtake_some w r rc rm cs n hn hn2 hlo H).mono ?_
  rintro e w' (⟨g, _, hg, _⟩ | ⟨he, _, hw⟩)
  · exact absurd hg (hb g)
  · exact ⟨he, hw⟩
theorem quiet_mine {P : Program} {f : FuncId} {args : Array Value} {w : World} {n : Nat} {v : Value}
    (h : Calls P f args (w.drewN n) fun e w' => e = .returned v ∧ w.drewN n = w') : Calls P f args (w.drewN n) fun e w'' => e = .returned v ∧ ∃ m, w'' = w.drewN m :=
  h.mono fun _ _ ⟨he, hm⟩ => ⟨he, n, hm.symm⟩
theorem Both.drewN {p c r rc rm : Nat} {xs ys : List Int} {w : World} (h : Both p c r rc rm xs ys w) (n : Nat) : Both p c r rc rm xs ys (w.drewN n) :=
  ⟨⟨h.has.ptr, h.has.row, h.has.len⟩, ⟨h.ref.ptr, h.ref.row, h.ref.marks, h.ref.len⟩, h.ne⟩
theorem below_drewN {B n : Nat} {a w : World} (h : Below B a w) : Below B a (w.drewN n) := ⟨h.os, h.tape, h.output, h.size, h.block⟩

set_option maxRecDepth 100000 in
set_option maxHeartbeats 4000000 in
theorem plays_any (w : World) (u : Int) (ao : Option Addr) (len cap : Nat) (K F N : Nat → Int) (look : Int) (hS : Script w ao len K F N) :
    Calls Try.prog 6 #[.int .i64 u, .slice ao len cap, .int .i64 look] w fun e w' => e = .returned (.bool true) ∧ Below w.heap.size w w' := by
  by_cases hu : u < 1 ∨ 4096 < u
  · go_enter Try.func6, Try.ntmps6
    go_wp2_with fail
    refine (new_bad _ _ hu).mono ?_
    rintro e w1 ⟨rfl, rfl⟩
    go_wp2_with fail
    refine (rnew_bad _ _ hu).mono ?_
    rintro e w1 ⟨rfl, k1⟩
    go_wp2_with fail
    refine (alive_any _).mono ?_
    rintro e w2 ⟨rfl, b2⟩
    go_wp2
    go_ret
    have b1 : Below w.heap.size w w1 := k1.below (fun _ e => e.elim) (Nat.le_refl _)
    exact ⟨rfl, (b1.alloc b1.size _).trans (b2.mono (by have := b1.size; simp; omega))⟩
  obtain ⟨U, rfl⟩ := Int.eq_ofNat_of_zero_le (by omega : 0 ≤ u)
  have hU1 : 1 ≤ U := by omega
  have hU2 : U ≤ 4096 := by omega
  clear hu
  have hle := hS.le
  go_enter Try.func6, Try.ntmps6
  go_wp2_with fail
  refine (new_good _ U hU1 hU2).mono ?_
  rintro e w1 ⟨p, c, rfl, h1⟩
  have b1 := h1.below (Nat.le_refl _)
  have hc := h1.cnew
  go_wp2_with fail
  refine (rnew_good _ U hU1 hU2).mono ?_
  rintro e w2 ⟨rc, rm, rfl, r1, r2, r3, r4, k2⟩
  have b2 := b1.trans (k2.below (fun _ e => e.elim) b1.size)
  have H2 := h1.has.keep k2 (fun e => e.elim) (fun e => e.elim)
  have hlt := row_lt h1.has.row
  have hcrc : c ≠ rc := by omega
  have hrc : w.heap.size ≤ rc := Nat.le_trans b1.size r3
  have hrm : w.heap.size ≤ rm := Nat.le_trans b1.size r4
  clear h1 b1 k2 r3 r4 hlt
  go_wp2_with fail
  refine (alive_any _).mono ?_
  rintro e w3 ⟨rfl, b3⟩
  have B2 : Both p c w2.heap.size rc rm (List.replicate U 0) (List.replicate U 0) (w2.alloc (.cells #[.slice (some ⟨rc, 0, none⟩) U U, .slice (some ⟨rm, 0, none⟩) U U] 42)) := by
    refine ⟨H2.alloc _, ⟨?_, ?_, ?_, by simpa using hU2⟩, hcrc⟩
    · rw [heap_new]; simp
    · rw [row_alloc r1]; simp [settleG]
    · rw [row_alloc r2]; simp
  have B3 : Both p c w2.heap.size rc rm (List.replicate U 0) (List.replicate U 0) w3 :=
    ⟨B2.has.below b3, B2.ref.keep (Keep.of_below b3) (by have := row_lt B2.ref.ptr; omega) (by have := row_lt B2.ref.row; omega) (by have := row_lt B2.ref.marks; omega), hcrc⟩
  have hr := b2.size
  have b3 := (b2.alloc b2.size _).trans (b3.mono (by have := b2.size; simp; omega))
  clear H2 r1 r2 B2 b2
  generalize w2.heap.size = r at *
  have BB := hid B3
  have BL := hid b3
  clear B3 b3
  go_wp2_with fail
  go_loopw [50] (fun i wr => ∃ (k rm : Nat) (cs : List Int), k ≤ len ∧ i = .int .i64 k ∧ Both p c r rc rm cs cs wr ∧ Good U cs ∧ w.heap.size ≤ rm ∧ Below w.heap.size w wr) (fun i _ => len - (intOf i).toNat)
  case atStart => exact ⟨0, rm, _, Nat.zero_le _, rfl, BB.out, Good.rep U, hrm, BL.out⟩
  case round =>
    obtain ⟨k, rm, cs, hk, rfl, hbo, hg, hrm, hb⟩ := hrel
    by_cases hkl : k < len
    · obtain ⟨b, o, rfl, c0, c1, c2, hK0, hK1, hF1, hF0, hN1, hN0⟩ := (hS.below hb).at_ k hkl
      generalize K k = kk at *
      generalize F k = ff at *
      generalize N k = nn at *
      have HS := hid hS
      have HB := hid hbo
      have HL := hid hb
      have HG := hid hg
      clear hS hbo hb hg
      have BA := hid (fun o => HB.out.alloc o)
      have LA := hid (fun o => HL.out.alloc HL.out.size o)
      go_wp2_with fail
      · -- Take
        have hact := heap_new wr (.cells #[.int .u8 kk, .int .i64 ff, .int .i64 nn] 36)
        have hba := BA.out (.cells #[.int .u8 kk, .int .i64 ff, .int .i64 nn] 36)
        have hla := LA.out (.cells #[.int .u8 kk, .int .i64 ff, .int .i64 nn] 36)
        have hzc : wr.heap.size ≠ c := by have := row_lt HB.out.has.row; omega
        have hz1 : ¬ Three r rc rm wr.heap.size := by
          have h1 := row_lt HB.out.ref.ptr
          have h2 := row_lt HB.out.ref.row
          have h3 := row_lt HB.out.ref.marks
          intro e
          rcases e with e | e | e <;> omega
        have HZ := hid hz1
        clear c0 c1 c2 hz1
        generalize wr.alloc (.cells #[.int .u8 kk, .int .i64 ff, .int .i64 nn] 36) = wa at *
        generalize wr.heap.size = z at *
        have hlen := HG.out.len
        by_cases hn : nn < 1
        · refine (take_bad wa p c cs nn hn hba.has).mono ?_
          rintro e w4 ⟨rfl, rfl⟩
          have d1 := row_cell hact 1
          have d2 := row_cell hact 2
          simp at d1 d2
          have HBo := hid hba
          have HLo := hid hla
          have HGo := HG
          clear hact hba hla
          go_wp2_with fail
          refine (rtake_bad _ r nn hn).mono ?_
          rintro e w4 ⟨rfl, rfl⟩
          have F1 := hid (fun n => quiet_mine (free_some (wa.drewN n) p c cs (HBo.out.drewN n).has))
          have F2 := hid (fun n => quiet_mine (rfreecount (wa.drewN n) r rc rm cs HGo.out.low (HBo.out.drewN n).ref))
          have W1 := hid (fun n => quiet_mine (waiting_some (wa.drewN n) p c cs (HBo.out.drewN n).has))
          have W2 := hid (fun n => quiet_mine (rwaiting (wa.drewN n) r rc rm cs (HBo.out.drewN n).ref))
          have N1 := hid (fun n => quiet_mine (count_some (wa.drewN n) p c cs look (HBo.out.drewN n).has))
          have N2 := hid (fun n => quiet_mine (rcount_any (wa.drewN n) r rc rm cs look (HBo.out.drewN n).ref))
          have M1 := hid (fun n => quiet_mine (count_some (wa.drewN n) p c cs ff (HBo.out.drewN n).has))
          have M2 := hid (fun n => quiet_mine (rcount_any (wa.drewN n) r rc rm cs ff (HBo.out.drewN n).ref))
          generalize cnt 0 cs = a1 at *
          generalize cnt (-1) cs = a2 at *
          generalize countAt cs look = a3 at *
          generalize countAt cs ff = a4 at *
          go_wp2_with fail
          go_quiet ((first | (go_at_call 14; exact F1.out _) | (go_at_call 22; exact F2.out _) | (go_at_call 23; exact W1.out _) | (go_at_call 24; exact W2.out _) | (go_at_call 16; first | (with_reducible exact N1.out _) | (with_reducible exact M1.out _)) | (go_at_call 25; first | (with_reducible exact N2.out _) | (with_reducible exact M2.out _))))
          go_wp2_with fail
          go_roundw
          case rel => exact ⟨k + 1, rm, cs, by omega, by go_num, HBo.out.drewN _, HGo.out, hrm, below_drewN HLo.out⟩
          case measure => simp [intOf] <;> omega
        · obtain ⟨n, rfl⟩ := Int.eq_ofNat_of_zero_le (by omega : 0 ≤ nn)
          refine (take_some wa p c cs n (by omega) (by omega) hba.has).mono ?_
          rintro e w4 (⟨f, rfl, hfr, hfb, h4⟩ | ⟨rfl, hno, rfl⟩)
          · have hact := h4.keep.row hact hzc
            have d1 := row_cell hact 1
            have d2 := row_cell hact 2
            simp at d1 d2
            have B4 := hid (hba.own h4 (by simp))
            have L4 := hid (hla.trans (h4.keep.below (fun _ e => by rw [e]; exact hc) hla.size))
            have HA := hid hact
            have HFR := hid hfr
            have HFB := hid hfb
            clear hact hba hla h4 hfr hfb
            go_wp2_with fail
            refine (rtake_exact (n := n) f (by omega) (by omega) HG.out.low B4.out.ref HFR.out HFB.out).mono ?_
            rintro e w5 ⟨rfl, h5⟩
            have hact := h5.keep.row HA.out HZ.out
            clear d1 d2
            have d1 := row_cell hact 1
            have d2 := row_cell hact 2
            simp at d1 d2
            have HBo := hid (B4.out.other h5)
            have HLo := hid (L4.out.trans (h5.below hr hrc hrm L4.out.size))
            have HGo : Hid (Good U (upd cs f n (fun _ => 1))) := hid HG.out.taken
            clear hact h5
            generalize upd cs f n (fun _ => 1) = xs at *
            have F1 := hid (fun n => quiet_mine (free_some (w5.drewN n) p c xs (HBo.out.drewN n).has))
            have F2 := hid (fun n => quiet_mine (rfreecount (w5.drewN n) r rc rm xs HGo.out.low (HBo.out.drewN n).ref))
            have W1 := hid (fun n => quiet_mine (waiting_some (w5.drewN n) p c xs (HBo.out.drewN n).has))
            have W2 := hid (fun n => quiet_mine (rwaiting (w5.drewN n) r rc rm xs (HBo.out.drewN n).ref))
            have N1 := hid (fun n => quiet_mine (count_some (w5.drewN n) p c xs look (HBo.out.drewN n).has))
            have N2 := hid (fun n => quiet_mine (rcount_any (w5.drewN n) r rc rm xs look (HBo.out.drewN n).ref))
            have M1 := hid (fun n => quiet_mine (count_some (w5.drewN n) p c xs ff (HBo.out.drewN n).has))
            have M2 := hid (fun n => quiet_mine (rcount_any (w5.drewN n) r rc rm xs ff (HBo.out.drewN n).ref))
            generalize cnt 0 xs = a1 at *
            generalize cnt (-1) xs = a2 at *
            generalize countAt xs look = a3 at *
            generalize countAt xs ff = a4 at *
            go_wp2_with fail
            go_quiet ((first | (go_at_call 14; exact F1.out _) | (go_at_call 22; exact F2.out _) | (go_at_call 23; exact W1.out _) | (go_at_call 24; exact W2.out _) | (go_at_call 16; first | (with_reducible exact N1.out _) | (with_reducible exact M1.out _)) | (go_at_call 25; first | (with_reducible exact N2.out _) | (with_reducible exact M2.out _))))
            go_wp2_with fail
            go_roundw
            case rel => exact ⟨k + 1, rm, xs, by omega, by go_num, HBo.out.drewN _, HGo.out, hrm, below_drewN HLo.out⟩
            case measure => simp [intOf] <;> omega
          · have d1 := row_cell hact 1
            have d2 := row_cell hact 2
            simp at d1 d2
            have HBo := hid hba
            have HLo := hid hla
            have HGo := HG
            have HNO := hid hno
            clear hact hba hla hno
            go_wp2_with fail
            refine (rtake_none (n := n) (by omega) (by omega) HG.out.low HBo.out.ref HNO.out).mono ?_
            rintro e w5 ⟨rfl, rfl⟩
            have F1 := hid (fun n => quiet_mine (free_some (wa.drewN n) p c cs (HBo.out.drewN n).has))
            have F2 := hid (fun n => quiet_mine (rfreecount (wa.drewN n) r rc rm cs HGo.out.low (HBo.out.drewN n).ref))
            have W1 := hid (fun n => quiet_mine (waiting_some (wa.drewN n) p c cs (HBo.out.drewN n).has))
            have W2 := hid (fun n => quiet_mine (rwaiting (wa.drewN n) r rc rm cs (HBo.out.drewN n).ref))
            have N1 := hid (fun n => quiet_mine (count_some (wa.drewN n) p c cs look (HBo.out.drewN n).has))
            have N2 := hid (fun n => quiet_mine (rcount_any (wa.drewN n) r rc rm cs look (HBo.out.drewN n).ref))
            have M1 := hid (fun n => quiet_mine (count_some (wa.drewN n) p c cs ff (HBo.out.drewN n).has))
            have M2 := hid (fun n => quiet_mine (rcount_any (wa.drewN n) r rc rm cs ff (HBo.out.drewN n).ref))
            generalize cnt 0 cs = a1 at *
            generalize cnt (-1) cs = a2 at *
            generalize countAt cs look = a3 at *
            generalize countAt cs ff = a4 at *
            go_wp2_with fail
            go_quiet ((first | (go_at_call 14; exact F1.out _) | (go_at_call 22; exact F2.out _) | (go_at_call 23; exact W1.out _) | (go_at_call 24; exact W2.out _) | (go_at_call 16; first | (with_reducible exact N1.out _) | (with_reducible exact M1.out _)) | (go_at_call 25; first | (with_reducible exact N2.out _) | (with_reducible exact M2.out _))))
            go_wp2_with fail
            go_roundw
            case rel => exact ⟨k + 1, rm, cs, by omega, by go_num, HBo.out.drewN _, HGo.out, hrm, below_drewN HLo.out⟩
            case measure => simp [intOf] <;> omega
      · -- Share
        have hact := heap_new wr (.cells #[.int .u8 kk, .int .i64 ff, .int .i64 nn] 36)
        have hba := BA.out (.cells #[.int .u8 kk, .int .i64 ff, .int .i64 nn] 36)
        have hla := LA.out (.cells #[.int .u8 kk, .int .i64 ff, .int .i64 nn] 36)
        have hzc : wr.heap.size ≠ c := by have := row_lt HB.out.has.row; omega
        have hz1 : ¬ Three r rc rm wr.heap.size := by
          have h1 := row_lt HB.out.ref.ptr
          have h2 := row_lt HB.out.ref.row
          have h3 := row_lt HB.out.ref.marks
          intro e
          rcases e with e | e | e <;> omega
        have HZ := hid hz1
        clear c0 c1 c2 hz1
        generalize wr.alloc (.cells #[.int .u8 kk, .int .i64 ff, .int .i64 nn] 36) = wa at *
        generalize wr.heap.size = z at *
        have hlen := HG.out.len
        have hsh := hid (fun W (h : Has W p c cs) => share_some W p c cs ff nn hN1 h)
        have hsg := HG.out.shared ff nn
        have hrs := hid (fun W (h : Ref W r rc rm cs) => rshare W r rc rm cs ff nn hN1 hF1 h)
        generalize shareTo cs ff nn = xs at *
        generalize shareErr cs ff nn = x1 at *
        have hxl := hsg.len
        have HGo := hid hsg
        have B0 : Hid (Both p c r rc rm cs cs wa.drew) := hid (hba.drewN 1)
        have A0 : Hid (wa.drew.heap[z]? = some (.cells #[.int .u8 kk, .int .i64 ff, .int .i64 nn] 36 (0, 0))) := hid hact
        have L0 : Hid (Below w.heap.size w wa.drew) := hid hla.drew
        have d1 := row_cell hact 1
        have d2 := row_cell hact 2
        simp at d1 d2
        have hlx : Hid (xs.length = cs.length) := hid (by omega)
        clear hact hba hla hsg
        go_wp2_with fail
        go_region_held3 (fun w' => w'.cell? ⟨z, 1, none⟩ = some (.int .i64 ff) ∧ w'.cell? ⟨z, 2, none⟩ = some (.int .i64 nn)) (first | exact ⟨d1, d2⟩ | exact ⟨e1, e2⟩ | exact ⟨g1, g2⟩)
          ((first
            | (go_at_call 12; refine (hsh.out _ B0.out.has).mono ?_; rintro e w4 ⟨rfl, h4⟩; have e0 := h4.keep.row A0.out hzc; have e1 := row_cell e0 1; have e2 := row_cell e0 2; simp at e1 e2; have B4 := hid (B0.out.own h4 hlx.out); have L4 := hid (L0.out.trans (h4.keep.below (fun _ e => by rw [e]; exact hc) L0.out.size)); have A4 := hid e0; clear e0 h4)
            | (go_at_call 19; refine (hrs.out _ B4.out.ref).mono ?_; rintro e w5 ⟨rfl, h5⟩; have g0 := h5.keep.row A4.out HZ.out; have g1 := row_cell g0 1; have g2 := row_cell g0 2; simp at g1 g2; have HBo := hid (B4.out.other h5); have HLo := hid (L4.out.trans (h5.below hr hrc hrm L4.out.size)); clear g0 h5)))
        have F1 := hid (fun n => quiet_mine (free_some (w5.drewN n) p c xs (HBo.out.drewN n).has))
        have F2 := hid (fun n => quiet_mine (rfreecount (w5.drewN n) r rc rm xs HGo.out.low (HBo.out.drewN n).ref))
        have W1 := hid (fun n => quiet_mine (waiting_some (w5.drewN n) p c xs (HBo.out.drewN n).has))
        have W2 := hid (fun n => quiet_mine (rwaiting (w5.drewN n) r rc rm xs (HBo.out.drewN n).ref))
        have N1 := hid (fun n => quiet_mine (count_some (w5.drewN n) p c xs look (HBo.out.drewN n).has))
        have N2 := hid (fun n => quiet_mine (rcount_any (w5.drewN n) r rc rm xs look (HBo.out.drewN n).ref))
        have M1 := hid (fun n => quiet_mine (count_some (w5.drewN n) p c xs ff (HBo.out.drewN n).has))
        have M2 := hid (fun n => quiet_mine (rcount_any (w5.drewN n) r rc rm xs ff (HBo.out.drewN n).ref))
        generalize cnt 0 xs = a1 at *
        generalize cnt (-1) xs = a2 at *
        generalize countAt xs look = a3 at *
        generalize countAt xs ff = a4 at *
        go_wp2_with fail
        go_quiet ((first | (go_at_call 14; exact F1.out _) | (go_at_call 22; exact F2.out _) | (go_at_call 23; exact W1.out _) | (go_at_call 24; exact W2.out _) | (go_at_call 16; first | (with_reducible exact N1.out _) | (with_reducible exact M1.out _)) | (go_at_call 25; first | (with_reducible exact N2.out _) | (with_reducible exact M2.out _))))
        go_wp2_with fail
        go_roundw
        case rel => exact ⟨k + 1, rm, xs, by omega, by go_num, HBo.out.drewN _, HGo.out, hrm, below_drewN HLo.out⟩
        case measure => simp [intOf] <;> omega
      · -- Drop
        have hact := heap_new wr (.cells #[.int .u8 kk, .int .i64 ff, .int .i64 nn] 36)
        have hba := BA.out (.cells #[.int .u8 kk, .int .i64 ff, .int .i64 nn] 36)
        have hla := LA.out (.cells #[.int .u8 kk, .int .i64 ff, .int .i64 nn] 36)
        have hzc : wr.heap.size ≠ c := by have := row_lt HB.out.has.row; omega
        have hz1 : ¬ Three r rc rm wr.heap.size := by
          have h1 := row_lt HB.out.ref.ptr
          have h2 := row_lt HB.out.ref.row
          have h3 := row_lt HB.out.ref.marks
          intro e
          rcases e with e | e | e <;> omega
        have HZ := hid hz1
        clear c0 c1 c2 hz1
        generalize wr.alloc (.cells #[.int .u8 kk, .int .i64 ff, .int .i64 nn] 36) = wa at *
        generalize wr.heap.size = z at *
        have hlen := HG.out.len
        have hdr := drop_some wa p c cs ff nn hN1 HG.out.high hba.has
        have hdg := hid (HG.out.dropped ff nn)
        have hrd := hid (fun w4 (h : Ref w4 r rc rm cs) => rdrop w4 r rc rm cs ff nn hN1 hF1 HG.out.high h)
        generalize dropTo cs ff nn = xs at *
        generalize goneOf cs ff nn = x1 at *
        generalize heldErr cs ff nn = x2 at *
        refine hdr.mono ?_
        rintro e w4 ⟨rfl, h4⟩
        have hact := h4.keep.row hact hzc
        have d1 := row_cell hact 1
        have d2 := row_cell hact 2
        simp at d1 d2
        have B4 := hid (hba.own h4 (by rw [hdg.out.len, HG.out.len]))
        have L4 := hid (hla.trans (h4.keep.below (fun _ e => by rw [e]; exact hc) hla.size))
        have HA := hid hact
        clear hact hba hla h4 hdr
        go_wp2_with fail
        refine (hrd.out _ B4.out.ref).mono ?_
        rintro e w5 ⟨rfl, h5⟩
        have hact := h5.keep.row HA.out HZ.out
        clear d1 d2
        have d1 := row_cell hact 1
        have d2 := row_cell hact 2
        simp at d1 d2
        have HBo := hid (B4.out.other h5)
        have HLo := hid (L4.out.trans (h5.below hr hrc hrm L4.out.size))
        have HGo := hdg
        clear hact h5
        have F1 := hid (fun n => quiet_mine (free_some (w5.drewN n) p c xs (HBo.out.drewN n).has))
        have F2 := hid (fun n => quiet_mine (rfreecount (w5.drewN n) r rc rm xs HGo.out.low (HBo.out.drewN n).ref))
        have W1 := hid (fun n => quiet_mine (waiting_some (w5.drewN n) p c xs (HBo.out.drewN n).has))
        have W2 := hid (fun n => quiet_mine (rwaiting (w5.drewN n) r rc rm xs (HBo.out.drewN n).ref))
        have N1 := hid (fun n => quiet_mine (count_some (w5.drewN n) p c xs look (HBo.out.drewN n).has))
        have N2 := hid (fun n => quiet_mine (rcount_any (w5.drewN n) r rc rm xs look (HBo.out.drewN n).ref))
        have M1 := hid (fun n => quiet_mine (count_some (w5.drewN n) p c xs ff (HBo.out.drewN n).has))
        have M2 := hid (fun n => quiet_mine (rcount_any (w5.drewN n) r rc rm xs ff (HBo.out.drewN n).ref))
        generalize cnt 0 xs = a1 at *
        generalize cnt (-1) xs = a2 at *
        generalize countAt xs look = a3 at *
        generalize countAt xs ff = a4 at *
        go_wp2_with fail
        go_quiet ((first | (go_at_call 14; exact F1.out _) | (go_at_call 22; exact F2.out _) | (go_at_call 23; exact W1.out _) | (go_at_call 24; exact W2.out _) | (go_at_call 16; first | (with_reducible exact N1.out _) | (with_reducible exact M1.out _)) | (go_at_call 25; first | (with_reducible exact N2.out _) | (with_reducible exact M2.out _))))
        go_wp2_with fail
        go_roundw
        case rel => exact ⟨k + 1, rm, xs, by omega, by go_num, HBo.out.drewN _, HGo.out, hrm, below_drewN HLo.out⟩
        case measure => simp [intOf] <;> omega
      · -- Settle
        have hact := heap_new wr (.cells #[.int .u8 kk, .int .i64 ff, .int .i64 nn] 36)
        have hba := BA.out (.cells #[.int .u8 kk, .int .i64 ff, .int .i64 nn] 36)
        have hla := LA.out (.cells #[.int .u8 kk, .int .i64 ff, .int .i64 nn] 36)
        have hzc : wr.heap.size ≠ c := by have := row_lt HB.out.has.row; omega
        have hz1 : ¬ Three r rc rm wr.heap.size := by
          have h1 := row_lt HB.out.ref.ptr
          have h2 := row_lt HB.out.ref.row
          have h3 := row_lt HB.out.ref.marks
          intro e
          rcases e with e | e | e <;> omega
        have HZ := hid hz1
        clear c0 c1 c2 hz1
        generalize wr.alloc (.cells #[.int .u8 kk, .int .i64 ff, .int .i64 nn] 36) = wa at *
        generalize wr.heap.size = z at *
        have hlen := HG.out.len
        refine (settle_some wa p c cs HG.out.low hba.has).mono ?_
        rintro e w4 ⟨rfl, h4⟩
        have hact := h4.keep.row hact hzc
        have B4 := hid (hba.own h4 (by simp))
        have L4 := hid (hla.trans (h4.keep.below (fun _ e => by rw [e]; exact hc) hla.size))
        have HA := hid hact
        clear hact hba hla h4
        go_wp2_with fail
        refine (rsettle _ r rc rm cs B4.out.ref).mono ?_
        rintro e w5 ⟨rfl, rm2, h5, hrm5, k5⟩
        have hact := k5.row HA.out (fun e => HZ.out (.inl e))
        have d1 := row_cell hact 1
        have d2 := row_cell hact 2
        simp at d1 d2
        have hrm2 : w.heap.size ≤ rm2 := Nat.le_trans L4.out.size hrm5
        have HBo : Hid (Both p c r rc rm2 (cs.map settleG) (cs.map settleG) w5) := hid ⟨B4.out.has.keep k5 (fun e => B4.out.d1.2.2.1 e) (fun e => B4.out.d1.1 e.symm), h5, B4.out.ne⟩
        have HLo := hid (L4.out.trans (k5.below (fun _ e => by rw [e]; exact hr) L4.out.size))
        have HGo := hid HG.out.settled
        clear hact h5 k5
        generalize cs.map settleG = xs at *
        have F1 := hid (fun n => quiet_mine (free_some (w5.drewN n) p c xs (HBo.out.drewN n).has))
        have F2 := hid (fun n => quiet_mine (rfreecount (w5.drewN n) r rc rm2 xs HGo.out.low (HBo.out.drewN n).ref))
        have W1 := hid (fun n => quiet_mine (waiting_some (w5.drewN n) p c xs (HBo.out.drewN n).has))
        have W2 := hid (fun n => quiet_mine (rwaiting (w5.drewN n) r rc rm2 xs (HBo.out.drewN n).ref))
        have N1 := hid (fun n => quiet_mine (count_some (w5.drewN n) p c xs look (HBo.out.drewN n).has))
        have N2 := hid (fun n => quiet_mine (rcount_any (w5.drewN n) r rc rm2 xs look (HBo.out.drewN n).ref))
        have M1 := hid (fun n => quiet_mine (count_some (w5.drewN n) p c xs ff (HBo.out.drewN n).has))
        have M2 := hid (fun n => quiet_mine (rcount_any (w5.drewN n) r rc rm2 xs ff (HBo.out.drewN n).ref))
        generalize cnt 0 xs = a1 at *
        generalize cnt (-1) xs = a2 at *
        generalize countAt xs look = a3 at *
        generalize countAt xs ff = a4 at *
        go_wp2_with fail
        go_quiet ((first | (go_at_call 14; exact F1.out _) | (go_at_call 22; exact F2.out _) | (go_at_call 23; exact W1.out _) | (go_at_call 24; exact W2.out _) | (go_at_call 16; first | (with_reducible exact N1.out _) | (with_reducible exact M1.out _)) | (go_at_call 25; first | (with_reducible exact N2.out _) | (with_reducible exact M2.out _))))
        go_wp2_with fail
        go_roundw
        case rel => exact ⟨k + 1, rm2, xs, by omega, by go_num, HBo.out.drewN _, HGo.out, hrm2, below_drewN HLo.out⟩
        case measure => simp [intOf] <;> omega
    · go_wp2
      go_ret
      exact ⟨rfl, hb⟩
end Go.Proofs.Ytompkoihmjenjaa
