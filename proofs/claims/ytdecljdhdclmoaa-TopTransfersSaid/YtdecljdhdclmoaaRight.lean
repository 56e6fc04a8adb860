/-
  Log.right at updates that are right.
-/
import Derived.Test.YtdecljdhdclmoaaSettle
namespace Go.Proofs.Ytdecljdhdclmoaa
open Go.RowKit
variable {w w' : World} {b p c : Nat} {d d1 d2 : DS}

/-- the places that were met -/
def metF (l : List (Nat × List UInt8)) : Int → Option Value := fun i => if l.any (fun a => (a.1 : Int) == i) then some (.bool true) else none
theorem metF_snoc (l : List (Nat × List UInt8)) (a : Nat × List UInt8) : metF (l ++ [a]) = put (metF l) (a.1 : Int) (.bool true) := by
  funext i
  unfold metF put
  rw [List.any_append]
  by_cases h : i = (a.1 : Int)
  · subst h; simp
  · have : ((a.1 : Int) == i) = false := by simp; exact fun e => h e.symm
    simp only [List.any_cons, List.any_nil, this, Bool.or_false, if_neg h]
/-- updates that are right -/
structure UpsOk (l : List (Nat × List UInt8)) : Prop where
  few : l.length ≤ 6
  each : ∀ a ∈ l, a.1 < 3 ∧ a.2.length ≤ 48
  apart : l.Pairwise (fun a b => a.1 ≠ b.1)
theorem met_not {l : List (Nat × List UInt8)} (h : l.Pairwise (fun a b => a.1 ≠ b.1)) (k : Nat) (hk : k < l.length) : metF (l.take k) (l[k].1 : Int) = none := by
  unfold metF
  rw [if_neg]
  intro hany
  obtain ⟨a, ha, he⟩ := List.any_eq_true.1 hany
  obtain ⟨j, hj, rfl⟩ := List.getElem_of_mem ha
  rw [List.length_take] at hj
  rw [List.getElem_take] at he
  have := List.pairwise_iff_getElem.1 h j k (by omega) hk (by omega)
  simp at he
  exact this (by omega)
theorem run_makeMap72 (w : World) : (Instr.makeMap 72 none).run Try.prog w = .ok (.map (some w.heap.size)) (w.alloc (.map #[] 0)) := by
  simp [Instr.makeMap, go_sem]
theorem zero4 (w : World) : (zeroValue 4).run Try.prog w = .ok (.bool false) w := Try.zeroValue4 w

set_option maxRecDepth 100000 in
set_option maxHeartbeats 4000000 in
theorem right_good {g n q : Nat} {x y : Bool} (hg : LogAt w g b n x y) (h : DiskAt w b p c d) (v : Value) (l : List (Nat × List UInt8)) (hu : UpsAt w v q l) (hl : UpsOk l) :
    Calls Try.prog 19 #[.pointer (some ⟨g, 0, none⟩), v] w fun e w' => e = .returned (.int .i64 0) ∧ Keep Nil w w' := by
  obtain ⟨ao, cap, rfl⟩ := hu.shape
  have HD := hid h
  have HG := hid hg
  have HU := hid hu
  have HL := hid hl
  have h6 : l.length ≤ 6 := hl.few
  have h6d : decide (6 < (l.length : Int)) = false := by simp; omega
  clear hg h hu hl
  have HM0 := hid (MapAt.made w)
  have hmk := run_makeMap72 w
  go_enter Try.func19, Try.ntmps19
  go_wp2_with fail
  go_loopw [6, 12] (fun tw iv wr => ∃ (k : Nat), k ≤ l.length ∧ tw = .bool false ∧ iv = .int .i64 k ∧ MapAt wr w.heap.size (metF (l.take k)) ∧ Keep Nil w wr) (fun _ iv _ => l.length - (intOf iv).toNat)
  case atStart => exact ⟨0, Nat.zero_le _, rfl, rfl, HM0.out, (Keep.refl w).alloc _⟩
  case round =>
    obtain ⟨k, hk, rfl, rfl, hm, hkp⟩ := hrel
    have HM := hid hm
    have HK := hid hkp
    clear hm hkp
    by_cases hkn : k < l.length
    · obtain ⟨ha, hxl⟩ := HL.out.each l[k] (List.getElem_mem hkn)
      have hnot := met_not HL.out.apart k hkn
      have hT := hid (take_snocL l k hkn)
      obtain ⟨off, u, aou, capu, rfl, c0, c1, rfl, hb⟩ := (HU.out.keep HK.out (fun e => e) Mut.nil).cell k hkn
      generalize hlk : l[k] = z at *
      replace hlk := hid hlk
      obtain ⟨a, xs⟩ := z
      simp only at *
      have hlook := fun (o1 : Obj) (nq : Nat) => run_look (P := Try.prog) (HM.out.keep (keep_drewN nq ((Keep.refl (S := Nil) wr).alloc o1)) (fun e => e)) Try.underlying3 Try.underlying72 (zero4 _) (a : Int) (wf_small a (by omega)) false
      have hput := fun (o1 : Obj) (nq : Nat) => run_put (P := Try.prog) (HM.out.keep (keep_drewN nq ((Keep.refl (S := Nil) wr).alloc o1)) (fun e => e)) Try.underlying3 Try.underlying72 (a : Int) (wf_small a (by omega)) (.bool true)
      simp only [hnot, Option.getD_none, Option.isSome_none] at hlook
      have F1 := hid (fun (o1 : Obj) (nq : Nat) => quiet_mine (places_some (HG.out.keep (HK.out.trans (keep_drewN nq ((Keep.refl wr).alloc o1))) (fun e => e)) (HD.out.nil (HK.out.trans (keep_drewN nq ((Keep.refl wr).alloc o1))))))
      have h0 : decide ((a : Int) < 0) = false := by simp
      have h1 : decide ((3 : Int) ≤ (a : Int)) = false := by simp; omega
      have h2 : decide ((48 : Int) < (xs.length : Int)) = false := by simp; omega
      have HPUT := hid hput
      have hb := hid hb
      clear hput
      go_wp2_with fail
      go_quiet ((go_at_call 21; exact F1.out _ _))
      obtain ⟨w5, hrun, hm5, k5⟩ := HPUT.out (.cells #[.int .i64 (a : Nat), .slice aou xs.length capu] 35) nq
      have HE := hid (show MapAt w5 w.heap.size (metF (l.take (k + 1))) ∧ Keep Nil w w5 from ⟨by rw [hT.out, metF_snoc]; exact hm5, (HK.out.trans (keep_drewN nq ((Keep.refl (S := Nil) wr).alloc _))).andThen k5 (fun i hi e => by have e' : i = w.heap.size := e; omega)⟩)
      clear hm5 k5
      go_wp2_with fail
      go_roundw
      case rel => exact ⟨k + 1, by omega, rfl, by go_num, HE.out⟩
      case measure => simp [intOf] <;> omega
    · obtain rfl : k = l.length := by omega
      go_wp2
      go_ret
      exact ⟨rfl, HK.out⟩
end Go.Proofs.Ytdecljdhdclmoaa
