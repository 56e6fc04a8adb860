/-
  TopTransfers: for every input the law returns true (two places of a log between which amounts are moved, in changes of both, have the same sum for ever, whenever the power goes off, and whichever sectors are kept), and its arguments read behind the call as they read before. No condition.
-/
import Derived.Test.YtdecljdhdclmoaaRows
import Derived.Test.YtdecljdhdclmoaaPost
import Derived.Test.YtdecljdhdclmoaaOpen
import Derived.Test.YtdecljdhdclmoaaTransfers
namespace Go.Proofs.Ytdecljdhdclmoaa.topTransfers
open Go.ChangeShapes Go.WideShapes Go.ChangeAt Go.RowKit

theorem own : ownKnob Try.prog.godebug = none := by kernel_rfl
theorem laid : laidOutB Try.prog = true := by kernel_rfl

set_option maxRecDepth 100000 in
theorem lifted (os : Os) (started : os.Started) (H : Type) (enc : TypeId × Value → H) :
    ReturnsInHanded {} Try.checked os 3 .any (Rows.topTransfersSpec.pre6 enc Try.prog Try.f3 Rows.topTransfersRow.domain false) (Rows.topTransfersSpec.post enc Try.prog Try.f3 false true false false) := by
  refine returnsInHanded_of_change (C := Try.checked) own started (by kernel_rfl) Try.func3
    (ChangeSpec.witness6 (enc := enc) (C := Try.checked) false ⟨#[], #[.slice none 0 0, .slice none 0 0], []⟩ 8 (by kernel_rfl) (by kernel_rfl) (by kernel_rfl) (by kernel_rfl)) ?_
  intro W base args ds gs before hval0 hW hcnd _
  have hval : ∀ (j : Nat) t v, Try.f3.params[j]? = some t → args[j]? = some v → Value.okWide Try.prog W .any base t v := hval0
  have hW' := hW
  obtain ⟨p, q, hA0, hV, rfl, hfz, hnd⟩ := hW
  have hA : DataW.TrodAll enc Try.prog W 0 (fun _ => true) true Try.f3.params.toList args.toList ds p := hA0
  rw [Try.params3] at hA hval
  obtain ⟨v0, vs0, d0, ds0, p0, q0, hargs, rfl, rfl, h0, r0⟩ := trodAll_cons hA
  obtain ⟨v1, vs1, d1, ds1, p1, q1, rfl, rfl, rfl, h1, r1⟩ := trodAll_cons r0
  obtain ⟨rfl, rfl, rfl⟩ := trodAll_nil r1
  obtain rfl : args = #[v0, v1] := by cases args; simp_all
  obtain ⟨rfl, rfl⟩ := trodVars_none hV
  obtain ⟨ao, len, cap, xs, rfl, hlc, hln, hM⟩ := open_moves (hval 0 22 v0 rfl rfl) h0
  obtain ⟨al, ll, cl, rfl, hll, hL⟩ := open_losses (hval 1 23 v1 rfl rfl) h1
  clear hA0 hval0
  refine (transfers_any W ao len cap xs hlc hln hM al ll cl hll hL).mono fun e W' ⟨he, hg⟩ => ?_
  subst he
  exact ⟨_, rfl, law_post laid (by kernel_rfl) hW' hg rfl rfl Try.underlying4 rfl rfl rfl⟩

theorem over : Rows.topTransfersRow.holds Try.pinned (OpenSpec.ofChange Rows.topTransfersSpec) :=
  OpenClaim.holds_of_wide 3 Try.f3 rfl rfl rfl rfl rfl rfl rfl ⟨rfl, rfl, rfl, rfl, rfl⟩ rfl rfl rfl rfl rfl (by kernel_rfl) Try.func3 (by kernel_rfl)
    (of_decide_eq_true (by kernel_rfl)) (by unfold Func.isWrapper; first | (rw [if_pos (by decide +kernel)]; kernel_rfl) | (rw [if_neg (by decide +kernel)]; exact ⟨rfl, rfl⟩))
    (fun os started H enc _ => lifted os started H enc)

theorem proved : Rows.TopTransfersSaid := over
#print axioms proved
end Go.Proofs.Ytdecljdhdclmoaa.topTransfers
