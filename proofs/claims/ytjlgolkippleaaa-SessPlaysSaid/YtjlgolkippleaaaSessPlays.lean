/-
  SessPlays: for every input the law returns true (an end answers every call, in every order, as the document says, and stands behind each as the document's does), and its arguments read behind the call as they read before. No condition.
-/
import Derived.Test.YtjlgolkippleaaaRows
import Derived.Test.YtjlgolkippleaaaPost
import Derived.SizedLaws
import Derived.Test.YtjlgolkippleaaaPlays
import Derived.Test.YtjlgolkippleaaaThree
namespace Go.Proofs.Ytjlgolkippleaaa.sessPlays
open Go.ChangeShapes Go.WideShapes Go.ChangeAt Go.RowKit

theorem own : ownKnob Try.prog.godebug = none := by kernel_rfl
theorem laid : laidOutB Try.prog = true := by kernel_rfl
theorem par7 : Try.f7.params.toList ++ Rows.sessPlaysSpec.plain.varTypes Try.prog = [58, 59] := by kernel_rfl
theorem bytes65 : Try.prog.bytesOf 65 = 112 := by kernel_rfl

set_option maxRecDepth 100000 in
theorem lifted (os : Os) (started : os.Started) (H : Type) (enc : TypeId × Value → H) :
    ReturnsInHanded {} Try.checked os 7 .any (Rows.sessPlaysSpec.pre6 enc Try.prog Try.f7 Rows.sessPlaysRow.domain false) (Rows.sessPlaysSpec.post enc Try.prog Try.f7 false true false false) := by
  refine returnsInHanded_of_change_sized (C := Try.checked) own started (by kernel_rfl) Try.func7
    (ChangeSpec.witness6 (enc := enc) (C := Try.checked) false ⟨#[], #[.agg #[.int .i64 0, .int .i64 0, .int .i64 0], .slice none 0 0], []⟩ 8 (by kernel_rfl) (by kernel_rfl) (by kernel_rfl) (by kernel_rfl)) ?_
  intro W base args ds gs before hval0 hW hcnd hsz0 _
  have hval : ∀ (j : Nat) t v, Try.f7.params[j]? = some t → args[j]? = some v → Value.okWide Try.prog W .any base t v := hval0
  have hW' := hW
  obtain ⟨p, q, hA0, hV, rfl, hfz, hnd⟩ := hW
  have hA : DataW.TrodAll enc Try.prog W 0 (fun _ => true) true Try.f7.params.toList args.toList ds p := hA0
  rw [Try.params7] at hA hval
  obtain ⟨v0, vs0, d0, ds0, p0, q0, hargs, rfl, rfl, h0, r0⟩ := trodAll_cons hA
  obtain ⟨v1, vs1, d1, ds1, p1, q1, rfl, rfl, rfl, h1, r1⟩ := trodAll_cons r0
  obtain ⟨rfl, rfl, rfl⟩ := trodAll_nil r1
  obtain rfl : args = #[v0, v1] := by cases args; simp_all
  obtain ⟨rfl, rfl⟩ := trodVars_none hV
  obtain ⟨a, b, c, rfl⟩ := open_three (hval 0 58 v0 rfl rfl) h0
  obtain ⟨ao, len, cap, rfl, hS, hln⟩ := open_acts (hval 1 59 v1 rfl rfl) h1
  have hlen : len ≤ 2199023255552 := by
    rcases hln with rfl | ⟨el, sp, rfl, hl⟩
    · omega
    · have hsz : (DataW.weightsEach Try.prog (Try.f7.params.toList ++ Rows.sessPlaysSpec.plain.varTypes Try.prog) ([d0, .slice el sp] ++ [])).all (· ≤ reachBytes) = true := hsz0
      rw [par7] at hsz
      have := sized_slice hsz (j := 1) (t := 59) (e := 65) rfl rfl Try.underlying59
      rw [bytes65] at this
      simp only [reachBytes] at this
      omega
  clear hA0 hval0 hsz0
  refine (plays_any W a b c ao len cap hS hlen).mono fun e W' ⟨he, hg⟩ => ?_
  subst he
  exact ⟨_, rfl, law_post laid (by kernel_rfl) hW' hg rfl rfl Try.underlying4 rfl rfl rfl⟩

theorem over : Rows.sessPlaysRow.holds Try.pinned (OpenSpec.ofChange Rows.sessPlaysSpec) :=
  OpenClaim.holds_of_wide 7 Try.f7 rfl rfl rfl rfl rfl rfl rfl ⟨rfl, rfl, rfl, rfl, rfl⟩ rfl rfl rfl rfl rfl (by kernel_rfl) Try.func7 (by kernel_rfl)
    (of_decide_eq_true (by kernel_rfl)) (by unfold Func.isWrapper; first | (rw [if_pos (by decide +kernel)]; kernel_rfl) | (rw [if_neg (by decide +kernel)]; exact ⟨rfl, rfl⟩))
    (fun os started H enc _ => lifted os started H enc)

theorem proved : Rows.SessPlaysSaid := over
#print axioms proved
end Go.Proofs.Ytjlgolkippleaaa.sessPlays
