/-
  The reference's End: New; two messages, and two rows of messages, the same?
-/
import Derived.Test.YtjlgolkippleaaaRefSend
namespace Go.Proofs.Ytjlgolkippleaaa
open Go.RowKit

/-- what New answers -/
def newV (a b c : Int) : Value := .agg #[.int .i64 a, .int .i64 b, .int .i64 c, .slice none 0 0, .int .i64 0, .int .i64 0, .bool false]
set_option maxHeartbeats 1000000 in
theorem rnew_bad (w : World) (a b c : Int) (h : ¬ NewOk a b c) : Calls Try.prog 23 #[.int .i64 a, .int .i64 b, .int .i64 c] w fun e w' => e = .returned (.tuple #[newV 0 0 0, .int .i64 1]) ∧ Keep Nil w w' := by
  have HK := hid ((Keep.refl (S := Nil) w).alloc (.cells #[.int .i64 0, .int .i64 0, .int .i64 0, .slice none 0 0, .int .i64 0, .int .i64 0, .bool false] 61 (0, 0)))
  have key : (a < 0 ∨ 16 ≤ a ∨ b < 0 ∨ 16 ≤ b ∨ a = b ∨ c < 1 ∨ 2147483648 < c) := by unfold NewOk at h; omega
  clear h
  by_cases g0 : a < 0
  · clear key
    go_enter Try.func23, Try.ntmps23
    go_wp2
    refine bodyPost_ret (v := .tuple #[newV 0 0 0, .int .i64 1]) (by simp [results, Try.results23, go_sem, newV]) rfl ⟨rfl, HK.out⟩
  by_cases g1 : 16 ≤ a
  · clear key
    go_enter Try.func23, Try.ntmps23
    go_wp2
    refine bodyPost_ret (v := .tuple #[newV 0 0 0, .int .i64 1]) (by simp [results, Try.results23, go_sem, newV]) rfl ⟨rfl, HK.out⟩
  by_cases g2 : b < 0
  · clear key
    go_enter Try.func23, Try.ntmps23
    go_wp2
    refine bodyPost_ret (v := .tuple #[newV 0 0 0, .int .i64 1]) (by simp [results, Try.results23, go_sem, newV]) rfl ⟨rfl, HK.out⟩
  by_cases g3 : 16 ≤ b
  · clear key
    go_enter Try.func23, Try.ntmps23
    go_wp2
    refine bodyPost_ret (v := .tuple #[newV 0 0 0, .int .i64 1]) (by simp [results, Try.results23, go_sem, newV]) rfl ⟨rfl, HK.out⟩
  by_cases g4 : a = b
  · have e := beq_t g4
    have g4 := hid g4
    clear key
    go_enter Try.func23, Try.ntmps23
    go_wp2
    refine bodyPost_ret (v := .tuple #[newV 0 0 0, .int .i64 1]) (by simp [results, Try.results23, go_sem, newV]) rfl ⟨rfl, HK.out⟩
  have e := beq_f g4
  by_cases g5 : c < 1
  · clear key
    go_enter Try.func23, Try.ntmps23
    go_wp2
    refine bodyPost_ret (v := .tuple #[newV 0 0 0, .int .i64 1]) (by simp [results, Try.results23, go_sem, newV]) rfl ⟨rfl, HK.out⟩
  have g6 : 2147483648 < c := by omega
  clear key
  go_enter Try.func23, Try.ntmps23
  go_wp2
  refine bodyPost_ret (v := .tuple #[newV 0 0 0, .int .i64 1]) (by simp [results, Try.results23, go_sem, newV]) rfl ⟨rfl, HK.out⟩

set_option maxHeartbeats 1000000 in
theorem rnew_good (w : World) (a b c : Int) (h : NewOk a b c) : Calls Try.prog 23 #[.int .i64 a, .int .i64 b, .int .i64 c] w fun e w' => e = .returned (.tuple #[newV a b c, .int .i64 0]) ∧ Keep Nil w w' := by
  have HK := hid ((Keep.refl (S := Nil) w).alloc (.cells #[.int .i64 a, .int .i64 b, .int .i64 c, .slice none 0 0, .int .i64 0, .int .i64 0, .bool false] 61 (0, 0)))
  obtain ⟨⟨h1, h2⟩, ⟨h3, h4⟩, h5, h6, h7⟩ := h
  have e := beq_f h5
  go_enter Try.func23, Try.ntmps23
  go_wp2
  refine bodyPost_ret (v := .tuple #[newV a b c, .int .i64 0]) (by simp [results, Try.results23, go_sem, newV]) rfl ⟨rfl, HK.out⟩

theorem same_msg (w : World) (B : Nat) (m : MS) (u v : Value) (hu : Bts B w u m.load) (hv : Bts B w v m.load) :
    Calls Try.prog 43 #[mV m u, mV m v] w fun e w' => e = .returned (.bool true) ∧ Keep Nil w w' := by
  obtain ⟨aou, capu, rfl, -⟩ := id hu
  obtain ⟨aov, capv, rfl, -⟩ := id hv
  have HS := hid (fun o1 o2 => same_any ((w.alloc o1).alloc o2) B _ _ _ _ ((hu.alloc o1).alloc o2) ((hv.alloc o1).alloc o2))
  have HK := hid (fun o1 o2 => ((Keep.refl (S := Nil) w).alloc o1).alloc o2)
  clear hu hv
  unfold mV
  go_enter Try.func43, Try.ntmps43
  go_wp2_with fail
  refine (HS.out _ _).mono ?_
  rintro e w' ⟨rfl, rfl⟩
  go_wp2
  go_ret
  exact ⟨by simp, HK.out _ _⟩

end Go.Proofs.Ytjlgolkippleaaa
