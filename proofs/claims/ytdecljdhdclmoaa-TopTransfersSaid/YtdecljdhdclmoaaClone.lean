/-
  slices.Clone, Same.
-/
import Derived.Test.YtdecljdhdclmoaaBytes
namespace Go.Proofs.Ytdecljdhdclmoaa
open Go.RowKit

theorem Bts.alloc {B : Nat} {w : World} {v : Value} {xs : List UInt8} (h : Bts B w v xs) (o : Obj) : Bts B (w.alloc o) v xs := h.keep ((Keep.refl w).alloc o) Mut.nil
theorem Bts.drew {B : Nat} {w : World} {v : Value} {xs : List UInt8} (h : Bts B w v xs) : Bts B w.drew v xs := h
theorem Bts.drewN {B n : Nat} {w : World} {v : Value} {xs : List UInt8} (h : Bts B w v xs) : Bts B (w.drewN n) v xs := h

theorem clone_nil (w : World) (n c : Nat) : Calls Try.prog 34 #[.slice none n c] w fun e w' => e = .returned (.slice none 0 0) ∧ w = w' := by
  have q := fun (w : World) (a : Option Addr) (n c n' c' : Nat) => Lib.run_eql_slice_nil (P := Try.prog) w _ _ a n c n' c' Try.underlying22
  go_enter Try.func34, Try.ntmps34
  go_wp2
  go_ret
  exact ⟨rfl, rfl⟩

/-- what Clone answers -/
def Cloned (w : World) (xs : List UInt8) (e : Ending) (w' : World) : Prop :=
  ∃ q ao cap, e = .returned (.slice ao xs.length cap) ∧ RowAt w' 5 1 q (.slice ao xs.length cap) xs.length (bcells xs) ∧ w.heap.size ≤ q ∧ Keep Nil w w'
theorem clone_some (w : World) (B : Nat) (v : Value) (xs : List UInt8) (h : Bts B w v xs) (hl : xs.length ≤ 140737488355328) :
    Calls Try.prog 34 #[v] w (Cloned w xs) := by
  have q := fun (w : World) (a : Option Addr) (n c n' c' : Nat) => Lib.run_eql_slice_nil (P := Try.prog) w _ _ a n c n' c' Try.underlying22
  obtain ⟨ao, cap, rfl, hc⟩ := h
  cases ao with
  | none =>
    have hx : ¬ 0 < xs.length := fun hp => by obtain ⟨b, off, h, _⟩ := hc hp; cases h
    obtain rfl : xs = [] := List.eq_nil_of_length_eq_zero (by omega)
    refine (clone_nil w _ _).mono ?_
    rintro e w' ⟨rfl, rfl⟩
    exact ⟨w.heap.size, none, 0, rfl, RowAt.nil _ _ _ _, Nat.le_refl _, Keep.refl _⟩
  | some a =>
    have HB := hid (show Bts B w (.slice (some a) xs.length cap) xs from ⟨some a, cap, rfl, hc⟩)
    clear hc
    go_enter Try.func34, Try.ntmps34
    go_wp2_with (at_builtin; go_loud (refine wpList_append_row _ rfl _ _ 22 22 rfl 5 (.int .u8 0) 1 1 Try.underlying22 info5 rfl w.heap.size (.slice (some ⟨w.heap.size, 0, none⟩) 0 0) 0 [] rfl ?r _ _ _ rfl (HB.out.alloc _).src ?b1 ?b2 ?_))
    case r => exact .inr ⟨0, 0, _, rfl, heap_new _ _, by simp, Nat.le_refl _, by simp, by simp, fun j hj => absurd hj (by simp)⟩
    case b1 => simp [maxLen]; omega
    case b2 => omega
    intro q' ao' cap' w1 h1 k1 h2
    go_wp2
    go_ret
    refine ⟨q', ao', cap', rfl, h1, ?_, ?_⟩
    · rcases h2 with rfl | ⟨h2, _⟩
      · exact Nat.le_refl _
      · omega
    · exact ((Keep.refl w).alloc _).andThen k1 (fun k hk e => by have := e.1; omega)


end Go.Proofs.Ytdecljdhdclmoaa
