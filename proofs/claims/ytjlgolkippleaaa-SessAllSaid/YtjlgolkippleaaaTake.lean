/-
  The sessions' End: take.
-/
import Derived.Test.YtjlgolkippleaaaSend
import Derived.BigRegion
namespace Go.Proofs.Ytjlgolkippleaaa
open Go.RowKit

theorem mut_one {B p : Nat} {w : World} {c : Array Value} (hp : B ≤ p) (h : w.heap[p]? = some (.cells c 76 (0, 0))) : Mut B w (One p) := by
  rintro k rfl
  exact ⟨hp, fun cur fr e => by rw [h] at e; simp at e⟩
/-- take -/
def takeTo (E : ES) (n : Int) : ES := if E.base < n then { E with base := n, opened := E.opened.drop (n - E.base).toNat } else E
theorem take_some (w : World) (B p q : Nat) (E : ES) (n : Int) (H : EndAt B w p q E) (hb : 0 ≤ E.base) (hb2 : E.base ≤ 1152921504606846976) (hl : E.opened.length ≤ 8) (h0 : 0 ≤ n) (hn : n ≤ E.base + E.opened.length) :
    Calls Try.prog 41 #[.pointer (some ⟨p, 3, none⟩), .int .i64 n] w fun e w' => e = .returned (.tuple #[]) ∧ EndAt B w' p q (takeTo E n) ∧ Keep (Two p q) w w' := by
  have hw : IntKind.i64.wrap (n - E.base) = n - E.base := IntWalk.i64_in _ (by omega)
  by_cases hk : E.base < n
  · obtain ⟨v, vs, hbk, hr, hx⟩ := H.block
    obtain ⟨c0, c1, c2, c3, -, c5, c6⟩ := H.cells
    obtain ⟨ao, cap, rfl⟩ := hr.shape
    have f3 := row_free hbk 3
    have f4 := row_free hbk 4
    have c4 : w.cell? ⟨p, 4, none⟩ = some (.slice ao E.opened.length cap) := by rw [row_cell hbk]; rfl
    obtain ⟨k, rfl⟩ : ∃ k : Nat, n = E.base + k := ⟨(n - E.base).toNat, by omega⟩
    have e1 : takeTo E (E.base + k) = { E with base := E.base + k, opened := E.opened.drop k } := by
      unfold takeTo; rw [if_pos hk]; congr; omega
    rw [e1]
    have hk1 : 0 < k := by omega
    have hk2 : k ≤ E.opened.length := by omega
    have e2 : E.base + (k : Int) - E.base = k := by omega
    rw [e2] at hw
    have HE := hid H
    have HBK := hid hbk
    have HR := hid hr
    have HX := hid hx
    clear H hbk hr hx hk e1 hn
    rcases HR.out with ⟨h, _⟩ | ⟨off, cap', cur, hv, hq, hlen, hle, hmax, hfit, hcur⟩
    · omega
    cases hv
    go_enter Try.func41, Try.ntmps41
    have HQ := hid hq
    have HL := hid hlen
    have HM := hid hmax
    have HF := hid hfit
    have HC := hid hcur
    clear hq hlen hmax hfit hcur c0 c1 c2 c5 c6 h0
    go_wp2_with fail
    go_region
    go_wp2
    · refine bodyPost_end (v := .tuple #[]) (by simp [results, Try.results41, go_sem]) rfl ⟨rfl, ?_, ?_⟩
      · have hm := (mut_one (B := B) HE.out.pB HBK.out)
        refine (EndAt.opened' (E := { E with base := E.base + k }) (v := .slice (some ⟨q, off, none⟩) E.opened.length cap) (vs := []) HE.out.pB HE.out.qB (row_set HBK.out 3 _) ?_ (fun i hi => ?_) ?_).drew
        · have e : (E.opened.drop k).length = 0 := by simp; omega
          rw [e]
          exact .inl ⟨rfl, rfl, _, rfl⟩
        · have e : (E.opened.drop k).length = 0 := by simp; omega
          omega
        · exact HE.out.qt.imp id (fun ⟨c, e⟩ => ⟨c, row_other e (fun e' => by have e'' : q = p := e'; rw [e'', HBK.out] at e; simp at e) _⟩)
      · exact (((Keep.refl w).setCell (S := Two p q) (p := ⟨p, 3, none⟩) (fun _ => .inl rfl) _).setCell (p := ⟨p, 4, none⟩) (fun _ => .inl rfl) _).drew
    · refine bodyPost_end (v := .tuple #[]) (by simp [results, Try.results41, go_sem]) rfl ⟨rfl, ?_, ?_⟩
      · have hm := (mut_one (B := B) HE.out.pB HBK.out)
        have hqp : q ≠ p := fun e => by have h := HQ.out; rw [e, HBK.out] at h; simp at h
        refine (EndAt.opened' (E := { E with base := E.base + k }) (v := .slice (some ⟨q, off, none⟩) E.opened.length cap) (vs := vs.drop k) HE.out.pB HE.out.qB (row_set HBK.out 3 _) ?_ (fun i hi => ?_) ?_).drew
        · have e : (E.opened.drop k).length = E.opened.length - k := by simp
          rw [e]
          have hvl := HL.out
          have hmx := HM.out
          have hft := HF.out
          refine .inr ⟨off + k, _, cur, rfl, row_other HQ.out hqp _, by simp; omega, Nat.le_refl _, by omega, by omega, fun j hj => ?_⟩
          rw [Nat.add_assoc, HC.out (k + j) (by omega)]
          simp
        · simp at hi
          obtain ⟨u, hu, hbt⟩ := HX.out (k + i) (by omega)
          refine ⟨u, by simpa using hu, ?_⟩
          rw [List.getElem_drop]
          exact hbt.keep ((Keep.refl w).setCell (S := One p) (p := ⟨p, 3, none⟩) (fun _ => rfl) _) hm
        · exact .inr ⟨cur, row_other HQ.out hqp _⟩
      · exact (((Keep.refl w).setCell (S := Two p q) (p := ⟨p, 3, none⟩) (fun _ => .inl rfl) _).setCell (p := ⟨p, 4, none⟩) (fun _ => .inl rfl) _).drew
  · have e1 : takeTo E n = E := if_neg hk
    rw [e1]
    obtain ⟨c0, c1, c2, c3, -, c5, c6⟩ := H.cells
    have hd : n - E.base ≤ 0 := by omega
    have HE := hid H
    clear H
    go_enter Try.func41, Try.ntmps41
    go_wp2
    refine bodyPost_end (v := .tuple #[]) (by simp [results, Try.results41, go_sem]) rfl ⟨rfl, HE.out, Keep.refl _⟩

end Go.Proofs.Ytjlgolkippleaaa
