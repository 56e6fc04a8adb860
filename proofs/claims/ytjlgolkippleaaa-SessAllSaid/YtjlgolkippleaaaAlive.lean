/-
  alive: a load comes, and is acked.
-/
import Derived.Test.YtjlgolkippleaaaStep
import Derived.Lib.SlBytesConst
namespace Go.Proofs.Ytjlgolkippleaaa
open Go.RowKit

theorem msgCells_get : ∀ (ms : List MS) (us : List Value) (i j : Nat) (u : Value) (_ : us.length = ms.length) (hi : i < ms.length) (_ : us[i]? = some u) (_ : j < 7), (msgCells ms us)[i * 7 + j]? = (mcells ms[i] u)[j]?
  | [], _, i, _, _, _, hi, _, _ => absurd hi (Nat.not_lt_zero _)
  | m :: ms, [], _, _, _, h, _, _, _ => by simp at h
  | m :: ms, v :: us, 0, j, u, h, hi, hu, hj => by
    simp at hu
    subst hu
    have e : msgCells (m :: ms) (v :: us) = mcells m v ++ msgCells ms us := rfl
    rw [e, List.getElem?_append_left (by simp [mcells]; omega)]
    simp
  | m :: ms, v :: us, i + 1, j, u, h, hi, hu, hj => by
    have e : msgCells (m :: ms) (v :: us) = mcells m v ++ msgCells ms us := rfl
    have hl : (mcells m v).length = 7 := rfl
    rw [e, List.getElem?_append_right (by rw [hl]; omega), hl, show (i + 1) * 7 + j - 7 = i * 7 + j by omega]
    exact msgCells_get ms us i j u (by simpa using h) (by simpa using hi) (by simpa using hu) hj

/-- the message with number i of a row: its cells -/
theorem MsgsAt.at_ {N : Nat} {w : World} {q : Nat} {ao : Option Addr} {n cap : Nat} {ms : List MS} (h : MsgsAt N w q (.slice ao n cap) ms) (i : Nat) (hi : i < ms.length) :
    ∃ off qi u, ao = some ⟨q, off, none⟩ ∧ N ≤ q ∧ N ≤ qi ∧ RowAt w 5 1 qi u ms[i].load.length (bcells ms[i].load) ∧ ∀ j, j < 7 → w.cell? ⟨q, off + (i * 7 + j), none⟩ = (mcells ms[i] u)[j]? := by
  obtain ⟨us, h1, h2, h3, h4⟩ := h
  obtain ⟨qi, u, e1, e2, e3⟩ := h4 i hi
  obtain ⟨off, rfl, -⟩ := h2.cell (i * 7) (by omega)
  refine ⟨off, qi, u, rfl, h3, e2, e3, fun j hj => ?_⟩
  obtain ⟨off', ho, hc⟩ := h2.cell (i * 7 + j) (by omega)
  cases ho
  rw [hc]
  exact msgCells_get ms us i j u h1 hi e1 hj

/-- a row of one message -/
theorem MsgsAt.one {N : Nat} {w : World} {q : Nat} {v : Value} {m : MS} (h : MsgsAt N w q v [m]) :
    ∃ off cap qi aou capu, v = .slice (some ⟨q, off, none⟩) 1 cap ∧ N ≤ q ∧ N ≤ qi ∧ RowAt w 5 1 qi (.slice aou m.load.length capu) m.load.length (bcells m.load) ∧
      w.cell? ⟨q, off, none⟩ = some (.int .i64 m.frm) ∧ w.cell? ⟨q, off + 1, none⟩ = some (.int .i64 m.to) ∧ w.cell? ⟨q, off + 2, none⟩ = some (.int .i64 m.kind) ∧ w.cell? ⟨q, off + 3, none⟩ = some (.int .i64 m.epoch) ∧
      w.cell? ⟨q, off + 4, none⟩ = some (.int .i64 m.seq) ∧ w.cell? ⟨q, off + 5, none⟩ = some (.int .i64 m.ack) ∧ w.cell? ⟨q, off + 6, none⟩ = some (.slice aou m.load.length capu) := by
  obtain ⟨ao, cap, rfl⟩ := h.shape
  obtain ⟨off, qi, u, rfl, h1, h2, h3, h4⟩ := h.at_ 0 (by simp)
  obtain ⟨aou, capu, rfl⟩ := h3.shape
  refine ⟨off, cap, qi, aou, capu, rfl, h1, h2, h3, ?_, ?_, ?_, ?_, ?_, ?_, ?_⟩
  · exact h4 0 (by omega)
  · exact h4 1 (by omega)
  · exact h4 2 (by omega)
  · exact h4 3 (by omega)
  · exact h4 4 (by omega)
  · exact h4 5 (by omega)
  · exact h4 6 (by omega)

theorem Keep.fresh2 {w a b : World} {p q : Nat} (h : Keep Nil w a) (k : Keep (Two p q) a b) (hp : w.heap.size ≤ p) (hq : w.heap.size ≤ q) : Keep Nil w b :=
  h.andThen k (fun i hi e => by rcases e with e | e <;> omega)
theorem Keep.stepped {w a b : World} {p : Nat} {v : Value} (h : Keep Nil w a) (hp : w.heap.size ≤ p) (k : Keep Nil (a.setCell ⟨p, 6, none⟩ v) b) : Keep Nil w b :=
  (h.setCell (p := ⟨p, 6, none⟩) (fun hlt => by have h' : p < w.heap.size := hlt; omega) v).trans k
theorem EndAt.stepped {B p q : Nat} {w b : World} {E : ES} (h : EndAt B w p q E) (k : Keep Nil (w.setCell ⟨p, 6, none⟩ (.bool false)) b) : EndAt B b p q { E with owes := false } :=
  (h.setOwes false).keep k Mut.nil (fun e => e) (fun e => e)
theorem EndAt.stepped2 {B p q r s : Nat} {w b : World} {E F : ES} (h : EndAt B w p q E) (h' : EndAt B w r s F) (k : Keep Nil (w.setCell ⟨r, 6, none⟩ (.bool false)) b) (h1 : p ≠ r) (h2 : q ≠ r) : EndAt B b p q E :=
  (h.keep ((Keep.refl w).setCell (S := One r) (p := ⟨r, 6, none⟩) (fun _ => rfl) _) (fun i e => h'.mut i (.inl e)) (fun e => h1 e) (fun e => h2 e)).keep k Mut.nil (fun e => e) (fun e => e)

set_option maxHeartbeats 4000000 in
theorem alive_any (w : World) : Calls Try.prog 10 #[] w fun e w' => e = .returned (.bool true) ∧ Keep Nil w w' := by
  go_enter Try.func10, Try.ntmps10
  go_wp2_with fail
  refine (new_good w w.heap.size (Nat.le_refl _) 0 1 1 (by unfold NewOk; omega)).mono ?_
  rintro e w1 ⟨rfl, ea, ka⟩
  have hpa := ea.lt.1
  have EA := hid ea
  have KA := hid ka
  clear ea ka
  generalize hW : w.heap.size = B at *
  have hW := hid hW
  go_wp2_with fail
  refine (new_good w1 B (by omega) 1 0 1 (by unfold NewOk; omega)).mono ?_
  rintro e w2 ⟨rfl, eb, kb⟩
  have hpb := eb.lt.1
  have EB := hid eb
  have EA2 := hid (EA.out.keep kb Mut.nil (fun e => e) (fun e => e))
  have K2 := hid (KA.out.trans kb)
  clear eb kb EA KA
  generalize w1.heap.size = pb at *
  have AA := hid (fun o => EA2.out.alloc o)
  have AB := hid (fun o => EB.out.alloc o)
  have AK := hid (fun o => K2.out.alloc o)
  have kc := fun (w : World) (C : Array Value) (n c : Nat) => Lib.run_convert_bytes_const (P := Try.prog) w 27 5 C n c Try.underlying27 Try.underlying5
  have AN := hid (heap_new w2 (.cells #[.int .u8 120] 5 (1, 2)))
  have AS := hid (size_alloc w2 (.cells #[.int .u8 120] 5 (1, 2)))
  go_wp2_with fail
  have hv : Bts B (w2.alloc (.cells #[.int .u8 120] 5 (1, 2))) (.slice (some ⟨w2.heap.size, 0, none⟩) 1 1) [120] :=
    ⟨_, 1, rfl, fun _ => ⟨w2.heap.size, 0, rfl, .inr ⟨_, _, AN.out⟩, fun j hj => by
      obtain rfl : j = 0 := by simp at hj; omega
      have h := AN.out
      unfold World.cell?
      rw [h]
      rfl⟩⟩
  have hs := send_some _ B B B (newE 0 1 1) _ [120] (AA.out _) (by decide) (by decide) hv
  rw [show sendErr (newE 0 1 1) [120] = 0 from rfl, show sendTo (newE 0 1 1) [120] = ⟨0, 1, 1, 0, [[120]], 0, false⟩ from rfl] at hs
  have AB' := hid (AB.out (.cells #[.int .u8 120] 5 (1, 2)))
  have AK' := hid (AK.out (.cells #[.int .u8 120] 5 (1, 2)))
  refine hs.mono ?_
  rintro e w4 ⟨rfl, qa, ha, k4, hqa⟩
  have hqa' : Hid (qa = B ∨ pb < qa) := hid (by rcases hqa with h | h; exact .inl h; rw [AS.out] at h; exact .inr (by omega))
  have EB4 := hid (AB'.out.keep k4 (AA.out _).mut (by rintro (e | e) <;> omega) (by rintro (e | e) <;> omega))
  have K4 := hid (AK'.out.fresh2 k4 (by rw [hW.out]; exact Nat.le_refl _) (by rw [hW.out]; exact Nat.le_refl _))
  have A4 := hid ha
  clear hv hs ha k4 hqa AA AB AK AN AS AB' AK' EA2 EB K2
  go_wp2_with fail
  have hst := step_some w4 B B qa _ A4.out ⟨by decide, by decide, by decide, by decide, by decide, by decide, by simp⟩
  unfold StepPost at hst
  rw [show stepMs ⟨0, 1, 1, 0, [[120]], 0, false⟩ = [⟨0, 1, 1, 1, 1, 0, [120]⟩] from rfl] at hst
  refine hst.mono ?_
  rintro e w5 ⟨q5, v5, rfl, hm, k5⟩
  obtain ⟨off5, cap5, qi5, ao5, capu5, rfl, -, -, hrow5, m0, m1, m2, m3, m4, m5, m6⟩ := hm.one
  simp only [List.length_cons, List.length_nil] at hrow5 m6
  have A5 := hid (A4.out.stepped k5)
  have B5 := hid (EB4.out.stepped2 A4.out k5 (by omega) (by omega))
  have K5 := hid (K4.out.stepped (by rw [hW.out]; exact Nat.le_refl _) k5)
  have V5 := hid (Bts.of_row (B := B) hrow5)
  clear hst hm k5 hrow5 A4 EB4 K4
  go_wp2_with fail
  have hrc := recv_some w5 B pb pb (newE 1 0 1) ⟨0, 1, 1, 1, 1, 0, [120]⟩ _ B5.out ⟨by decide, by decide, by decide, by decide, by decide, by decide, by simp [newE]⟩ V5.out
  unfold RecvPost at hrc
  rw [show comes (newE 1 0 1) ⟨0, 1, 1, 1, 1, 0, [120]⟩ = true from rfl, show wrongE (newE 1 0 1) ⟨0, 1, 1, 1, 1, 0, [120]⟩ = 0 from rfl, show recvTo (newE 1 0 1) ⟨0, 1, 1, 1, 1, 0, [120]⟩ = ⟨1, 0, 1, 0, [], 1, true⟩ from rfl] at hrc
  refine hrc.mono ?_
  rintro e w6 ⟨v6, rfl, hv6, hb6, k6⟩
  rw [if_pos rfl] at hv6
  have A6 := hid (A5.out.keep k6 B5.out.mut (by rintro (e | e) <;> omega) (by rcases hqa'.out with h | h <;> rintro (e | e) <;> omega))
  have B6 := hid hb6
  have V6 := hid hv6
  have K6 := hid (K5.out.fresh2 k6 (by rw [hW.out]; omega) (by rw [hW.out]; omega))
  clear hrc hv6 hb6 k6 A5 B5 K5 V5 m0 m1 m2 m3 m4 m5 m6
  go_wp2_with fail
  have hst := step_some w6 B pb pb _ B6.out ⟨by decide, by decide, by decide, by decide, by decide, by decide, by simp⟩
  unfold StepPost at hst
  rw [show stepMs ⟨1, 0, 1, 0, [], 1, true⟩ = [⟨1, 0, 2, 1, 0, 1, []⟩] from rfl] at hst
  refine hst.mono ?_
  rintro e w7 ⟨q7, v7, rfl, hm, k7⟩
  obtain ⟨off7, cap7, qi7, ao7, capu7, rfl, -, -, hrow7, m0, m1, m2, m3, m4, m5, m6⟩ := hm.one
  simp only [List.length_nil] at hrow7 m6
  have B7 := hid (B6.out.stepped k7)
  have A7 := hid (A6.out.stepped2 B6.out k7 (by omega) (by rcases hqa'.out with h | h <;> omega))
  have K7 := hid (K6.out.stepped (by rw [hW.out]; omega) k7)
  have U7 := hid (Bts.of_row (B := B) hrow7)
  have V7 := hid ((V6.out.keep ((Keep.refl w6).setCell (S := One pb) (p := ⟨pb, 6, none⟩) (fun _ => rfl) (.bool false)) (fun i e => B6.out.mut i (.inl e))).keep k7 Mut.nil)
  clear hst hm k7 hrow7 A6 B6 K6 V6
  go_wp2_with fail
  have hrc := recv_some w7 B B qa ⟨0, 1, 1, 0, [[120]], 0, false⟩ ⟨1, 0, 2, 1, 0, 1, []⟩ _ A7.out ⟨by decide, by decide, by decide, by decide, by decide, by decide, by simp⟩ U7.out
  unfold RecvPost at hrc
  rw [show comes ⟨0, 1, 1, 0, [[120]], 0, false⟩ ⟨1, 0, 2, 1, 0, 1, []⟩ = false from rfl, show wrongE ⟨0, 1, 1, 0, [[120]], 0, false⟩ ⟨1, 0, 2, 1, 0, 1, []⟩ = 0 from rfl, show recvTo ⟨0, 1, 1, 0, [[120]], 0, false⟩ ⟨1, 0, 2, 1, 0, 1, []⟩ = ⟨0, 1, 1, 1, [], 0, false⟩ from rfl] at hrc
  refine hrc.mono ?_
  rintro e w8 ⟨v8, rfl, hv8, ha8, k8⟩
  obtain ⟨ao8, cap8, rfl, -⟩ := hv8
  have A8 := hid ha8
  have B8 := hid (B7.out.keep k8 A7.out.mut (by rcases hqa'.out with h | h <;> rintro (e | e) <;> omega) (by rcases hqa'.out with h | h <;> rintro (e | e) <;> omega))
  have V8 := (V7.out.keep k8 A7.out.mut).convert
  have K8 := hid (K7.out.fresh2 k8 (by rw [hW.out]; exact Nat.le_refl _) (by rw [hW.out]; rcases hqa'.out with h | h <;> omega))
  have O8 := hid (open_end A8.out (by decide))
  have C8 := hid (came_end B8.out (by decide))
  clear hrc ha8 k8 A7 B7 K7 V7 m0 m1 m2 m3 m4 m5 m6
  go_wp2_with fail
  refine O8.out.mono ?_
  rintro e w9 ⟨rfl, rfl⟩
  go_wp2_with fail
  refine C8.out.mono ?_
  rintro e w9 ⟨rfl, rfl⟩
  go_wp2
  go_ret
  exact ⟨rfl, K8.out⟩

end Go.Proofs.Ytjlgolkippleaaa
