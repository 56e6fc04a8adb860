/-
  The reference's Bag: Put, of one datagram.
-/
import Derived.Test.YtjlgolkippleaaaBag3
namespace Go.Proofs.Ytjlgolkippleaaa
open Go.RowKit

/-- where the loop of Put stands -/
def PutRel (B W o : Nat) (gs : List GS) (w : World) (i n : Value) (wr : World) : Prop :=
  (i = .int .i64 0 ∧ n = .int .i64 0 ∧ wr = w) ∨ (i = .int .i64 1 ∧ n = .int .i64 1 ∧ BagTo B W o gs w wr ∧ ∃ v, wr.cell? ⟨W, o, none⟩ = some v ∧ ∃ ao m cap, v = .slice ao m cap)

theorem row_at {w : World} {a : Addr} {i : Nat} {c : Array Value} {v : Value} (h1 : w.cell? a = c[i]?) (h2 : w.cell? a = some v) : ∃ _ : Unit, i < c.size := by
  rw [h1] at h2
  exact ⟨(), (Array.getElem?_eq_some_iff.1 h2).1⟩
theorem nil_app {wc w2 : World} {W e : Nat} {cW : Array Value} (h : wc.heap[W]? = some (.cells cW 41 (0, 0))) (he : e ≠ 41) (k : Keep (Typ wc W e) wc w2) : Keep Nil wc w2 :=
  k.mono (fun i hi ⟨e1, cur, e2⟩ => by rw [e1, h] at e2; simp at e2; exact he e2.2.symm)
theorem typ_new {N W q1 : Nat} {wc : World} {cW : Array Value} (h : wc.heap[W]? = some (.cells cW 41 (0, 0))) (hq : q1 = W ∨ N ≤ q1) : ∀ i, i < N → Typ wc q1 96 i → Nil i := by
  rintro i hi ⟨rfl, cur, e⟩
  rcases hq with rfl | hq
  · rw [h] at e; simp at e
  · omega
theorem typ_mut {B N W q1 : Nat} {wc : World} {cW : Array Value} (hB : B ≤ W) (_h : wc.heap[W]? = some (.cells cW 41 (0, 0))) (hq : q1 = W ∨ N ≤ q1) (hN : B ≤ N) : Mut B wc (Typ wc q1 96) := by
  rintro i ⟨rfl, cur, e⟩
  exact ⟨by rcases hq with h | h <;> omega, fun cur' fr e' => by rw [e] at e'; simp at e'⟩
theorem row_new {N W q n : Nat} {w : World} {v : Value} {xs : List Value} {cW : Array Value} (h : w.heap[W]? = some (.cells cW 41 (0, 0))) (hr : RowAt w 96 2 q v n xs) (hn : 0 < n) (hq : q = W ∨ N ≤ q) : N ≤ q := by
  rcases hq with rfl | hq
  · rcases hr with ⟨h0, -⟩ | ⟨_, _, cur, _, e, _⟩
    · omega
    · rw [h] at e; simp at e
  · exact hq

set_option maxRecDepth 100000 in
set_option maxHeartbeats 4000000 in
theorem bput_one (w : World) (B W o g c capl : Nat) (v u : Value) (gs : List GS) (us : List Value) (bs : List UInt8) (H : GramsAt B w g v gs us) (h : w.cell? ⟨W, o, none⟩ = some v) (hf : w.frozen? ⟨W, o, none⟩ = false) (hW : ∃ c, w.heap[W]? = some (.cells c 41 (0, 0))) (HBW : B ≤ W) (hn : gs.length < 256)
    (hu : Bts B w u bs) (hc : w.cell? ⟨c, 0, none⟩ = some u) (hbs : bs.length ≤ 100000) :
    Calls Try.prog 35 #[.pointer (some ⟨W, o, none⟩), .slice (some ⟨c, 0, none⟩) 1 capl] w fun e w' => e = .returned (.int .i64 1) ∧ BagTo B W o (gs ++ [⟨bs, false⟩]) w w' := by
  obtain ⟨aob, cap, rfl, hcap⟩ : ∃ aob cap, v = .slice aob gs.length cap ∧ gs.length ≤ cap := by
    rcases H.row with ⟨h0, h1, ao, rfl⟩ | ⟨off, cap, cur, rfl, -, -, hle, -⟩
    · exact ⟨ao, 0, by rw [h0], by omega⟩
    · exact ⟨_, cap, rfl, hle⟩
  obtain ⟨aou, capu, rfl, -⟩ := id hu
  have hWl : W < w.heap.size := cell_lt h
  obtain ⟨cW, hcW⟩ := hW
  have HW := hid hcW
  have HG := hid H
  have HO := hid (gramCells_one gs us H.one)
  have HU := hid hu
  have hgl : (gramCells gs us).length = gs.length * 2 := gramCells_length gs us H.len
  replace hgl := hid hgl
  have SA := hid (fun w2 (kk : Keep Nil w w2) => (HG.out.row.keep kk (fun e => e)).src (P := Try.prog) Try.underlying33 HO.out)
  have SU := hid (fun w2 (kk : Keep Nil w w2) => (hu.keep kk Mut.nil).src)
  have CW := hid (fun w2 (kk : Keep Nil w w2) => And.intro (kk.cell h (fun e => e)) (kk.cell hc (fun e => e)))
  have FW := hid (fun w2 (kk : Keep Nil w w2) => (World.frozen?_of_block (kk.block W (cell_lt h) (fun e => e)) (a := ⟨W, o, none⟩)).trans hf)
  clear H hu hcW
  have hd : decide ((gs.length : Int) < 256) = true := by simp; omega
  go_enter Try.func35, Try.ntmps35
  go_wp2_with fail
  go_loopw [6, 5] (fun i n wr => PutRel B W o (gs ++ [⟨bs, false⟩]) w i n wr) (fun i _ _ => 1 - (intOf i).toNat)
  case atStart => exact .inl ⟨rfl, rfl, rfl⟩
  case round =>
    rcases hrel with ⟨rfl, rfl, rfl⟩ | ⟨rfl, rfl, hbag, vv, hvv, aov, mv, capv, rfl⟩
    · go_wp2_with fail
      have HWr := hid (fun w2 (kk : Keep Nil wr w2) => kk.row HW.out (fun e => e))
      have KD : Hid (Keep Nil wr wr.drew) := hid (Keep.refl wr).drew
      have HBS : Hid (B ≤ wr.heap.size) := hid (by omega)
      go_region_law (first
        | (refine step_append_row wr.drew rfl (.const (.slice none 0 0)) (.tmp 25) 33 33 rfl 96 (.agg #[.slice none 0 0, .bool false]) 2 32 Try.underlying33 info96 rfl W (.slice none 0 0) 0 [] rfl (RowAt.nil _ _ _ _) (.slice aob gs.length cap) gs.length (gramCells gs us) rfl (SA.out _ (KD.out)) (by simp only [maxLen]; omega) (by omega) ?_; intro q1 ao1 cap1 w2 r1 k1 h1; rw [Nat.zero_add] at r1 ⊢; have kk1 := nil_app (e := 96) (HWr.out _ (KD.out)) (by decide) k1; have K1 : Keep Nil wr w2 := Keep.trans (KD.out) kk1; have KN := hid K1; have R1 := hid r1; obtain ⟨x1, x2⟩ := CW.out w2 K1; have Q1 : Hid (q1 = W ∨ wr.heap.size ≤ q1) := hid (Or.elim h1 (fun h => Or.inl h) (fun h => Or.inr (Nat.le_trans (Keep.size (KD.out)) (And.left h)))); clear r1 k1 h1 kk1 K1)
        | (refine step_append_row w2 rfl (.const (.slice none 0 0)) (.tmp 30) 27 27 rfl 5 (.int .u8 0) 1 1 Try.underlying27 info5 rfl W (.slice none 0 0) 0 [] rfl (RowAt.nil _ _ _ _) (.slice aou bs.length capu) bs.length (bcells bs) rfl (SU.out _ (KN.out)) (by simp only [maxLen]; omega) (by omega) ?_; intro q5 ao5 cap5 w5 r5 k5 h5; rw [Nat.zero_add] at r5 ⊢; have kk5 := nil_app (e := 5) (HWr.out _ (KN.out)) (by decide) k5; have K5 : Keep Nil wr w5 := Keep.trans (KN.out) kk5; have KM := hid K5; replace R1 := hid (R1.out.keep kk5 (fun e => e)); have V5 := hid (RowAt.blk (B := B) (show RowAt w5 5 1 q5 (.slice ao5 bs.length cap5) bs.length (bcells bs) from r5)); obtain ⟨x3, x4⟩ := CW.out w5 K5; clear r5 k5 h5 kk5 K5)
        | (refine step_append_row (w5.alloc (.cells #[.slice ao5 bs.length cap5, .bool false] 96)) rfl (.tmp 26) (.tmp 33) 33 33 rfl 96 (.agg #[.slice none 0 0, .bool false]) 2 32 Try.underlying33 info96 rfl q1 (.slice ao1 gs.length cap1) gs.length (gramCells gs us) rfl (R1.out.alloc _) _ 1 [.slice ao5 bs.length cap5, .bool false] rfl (src_box (heap_new w5 _) rfl rfl) (by simp only [maxLen]; omega) (by omega) ?_; intro q2 ao2 cap2 w3 r2 k2 h2; have K2 : Keep Nil wr w3 := Keep.andThen (KM.out.alloc (.cells #[.slice ao5 bs.length cap5, .bool false] 96)) k2 (typ_new (HWr.out _ (KM.out.alloc (.cells #[.slice ao5 bs.length cap5, .bool false] 96))) Q1.out); obtain ⟨x5, x6⟩ := CW.out w3 K2; have f2 := FW.out w3 K2; have V3 := hid (((V5.out.keep ((Keep.refl w5).alloc (.cells #[.slice ao5 bs.length cap5, .bool false] 96)) Mut.nil).keep k2 (typ_mut HBW (HWr.out _ (KM.out.alloc (.cells #[.slice ao5 bs.length cap5, .bool false] 96))) Q1.out (Nat.le_trans HBS.out (Nat.le_refl _))))); have R2 := hid r2; have KK2 := hid K2; have Q2 : Hid (wr.heap.size ≤ q2) := hid (row_new (HWr.out w3 K2) r2 (by omega) (Or.elim h2 (fun e => (congrArg (fun z => z = W ∨ wr.heap.size ≤ z) e).mpr Q1.out) (fun e => Or.inr (Nat.le_trans (Keep.size (KM.out.alloc (.cells #[.slice ao5 bs.length cap5, .bool false] 96))) (And.left e))))); clear r2 k2 h2 K2))
      all_goals
        have W3 := KK2.out.row HW.out (fun e => e)
        have hmut : Mut B w3 (One W) := by
          rintro i rfl
          exact ⟨HBW, fun cur fr e => by rw [W3] at e; simp at e⟩
        have kS : Keep (One W) w3 (w3.setCell ⟨W, o, none⟩ (.slice ao2 (gs.length + 1) cap2)) := (Keep.refl w3).setCell (S := One W) (p := ⟨W, o, none⟩) (fun _ => rfl) _
        have hqW : q2 ≠ W := fun e => by have := Q2.out; omega
        have G3 := ((HG.out.snoc (x := ⟨bs, false⟩) KK2.out V3.out R2.out).keep kS hmut hqW)
        have hbag : BagTo B W o (gs ++ [⟨bs, false⟩]) wr (w3.setCell ⟨W, o, none⟩ (.slice ao2 (gs.length + 1) cap2)) := ⟨q2, _, _, Q2.out, G3, Keep.set_both KK2.out⟩
        have hrow := row_set W3 o (.slice ao2 (gs.length + 1) cap2)
        obtain ⟨cv, hcv⟩ := row_at (row_cell W3 o) x5
        have hc5 : (w3.setCell ⟨W, o, none⟩ (.slice ao2 (gs.length + 1) cap2)).cell? ⟨W, o, none⟩ = some (.slice ao2 (gs.length + 1) cap2) := by
          rw [row_cell hrow, Array.getElem?_setIfInBounds_self_of_lt hcv]
        have hr : PutRel B W o (gs ++ [⟨bs, false⟩]) wr (.int .i64 1) (.int .i64 1) (w3.setCell ⟨W, o, none⟩ (.slice ao2 (gs.length + 1) cap2)) := .inr ⟨rfl, rfl, hbag, _, hc5, _, _, _, rfl⟩
        replace hr := hid hr
        clear W3 hmut kS hqW G3 hbag hrow hcv hc5 R2 KK2 Q2 R1 KN Q1 SA CW FW HW HU HG KM V5 V3
        generalize w3.setCell ⟨W, o, none⟩ (.slice ao2 (gs.length + 1) cap2) = w4 at *
        go_wp2_with fail
        go_roundw
        case rel => exact hr.out
        case measure => simp [intOf] <;> omega
    · have hd2 : decide ((mv : Int) < 256) = decide ((mv : Int) < 256) := rfl
      have HB := hid hbag
      clear hbag
      go_wp2
      go_ret
      exact ⟨rfl, HB.out⟩
theorem bput_full (w : World) (W o c capl : Nat) (ao : Option Addr) (n cap : Nat) (h : w.cell? ⟨W, o, none⟩ = some (.slice ao n cap)) (hn : 256 ≤ n) :
    Calls Try.prog 35 #[.pointer (some ⟨W, o, none⟩), .slice (some ⟨c, 0, none⟩) 1 capl] w fun e w' => e = .returned (.int .i64 0) ∧ w = w' := by
  have hd : decide ((n : Int) < 256) = false := by simp; omega
  go_enter Try.func35, Try.ntmps35
  go_wp2_with fail
  go_loop [6, 5] (fun i n => i = .int .i64 0 ∧ n = .int .i64 0) (fun i _ => 1 - (intOf i).toNat)
  case atStart => exact ⟨rfl, rfl⟩
  case round =>
    obtain ⟨rfl, rfl⟩ := hrel
    go_wp2
    go_ret
    exact ⟨rfl, rfl⟩
end Go.Proofs.Ytjlgolkippleaaa
