/-
  The reference's Bag: Twice.
-/
import Derived.Test.YtjlgolkippleaaaBagW
namespace Go.Proofs.Ytjlgolkippleaaa
open Go.RowKit

theorem btwice_none (w : World) (W o : Nat) (ao : Option Addr) (n cap : Nat) (i : Int) (h : w.cell? ⟨W, o, none⟩ = some (.slice ao n cap)) (hi : ¬ (0 ≤ i ∧ i < n)) :
    Calls Try.prog 31 #[.pointer (some ⟨W, o, none⟩), .int .i64 i] w fun e w' => e = .returned (.int .i64 9) ∧ w = w' := by
  have HH := has_any w W o ao n cap i h
  rw [decide_eq_false hi] at HH
  replace HH := hid HH
  clear hi
  go_enter Try.func31, Try.ntmps31
  go_wp2_with fail
  refine HH.out.mono ?_
  rintro e w1 ⟨rfl, rfl⟩
  go_wp2
  go_ret
  exact ⟨rfl, rfl⟩
theorem btwice_full (w : World) (W o k : Nat) (ao : Option Addr) (n cap : Nat) (h : w.cell? ⟨W, o, none⟩ = some (.slice ao n cap)) (hk : k < n) (hn : 256 ≤ n) :
    Calls Try.prog 31 #[.pointer (some ⟨W, o, none⟩), .int .i64 (k : Nat)] w fun e w' => e = .returned (.int .i64 6) ∧ w = w' := by
  have HH := has_any w W o ao n cap k h
  rw [decide_eq_true ⟨by omega, by omega⟩] at HH
  replace HH := hid HH
  have hd : decide (256 ≤ (n : Int)) = true := by simp; omega
  go_enter Try.func31, Try.ntmps31
  go_wp2_with fail
  refine HH.out.mono ?_
  rintro e w1 ⟨rfl, rfl⟩
  go_wp2
  go_ret
  exact ⟨rfl, rfl⟩

theorem src_box {w : World} {z : Nat} {u v : Value} (h : w.heap[z]? = some (.cells #[u, v] 96 (0, 0))) (h1 : u.oneCell' = true) (h2 : v.oneCell' = true) : Src Try.prog 2 33 (.slice (some ⟨z, 0, none⟩) 1 1) 1 [u, v] w := by
  refine Src.ofSlice _ Try.underlying33 _ _ _ _ rfl (fun j x hx => ?_) (by simp [h1, h2])
  rw [Addr.add_lit, row_cell h, Nat.zero_add, ← hx]
  simp
theorem GramsAt.snoc {B : Nat} {wa w3 : World} {g q : Nat} {v v' : Value} {gs : List GS} {us : List Value} {x : GS} {u : Value} (h : GramsAt B wa g v gs us) (K : Keep Nil wa w3) (hu : Blk B w3 u x.bytes)
    (hr : RowAt w3 96 2 q v' (gs.length + 1) (gramCells gs us ++ [u, .bool x.spoilt])) : GramsAt B w3 q v' (gs ++ [x]) (us ++ [u]) := by
  refine ⟨?_, by simp [h.len], fun i hi => ?_⟩
  · rw [gramCells_append _ _ _ _ h.len, List.length_append]
    exact hr
  · by_cases hin : i < gs.length
    · obtain ⟨y, h1, h2⟩ := h.each i hin
      refine ⟨y, by rw [List.getElem?_append_left (by have := h.len; omega)]; exact h1, ?_⟩
      rw [List.getElem_append_left hin]
      exact h2.keep K Mut.nil
    · have hi' : i = gs.length := by simp at hi; omega
      subst hi'
      have hh := h.len
      refine ⟨u, by rw [List.getElem?_append_right (by omega)]; simp [hh], ?_⟩
      rw [List.getElem_append_right (by omega)]
      simpa using hu

set_option maxRecDepth 100000 in
set_option maxHeartbeats 2000000 in
theorem btwice_some (w : World) (B W o g k : Nat) (v : Value) (gs : List GS) (us : List Value) (H : GramsAt B w g v gs us) (h : w.cell? ⟨W, o, none⟩ = some v) (hf : w.frozen? ⟨W, o, none⟩ = false) (hW : ∃ c, w.heap[W]? = some (.cells c 41 (0, 0))) (hBW : B ≤ W) (hk : k < gs.length) (hn : gs.length < 256) :
    Calls Try.prog 31 #[.pointer (some ⟨W, o, none⟩), .int .i64 (k : Nat)] w fun e w' => e = .returned (.int .i64 0) ∧ BagTo B W o (gs ++ [gs[k]]) w w' := by
  obtain ⟨b, off, cap, rfl, hcap⟩ : ∃ b off cap, v = .slice (some ⟨b, off, none⟩) gs.length cap ∧ gs.length ≤ cap := by
    rcases H.row with ⟨h0, -⟩ | ⟨off, cap, cur, rfl, -, -, hle, -⟩
    · omega
    · exact ⟨g, off, cap, rfl, hle⟩
  obtain rfl : b = g := by
    rcases H.row with ⟨h0, -⟩ | ⟨off, cap, cur, e, -⟩
    · omega
    · cases e; rfl
  obtain ⟨u, hu, hub⟩ := H.each k hk
  obtain ⟨hub', aou, capu, rfl, hcu⟩ := id hub
  obtain ⟨c0, c1⟩ := gramCells_get gs us k hk H.len
  have hgl : (gramCells gs us).length = gs.length * 2 := gramCells_length gs us H.len
  have hc0 : w.cell? ⟨b, off + k * 2, none⟩ = some (.slice aou gs[k].bytes.length capu) := by
    obtain ⟨off', e1, e2⟩ := H.row.cell (k * 2) (by omega)
    cases e1
    rw [e2, c0, hu]
  have hc1 : w.cell? ⟨b, off + k * 2 + 1, none⟩ = some (.bool gs[k].spoilt) := by
    obtain ⟨off', e1, e2⟩ := H.row.cell (k * 2 + 1) (by omega)
    cases e1
    rw [Nat.add_assoc, e2, c1]
  have HH := has_any w W o (some ⟨b, off, none⟩) gs.length cap k h
  rw [decide_eq_true ⟨by omega, by omega⟩] at HH
  replace HH := hid HH
  have hWl : W < w.heap.size := cell_lt h
  obtain ⟨cW, hcW⟩ := hW
  have HW := hid hcW
  have HG := hid H
  have HO := hid (gramCells_one gs us H.one)
  have HU := hid hub
  clear H hub hub' hu c0 c1 hcW
  have HX := hid (show (⟨gs[k].bytes, gs[k].spoilt⟩ : GS) = gs[k] from rfl)
  generalize hgk : gs[k] = x at *
  replace hgk := hid hgk
  obtain ⟨gb, sp⟩ := x
  simp only at *
  clear HX
  replace hgl := hid hgl
  have hd : decide (256 ≤ (gs.length : Int)) = false := by simp; omega
  have SA := hid (fun w2 (kk : Keep Nil w w2) => (HG.out.row.keep kk (fun e => e)).part Try.underlying33 HO.out 0 gs.length cap (by omega))
  have CW := hid (fun w2 (kk : Keep Nil w w2) => And.intro (kk.cell h (fun e => e)) (And.intro (kk.cell hc0 (fun e => e)) (kk.cell hc1 (fun e => e))))
  have FW := hid (fun w2 (kk : Keep Nil w w2) => (World.frozen?_of_block (kk.block W (cell_lt h) (fun e => e)) (a := ⟨W, o, none⟩)).trans hf)
  go_enter Try.func31, Try.ntmps31
  go_wp2_with fail
  refine HH.out.mono ?_
  rintro e w1 ⟨rfl, rfl⟩
  go_wp2_with fail
  go_region_law (first
    | (refine step_append_row _ rfl _ _ 33 33 rfl 96 (.agg #[.slice none 0 0, .bool false]) 2 32 Try.underlying33 info96 rfl (w.heap.size + 5) (.slice none 0 0) 0 [] rfl (RowAt.nil _ _ _ _) _ gs.length _ rfl (SA.out _ (Keep.refl w).drew) (by simp only [maxLen]; omega) (by omega) ?_; intro q1 ao1 cap1 w2 r1 k1 h1; rw [Nat.zero_add] at r1 ⊢; have K1 : Keep Nil w w2 := (Keep.refl w).drew.trans (k1.mono (fun i hi e => by have e1 := e.1; have h2 : i < w.heap.size := hi; omega)); obtain ⟨x1, x2, x3⟩ := CW.out w2 K1; have R1 := hid r1; have KK1 := hid K1; have Q1 : Hid (w.heap.size ≤ q1) := hid (by have : w.drew.heap.size = w.heap.size := rfl; rcases h1 with h | ⟨h, -⟩ <;> omega); clear r1 k1 h1 K1)
    | (refine step_append_row _ rfl _ _ 33 33 rfl 96 (.agg #[.slice none 0 0, .bool false]) 2 32 Try.underlying33 info96 rfl (w.heap.size + 5) (.slice none 0 0) 0 [] rfl (RowAt.nil _ _ _ _) _ gs.length _ rfl (SA.out _ ((Keep.refl w).alloc _).drew) (by simp only [maxLen]; omega) (by omega) ?_; intro q1 ao1 cap1 w2 r1 k1 h1; rw [Nat.zero_add] at r1 ⊢; have Z2 := k1.row (heap_new w (.cells #[.slice aou gb.length capu, .bool sp] 96)) (fun e => by have e1 := e.1; omega); have K1 : Keep Nil w w2 := ((Keep.refl w).alloc _).drew.andThen k1 (fun i hi e => by have e1 := e.1; omega); obtain ⟨x1, x2, x3⟩ := CW.out w2 K1; have R1 := hid r1; have KK1 := hid K1; have Q1 : Hid (w.heap.size ≤ q1) := hid (by have : (w.alloc (.cells #[.slice aou gb.length capu, .bool sp] 96)).drew.heap.size = w.heap.size + 1 := size_alloc w _; rcases h1 with h | ⟨h, -⟩ <;> omega); clear r1 k1 h1 K1)
    | (refine step_append_row _ rfl _ _ 33 33 rfl 96 (.agg #[.slice none 0 0, .bool false]) 2 32 Try.underlying33 info96 rfl q1 (.slice ao1 gs.length cap1) gs.length _ rfl (R1.out.alloc _) _ 1 _ rfl (src_box (heap_new w2 _) rfl rfl) (by simp only [maxLen]; omega) (by omega) ?_; have KS := KK1.out.alloc (.cells #[.slice aou gb.length capu, .bool sp] 96); intro q2 ao2 cap2 w3 r2 k2 h2; have K2 : Keep Nil w w3 := KS.andThen k2 (fun i hi e => by have e1 := e.1; have := Q1.out; omega); clear KS; obtain ⟨x4, -, -⟩ := CW.out w3 K2; have f2 := FW.out w3 K2; have R2 := hid r2; have KK2 := hid K2; have Q2 : Hid (w.heap.size ≤ q2) := hid (by have := Q1.out; have := KK1.out.size; rcases h2 with h | ⟨h, -⟩ <;> first | omega | (simp at h; omega)); clear r2 k2 h2 K2)
    | (refine step_append_row _ rfl _ _ 33 33 rfl 96 (.agg #[.slice none 0 0, .bool false]) 2 32 Try.underlying33 info96 rfl q1 (.slice ao1 gs.length cap1) gs.length _ rfl R1.out _ 1 _ rfl (src_box Z2 rfl rfl) (by simp only [maxLen]; omega) (by omega) ?_; have KS := KK1.out; intro q2 ao2 cap2 w3 r2 k2 h2; have K2 : Keep Nil w w3 := KS.andThen k2 (fun i hi e => by have e1 := e.1; have := Q1.out; omega); clear KS; obtain ⟨x4, -, -⟩ := CW.out w3 K2; have f2 := FW.out w3 K2; have R2 := hid r2; have KK2 := hid K2; have Q2 : Hid (w.heap.size ≤ q2) := hid (by have := Q1.out; have := KK1.out.size; rcases h2 with h | ⟨h, -⟩ <;> first | omega | (simp at h; omega)); clear r2 k2 h2 K2))
  all_goals
    have W3 := KK2.out.row HW.out (fun e => e)
    have hmut : Mut B w3 (One W) := by
      rintro i rfl
      exact ⟨hBW, fun cur fr e => by rw [W3] at e; simp at e⟩
    have kS : Keep (One W) w3 (w3.setCell ⟨W, o, none⟩ (.slice ao2 (gs.length + 1) cap2)) := (Keep.refl w3).setCell (S := One W) (p := ⟨W, o, none⟩) (fun _ => rfl) _
    have hqW : q2 ≠ W := fun e => by have := Q2.out; omega
    have hr : RowAt w3 96 2 q2 (.slice ao2 (gs.length + 1) cap2) (gs.length + 1) (gramCells gs us ++ [.slice aou gb.length capu, .bool sp]) := by
      have h := R2.out
      rw [Nat.zero_mul, List.drop_zero, List.take_of_length_le (l := gramCells gs us) (by rw [hgl.out]; exact Nat.le_refl _)] at h
      exact h
    have G3 := ((HG.out.snoc (x := ⟨gb, sp⟩) KK2.out (HU.out.keep KK2.out Mut.nil) hr).keep kS hmut hqW)
    rw [← hgk.out] at G3
    replace G3 := hid G3
    have K3 : Hid (Keep Nil (w.setCell ⟨W, o, none⟩ (.slice ao2 (gs.length + 1) cap2)) (w3.setCell ⟨W, o, none⟩ (.slice ao2 (gs.length + 1) cap2))) := hid (Keep.set_both KK2.out)
    have Q3 := Q2
    have hx := hgk
    clear W3 hmut kS hqW hr R2 KK2 Q2 R1 KK1 Q1 SA CW FW HW HU HG HH
    generalize w3.setCell ⟨W, o, none⟩ (.slice ao2 (gs.length + 1) cap2) = w4 at *
    go_wp2
    go_ret
    exact ⟨rfl, q2, _, _, Q3.out, by rw [← hx.out]; exact G3.out, K3.out⟩
end Go.Proofs.Ytjlgolkippleaaa
