/-
  The reference's Bag: Turn.
-/
import Derived.Test.YtjlgolkippleaaaBag2
namespace Go.Proofs.Ytjlgolkippleaaa
open Go.RowKit

theorem bturn_none (w : World) (W o : Nat) (ao : Option Addr) (n cap : Nat) (i at_ y : Int) (h : w.cell? ⟨W, o, none⟩ = some (.slice ao n cap)) (hi : ¬ (0 ≤ i ∧ i < n)) :
    Calls Try.prog 32 #[.pointer (some ⟨W, o, none⟩), .int .i64 i, .int .i64 at_, .int .u8 y] w fun e w' => e = .returned (.int .i64 9) ∧ w = w' := by
  have HH := has_any w W o ao n cap i h
  rw [decide_eq_false hi] at HH
  replace HH := hid HH
  clear hi
  go_enter Try.func32, Try.ntmps32
  go_wp2_with fail
  refine HH.out.mono ?_
  rintro e w1 ⟨rfl, rfl⟩
  go_wp2
  go_ret
  exact ⟨rfl, rfl⟩
theorem xor_byte (a y : UInt8) : bits BinOp.xor IntKind.u8 (a.toNat : Int) (y.toNat : Int) = ((a ^^^ y).toNat : Int) := by
  have h1 := UInt8.toNat_lt a
  have h2 := UInt8.toNat_lt y
  have e4 : bits BinOp.xor IntKind.u8 (a.toNat : Int) (y.toNat : Int) = IntKind.u8.wrap (((BitVec.ofInt 8 (a.toNat : Int) ^^^ BitVec.ofInt 8 (y.toNat : Int)).toNat : Nat) : Int) := rfl
  have e2 : (BitVec.ofInt 8 (a.toNat : Int) ^^^ BitVec.ofInt 8 (y.toNat : Int)).toNat = (a ^^^ y).toNat := by
    rw [BitVec.ofInt_natCast, BitVec.ofInt_natCast, BitVec.toNat_xor, BitVec.toNat_ofNat, BitVec.toNat_ofNat, Nat.mod_eq_of_lt (by omega), Nat.mod_eq_of_lt (by omega)]
    simp
  rw [e4, e2]
  have := UInt8.toNat_lt (a ^^^ y)
  exact IntWalk.u8_in _ (by omega)
theorem RowAt.set {w : World} {e s q n off cap : Nat} {xs : List Value} (h : RowAt w e s q (.slice (some ⟨q, off, none⟩) n cap) n xs) (i : Nat) (hi : i < n * s) (u : Value) :
    RowAt (w.setCell ⟨q, off + i, none⟩ u) e s q (.slice (some ⟨q, off, none⟩) n cap) n (xs.set i u) := by
  rcases h with ⟨h0, -⟩ | ⟨off', cap', cur, e1, e2, e3, e4, e5, e6, e7⟩
  · rw [h0, Nat.zero_mul] at hi; omega
  · cases e1
    refine .inr ⟨off, cap, _, rfl, row_set e2 _ _, by simpa using e3, e4, e5, by simpa using e6, fun j hj => ?_⟩
    have hle : n * s ≤ cap * s := Nat.mul_le_mul_right _ e4
    by_cases hij : i = j
    · subst hij
      rw [Array.getElem?_setIfInBounds_self_of_lt (by omega), List.getElem?_set_self (by omega)]
    · rw [Array.getElem?_setIfInBounds_ne (by omega), List.getElem?_set_ne hij]
      exact e7 j hj
theorem gramCells_set : ∀ (gs : List GS) (us : List Value) (k : Nat) (x : GS) (u : Value), us.length = gs.length → ((gramCells gs us).set (k * 2) u).set (k * 2 + 1) (.bool x.spoilt) = gramCells (gs.set k x) (us.set k u)
  | [], [], k, _, _, _ => by simp [gramCells]
  | g :: gs, v :: us, 0, x, u, h => by simp [gramCells]
  | g :: gs, v :: us, k + 1, x, u, h => by
    have := gramCells_set gs us k x u (by simpa using h)
    rw [show (k + 1) * 2 = k * 2 + 1 + 1 by omega]
    simp [gramCells, this]
theorem GramsAt.set {B : Nat} {wa w3 : World} {g q : Nat} {v v' : Value} {gs : List GS} {us : List Value} {x : GS} {u : Value} {k : Nat} (h : GramsAt B wa g v gs us) (K : Keep Nil wa w3) (hu : Blk B w3 u x.bytes)
    (hr : RowAt w3 96 2 q v' gs.length (((gramCells gs us).set (k * 2) u).set (k * 2 + 1) (.bool x.spoilt))) : GramsAt B w3 q v' (gs.set k x) (us.set k u) := by
  refine ⟨?_, by simp [h.len], fun i hi => ?_⟩
  · rw [← gramCells_set _ _ _ _ _ h.len, List.length_set]
    exact hr
  · have hi' : i < gs.length := by simpa using hi
    by_cases hik : k = i
    · subst hik
      exact ⟨u, by rw [List.getElem?_set_self (by have := h.len; omega)], by simpa using hu⟩
    · obtain ⟨y, h1, h2⟩ := h.each i hi'
      refine ⟨y, by rw [List.getElem?_set_ne hik]; exact h1, ?_⟩
      rw [List.getElem_set_ne hik]
      exact h2.keep K Mut.nil
theorem bcells_set (xs : List UInt8) (i : Nat) (x : UInt8) : (bcells xs).set i (.int .u8 (x.toNat : Int)) = bcells (xs.set i x) := by simp [bcells]

set_option maxRecDepth 100000 in
set_option maxHeartbeats 4000000 in
theorem bturn_some (w : World) (B W o g k : Nat) (v : Value) (gs : List GS) (us : List Value) (at_ : Int) (y : UInt8) (H : GramsAt B w g v gs us) (h : w.cell? ⟨W, o, none⟩ = some v) (hf : w.frozen? ⟨W, o, none⟩ = false) (hW : ∃ c, w.heap[W]? = some (.cells c 41 (0, 0))) (hBW : B ≤ W) (hk : k < gs.length) (hn : gs.length ≤ 256) (hgb : gs[k].bytes.length ≤ 100000) (hs : gs[k].spoilt = false) (hne : 0 < gs[k].bytes.length) (hy : y ≠ 0) :
    Calls Try.prog 32 #[.pointer (some ⟨W, o, none⟩), .int .i64 (k : Nat), .int .i64 at_, .int .u8 (y.toNat : Int)] w fun e w' => e = .returned (.int .i64 0) ∧ ∃ i, i < gs[k].bytes.length ∧ BagTo B W o (gs.set k ⟨turnL gs[k].bytes i y, true⟩) w w' := by
  obtain ⟨b, off, cap, rfl, hcap⟩ : ∃ b off cap, v = .slice (some ⟨b, off, none⟩) gs.length cap ∧ gs.length ≤ cap := by
    rcases H.row with ⟨h0, -⟩ | ⟨off, cap, cur, rfl, -, -, hle, -⟩
    · omega
    · exact ⟨g, off, cap, rfl, hle⟩
  obtain rfl : b = g := by
    rcases H.row with ⟨h0, -⟩ | ⟨off, cap, cur, e, -⟩
    · omega
    · cases e; rfl
  obtain ⟨u, hu, hub⟩ := H.each k hk
  obtain ⟨hub', aou, capu, rfl, hcu⟩ := id hub
  obtain ⟨c0, c1⟩ := gramCells_get gs us k hk H.len
  have hgl : (gramCells gs us).length = gs.length * 2 := gramCells_length gs us H.len
  have hc0 : w.cell? ⟨b, off + k * 2, none⟩ = some (.slice aou gs[k].bytes.length capu) := by
    obtain ⟨off', e1, e2⟩ := H.row.cell (k * 2) (by omega)
    cases e1
    rw [e2, c0, hu]
  have hc1 : w.cell? ⟨b, off + k * 2 + 1, none⟩ = some (.bool false) := by
    obtain ⟨off', e1, e2⟩ := H.row.cell (k * 2 + 1) (by omega)
    cases e1
    rw [Nat.add_assoc, e2, c1, hs]
  have HH := has_any w W o (some ⟨b, off, none⟩) gs.length cap k h
  rw [decide_eq_true ⟨by omega, by omega⟩] at HH
  replace HH := hid HH
  have hWl : W < w.heap.size := cell_lt h
  obtain ⟨cW, hcW⟩ := hW
  have HW := hid hcW
  have HG := hid H
  have HO := hid (gramCells_one gs us H.one)
  have HU := hid hub
  clear H hub hub' hu c0 c1 hcW hs
  generalize hgk : gs[k] = x at *
  replace hgk := hid hgk
  obtain ⟨gb, sp⟩ := x
  simp only at *
  replace hgl := hid hgl
  have hyn : ((y.toNat : Int) == 0) = false := by
    rw [beq_eq_false_iff_ne]
    intro e
    exact hy (UInt8.toNat_inj.1 (by have : (0 : UInt8).toNat = 0 := rfl; omega))
  have hd1 : ((gb.length : Int) == 0) = false := by rw [beq_eq_false_iff_ne]; omega
  have SA := hid (fun w2 (kk : Keep Nil w w2) => (HG.out.row.keep kk (fun e => e)).part Try.underlying33 HO.out 0 gs.length cap (by omega))
  have CW := hid (fun w2 (kk : Keep Nil w w2) => And.intro (kk.cell h (fun e => e)) (And.intro (kk.cell hc0 (fun e => e)) (kk.cell hc1 (fun e => e))))
  have FW := hid (fun w2 (kk : Keep Nil w w2) => (World.frozen?_of_block (kk.block W (cell_lt h) (fun e => e)) (a := ⟨W, o, none⟩)).trans hf)
  go_enter Try.func32, Try.ntmps32
  go_wp2_with fail
  refine HH.out.mono ?_
  rintro e w1 ⟨rfl, rfl⟩
  go_wp2_with (at_builtin; refine wpList_append_row _ rfl _ _ 27 27 rfl 5 (.int .u8 0) 1 1 Try.underlying27 info5 rfl w.heap.size (.slice none 0 0) 0 [] rfl (RowAt.nil _ _ _ _) _ gb.length (bcells gb) rfl HU.out.1.src (by simp only [maxLen]; omega) (by omega) ?_)
  intro q1 ao1 cap1 w1 r1 k1 h1
  have hq1 : w.heap.size ≤ q1 := by rcases h1 with h | ⟨h, -⟩ <;> omega
  have K1 : Keep Nil w w1 := k1.mono (fun i hi e => by have e1 := e.1; omega)
  obtain ⟨off1, rfl⟩ : ∃ off1, ao1 = some ⟨q1, off1, none⟩ := by
    obtain ⟨off1, e, -⟩ := r1.cell 0 (by omega)
    exact ⟨off1, e⟩
  have R1 : RowAt w1 5 1 q1 (.slice (some ⟨q1, off1, none⟩) gb.length cap1) gb.length (bcells gb) := r1
  obtain ⟨r, hr, hr1, hr2⟩ : ∃ r : Int, at_.tmod gb.length = r ∧ -(gb.length : Int) < r ∧ r < gb.length := by
    refine ⟨_, rfl, ?_, ?_⟩
    · rcases Int.le_total 0 at_ with h0 | h0
      · have := Int.tmod_nonneg (gb.length : Int) h0; omega
      · have h2 : at_ = -(-at_) := by omega
        rw [h2, Int.neg_tmod]
        have := Int.tmod_lt_of_pos (-at_) (b := (gb.length : Int)) (by omega)
        omega
    · exact Int.tmod_lt_of_pos at_ (by omega)
  obtain ⟨t, ht⟩ : ∃ t : Nat, r + gb.length = t := ⟨(r + gb.length).toNat, by omega⟩
  obtain ⟨i, hi, hil⟩ : ∃ i : Nat, t % gb.length = i ∧ i < gb.length := ⟨_, rfl, Nat.mod_lt _ hne⟩
  have w1r : at_.tmod gb.length = r := hr
  have w4r : (t : Int) % (gb.length : Int) = (i : Int) := by rw [show ((t : Int) % (gb.length : Int)) = ((t % gb.length : Nat) : Int) by simp, hi]
  have w5r : r % (gb.length : Int) = (i : Int) := by rw [← w4r, ← ht, Int.add_emod_right]
  have ci : w1.cell? ⟨q1, off1 + i, none⟩ = some (.int .u8 (gb[i].toNat : Int)) := by
    obtain ⟨off', e1, e2⟩ := R1.cell i (by omega)
    cases e1
    rw [e2, bcells_get gb i hil]
  have fi : w1.frozen? ⟨q1, off1 + i, none⟩ = false := by
    rcases R1 with ⟨h0, -⟩ | ⟨_, _, cur, e1, e2, -⟩
    · omega
    · exact row_free e2 _
  have hxb := xor_byte gb[i] y
  have hzt : Hid (turnL gb i y = gb.set i (gb[i] ^^^ y)) := hid (by unfold turnL; congr 2; simp [List.getD, hil])
  generalize gb[i] ^^^ y = zb at *
  obtain ⟨x1, x2, x3⟩ := CW.out w1 K1
  have KS : Keep Nil w (w1.setCell ⟨q1, off1 + i, none⟩ (.int .u8 (zb.toNat : Int))) := K1.setCell (S := Nil) (p := ⟨q1, off1 + i, none⟩) (fun h => by have h' : q1 < w.heap.size := h; omega) _
  have RS := R1.set i (by omega) (.int .u8 (zb.toNat : Int))
  rw [bcells_set] at RS
  replace KS := hid KS
  replace RS := hid RS
  have hil' := hid hil
  clear r1 k1 h1 ht hi w4r
  go_wp2_with (at_builtin; refine wpList_append_row _ rfl _ _ 33 33 rfl 96 (.agg #[.slice none 0 0, .bool false]) 2 32 Try.underlying33 info96 rfl (w.heap.size + q1 + 5) (.slice none 0 0) 0 [] rfl (RowAt.nil _ _ _ _) _ gs.length _ rfl (SA.out _ KS.out) (by simp only [maxLen]; omega) (by omega) ?_)
  intro q2 ao2 cap2 w2 r2 k2 h2
  have hq2 : w.heap.size ≤ q2 := by have := K1.size; rcases h2 with h | ⟨h, -⟩ <;> first | omega | (simp at h; omega)
  have K2 : Keep Nil w w2 := KS.out.andThen k2 (fun j hj e => by have e1 := e.1; omega)
  have RS2 : RowAt w2 5 1 q1 (.slice (some ⟨q1, off1, none⟩) gb.length cap1) gb.length (bcells (gb.set i zb)) := RS.out.keep k2 (fun e => by have e1 := e.1; omega)
  have U2 : Blk B w2 (.slice (some ⟨q1, off1, none⟩) gb.length cap1) (gb.set i zb) := RowAt.blk RS2
  obtain ⟨off2, rfl⟩ : ∃ off2, ao2 = some ⟨q2, off2, none⟩ := by
    obtain ⟨off2, e, -⟩ := r2.cell 0 (by omega)
    exact ⟨off2, e⟩
  rw [List.take_of_length_le (l := gramCells gs us) (by rw [hgl.out]; exact Nat.le_refl _)] at r2
  obtain ⟨x4, x5, x6⟩ := CW.out w2 K2
  have f2 := FW.out w2 K2
  have hqW : q2 ≠ W := by omega
  have hWq : W ≠ q2 := by omega
  obtain ⟨c0, hc0'⟩ : ∃ c, w2.cell? ⟨q2, off2 + k * 2, none⟩ = some c := by
    obtain ⟨off', e1, e2⟩ := r2.cell (k * 2) (by omega)
    cases e1
    have hl := hgl.out
    exact ⟨(gramCells gs us)[k * 2]'(by omega), by rw [e2, List.getElem?_eq_getElem]⟩
  obtain ⟨c1, hc1'⟩ : ∃ c, w2.cell? ⟨q2, off2 + k * 2 + 1, none⟩ = some c := by
    obtain ⟨off', e1, e2⟩ := r2.cell (k * 2 + 1) (by omega)
    cases e1
    have hl := hgl.out
    exact ⟨(gramCells gs us)[k * 2 + 1]'(by omega), by rw [Nat.add_assoc, e2, List.getElem?_eq_getElem]⟩
  obtain ⟨ff0, ff1⟩ : w2.frozen? ⟨q2, off2 + k * 2, none⟩ = false ∧ w2.frozen? ⟨q2, off2 + k * 2 + 1, none⟩ = false := by
    rcases r2 with ⟨h0, -⟩ | ⟨_, _, cur, e1, e2, -⟩
    · omega
    · exact ⟨row_free e2 _, row_free e2 _⟩
  have hm2 : Mut B w2 (One q2) := by
    rintro j rfl
    refine ⟨by omega, fun cur fr e => ?_⟩
    rcases r2 with ⟨h0, -⟩ | ⟨_, _, cur', e1, e2, -⟩
    · omega
    · rw [e2] at e; simp at e
  have R2 := hid r2
  have KK2 := hid K2
  replace U2 := hid U2
  clear r2 k2 h2 RS2 KS RS R1 K1 K2 x1 x2 x3 ci fi
  replace hzt := hzt
  go_wp2_with fail
  go_ret
  have hn1 : q2 < w.heap.size → Nil q2 := fun h' => by omega
  have R3 := (R2.out.set (k * 2) (by omega) (.slice (some ⟨q1, off1, none⟩) gb.length cap1)).set (k * 2 + 1) (by omega) (.bool true)
  have K3 : Keep Nil w ((w2.setCell ⟨q2, off2 + k * 2, none⟩ (.slice (some ⟨q1, off1, none⟩) gb.length cap1)).setCell ⟨q2, off2 + k * 2 + 1, none⟩ (.bool true)) := (KK2.out.setCell (S := Nil) (p := ⟨q2, off2 + k * 2, none⟩) hn1 _).setCell (S := Nil) (p := ⟨q2, off2 + k * 2 + 1, none⟩) hn1 _
  have k3 : Keep (One q2) w2 ((w2.setCell ⟨q2, off2 + k * 2, none⟩ (.slice (some ⟨q1, off1, none⟩) gb.length cap1)).setCell ⟨q2, off2 + k * 2 + 1, none⟩ (.bool true)) := ((Keep.refl w2).setCell (S := One q2) (p := ⟨q2, off2 + k * 2, none⟩) (fun _ => rfl) _).setCell (S := One q2) (p := ⟨q2, off2 + k * 2 + 1, none⟩) (fun _ => rfl) _
  have U3 := U2.out.keep k3 hm2
  have R3' : RowAt ((w2.setCell ⟨q2, off2 + k * 2, none⟩ (.slice (some ⟨q1, off1, none⟩) gb.length cap1)).setCell ⟨q2, off2 + k * 2 + 1, none⟩ (.bool true)) 96 2 q2 (.slice (some ⟨q2, off2, none⟩) gs.length cap2) gs.length (((gramCells gs us).set (k * 2) (.slice (some ⟨q1, off1, none⟩) gb.length cap1)).set (k * 2 + 1) (.bool true)) := R3
  generalize ((w2.setCell ⟨q2, off2 + k * 2, none⟩ (.slice (some ⟨q1, off1, none⟩) gb.length cap1)).setCell ⟨q2, off2 + k * 2 + 1, none⟩ (.bool true)) = w3 at *
  have W3 := K3.row HW.out (fun e => e)
  have hmut : Mut B w3 (One W) := by
    rintro j rfl
    exact ⟨hBW, fun cur fr e => by rw [W3] at e; simp at e⟩
  have kS : Keep (One W) w3 (w3.setCell ⟨W, o, none⟩ (.slice (some ⟨q2, off2, none⟩) gs.length cap2)) := (Keep.refl w3).setCell (S := One W) (p := ⟨W, o, none⟩) (fun _ => rfl) _
  have G3 := (HG.out.set (x := ⟨turnL gb i y, true⟩) (u := .slice (some ⟨q1, off1, none⟩) gb.length cap1) (k := k) K3 (by show Blk B w3 _ (turnL gb i y); rw [hzt.out]; exact U3) R3').keep kS hmut hqW
  exact ⟨rfl, i, hil, q2, _, _, hq2, G3, Keep.set_both K3⟩
theorem bturn_kept (w : World) (B W o g k : Nat) (v : Value) (gs : List GS) (us : List Value) (at_ : Int) (y : UInt8) (H : GramsAt B w g v gs us) (h : w.cell? ⟨W, o, none⟩ = some v) (hk : k < gs.length) (hs : gs[k].spoilt = true ∨ y = 0) :
    Calls Try.prog 32 #[.pointer (some ⟨W, o, none⟩), .int .i64 (k : Nat), .int .i64 at_, .int .u8 (y.toNat : Int)] w fun e w' => (∃ r, e = .returned (.int .i64 r)) ∧ w = w' := by
  obtain ⟨b, off, cap, rfl, hcap⟩ : ∃ b off cap, v = .slice (some ⟨b, off, none⟩) gs.length cap ∧ gs.length ≤ cap := by
    rcases H.row with ⟨h0, -⟩ | ⟨off, cap, cur, rfl, -, -, hle, -⟩
    · omega
    · exact ⟨g, off, cap, rfl, hle⟩
  obtain rfl : b = g := by
    rcases H.row with ⟨h0, -⟩ | ⟨off, cap, cur, e, -⟩
    · omega
    · cases e; rfl
  obtain ⟨c0, c1⟩ := gramCells_get gs us k hk H.len
  have hgl : (gramCells gs us).length = gs.length * 2 := gramCells_length gs us H.len
  obtain ⟨u, hu, hub⟩ := H.each k hk
  obtain ⟨hub', aou, capu, rfl, hcu⟩ := id hub
  have hc0 : w.cell? ⟨b, off + k * 2, none⟩ = some (.slice aou gs[k].bytes.length capu) := by
    obtain ⟨off', e1, e2⟩ := H.row.cell (k * 2) (by omega)
    cases e1
    rw [e2, c0, hu]
  have hc1 : w.cell? ⟨b, off + k * 2 + 1, none⟩ = some (.bool gs[k].spoilt) := by
    obtain ⟨off', e1, e2⟩ := H.row.cell (k * 2 + 1) (by omega)
    cases e1
    rw [Nat.add_assoc, e2, c1]
  have HH := has_any w W o (some ⟨b, off, none⟩) gs.length cap k h
  rw [decide_eq_true ⟨by omega, by omega⟩] at HH
  replace HH := hid HH
  clear hub hub' hu c0 c1 H hgl
  generalize gs[k].bytes.length = n at *
  by_cases hsp : gs[k].spoilt = true
  · rw [hsp] at hc1
    clear hs hsp
    go_enter Try.func32, Try.ntmps32
    go_wp2_with fail
    refine HH.out.mono ?_
    rintro e w1 ⟨rfl, rfl⟩
    go_wp2
    go_ret
    exact ⟨⟨_, rfl⟩, rfl⟩
  · obtain rfl : y = 0 := hs.resolve_left hsp
    rw [show gs[k].spoilt = false by simpa using hsp] at hc1
    clear hs hsp
    have h0 : (((0 : UInt8).toNat : Nat) : Int) = 0 := rfl
    rw [h0]
    clear h0
    by_cases hz : n = 0
    · have hd : ((n : Int) == 0) = true := by rw [hz]; rfl
      clear hz
      go_enter Try.func32, Try.ntmps32
      go_wp2_with fail
      refine HH.out.mono ?_
      rintro e w1 ⟨rfl, rfl⟩
      go_wp2
      go_ret
      exact ⟨⟨_, rfl⟩, rfl⟩
    · have hd : ((n : Int) == 0) = false := by rw [beq_eq_false_iff_ne]; omega
      clear hz
      go_enter Try.func32, Try.ntmps32
      go_wp2_with fail
      refine HH.out.mono ?_
      rintro e w1 ⟨rfl, rfl⟩
      go_wp2
      go_ret
      exact ⟨⟨_, rfl⟩, rfl⟩
end Go.Proofs.Ytjlgolkippleaaa
