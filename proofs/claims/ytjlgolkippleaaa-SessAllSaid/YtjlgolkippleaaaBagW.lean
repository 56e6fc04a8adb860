/-
  The reference's Bag: has, Take, Twice, Turn, Put.
-/
import Derived.Test.YtjlgolkippleaaaUnpackW
namespace Go.Proofs.Ytjlgolkippleaaa
open Go.RowKit

theorem info96 : (Try.prog.info? 96).map (fun i => (i.zero, i.size, i.bytes)) = some (some (.agg #[.slice none 0 0, .bool false]), 2, 32) := by kernel_rfl
/-- a datagram -/
structure GS where
  bytes : List UInt8
  spoilt : Bool
def gramCells : List GS → List Value → List Value
  | g :: gs, u :: us => u :: .bool g.spoilt :: gramCells gs us
  | _, _ => []
theorem gramCells_append : ∀ (gs : List GS) (us : List Value) (hs : List GS) (vs : List Value), us.length = gs.length → gramCells (gs ++ hs) (us ++ vs) = gramCells gs us ++ gramCells hs vs
  | [], [], _, _, _ => rfl
  | g :: gs, u :: us, hs, vs, h => by
    have := gramCells_append gs us hs vs (by simpa using h)
    simp [gramCells, this]
theorem gramCells_length : ∀ (gs : List GS) (us : List Value), us.length = gs.length → (gramCells gs us).length = gs.length * 2
  | [], [], _ => rfl
  | g :: gs, u :: us, h => by
    have := gramCells_length gs us (by simpa using h)
    simp [gramCells, this]; omega
theorem gramCells_take : ∀ (gs : List GS) (us : List Value) (k : Nat), us.length = gs.length → (gramCells gs us).take (k * 2) = gramCells (gs.take k) (us.take k)
  | [], [], k, _ => by simp [gramCells]
  | g :: gs, u :: us, 0, h => by simp [gramCells]
  | g :: gs, u :: us, k + 1, h => by
    have := gramCells_take gs us k (by simpa using h)
    rw [show (k + 1) * 2 = k * 2 + 1 + 1 by omega]
    simp [gramCells, this]
theorem gramCells_drop : ∀ (gs : List GS) (us : List Value) (k : Nat), us.length = gs.length → (gramCells gs us).drop (k * 2) = gramCells (gs.drop k) (us.drop k)
  | [], [], k, _ => by simp [gramCells]
  | g :: gs, u :: us, 0, h => by simp [gramCells]
  | g :: gs, u :: us, k + 1, h => by
    have := gramCells_drop gs us k (by simpa using h)
    rw [show (k + 1) * 2 = k * 2 + 1 + 1 by omega]
    simp [gramCells, this]
theorem gramCells_one : ∀ (gs : List GS) (us : List Value), (∀ u ∈ us, u.oneCell' = true) → ∀ u ∈ gramCells gs us, u.oneCell' = true
  | [], us, _, u, hu => by simp [gramCells] at hu
  | g :: gs, [], _, u, hu => by simp [gramCells] at hu
  | g :: gs, v :: us, h, u, hu => by
    simp only [gramCells, List.mem_cons] at hu
    rcases hu with rfl | rfl | hu
    · exact h _ (by simp)
    · rfl
    · exact gramCells_one gs us (fun x hx => h x (by simp [hx])) u hu
theorem gramCells_get : ∀ (gs : List GS) (us : List Value) (k : Nat) (h : k < gs.length), us.length = gs.length → (gramCells gs us)[k * 2]? = us[k]? ∧ (gramCells gs us)[k * 2 + 1]? = some (.bool gs[k].spoilt)
  | g :: gs, u :: us, 0, _, _ => ⟨rfl, rfl⟩
  | g :: gs, u :: us, k + 1, h, hl => by
    have := gramCells_get gs us k (by simpa using h) (by simpa using hl)
    rw [show (k + 1) * 2 = k * 2 + 1 + 1 by omega]
    simpa [gramCells] using this
theorem RowAt.drew {w : World} {e s q n : Nat} {v : Value} {xs : List Value} (h : RowAt w e s q v n xs) : RowAt w.drew e s q v n xs := h
/-- a part of a row -/
theorem RowAt.part {P : Program} {w : World} {e s q n off cap : Nat} {xs : List Value} (h : RowAt w e s q (.slice (some ⟨q, off, none⟩) n cap) n xs) {tx e' : TypeId} (ht : P.underlying tx = some (.slice e')) (h1 : ∀ u ∈ xs, u.oneCell' = true) (a m c : Nat) (ham : a + m ≤ n) :
    Src P s tx (.slice (some ⟨q, off + a * s, none⟩) m c) m ((xs.drop (a * s)).take (m * s)) w := by
  have hl := h.length
  have hle : a * s + m * s ≤ n * s := by rw [← Nat.add_mul]; exact Nat.mul_le_mul_right _ ham
  refine Src.ofSlice _ ht _ _ _ _ (by rw [List.length_take, List.length_drop, hl]; omega) (fun j u hu => ?_) (fun u hu => h1 u (List.mem_of_mem_drop (List.mem_of_mem_take hu)))
  have hj : j < m * s := by
    have := (List.getElem?_eq_some_iff.1 hu).1
    rw [List.length_take] at this
    omega
  rw [Addr.add_lit]
  obtain ⟨off', e1, e2⟩ := h.cell (a * s + j) (by omega)
  cases e1
  rw [Nat.add_assoc, e2, ← hu, List.getElem?_take_of_lt hj, List.getElem?_drop]
/-- datagrams in a row that nobody writes -/
structure GramsAt (B : Nat) (w : World) (g : Nat) (v : Value) (gs : List GS) (us : List Value) : Prop where
  row : RowAt w 96 2 g v gs.length (gramCells gs us)
  len : us.length = gs.length
  each : ∀ i (h : i < gs.length), ∃ u, us[i]? = some u ∧ Blk B w u gs[i].bytes
theorem GramsAt.keep {S : Nat → Prop} {B : Nat} {w w' : World} {g : Nat} {v : Value} {gs : List GS} {us : List Value} (h : GramsAt B w g v gs us) (k : Keep S w w') (hS : Mut B w S) (hg : ¬ S g) : GramsAt B w' g v gs us := by
  refine ⟨h.row.keep k hg, h.len, fun i hi => ?_⟩
  obtain ⟨u, h1, h2⟩ := h.each i hi
  exact ⟨u, h1, h2.keep k hS⟩
theorem GramsAt.one {B : Nat} {w : World} {g : Nat} {v : Value} {gs : List GS} {us : List Value} (h : GramsAt B w g v gs us) : ∀ u ∈ us, u.oneCell' = true := by
  intro u hu
  obtain ⟨i, hi, rfl⟩ := List.mem_iff_getElem.1 hu
  obtain ⟨u', h1, h2, ao, cap, rfl, -⟩ := h.each i (by rw [← h.len]; exact hi)
  rw [List.getElem?_eq_getElem hi] at h1
  rw [Option.some.inj h1]
  rfl
theorem GramsAt.nil (B : Nat) (w : World) (g : Nat) : GramsAt B w g (.slice none 0 0) [] [] := ⟨RowAt.nil _ _ _ _, rfl, fun _ h => absurd h (Nat.not_lt_zero _)⟩

theorem has_any (w : World) (W o : Nat) (ao : Option Addr) (n cap : Nat) (i : Int) (h : w.cell? ⟨W, o, none⟩ = some (.slice ao n cap)) :
    Calls Try.prog 45 #[.pointer (some ⟨W, o, none⟩), .int .i64 i] w fun e w' => e = .returned (.bool (decide (0 ≤ i ∧ i < n))) ∧ w = w' := by
  by_cases h1 : 0 ≤ i
  · by_cases h2 : i < n
    · rw [decide_eq_true ⟨h1, h2⟩]
      have d1 := decide_eq_true h1
      have d2 := decide_eq_true h2
      go_enter Try.func45, Try.ntmps45
      go_wp2
      go_ret
      exact ⟨rfl, rfl⟩
    · rw [decide_eq_false (fun e => h2 e.2)]
      have d1 := decide_eq_true h1
      have d2 := decide_eq_false h2
      go_enter Try.func45, Try.ntmps45
      go_wp2
      go_ret
      exact ⟨rfl, rfl⟩
  · rw [decide_eq_false (fun e => h1 e.1)]
    have d1 := decide_eq_false h1
    go_enter Try.func45, Try.ntmps45
    go_wp2
    go_ret
    exact ⟨rfl, rfl⟩

theorem btake_none (w : World) (W o : Nat) (ao : Option Addr) (n cap : Nat) (i : Int) (h : w.cell? ⟨W, o, none⟩ = some (.slice ao n cap)) (hi : ¬ (0 ≤ i ∧ i < n)) :
    Calls Try.prog 30 #[.pointer (some ⟨W, o, none⟩), .int .i64 i] w fun e w' => e = .returned (.tuple #[.slice none 0 0, .bool false, .int .i64 9]) ∧ w = w' := by
  have HH := has_any w W o ao n cap i h
  rw [decide_eq_false hi] at HH
  replace HH := hid HH
  clear hi
  go_enter Try.func30, Try.ntmps30
  go_wp2_with fail
  refine HH.out.mono ?_
  rintro e w1 ⟨rfl, rfl⟩
  go_wp2
  refine bodyPost_ret (v := .tuple #[.slice none 0 0, .bool false, .int .i64 9]) (by simp [results, Try.results30, go_sem]) rfl ⟨rfl, rfl⟩

theorem World.cell?_drewN' {w : World} {n : Nat} {a : Addr} : (w.drewN n).cell? a = w.cell? a := rfl
theorem GramsAt.erase {B : Nat} {wa w3 : World} {g q : Nat} {v v' : Value} {gs : List GS} {us : List Value} {k : Nat} (h : GramsAt B wa g v gs us) (K : Keep Nil wa w3) (hk : k < gs.length) (n : Nat) (hn : n = k + (gs.length - (k + 1)))
    (hr : RowAt w3 96 2 q v' n (((gramCells gs us).drop (0 * 2)).take (k * 2) ++ ((gramCells gs us).drop ((k + 1) * 2)).take ((gs.length - (k + 1)) * 2))) :
    GramsAt B w3 q v' (gs.take k ++ gs.drop (k + 1)) (us.take k ++ us.drop (k + 1)) := by
  have hl := h.len
  refine ⟨?_, by simp [hl], fun i hi => ?_⟩
  · rw [gramCells_append _ _ _ _ (by simp [hl]), ← gramCells_take _ _ _ hl, ← gramCells_drop _ _ _ hl]
    rw [Nat.zero_mul, List.drop_zero, List.take_of_length_le (l := (gramCells gs us).drop ((k + 1) * 2)) (by rw [List.length_drop, gramCells_length _ _ hl]; omega)] at hr
    rw [show (gs.take k ++ gs.drop (k + 1)).length = n by simp; omega]
    exact hr
  · have hi' : i < k + (gs.length - (k + 1)) := by simp at hi; omega
    by_cases hik : i < k
    · obtain ⟨u, h1, h2⟩ := h.each i (by omega)
      refine ⟨u, by rw [List.getElem?_append_left (by simp; omega), List.getElem?_take_of_lt hik]; exact h1, ?_⟩
      rw [List.getElem_append_left (by simp; omega), List.getElem_take]
      exact h2.keep K Mut.nil
    · obtain ⟨u, h1, h2⟩ := h.each (i + 1) (by omega)
      have e1 : (us.take k).length = k := by simp; omega
      have e2 : (gs.take k).length = k := by simp; omega
      refine ⟨u, by rw [List.getElem?_append_right (by omega), e1, List.getElem?_drop, show k + 1 + (i - k) = i + 1 by omega]; exact h1, ?_⟩
      have e3 : (gs.take k ++ gs.drop (k + 1))[i] = gs[i + 1] := by
        rw [List.getElem_append_right (by omega), List.getElem_drop]
        congr 1
        omega
      rw [e3]
      exact h2.keep K Mut.nil
theorem rowless {w : World} {q n W : Nat} {v : Value} {xs : List Value} {c : Array Value} {t o : Nat} {u : Value} (h : RowAt w 96 2 q v n xs) (hw : w.heap[W]? = some (.cells c t (0, 0))) (ht : t ≠ 96) : RowAt (w.setCell ⟨W, o, none⟩ u) 96 2 q v n xs := h.store hw ht
/-- what a call leaves of a bag -/
def BagTo (B W o : Nat) (gs : List GS) (w w' : World) : Prop := ∃ g v us, w.heap.size ≤ g ∧ GramsAt B w' g v gs us ∧ Keep Nil (w.setCell ⟨W, o, none⟩ v) w'
set_option maxRecDepth 100000 in
set_option maxHeartbeats 2000000 in
theorem btake_some (w : World) (B W o g k : Nat) (v : Value) (gs : List GS) (us : List Value) (H : GramsAt B w g v gs us) (h : w.cell? ⟨W, o, none⟩ = some v) (hf : w.frozen? ⟨W, o, none⟩ = false) (hW : ∃ c, w.heap[W]? = some (.cells c 41 (0, 0))) (hBW : B ≤ W) (hk : k < gs.length) (hn : gs.length ≤ 256) :
    Calls Try.prog 30 #[.pointer (some ⟨W, o, none⟩), .int .i64 (k : Nat)] w fun e w' => ∃ u, e = .returned (.tuple #[u, .bool gs[k].spoilt, .int .i64 0]) ∧ Blk B w' u gs[k].bytes ∧ BagTo B W o (gs.take k ++ gs.drop (k + 1)) w w' := by
  obtain ⟨b, off, cap, rfl, hcap⟩ : ∃ b off cap, v = .slice (some ⟨b, off, none⟩) gs.length cap ∧ gs.length ≤ cap := by
    rcases H.row with ⟨h0, -⟩ | ⟨off, cap, cur, rfl, -, -, hle, -⟩
    · omega
    · exact ⟨g, off, cap, rfl, hle⟩
  obtain rfl : b = g := by
    rcases H.row with ⟨h0, -⟩ | ⟨off, cap, cur, e, -⟩
    · omega
    · cases e; rfl
  obtain ⟨u, hu, hub⟩ := H.each k hk
  obtain ⟨hub', aou, capu, rfl, hcu⟩ := id hub
  obtain ⟨c0, c1⟩ := gramCells_get gs us k hk H.len
  have hgl : (gramCells gs us).length = gs.length * 2 := gramCells_length gs us H.len
  have hc0 : w.cell? ⟨b, off + k * 2, none⟩ = some (.slice aou gs[k].bytes.length capu) := by
    obtain ⟨off', e1, e2⟩ := H.row.cell (k * 2) (by omega)
    cases e1
    rw [e2, c0, hu]
  have hc1 : w.cell? ⟨b, off + k * 2 + 1, none⟩ = some (.bool gs[k].spoilt) := by
    obtain ⟨off', e1, e2⟩ := H.row.cell (k * 2 + 1) (by omega)
    cases e1
    rw [Nat.add_assoc, e2, c1]
  have HH := has_any w W o (some ⟨b, off, none⟩) gs.length cap k h
  rw [decide_eq_true ⟨by omega, by omega⟩] at HH
  replace HH := hid HH
  have hWl : W < w.heap.size := cell_lt h
  obtain ⟨cW, hcW⟩ := hW
  have HW := hid (row_alloc hcW (.cells #[.slice aou gs[k].bytes.length capu, .bool gs[k].spoilt] 96))
  clear hcW
  have HG := hid (H.keep ((Keep.refl w).alloc (.cells #[.slice aou gs[k].bytes.length capu, .bool gs[k].spoilt] 96)) Mut.nil (fun e => e))
  have HO := hid (gramCells_one gs us H.one)
  have HU := hid (hub.keep ((Keep.refl w).alloc (.cells #[.slice aou gs[k].bytes.length capu, .bool gs[k].spoilt] 96)) Mut.nil)
  have HK := hid ((Keep.refl (S := Nil) w).alloc (.cells #[.slice aou gs[k].bytes.length capu, .bool gs[k].spoilt] 96))
  have hf' : (w.alloc (.cells #[.slice aou gs[k].bytes.length capu, .bool gs[k].spoilt] 96)).frozen? ⟨W, o, none⟩ = false := by
    rw [World.frozen?_of_block (HK.out.block W hWl (fun e => e))]; exact hf
  have h' := HK.out.cell h (fun e => e)
  have hZ := hid (heap_new w (.cells #[.slice aou gs[k].bytes.length capu, .bool gs[k].spoilt] 96))
  clear H hub hub' hu c0 c1
  generalize hgb : gs[k].bytes = gb at *
  generalize hsp : gs[k].spoilt = sp at *
  replace hgb := hid hgb
  replace hsp := hid hsp
  replace hgl := hid hgl
  have wr1 : IntKind.i64.wrap ((k : Nat) + 1) = ((k : Nat) : Int) + 1 := IntWalk.i64_in _ (by omega)
  have wr2 : (((k : Nat) : Int) + 1).toNat = k + 1 := by omega
  go_enter Try.func30, Try.ntmps30
  go_wp2_with fail
  refine HH.out.mono ?_
  rintro e w1 ⟨rfl, rfl⟩
  go_wp2_with fail
  clear h hf hc0 hc1
  generalize w.alloc (.cells #[.slice aou gb.length capu, .bool sp] 96) = wa at *
  have hkc : k ≤ cap := by omega
  have hk1 : k + 1 ≤ cap := by omega
  have hk2 : k + 1 ≤ gs.length := by omega
  have hb1 : (0 : Int) ≤ ((k : Nat) : Int) + 1 := by omega
  have hb2 : ((k : Nat) : Int) + 1 ≤ (gs.length : Int) := by omega
  have SA := hid (HG.out.row.drew.part Try.underlying33 HO.out 0 k cap (by omega))
  have SB : Hid (∀ w2, Keep Nil wa w2 → Src Try.prog 2 33 (.slice (if cap = k + 1 then some ⟨b, off, none⟩ else some ⟨b, off + (k + 1) * 2, none⟩) (gs.length - (k + 1)) (cap - (k + 1))) (gs.length - (k + 1)) (((gramCells gs us).drop ((k + 1) * 2)).take ((gs.length - (k + 1)) * 2)) w2) := hid (by
    intro w2 kk
    have hr := HG.out.row.keep kk (fun e => e)
    by_cases hc : cap = k + 1
    · rw [if_pos hc]
      have h0 : gs.length - (k + 1) = 0 := by omega
      rw [h0]
      exact Src.ofSlice _ Try.underlying33 _ _ _ _ (by simp) (fun j u hu => by simp at hu) (fun u hu => by simp at hu)
    · rw [if_neg hc]
      exact hr.part Try.underlying33 HO.out (k + 1) (gs.length - (k + 1)) _ (by omega))
  have CW := hid (fun w2 (kk : Keep Nil wa w2) => kk.cell h' (fun e => e))
  have FW := hid (fun w2 (kk : Keep Nil wa w2) => (World.frozen?_of_block (kk.block W (cell_lt h') (fun e => e)) (a := ⟨W, o, none⟩)).trans hf')
  go_region_law (first
    | (refine step_append_row _ rfl _ _ 33 33 rfl 96 (.agg #[.slice none 0 0, .bool false]) 2 32 Try.underlying33 info96 rfl wa.heap.size (.slice none 0 0) 0 [] rfl (RowAt.nil _ _ _ _) _ k _ rfl SA.out (by simp only [maxLen]; omega) (by omega) ?_; intro q1 ao1 cap1 w2 r1 k1 h1; rw [Nat.zero_add] at r1 ⊢; have K1 : Keep Nil wa w2 := (Keep.refl wa).drew.trans (k1.mono (fun i hi e => by have e1 := e.1; have : wa.drew.heap.size = wa.heap.size := rfl; omega)); have x1 := CW.out w2 K1; have R1 := hid r1; have KK1 := hid K1; have Q1 : Hid (wa.heap.size ≤ q1) := hid (by have : wa.drew.heap.size = wa.heap.size := rfl; rcases h1 with h | ⟨h, -⟩ <;> omega); clear r1 k1 h1 K1)
    | (refine step_append_row _ rfl _ _ 33 33 rfl 96 (.agg #[.slice none 0 0, .bool false]) 2 32 Try.underlying33 info96 rfl q1 (.slice ao1 k cap1) k _ rfl R1.out _ (gs.length - (k + 1)) _ rfl (SB.out w2 KK1.out) (by simp only [maxLen]; omega) (by omega) ?_; intro q2 ao2 cap2 w3 r2 k2 h2; have K2 : Keep Nil wa w3 := KK1.out.andThen k2 (fun i hi e => by have e1 := e.1; have := Q1.out; omega); have x2 := CW.out w3 K2; have f2 := FW.out w3 K2; have R2 := hid r2; have KK2 := hid K2; have Q2 : Hid (wa.heap.size ≤ q2) := hid (by have := Q1.out; have := KK1.out.size; rcases h2 with h | ⟨h, -⟩ <;> omega); clear r2 k2 h2 K2))
  all_goals
    have W3 := KK2.out.row HW.out (fun e => e)
    have hmut : Mut B w3 (One W) := by
      rintro i rfl
      exact ⟨hBW, fun cur fr e => by rw [W3] at e; simp at e⟩
    have kS : Keep (One W) w3 (w3.setCell ⟨W, o, none⟩ (.slice ao2 (k + (gs.length - (k + 1))) cap2)) := (Keep.refl w3).setCell (S := One W) (p := ⟨W, o, none⟩) (fun _ => rfl) _
    have Z3 := kS.row (KK2.out.row hZ.out (fun e => e)) (fun e => by have e' : w.heap.size = W := e; omega)
    have y0 := row_cell Z3 0
    have y1 := row_cell Z3 1
    have hqW : q2 ≠ W := fun e => by have := Q2.out; have := HK.out.size; omega
    have G3 := hid ((HG.out.erase KK2.out hk _ rfl R2.out).keep kS hmut hqW)
    have U3 := hid ((HU.out.keep KK2.out Mut.nil).keep kS hmut)
    have K3 : Hid (Keep Nil (w.setCell ⟨W, o, none⟩ (.slice ao2 (k + (gs.length - (k + 1))) cap2)) (w3.setCell ⟨W, o, none⟩ (.slice ao2 (k + (gs.length - (k + 1))) cap2))) := hid (Keep.set_both (HK.out.trans KK2.out))
    have Q3 : Hid (w.heap.size ≤ q2) := hid (Nat.le_trans HK.out.size Q2.out)
    clear W3 hmut kS Z3 hqW R2 KK2 Q2 R1 KK1 Q1 x1 x2 f2 SA SB CW FW hZ HW HK HU HG HH
    generalize w3.setCell ⟨W, o, none⟩ (.slice ao2 (k + (gs.length - (k + 1))) cap2) = w4 at *
    generalize (if cap = k + 1 then (some ⟨b, off, none⟩ : Option Addr) else some ⟨b, off + (k + 1) * 2, none⟩) = ab at *
    go_wp2_with fail
    go_quiet (fail)
    go_wp2
    refine bodyPost_ret (v := .tuple #[.slice aou gb.length capu, .bool sp, .int .i64 0]) (by simp [results, Try.results30, go_sem]) rfl ⟨_, rfl, ⟨U3.out.1.drewN, U3.out.2⟩, q2, _, _, Q3.out, G3.out.keep (keep_drewN _ (Keep.refl (S := Nil) _)) Mut.nil (fun e => e), keep_drewN _ K3.out⟩
end Go.Proofs.Ytjlgolkippleaaa
