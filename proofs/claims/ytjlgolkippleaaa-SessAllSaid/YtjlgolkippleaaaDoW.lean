/-
  The world of the laws: do.
-/
import Derived.Test.YtjlgolkippleaaaDelivW
namespace Go.Proofs.Ytjlgolkippleaaa
open Go.RowKit

inductive Deed (M : WM) : WM → Prop
  | same : Deed M M
  | send (s : Nat) (l : List UInt8) : s < 2 → Deed M (sendM M s l)
  | step (s : Nat) : s < 2 → Deed M (stepM M s)
  | deliv (s : Nat) (i : Int) {M' : WM} : s < 2 → Deliv M s i M' → Deed M M'
  | take (s k : Nat) : s < 2 → Deed M (takeM M s k)
  | twice (s k : Nat) (hk : k < (M.G s).length) : s < 2 → (M.G s).length < 256 → Deed M { M with G := upd M.G s (M.G s ++ [(M.G s)[k]]) }
  | turn (s k i : Nat) (y : UInt8) (hk : k < (M.G s).length) : s < 2 → (M.G s)[k].spoilt = false → i < (M.G s)[k].bytes.length → y ≠ 0 → Deed M { M with G := upd M.G s ((M.G s).set k ⟨turnL (M.G s)[k].bytes i y, true⟩) }
theorem inv_deed {n : Nat} {M M' : WM} (h : Inv n M) (hn : n + 1 ≤ 2000) (d : Deed M M') : Inv (n + 1) M' := by
  cases d with
  | same => exact h.more (by omega) hn
  | send s l hs => exact inv_send l hs h hn
  | step s hs => exact (inv_step hs h).more (by omega) hn
  | deliv s i hs d => exact (inv_deliv hs h d).more (by omega) hn
  | take s k hs => exact (inv_take hs h).more (by omega) hn
  | twice s k hk hs hl => exact (inv_twice hs h hk hl).more (by omega) hn
  | turn s k i y hk hs h1 h2 h3 => exact (inv_turn hs h hk h1 h2 h3).more (by omega) hn
def DoPost (B W : Nat) (p : Nat → Nat) (M : WM) (w : World) (e : Ending) (w' : World) : Prop := ∃ M', Deed M M' ∧ NetPost B W p M' w e w'

theorem and_one (x : Int) : ∃ s : Nat, s < 2 ∧ bits BinOp.and IntKind.i64 x 1 = (s : Int) := by
  have e : bits BinOp.and IntKind.i64 x 1 = IntKind.i64.wrap (((BitVec.ofInt 64 x &&& BitVec.ofInt 64 1).toNat : Nat) : Int) := rfl
  have h : (BitVec.ofInt 64 x &&& BitVec.ofInt 64 1).toNat < 2 := by
    rw [BitVec.toNat_and, show (BitVec.ofInt 64 1).toNat = 1 from rfl, Nat.and_one_is_mod]
    omega
  exact ⟨_, h, by rw [e]; exact IntWalk.i64_in _ (by omega)⟩
theorem u8_of {x : Int} (h0 : 0 ≤ x) (h1 : x ≤ 255) : ∃ y : UInt8, x = (y.toNat : Int) := ⟨UInt8.ofNat x.toNat, by rw [UInt8.toNat_ofNat']; omega⟩

theorem NetAt.sentUp {B W : Nat} {w w2 : World} {L : Lay} {M : WM} (h : NetAt B w W L M) {s t2 : Nat} {x : Value} {vs2 : List Value} {l : List UInt8} (hs : s < 2) (k : Keep (Typ w (L.t s) 27) w w2)
    (hr : SentAt B w2 t2 x (M.S s ++ [l]) vs2) (ht : t2 = L.t s ∨ w.heap.size ≤ t2) :
    NetAt B (w2.setCell ⟨W, 4 + s, none⟩ x) W { L with t := upd L.t s t2, u := upd L.u s x, vs := upd L.vs s vs2 } { M with S := upd M.S s (M.S s ++ [l]) } := by
  have hWl := h.lt
  have l0 := (h.ends 0 (by omega)).lt
  have l1 := (h.ends 1 (by omega)).lt
  have hrow : ∃ cur, w2.heap[t2]? = some (.cells cur 27 (0, 0)) := by
    rcases hr.1 with ⟨h0, -⟩ | ⟨_, _, cur, _, e, _⟩
    · simp at h0
    · exact ⟨cur, e⟩
  obtain ⟨curt, hcurt⟩ := hrow
  have htl := row_lt hcurt
  have nW : ¬ Typ w (L.t s) 27 W := fun ⟨_, cur, e⟩ => by rw [h.block] at e; simp at e
  have hW2 := k.row h.block nW
  have htW : t2 ≠ W := fun e => by rw [e, hW2] at hcurt; simp at hcurt
  have hmut : Mut B w (Typ w (L.t s) 27) := by
    rintro i ⟨rfl, cur, e⟩
    exact ⟨(h.tlt s hs).2, fun cur' fr e' => by rw [e] at e'; simp at e'⟩
  have hm2 : Mut2 B w (Typ w (L.t s) 27) := ⟨hmut, fun i ⟨e1, cur, e⟩ cur' e' => by rw [e] at e'; simp at e'⟩
  have kS : Keep (One W) w2 (w2.setCell ⟨W, 4 + s, none⟩ x) := (Keep.refl w2).setCell (S := One W) (p := ⟨W, 4 + s, none⟩) (fun _ => rfl) x
  have hmW : Mut2 B w2 (One W) := by
    refine ⟨?_, ?_⟩
    · rintro i rfl
      exact ⟨h.BW, fun cur fr e => by rw [hW2] at e; simp at e⟩
    · rintro i rfl cur e
      rw [hW2] at e; simp at e
  refine ⟨?_, h.BW, fun i hi => ?_, fun i hi => ?_, fun i hi => ?_, fun i hi => ?_, h.pq, ?_, ?_, h.Wp⟩
  · have := row_set hW2 (4 + s) x
    rw [this]
    rcases (by omega : s = 0 ∨ s = 1) with rfl | rfl <;> rfl
  · exact ((h.ends i hi).keep k hmut (fun e => (h.tq s i hs hi).1 e.1.symm) (fun e => (h.tq s i hs hi).2 e.1.symm)).keep kS hmW.1 (fun e => (h.Wp i hi).1 e.symm) (fun e => (h.Wp i hi).2 e.symm)
  · exact ((h.bags i hi).keepT k hm2).keepT kS hmW
  · show SentAt B _ (upd L.t s t2 i) (upd L.u s x i) (upd M.S s (M.S s ++ [l]) i) (upd L.vs s vs2 i)
    by_cases his : i = s
    · subst his
      simp only [upd_self]
      exact hr.keepT kS hmW.1 (fun _ _ e => htW e)
    · simp only [upd_ne _ _ his]
      refine ((h.sent i hi).keepT k hmut (fun cur e e' => ?_)).keepT kS hmW.1 (fun cur e e' => ?_)
      · have e1 : L.t i = L.t s := e'.1
        have : L.t 0 = W := h.tt (by rcases (by omega : (s = 0 ∧ i = 1) ∨ (s = 1 ∧ i = 0)) with ⟨rfl, rfl⟩ | ⟨rfl, rfl⟩ <;> simp [e1])
        have : L.t i = W := by rcases (by omega : (s = 0 ∧ i = 1) ∨ (s = 1 ∧ i = 0)) with ⟨rfl, rfl⟩ | ⟨rfl, rfl⟩ <;> omega
        rw [this, h.block] at e; simp at e
      · have e1 : L.t i = W := e'
        rw [e1, hW2] at e; simp at e
  · show upd L.t s t2 i < _ ∧ B ≤ upd L.t s t2 i
    by_cases his : i = s
    · subst his
      rw [upd_self]
      refine ⟨Nat.lt_of_lt_of_le htl kS.size, ?_⟩
      rcases ht with ht | ht
      · rw [ht]; exact (h.tlt i hi).2
      · have := h.BW; omega
    · rw [upd_ne _ _ his]
      exact ⟨Nat.lt_of_lt_of_le (h.tlt i hi).1 (Nat.le_trans k.size kS.size), (h.tlt i hi).2⟩
  · show upd L.t s t2 0 = upd L.t s t2 1 → upd L.t s t2 0 = W
    have t0 := (h.tlt 0 (by omega)).1
    have t1 := (h.tlt 1 (by omega)).1
    have htt := h.tt
    rcases (by omega : s = 0 ∨ s = 1) with rfl | rfl
    · rw [upd_self, upd_ne _ _ (by omega)]
      intro e
      rcases ht with ht | ht
      · rw [ht] at e ⊢; exact htt e
      · omega
    · rw [upd_self, upd_ne _ _ (by omega)]
      intro e
      rcases ht with ht | ht
      · rw [ht] at e; exact htt e
      · omega
  · intro i j hi hj
    show upd L.t s t2 i ≠ L.p j ∧ upd L.t s t2 i ≠ L.q j
    by_cases his : i = s
    · subst his
      rw [upd_self]
      have := h.tq i j hi hj
      have lj := (h.ends j hj).lt
      rcases ht with ht | ht
      · rw [ht]; exact this
      · omega
    · rw [upd_ne _ _ his]; exact h.tq i j hi hj

def BagPost (B W : Nat) (p : Nat → Nat) (M : WM) (w : World) (e : Ending) (w' : World) : Prop := ∃ v, e = .returned v ∧ ∃ M', Deed M M' ∧ ∃ L', L'.p = p ∧ NetAt B w' W L' M' ∧ Keep (One W) w w'
theorem BagPost.same {B W : Nat} {L : Lay} {M : WM} {w : World} {v : Value} (h : NetAt B w W L M) : BagPost B W L.p M w (.returned v) w := ⟨v, rfl, M, .same, L, rfl, h, Keep.refl _⟩
theorem ntake (w : World) (B W n s : Nat) (i : Int) (L : Lay) (M : WM) (hs : s < 2) (hI : Inv n M) (h : NetAt B w W L M) :
    Calls Try.prog 30 #[.pointer (some ⟨W, 2 + s, none⟩), .int .i64 i] w (BagPost B W L.p M w) := by
  have hb := h.bags s hs
  by_cases hi : 0 ≤ i ∧ i < (M.G s).length
  · obtain ⟨k, rfl⟩ : ∃ k : Nat, i = k := ⟨i.toNat, by omega⟩
    have hk : k < (M.G s).length := by omega
    refine (btake_some w B W (2 + s) (L.g s) k (L.v s) (M.G s) (L.us s) hb (h.cBag hs) (h.free _) ⟨_, h.block⟩ h.BW hk (hI.side s hs).bag).mono ?_
    rintro e w' ⟨u, rfl, -, hbg⟩
    obtain ⟨L', e1, hN, k2⟩ := h.bagged hs hbg
    exact ⟨_, rfl, _, .take s k hs, L', e1, hN, k2⟩
  · obtain ⟨aog, capg, hvg⟩ := hb.row.shape
    refine (btake_none w W (2 + s) aog (M.G s).length capg i (by rw [h.cBag hs, hvg]) hi).mono ?_
    rintro e w' ⟨rfl, rfl⟩
    exact BagPost.same h
theorem ntwice (w : World) (B W s : Nat) (i : Int) (L : Lay) (M : WM) (hs : s < 2) (h : NetAt B w W L M) :
    Calls Try.prog 31 #[.pointer (some ⟨W, 2 + s, none⟩), .int .i64 i] w (BagPost B W L.p M w) := by
  have hb := h.bags s hs
  obtain ⟨aog, capg, hvg⟩ := hb.row.shape
  by_cases hi : 0 ≤ i ∧ i < (M.G s).length
  · obtain ⟨k, rfl⟩ : ∃ k : Nat, i = k := ⟨i.toNat, by omega⟩
    have hk : k < (M.G s).length := by omega
    by_cases hl : (M.G s).length < 256
    · refine (btwice_some w B W (2 + s) (L.g s) k (L.v s) (M.G s) (L.us s) hb (h.cBag hs) (h.free _) ⟨_, h.block⟩ h.BW hk hl).mono ?_
      rintro e w' ⟨rfl, hbg⟩
      obtain ⟨L', e1, hN, k2⟩ := h.bagged hs hbg
      exact ⟨_, rfl, _, .twice s k hk hs hl, L', e1, hN, k2⟩
    · refine (btwice_full w W (2 + s) k aog (M.G s).length capg (by rw [h.cBag hs, hvg]) hk (by omega)).mono ?_
      rintro e w' ⟨rfl, rfl⟩
      exact BagPost.same h
  · refine (btwice_none w W (2 + s) aog (M.G s).length capg i (by rw [h.cBag hs, hvg]) hi).mono ?_
    rintro e w' ⟨rfl, rfl⟩
    exact BagPost.same h
theorem nturn (w : World) (B W n s : Nat) (i at_ : Int) (y : UInt8) (L : Lay) (M : WM) (hs : s < 2) (hI : Inv n M) (h : NetAt B w W L M) :
    Calls Try.prog 32 #[.pointer (some ⟨W, 2 + s, none⟩), .int .i64 i, .int .i64 at_, .int .u8 (y.toNat : Int)] w (BagPost B W L.p M w) := by
  have hb := h.bags s hs
  obtain ⟨aog, capg, hvg⟩ := hb.row.shape
  by_cases hi : 0 ≤ i ∧ i < (M.G s).length
  · obtain ⟨k, rfl⟩ : ∃ k : Nat, i = k := ⟨i.toNat, by omega⟩
    have hk : k < (M.G s).length := by omega
    have hgl := ((hI.side s hs).grams _ (List.getElem_mem hk)).len hs hI
    by_cases hc : (M.G s)[k].spoilt = true ∨ y = 0
    · refine (bturn_kept w B W (2 + s) (L.g s) k (L.v s) (M.G s) (L.us s) at_ y hb (h.cBag hs) hk hc).mono ?_
      rintro e w' ⟨⟨r, rfl⟩, rfl⟩
      exact BagPost.same h
    · have hsp : (M.G s)[k].spoilt = false := by
        cases hx : (M.G s)[k].spoilt with
        | false => rfl
        | true => exact absurd (.inl hx) hc
      have hy : y ≠ 0 := fun e => hc (.inr e)
      refine (bturn_some w B W (2 + s) (L.g s) k (L.v s) (M.G s) (L.us s) at_ y hb (h.cBag hs) (h.free _) ⟨_, h.block⟩ h.BW hk (hI.side s hs).bag (by omega) hsp (hgl.2 hsp) hy).mono ?_
      rintro e w' ⟨rfl, j, hj, hbg⟩
      obtain ⟨L', e1, hN, k2⟩ := h.bagged hs hbg
      exact ⟨_, rfl, _, .turn s k j y hk hs hsp hj hy, L', e1, hN, k2⟩
  · refine (bturn_none w W (2 + s) aog (M.G s).length capg i at_ _ (by rw [h.cBag hs, hvg]) hi).mono ?_
    rintro e w' ⟨rfl, rfl⟩
    exact BagPost.same h

theorem src_load (w : World) (ao : Option Addr) (n cap : Nat) : Src Try.prog 1 37 (.slice (some ⟨w.heap.size, 0, none⟩) 1 1) 1 [.slice ao n cap] (w.alloc (.cells #[.slice ao n cap] 27)) :=
  Src.ofSlice _ Try.underlying37 _ 1 1 _ rfl (fun j u hu => by
    cases j with
    | zero => rw [Addr.add_lit]; rw [row_cell (heap_new _ _)]; simpa using hu
    | succ j => simp at hu) (by simp [Value.oneCell'])
set_option maxRecDepth 100000 in
set_option maxHeartbeats 8000000 in
theorem ndo (w : World) (B W n : Nat) (L : Lay) (M : WM) (kk side ix at_ by_ : Int) (lv : Value) (l : List UInt8) (hI : Inv n M) (h : NetAt B w W L M) (hl : Bts B w lv l) (hk0 : 0 ≤ kk) (hk1 : kk ≤ 255) (hb0 : 0 ≤ by_) (hb1 : by_ ≤ 255) :
    Calls Try.prog 11 #[.pointer (some ⟨W, 0, none⟩), .agg #[.int .u8 kk, .int .i64 side, .int .i64 ix, .int .i64 at_, .int .u8 by_, lv]] w (DoPost B W L.p M w) := by
  obtain ⟨s, hs, hsd⟩ := and_one side
  obtain ⟨y, rfl⟩ := u8_of hb0 hb1
  obtain ⟨aol, capl, rfl, -⟩ := id hl
  have H := hid h
  have HL := hid hl
  have hZ := hid (heap_new w (.cells #[.int .u8 kk, .int .i64 side, .int .i64 ix, .int .i64 at_, .int .u8 (y.toNat : Int), .slice aol l.length capl] 29))
  have HA := hid (h.nil ((Keep.refl w).alloc (.cells #[.int .u8 kk, .int .i64 side, .int .i64 ix, .int .i64 at_, .int .u8 (y.toNat : Int), .slice aol l.length capl] 29)))
  have KA := hid ((Keep.refl (S := From B) w).alloc (.cells #[.int .u8 kk, .int .i64 side, .int .i64 ix, .int .i64 at_, .int .u8 (y.toNat : Int), .slice aol l.length capl] 29))
  have LA := hid (hl.alloc (.cells #[.int .u8 kk, .int .i64 side, .int .i64 ix, .int .i64 at_, .int .u8 (y.toNat : Int), .slice aol l.length capl] 29))
  have hWz : W < w.heap.size := h.lt
  have hsI : ((s : Nat) : Int) < 2 := by omega
  have H0 := H
  clear h hl hb0 hb1 H HL
  go_enter Try.func11, Try.ntmps11
  go_wp2_with fail
  · generalize w.alloc (.cells #[.int .u8 kk, .int .i64 side, .int .i64 ix, .int .i64 at_, .int .u8 (y.toNat : Int), .slice aol l.length capl] 29) = wa at *
    have hzW : W ≠ w.heap.size := by omega
    have hzpq : w.heap.size ≠ L.p s ∧ w.heap.size ≠ L.q s := by
      have h1 := (H0.out.ends s hs).lt
      omega
    generalize w.heap.size = z at *
    have x0 : wa.drew.cell? ⟨W, s, none⟩ = some (.pointer (some ⟨L.p s, 0, none⟩)) := HA.out.cEnd hs
    have x5 : wa.drew.cell? ⟨z, 5, none⟩ = some (.slice aol l.length capl) := row_cell hZ.out 5
    have hE := hI.side s hs
    have hsnd := send_some wa.drew B (L.p s) (L.q s) (M.E s) _ l ((HA.out.ends s hs).drew) (by rw [hE.epoch]; decide) hE.len LA.out.drew
    have hWpq := HA.out.Wp s hs
    have HnW : Hid (¬ Two (L.p s) (L.q s) W) := hid (fun e => by rcases e with e | e; exact hWpq.1 e; exact hWpq.2 e)
    have Hnz : Hid (¬ Two (L.p s) (L.q s) z) := hid (fun e => by rcases e with e | e; exact hzpq.1 e; exact hzpq.2 e)
    have hSl : (M.S s).length ≤ 2000 := by have := hI.small s hs; have := hI.few; omega
    replace hE := hid hE
    replace hzW := hid hzW
    replace hSl := hid hSl
    have hdeed : Hid (Deed M (sendM M s l)) := hid (.send s l hs)
    clear hWpq hzpq
    by_cases hse : sendErr (M.E s) l = 0
    · have hM' : sendM M s l = { M with E := upd M.E s (sendTo (M.E s) l), S := upd M.S s (M.S s ++ [l]) } := if_pos hse
      have hl12 : l.length ≤ 1200 := by
        unfold sendErr at hse
        split at hse
        · omega
        · omega
      rw [hse] at hsnd
      replace hsnd := hid hsnd
      replace hM' := hid hM'
      clear hse
      go_region_held3 (fun w' => w'.cell? ⟨W, s, none⟩ = some (.pointer (some ⟨L.p s, 0, none⟩)) ∧ w'.cell? ⟨z, 5, none⟩ = some (.slice aol l.length capl))
        (first | (with_reducible exact ⟨x0, x5⟩) | (with_reducible exact ⟨e0, e5⟩))
        ((first | (go_at_call 19; refine hsnd.out.mono ?_; rintro e w2 ⟨rfl, q2, he2, k2, h2⟩; have e0 := k2.cell x0 HnW.out; have e5 := k2.cell x5 Hnz.out; have E2 := hid he2; have KK2 := hid k2; have H2 := hid h2; clear he2 k2 h2)))
      have LW2 := hid (LA.out.drew.keep KK2.out (HA.out.ends s hs).drew.mut)
      have N2a := HA.out.drew.turned hs KK2.out E2.out H2.out
      have K2 := hid (KA.out.drew.trans (KK2.out.mono (fun i _ e => by rcases e with e | e; rw [e]; exact (HA.out.ends s hs).pB; rw [e]; exact (HA.out.ends s hs).qB)))
      obtain ⟨L2, hL2, M2, hM2, N2⟩ : ∃ L2, L2.p = L.p ∧ ∃ M2 : WM, M2 = { M with E := upd M.E s (sendTo (M.E s) l) } ∧ NetAt B w2 W L2 M2 := ⟨_, rfl, _, rfl, N2a⟩
      have hS2 : M2.S = M.S := by rw [hM2]
      have hMM : sendM M s l = { M2 with S := upd M2.S s (M2.S s ++ [l]) } := by rw [hM'.out, hM2]
      replace hMM := hid hMM
      obtain ⟨hr1, hvl, hr2⟩ := N2.sent s hs
      obtain ⟨aot, capt, hut⟩ := hr1.shape
      have hlen2 : (M2.S s).length ≤ 2000 := by rw [hS2]; exact hSl.out
      have x4 : w2.drew.cell? ⟨W, 4 + s, none⟩ = some (.slice aot (M2.S s).length capt) := (N2.cSent hs).trans (by rw [hut])
      have y5 : w2.drew.cell? ⟨z, 5, none⟩ = some (.slice aol l.length capl) := e5
      rw [hut] at hr1
      have HR := hid hr1
      have HVL := hid hvl
      have HR2 := hid hr2
      have hnd := hid hlen2
      have HN2 := hid N2
      have HW := hid N2.block
      have CW := hid (fun w' (kk : Keep Nil w2 w') => And.intro ((kk.cell (N2.cSent hs) (fun e => e)).trans (by rw [hut])) (kk.cell e5 (fun e => e)))
      have hWW := N2.lt
      have CW2 : Hid (some (L2.u s) = some (Value.slice aot (M2.S s).length capt)) := hid (by rw [hut])
      replace hL2 := hid hL2
      clear N2a N2 E2 KK2 H2 hM2 hS2 hr1 hvl hr2 hut x0 x5 e0 e5 hM' hsnd HnW Hnz HA KA LA hZ hSl hWW
      go_wp2_with fail
      go_region_law (first
        | (refine step_append_row w2.drew rfl (.const (.slice none 0 0)) (.tmp 44) 27 27 rfl 5 (.int .u8 0) 1 1 Try.underlying27 info5 rfl W (.slice none 0 0) 0 [] rfl (RowAt.nil _ _ _ _) (.slice aol l.length capl) l.length (bcells l) rfl (LW2.out.drew).src (by simp only [maxLen]; omega) (by omega) ?_; intro q5 ao5 cap5 w5 r5 k5 h5; rw [Nat.zero_add] at r5 ⊢; have kk5 := nil_app (e := 5) (wc := w2.drew) HW.out (by decide) k5; have K5 : Keep Nil w2 w5 := Keep.trans (Keep.refl (S := Nil) w2).drew kk5; obtain ⟨x1, x2⟩ := CW.out w5 K5; have hW5 : W < w5.heap.size := cell_lt x1; have V5 := hid (Bts.of_row (B := B) (show RowAt w5 5 1 q5 (.slice ao5 l.length cap5) l.length (bcells l) from r5)); have KM := hid K5; clear r5 k5 h5 kk5 K5)
        | (refine step_append_row (w5.alloc (.cells #[.slice ao5 l.length cap5] 27)) rfl (.tmp 42) (.tmp 46) 37 37 rfl 27 (.slice none 0 0) 1 24 Try.underlying37 info27 rfl (L2.t s) (.slice aot (M2.S s).length capt) (M2.S s).length (L2.vs s) rfl (RowAt.keep (S := Nil) HR.out (KM.out.alloc (.cells #[.slice ao5 l.length cap5] 27)) (fun e => e)) (.slice (some ⟨w5.heap.size, 0, none⟩) 1 1) 1 [.slice ao5 l.length cap5] rfl (src_load w5 ao5 l.length cap5) (by have := hnd.out; simp only [maxLen]; omega) (by have := hnd.out; omega) ?_; intro q3 ao3 cap3 w3 r3 k3 h3; have N5 := HN2.out.nil (KM.out.alloc (.cells #[.slice ao5 l.length cap5] 27)); have nW : ¬ Typ (w5.alloc (.cells #[.slice ao5 l.length cap5] 27)) (L2.t s) 27 W := (fun e => by obtain ⟨_, cur, e'⟩ := e; rw [N5.block] at e'; simp at e'); have x8 := k3.cell ((N5.cSent hs).trans (CW2.out)) nW; have f8 := row_free (k3.row N5.block nW) (4 + s); have R3 := hid r3; have KK3 := hid k3; have H3 := hid h3; have HN5 := hid N5; clear r3 k3 h3 N5 nW))
      all_goals
        have hmut : Mut B (w5.alloc (.cells #[.slice ao5 l.length cap5] 27)) (Typ (w5.alloc (.cells #[.slice ao5 l.length cap5] 27)) (L2.t s) 27) := by
          rintro i ⟨rfl, cur, e⟩
          exact ⟨(HN5.out.tlt s hs).2, fun cur' fr e' => by rw [e] at e'; simp at e'⟩
        have hsent : SentAt B w3 q3 (.slice ao3 ((M2.S s).length + 1) cap3) (M2.S s ++ [l]) (L2.vs s ++ [.slice ao5 l.length cap5]) := by
          have hv := HVL.out
          refine ⟨by simpa using R3.out, by simp [hv], fun i hi => ?_⟩
          by_cases hin : i < (M2.S s).length
          · obtain ⟨u, h1, h2⟩ := HR2.out i hin
            refine ⟨u, by rw [List.getElem?_append_left (by omega)]; exact h1, ?_⟩
            rw [List.getElem_append_left hin]
            exact (h2.keep (KM.out.alloc (.cells #[.slice ao5 l.length cap5] 27)) Mut.nil).keep KK3.out hmut
          · have hi' : i = (M2.S s).length := by simp at hi; omega
            subst hi'
            refine ⟨.slice ao5 l.length cap5, by rw [List.getElem?_append_right (by omega)]; simp [hv], ?_⟩
            rw [List.getElem_append_right (by omega)]
            simpa using (V5.out.alloc (.cells #[.slice ao5 l.length cap5] 27)).keep KK3.out hmut
        have hN := HN5.out.sentUp hs KK3.out hsent (H3.out.imp id (fun h => h.1))
        have kS : Keep (From B) w3 (w3.setCell ⟨W, 4 + s, none⟩ (.slice ao3 ((M2.S s).length + 1) cap3)) := (Keep.refl w3).setCell (S := From B) (p := ⟨W, 4 + s, none⟩) (fun _ => HN5.out.BW) _
        have k3' : Keep (From B) (w5.alloc (.cells #[.slice ao5 l.length cap5] 27)) w3 := KK3.out.mono (fun i _ e => by rw [e.1]; exact (HN5.out.tlt s hs).2)
        have kM' : Keep (From B) w2 (w5.alloc (.cells #[.slice ao5 l.length cap5] 27)) := (KM.out.alloc (.cells #[.slice ao5 l.length cap5] 27)).mono (fun _ _ e => e.elim)
        have hpost : Hid (DoPost B W L.p M w (.returned (.tuple #[])) (w3.setCell ⟨W, 4 + s, none⟩ (.slice ao3 ((M2.S s).length + 1) cap3))) := hid ⟨_, hdeed.out, rfl, { L2 with t := upd L2.t s q3, u := upd L2.u s (.slice ao3 ((M2.S s).length + 1) cap3), vs := upd L2.vs s (L2.vs s ++ [.slice ao5 l.length cap5]) }, hL2.out, by rw [hMM.out]; exact hN, ((K2.out.trans kM').trans k3').trans kS⟩
        clear hmut hsent hN kS k3' kM' R3 KK3 H3 HN5 x8 f8 x1 x2 V5 KM HR HVL HR2 HN2 HW CW CW2 K2 LW2 x4 y5
        generalize w3.setCell ⟨W, 4 + s, none⟩ (.slice ao3 ((M2.S s).length + 1) cap3) = w4 at *
        go_wp2
        exact bodyPost_ret (v := .tuple #[]) (by simp [results, Try.results11, go_sem]) rfl hpost.out
    · have hM' : sendM M s l = M := if_neg hse
      have hT : sendTo (M.E s) l = M.E s := by
        unfold sendErr at hse
        unfold sendTo
        split
        · rfl
        · split
          · rfl
          · rename_i h1 h2
            rw [if_neg h1, if_neg h2] at hse
            exact absurd rfl hse
      have hb : ((sendErr (M.E s) l : Int) == 0) = false := beq_eq_false_iff_ne.2 hse
      rw [hT] at hsnd
      replace hT := hid hT
      clear hse
      generalize sendErr (M.E s) l = se at *
      replace hsnd := hid hsnd
      replace hM' := hid hM'
      go_region_held3 (fun w' => w'.cell? ⟨W, s, none⟩ = some (.pointer (some ⟨L.p s, 0, none⟩)) ∧ w'.cell? ⟨z, 5, none⟩ = some (.slice aol l.length capl))
        (first | (with_reducible exact ⟨x0, x5⟩) | (with_reducible exact ⟨e0, e5⟩))
        ((first | (go_at_call 19; refine hsnd.out.mono ?_; rintro e w2 ⟨rfl, q2, he2, k2, h2⟩; have e0 := k2.cell x0 HnW.out; have e5 := k2.cell x5 Hnz.out; have E2 := hid he2; have KK2 := hid k2; have H2 := hid h2; clear he2 k2 h2)))
      have hpost : Hid (DoPost B W L.p M w (.returned (.tuple #[])) w2) := hid (by
        have N2a := HA.out.drew.turned hs KK2.out E2.out H2.out
        have hME : ({ M with E := upd M.E s (M.E s) } : WM) = M := by
          have : upd M.E s (M.E s) = M.E := by
            funext i
            unfold upd
            split
            · rename_i h; rw [h]
            · rfl
          rw [this]
        rw [hME] at N2a
        refine ⟨_, hdeed.out, rfl, { L with q := upd L.q s q2 }, rfl, by rw [hM'.out]; exact N2a, KA.out.drew.trans (KK2.out.mono (fun i _ e => ?_))⟩
        rcases e with e | e
        · rw [e]; exact (HA.out.ends s hs).pB
        · rw [e]; exact (HA.out.ends s hs).qB)
      clear E2 KK2 H2 HA KA LA hZ hsnd e0 e5 x0 x5
      go_wp2
      exact bodyPost_ret (v := .tuple #[]) (by simp [results, Try.results11, go_sem]) rfl hpost.out
  · generalize w.alloc (.cells #[.int .u8 kk, .int .i64 side, .int .i64 ix, .int .i64 at_, .int .u8 (y.toNat : Int), .slice aol l.length capl] 29) = wa at *
    have hzW : W ≠ w.heap.size := by omega
    generalize w.heap.size = z at *
    refine (nstep wa B W n s L M hs hI HA.out).mono ?_
    rintro e w2 ⟨rfl, L', hL', hN, hk⟩
    have hpost : Hid (DoPost B W L.p M w (.returned (.tuple #[])) w2) := hid ⟨_, .step s hs, rfl, L', hL', hN, KA.out.trans hk⟩
    clear hL' hN hk HA KA LA hZ
    go_wp2
    exact bodyPost_ret (v := .tuple #[]) (by simp [results, Try.results11, go_sem]) rfl hpost.out
  · generalize w.alloc (.cells #[.int .u8 kk, .int .i64 side, .int .i64 ix, .int .i64 at_, .int .u8 (y.toNat : Int), .slice aol l.length capl] 29) = wa at *
    have hzW : W ≠ w.heap.size := by omega
    generalize w.heap.size = z at *
    refine (ndeliver wa B W n s ix L M hs hI HA.out).mono ?_
    rintro e w2 ⟨M', hd, rfl, L', hL', hN, hk⟩
    have hpost : Hid (DoPost B W L.p M w (.returned (.tuple #[])) w2) := hid ⟨_, .deliv s ix hs hd, rfl, L', hL', hN, KA.out.trans hk⟩
    clear hd hL' hN hk HA KA LA hZ
    go_wp2
    exact bodyPost_ret (v := .tuple #[]) (by simp [results, Try.results11, go_sem]) rfl hpost.out
  · generalize w.alloc (.cells #[.int .u8 kk, .int .i64 side, .int .i64 ix, .int .i64 at_, .int .u8 (y.toNat : Int), .slice aol l.length capl] 29) = wa at *
    have hzW : W ≠ w.heap.size := by omega
    generalize w.heap.size = z at *
    have HB := hid (ntake wa.drew B W n s ix L M hs hI HA.out.drew)
    unfold BagPost at HB
    have Hne : Hid (¬ One W z) := hid (fun e => hzW (Eq.symm e))
    have x2 : wa.drew.cell? ⟨z, 2, none⟩ = some (.int .i64 ix) := row_cell hZ.out 2
    replace hzW := hid hzW
    go_region_held3 (fun w' => w'.cell? ⟨z, 2, none⟩ = some (.int .i64 ix))
      (first | (with_reducible exact x2) | (with_reducible exact e2))
      ((first | (go_at_call 30; refine HB.out.mono ?_; rintro e w2 ⟨v, rfl, M', hd, L', hL', hN, hk⟩; have e2 := hk.cell x2 Hne.out; have HD := hid hd; have HLp := hid hL'; have HN := hid hN; have HK := hid hk; clear hd hL' hN hk)))
    have hpost : Hid (DoPost B W L.p M w (.returned (.tuple #[])) w2) := hid ⟨M', HD.out, rfl, L', HLp.out, HN.out, (KA.out.drew).trans (HK.out.mono (fun i _ e => by have e' : i = W := e; rw [e']; exact HN.out.BW))⟩
    clear HD HLp HN HK HB HA KA LA hZ
    go_wp2
    exact bodyPost_ret (v := .tuple #[]) (by simp [results, Try.results11, go_sem]) rfl hpost.out
  · generalize w.alloc (.cells #[.int .u8 kk, .int .i64 side, .int .i64 ix, .int .i64 at_, .int .u8 (y.toNat : Int), .slice aol l.length capl] 29) = wa at *
    have hzW : W ≠ w.heap.size := by omega
    generalize w.heap.size = z at *
    have HB := hid (ntwice wa.drew B W s ix L M hs HA.out.drew)
    unfold BagPost at HB
    have Hne : Hid (¬ One W z) := hid (fun e => hzW (Eq.symm e))
    have x2 : wa.drew.cell? ⟨z, 2, none⟩ = some (.int .i64 ix) := row_cell hZ.out 2
    replace hzW := hid hzW
    go_region_held3 (fun w' => w'.cell? ⟨z, 2, none⟩ = some (.int .i64 ix))
      (first | (with_reducible exact x2) | (with_reducible exact e2))
      ((first | (go_at_call 31; refine HB.out.mono ?_; rintro e w2 ⟨v, rfl, M', hd, L', hL', hN, hk⟩; have e2 := hk.cell x2 Hne.out; have HD := hid hd; have HLp := hid hL'; have HN := hid hN; have HK := hid hk; clear hd hL' hN hk)))
    have hpost : Hid (DoPost B W L.p M w (.returned (.tuple #[])) w2) := hid ⟨M', HD.out, rfl, L', HLp.out, HN.out, (KA.out.drew).trans (HK.out.mono (fun i _ e => by have e' : i = W := e; rw [e']; exact HN.out.BW))⟩
    clear HD HLp HN HK HB HA KA LA hZ
    go_wp2
    exact bodyPost_ret (v := .tuple #[]) (by simp [results, Try.results11, go_sem]) rfl hpost.out
  · generalize w.alloc (.cells #[.int .u8 kk, .int .i64 side, .int .i64 ix, .int .i64 at_, .int .u8 (y.toNat : Int), .slice aol l.length capl] 29) = wa at *
    have hzW : W ≠ w.heap.size := by omega
    generalize w.heap.size = z at *
    have HB := hid (nturn wa.drew B W n s ix at_ y L M hs hI HA.out.drew)
    unfold BagPost at HB
    have Hne : Hid (¬ One W z) := hid (fun e => hzW (Eq.symm e))
    have x2 : wa.drew.cell? ⟨z, 2, none⟩ = some (.int .i64 ix) := row_cell hZ.out 2
    have x3 : wa.drew.cell? ⟨z, 3, none⟩ = some (.int .i64 at_) := row_cell hZ.out 3
    have x4 : wa.drew.cell? ⟨z, 4, none⟩ = some (.int .u8 (y.toNat : Int)) := row_cell hZ.out 4
    replace hzW := hid hzW
    go_region_held3 (fun w' => w'.cell? ⟨z, 2, none⟩ = some (.int .i64 ix) ∧ w'.cell? ⟨z, 3, none⟩ = some (.int .i64 at_) ∧ w'.cell? ⟨z, 4, none⟩ = some (.int .u8 (y.toNat : Int)))
      (first | (with_reducible exact ⟨x2, x3, x4⟩) | (with_reducible exact ⟨e2, e3, e4⟩))
      ((first | (go_at_call 32; refine HB.out.mono ?_; rintro e w2 ⟨v, rfl, M', hd, L', hL', hN, hk⟩; have e2 := hk.cell x2 Hne.out; have e3 := hk.cell x3 Hne.out; have e4 := hk.cell x4 Hne.out; have HD := hid hd; have HLp := hid hL'; have HN := hid hN; have HK := hid hk; clear hd hL' hN hk)))
    have hpost : Hid (DoPost B W L.p M w (.returned (.tuple #[])) w2) := hid ⟨M', HD.out, rfl, L', HLp.out, HN.out, (KA.out.drew).trans (HK.out.mono (fun i _ e => by have e' : i = W := e; rw [e']; exact HN.out.BW))⟩
    clear HD HLp HN HK HB HA KA LA hZ
    go_wp2
    exact bodyPost_ret (v := .tuple #[]) (by simp [results, Try.results11, go_sem]) rfl hpost.out
end Go.Proofs.Ytjlgolkippleaaa
