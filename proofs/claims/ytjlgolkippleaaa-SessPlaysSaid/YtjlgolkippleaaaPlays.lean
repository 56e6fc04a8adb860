/-
  SessPlays: the walk.
-/
import Derived.Test.YtjlgolkippleaaaScript
import Derived.Test.YtjlgolkippleaaaMsgs
import Derived.Test.YtjlgolkippleaaaRefWrong
import Derived.Test.YtjlgolkippleaaaRefRecv
import Derived.Test.YtjlgolkippleaaaRefStep
import Derived.Test.YtjlgolkippleaaaNobody
namespace Go.Proofs.Ytjlgolkippleaaa
open Go.RowKit

/-- both Ends, at one plain state -/
structure Pair (B : Nat) (w : World) (p q r rq : Nat) (E : ES) (ls : List (List UInt8)) : Prop where
  own : EndAt B w p q E
  ref : RefAt B w r rq E ls
  ne : p ≠ r ∧ p ≠ rq ∧ q ≠ r ∧ q ≠ rq
theorem Pair.left {B p q q' r rq : Nat} {w w' : World} {E : ES} {ls : List (List UInt8)} (h : Pair B w p q r rq E ls) (k : Keep (Two p q) w w') (hq : q' = q ∨ w.heap.size ≤ q') :
    RefAt B w' r rq E ls ∧ p ≠ r ∧ p ≠ rq ∧ q' ≠ r ∧ q' ≠ rq := by
  have h2 := h.ref.lt
  refine ⟨h.ref.keep k h.own.mut (fun e => ?_) (fun e => ?_), h.ne.1, h.ne.2.1, ?_, ?_⟩
  · have := h.ne; rcases e with e | e <;> omega
  · have := h.ne; rcases e with e | e <;> omega
  · have := h.ne; rcases hq with e | e <;> omega
  · have := h.ne; rcases hq with e | e <;> omega

theorem RefAt.joins {B p q r rq rq' : Nat} {w w' : World} {E E' : ES} {ls ls' : List (List UInt8)} (h : RefAt B w r rq E ls) (h1 : EndAt B w p q E') (hn : p ≠ r ∧ p ≠ rq ∧ q ≠ r ∧ q ≠ rq) (h2 : RefAt B w' r rq' E' ls') (k : Keep (Two r rq) w w') (hq : rq' = rq ∨ w.heap.size ≤ rq') :
    Pair B w' p q r rq' E' ls' := by
  have h3 := h1.lt
  refine ⟨h1.keep k h.mut (fun e => ?_) (fun e => ?_), h2, hn.1, ?_, hn.2.2.1, ?_⟩
  · rcases e with e | e <;> omega
  · rcases e with e | e <;> omega
  · rcases hq with e | e <;> omega
  · rcases hq with e | e <;> omega

/-- a state that k calls have made -/
structure ES.At (k : Nat) (E : ES) : Prop where
  epoch : 0 < E.epoch
  base : 0 ≤ E.base
  sum : E.base + E.opened.length ≤ k
  len : E.opened.length ≤ 8
  came : 0 ≤ E.came
  came2 : E.came ≤ k
  loads : ∀ x ∈ E.opened, x.length ≤ 1200
theorem ES.At.ok {k : Nat} {E : ES} (h : E.At k) (hk : k ≤ 2199023255552) : E.Ok :=
  ⟨h.epoch, h.base, by have := h.sum; omega, h.len, h.came, by have := h.came2; omega, h.loads⟩
theorem ES.At.send {k : Nat} {E : ES} (h : E.At k) (l : List UInt8) : (sendTo E l).At (k + 1) := by
  obtain ⟨h1, h2, h3, h4, h5, h6, h7⟩ := h
  unfold sendTo
  split
  · exact ⟨h1, h2, by omega, h4, h5, by omega, h7⟩
  · split
    · exact ⟨h1, h2, by omega, h4, h5, by omega, h7⟩
    · refine ⟨h1, h2, ?_, ?_, h5, by show E.came ≤ _; omega, fun x hx => ?_⟩
      · show E.base + ((E.opened ++ [l]).length : Nat) ≤ _
        simp; omega
      · show (E.opened ++ [l]).length ≤ 8
        simp; omega
      · rcases List.mem_append.1 hx with hx | hx
        · exact h7 x hx
        · simp at hx; subst hx; omega
theorem ES.At.take {k : Nat} {E : ES} (h : E.At k) (n : Int) (hn : n ≤ E.base + E.opened.length) : (takeTo E n).At k := by
  obtain ⟨h1, h2, h3, h4, h5, h6, h7⟩ := h
  unfold takeTo
  split
  · refine ⟨h1, by show 0 ≤ n; omega, ?_, ?_, h5, h6, fun x hx => h7 x (List.mem_of_mem_drop hx)⟩
    · show n + ((E.opened.drop (n - E.base).toNat).length : Nat) ≤ _
      simp; omega
    · show (E.opened.drop (n - E.base).toNat).length ≤ 8
      simp; omega
  · exact ⟨h1, h2, h3, h4, h5, h6, h7⟩
theorem ES.At.succ {k : Nat} {E : ES} (h : E.At k) : E.At (k + 1) :=
  ⟨h.epoch, h.base, by have := h.sum; omega, h.len, h.came, by have := h.came2; omega, h.loads⟩
theorem ES.At.recv {k : Nat} {E : ES} (h : E.At k) (m : MS) : (recvTo E m).At (k + 1) := by
  unfold recvTo
  split
  · exact h.succ
  · rename_i h0
    have ht := (h.take m.ack (wrong_range (Decidable.not_not.1 h0)).2.1).succ
    have hc := (takeTo_fields E m.ack).1
    split
    · exact ht
    · split
      · exact ⟨ht.epoch, ht.base, ht.sum, ht.len, ht.came, ht.came2, ht.loads⟩
      · refine ⟨ht.epoch, ht.base, ht.sum, ht.len, ?_, ?_, ht.loads⟩
        · show 0 ≤ E.came + 1
          have := h.came; omega
        · show E.came + 1 ≤ _
          have := h.came2; omega
theorem ES.At.begin {k : Nat} {E : ES} (h : E.At k) (n : Int) : (beginTo E n).At (k + 1) := by
  unfold beginTo
  split
  · exact h.succ
  · rename_i h0
    have := h.epoch
    exact ⟨by show 0 < n; omega, Int.le_refl 0, by show (0 : Int) + ((0 : Nat) : Int) ≤ _; omega, Nat.zero_le 8, Int.le_refl 0, by show (0 : Int) ≤ _; omega, fun x hx => by cases hx⟩
theorem ES.At.owed {k : Nat} {E : ES} (h : E.At k) : ES.At (k + 1) { E with owes := false } :=
  ⟨h.epoch, h.base, by have := h.sum; show E.base + (E.opened.length : Int) ≤ _; omega, h.len, h.came, by have := h.came2; show E.came ≤ _; omega, h.loads⟩

theorem Pair.alloc {B p q r rq : Nat} {w : World} {E : ES} {ls : List (List UInt8)} (h : Pair B w p q r rq E ls) (o : Obj) : Pair B (w.alloc o) p q r rq E ls := ⟨h.own.alloc o, h.ref.alloc o, h.ne⟩
theorem Pair.lts {B p q r rq : Nat} {w : World} {E : ES} {ls : List (List UInt8)} (h : Pair B w p q r rq E ls) : p < w.heap.size ∧ q < w.heap.size ∧ r < w.heap.size ∧ rq < w.heap.size := ⟨h.own.lt.1, h.own.lt.2, h.ref.lt.1, h.ref.lt.2⟩
theorem Pair.refStepped {B p q r rq : Nat} {w b : World} {E : ES} {ls : List (List UInt8)} (h : Pair B w p q r rq E ls) (k : Keep Nil (w.setCell ⟨p, 6, none⟩ (.bool false)) b) : RefAt B b r rq E ls :=
  (h.ref.keep ((Keep.refl w).setCell (S := One p) (p := ⟨p, 6, none⟩) (fun _ => rfl) (.bool false)) (fun i e => h.own.mut i (.inl e)) (fun e => h.ne.1 e.symm) (fun e => h.ne.2.1 e.symm)).keep k Mut.nil (fun e => e) (fun e => e)
theorem stepMs_len {E : ES} (h : E.opened.length ≤ 8) : (stepMs E).length ≤ 8 := by
  unfold stepMs
  split
  · split <;> simp
  · simpa using h
theorem quiet_mine {P : Program} {f : FuncId} {args : Array Value} {w : World} {n : Nat} {v : Value}
    (h : Calls P f args (w.drewN n) fun e w' => e = .returned v ∧ w.drewN n = w') : Calls P f args (w.drewN n) fun e w'' => e = .returned v ∧ ∃ m, w'' = w.drewN m :=
  h.mono fun _ _ ⟨he, hm⟩ => ⟨he, n, hm.symm⟩

-- plays_tail: the world wz, PZ : Hid (Pair B wz p qz r rqz EZ lz), AZ : Hid (EZ.At (k + 1)), KZ : Hid (Keep Nil w wz)
set_option maxRecDepth 100000 in
set_option maxHeartbeats 4000000 in
theorem plays_any (w : World) (a b c : Int) (ao : Option Addr) (len cap : Nat) (hS : Acts w ao len) (hlen : len ≤ 2199023255552) :
    Calls Try.prog 7 #[.agg #[.int .i64 a, .int .i64 b, .int .i64 c], .slice ao len cap] w fun e w' => e = .returned (.bool true) ∧ Below w.heap.size w w' := by
  have HK0 := hid ((Keep.refl (S := Nil) w).alloc (.cells #[.int .i64 a, .int .i64 b, .int .i64 c] 3))
  have HS0 := hid (size_alloc w (.cells #[.int .i64 a, .int .i64 b, .int .i64 c] 3))
  by_cases hok : NewOk a b c
  case neg =>
    go_enter Try.func7, Try.ntmps7
    go_wp2_with fail
    refine (new_bad _ a b c hok).mono ?_
    rintro e w1 ⟨rfl, rfl⟩
    go_wp2_with fail
    refine (rnew_bad _ a b c hok).mono ?_
    rintro e w1 ⟨rfl, k1⟩
    unfold newV
    go_wp2_with fail
    refine (alive_any _).mono ?_
    rintro e w2 ⟨rfl, k2⟩
    go_wp2
    go_ret
    refine ⟨rfl, Keep.below (S := Nil) ?_ (fun _ e => e.elim) (Nat.le_refl _)⟩
    exact ((((Keep.refl (S := Nil) w).alloc _).trans k1).alloc _).trans k2
  have HS := hid hS
  clear hS
  go_enter Try.func7, Try.ntmps7
  go_wp2_with fail
  obtain ⟨B, hB⟩ : ∃ B, w.heap.size = B := ⟨_, rfl⟩
  have KA : Keep Nil w (w.alloc (.cells #[.int .i64 a, .int .i64 b, .int .i64 c] 58)) := (Keep.refl (S := Nil) w).alloc _
  have KAs := KA.size
  have HR := heap_new w (.cells #[.int .i64 a, .int .i64 b, .int .i64 c] 58 (0, 0))
  rw [hB] at HR
  generalize hwa : w.alloc (.cells #[.int .i64 a, .int .i64 b, .int .i64 c] 58) = wa at *
  clear HS0 HK0
  refine (new_good wa B (by omega) a b c hok).mono ?_
  rintro e w1 ⟨rfl, e1, k1⟩
  have E1 := hid e1
  have K1 := hid (KA.trans k1)
  have hp := e1.lt.1
  have hpB := e1.pB
  have HR1 := k1.row HR (fun e => e)
  have x0 : w1.cell? ⟨B, 0, none⟩ = some (.int .i64 a) := row_cell HR1 0
  have x1 : w1.cell? ⟨B, 1, none⟩ = some (.int .i64 b) := row_cell HR1 1
  have x2 : w1.cell? ⟨B, 2, none⟩ = some (.int .i64 c) := row_cell HR1 2
  clear e1 k1 hwa HR HR1
  generalize wa.heap.size = p at *
  go_wp2_with fail
  refine (rnew_good _ a b c hok).mono ?_
  rintro e w2 ⟨rfl, k2⟩
  have E2 := hid (E1.out.keep k2 Mut.nil (fun e => e) (fun e => e))
  have K2 := hid (K1.out.trans k2)
  have hs2 := k2.size
  have HZ := hid (heap_new w2 (.cells #[.int .i64 a, .int .i64 b, .int .i64 c, .slice none 0 0, .int .i64 0, .int .i64 0, .bool false] 61 (0, 0)))
  have E3 := hid (E2.out.alloc (.cells #[.int .i64 a, .int .i64 b, .int .i64 c, .slice none 0 0, .int .i64 0, .int .i64 0, .bool false] 61 (0, 0)))
  have K3 := hid (K2.out.alloc (.cells #[.int .i64 a, .int .i64 b, .int .i64 c, .slice none 0 0, .int .i64 0, .int .i64 0, .bool false] 61 (0, 0)))
  have hr : Hid (p < w2.heap.size) := hid (by omega)
  clear E1 K1 k2 E2 K2 x0 x1 x2
  unfold newV
  go_wp2_with fail
  generalize w2.alloc (.cells #[.int .i64 a, .int .i64 b, .int .i64 c, .slice none 0 0, .int .i64 0, .int .i64 0, .bool false] 61) = w3 at *
  generalize hr0 : w2.heap.size = r at *
  have P3 : Pair B w3 p p r r (newE a b c) [] := ⟨E3.out, ⟨by have := hr.out; omega, by have := hr.out; omega, ⟨_, _, HZ.out, RowAt.nil _ _ _ _, fun i hi => absurd hi (Nat.not_lt_zero _)⟩, .inl rfl, Int.le_refl 0, rfl, rfl⟩, by have := hr.out; omega⟩
  refine (alive_any w3).mono ?_
  rintro e w4 ⟨rfl, k4⟩
  have P4 : Hid (Pair B w4 p p r r (newE a b c) []) := hid ⟨P3.own.keep k4 Mut.nil (fun e => e) (fun e => e), P3.ref.keep k4 Mut.nil (fun e => e) (fun e => e), P3.ne⟩
  have K4 := hid (K3.out.trans k4)
  clear P3 k4 E3 K3 HZ
  go_wp2_with fail
  go_loopw [56] (fun i wr => ∃ (k q rq : Nat) (E : ES) (ls : List (List UInt8)), k ≤ len ∧ i = .int .i64 k ∧ Pair B wr p q r rq E ls ∧ E.At k ∧ Keep Nil w wr) (fun i _ => len - (intOf i).toNat)
  case atStart => exact ⟨0, p, r, _, _, Nat.zero_le _, rfl, P4.out, ⟨by obtain ⟨-, -, -, h, -⟩ := hok; show 0 < c; omega, Int.le_refl 0, Int.le_refl 0, Nat.zero_le 8, Int.le_refl 0, Int.le_refl 0, fun x hx => by cases hx⟩, K4.out⟩
  case round =>
    obtain ⟨k, q, rq, E, ls, hk, rfl, hpr, hat, hkp⟩ := hrel
    by_cases hkl : k < len
    · obtain ⟨b', off, kk, lv, l, m, u, n, rfl, hc, hk0, hk1, hbl, hbu, hsq⟩ := HS.out.at_ k hkl
      obtain ⟨aol, capl, rfl, -⟩ := id hbl
      obtain ⟨aou, capu, rfl, -⟩ := id hbu
      rw [hB] at hbl hbu
      have y0 : wr.cell? ⟨b', off + k * 10, none⟩ = some (.int .u8 kk) := hkp.cell (hc 0 (by omega)) (fun e => e)
      have y1 : wr.cell? ⟨b', off + k * 10 + 1, none⟩ = some (.slice aol l.length capl) := hkp.cell (hc 1 (by omega)) (fun e => e)
      have y2 : wr.cell? ⟨b', off + k * 10 + 2, none⟩ = some (.int .i64 m.frm) := hkp.cell (hc 2 (by omega)) (fun e => e)
      have y3 : wr.cell? ⟨b', off + k * 10 + 3, none⟩ = some (.int .i64 m.to) := hkp.cell (hc 3 (by omega)) (fun e => e)
      have y4 : wr.cell? ⟨b', off + k * 10 + 4, none⟩ = some (.int .i64 m.kind) := hkp.cell (hc 4 (by omega)) (fun e => e)
      have y5 : wr.cell? ⟨b', off + k * 10 + 5, none⟩ = some (.int .i64 m.epoch) := hkp.cell (hc 5 (by omega)) (fun e => e)
      have y6 : wr.cell? ⟨b', off + k * 10 + 6, none⟩ = some (.int .i64 m.seq) := hkp.cell (hc 6 (by omega)) (fun e => e)
      have y7 : wr.cell? ⟨b', off + k * 10 + 7, none⟩ = some (.int .i64 m.ack) := hkp.cell (hc 7 (by omega)) (fun e => e)
      have y8 : wr.cell? ⟨b', off + k * 10 + 8, none⟩ = some (.slice aou m.load.length capu) := hkp.cell (hc 8 (by omega)) (fun e => e)
      have y9 : wr.cell? ⟨b', off + k * 10 + 9, none⟩ = some (.int .i64 n) := hkp.cell (hc 9 (by omega)) (fun e => e)
      have HPR := hid hpr
      have HAT := hid hat
      have HKP := hid hkp
      have HBL := hid (hbl.keep hkp Mut.nil)
      have HBU := hid (hbu.keep hkp Mut.nil)
      clear hpr hat hkp hc hbl hbu
      have HPb := hid (HPR.out.alloc (.cells #[.int .u8 kk, .slice aol l.length capl, .int .i64 m.frm, .int .i64 m.to, .int .i64 m.kind, .int .i64 m.epoch, .int .i64 m.seq, .int .i64 m.ack, .slice aou m.load.length capu, .int .i64 n] 65))
      have HKb := hid (HKP.out.alloc (.cells #[.int .u8 kk, .slice aol l.length capl, .int .i64 m.frm, .int .i64 m.to, .int .i64 m.kind, .int .i64 m.epoch, .int .i64 m.seq, .int .i64 m.ack, .slice aou m.load.length capu, .int .i64 n] 65))
      have HLb := hid (HBL.out.alloc (.cells #[.int .u8 kk, .slice aol l.length capl, .int .i64 m.frm, .int .i64 m.to, .int .i64 m.kind, .int .i64 m.epoch, .int .i64 m.seq, .int .i64 m.ack, .slice aou m.load.length capu, .int .i64 n] 65))
      have HUb := hid (HBU.out.alloc (.cells #[.int .u8 kk, .slice aol l.length capl, .int .i64 m.frm, .int .i64 m.to, .int .i64 m.kind, .int .i64 m.epoch, .int .i64 m.seq, .int .i64 m.ack, .slice aou m.load.length capu, .int .i64 n] 65))
      have HZb := hid (heap_new wr (.cells #[.int .u8 kk, .slice aol l.length capl, .int .i64 m.frm, .int .i64 m.to, .int .i64 m.kind, .int .i64 m.epoch, .int .i64 m.seq, .int .i64 m.ack, .slice aou m.load.length capu, .int .i64 n] 65 (0, 0)))
      have HZl := hid HPR.out.lts
      have OKE := hid (HAT.out.ok (by omega))
      clear HPR HKP HBL HBU
      go_wp2_with fail
      · generalize wr.alloc (.cells #[.int .u8 kk, .slice aol l.length capl, .int .i64 m.frm, .int .i64 m.to, .int .i64 m.kind, .int .i64 m.epoch, .int .i64 m.seq, .int .i64 m.ack, .slice aou m.load.length capu, .int .i64 n] 65) = wb at *
        generalize wr.heap.size = z at *
        clear y0 y1 y2 y3 y4 y5 y6 y7 y8 y9 HUb
        have hZ1 : ¬ Two p q z := fun e => by have := HZl.out; rcases e with e | e <;> omega
        have hZ2 : ¬ Two r rq z := fun e => by have := HZl.out; rcases e with e | e <;> omega
        have KD := (Keep.refl (S := Nil) wb).drew
        have x1 : wb.drew.cell? ⟨z, 1, none⟩ = some (.slice aol l.length capl) := KD.cell (row_cell HZb.out 1) (fun e => e)
        have S1 := hid (send_some wb.drew B p q E _ l HPb.out.own.drew HAT.out.epoch HAT.out.len (HLb.out.keep KD Mut.nil))
        have hbase : Hid (E.base ≤ 2199023255552) := hid (by have := HAT.out.sum; omega)
        have S2 := hid (fun w5 (hR : RefAt B w5 r rq E ls) hL => rsend_some w5 B r rq E ls (.slice aol l.length capl) l hR HAT.out.len hbase.out hL)
        have KBd := hid (HKb.out.trans KD)
        have PBd : Hid (Pair B wb.drew p q r rq E ls) := hid ⟨HPb.out.own.drew, HPb.out.ref.drew, HPb.out.ne⟩
        have LBd := hid (HLb.out.keep KD Mut.nil)
        have HZ1 := hid hZ1
        have HZ2 := hid hZ2
        clear KD hZ1 hZ2 HPb HKb HLb HZb
        generalize sendErr E l = se at *
        go_wp2_with fail
        go_region_held3 (fun w' => w'.cell? ⟨z, 1, none⟩ = some (.slice aol l.length capl))
          (first | (with_reducible exact x1) | (with_reducible exact e1) | (with_reducible exact f1))
          ((first
            | (go_at_call 19; refine S1.out.mono ?_; rintro e w5 ⟨rfl, q5, he5, k5, h5⟩; have e1 := k5.cell x1 HZ1.out; have E5 := hid he5; have PL5 := hid (PBd.out.left k5 h5); have L5 := hid (LBd.out.keep k5 PBd.out.own.mut); have K5 := hid (KBd.out.fresh2 k5 (by rw [hB]; exact PBd.out.own.pB) (by rw [hB]; exact PBd.out.own.qB)); clear k5 h5 he5)
            | (go_at_call 24; refine (S2.out w5 PL5.out.1 L5.out).mono ?_; rintro e w6 ⟨rfl, q6, ls6, hr6, k6, h6⟩; have f1 := k6.cell e1 HZ2.out; have R6 := hid hr6; have KK6 := hid k6; have H6 := hid h6; clear hr6 k6 h6)))
        have hP : Pair B w6 p q5 r q6 (sendTo E l) ls6 := PL5.out.1.joins E5.out PL5.out.2 R6.out KK6.out H6.out
        have PZ := hid hP
        have AZ := hid (HAT.out.send l)
        have KZ := hid (K5.out.fresh2 KK6.out (by rw [hB]; exact PL5.out.1.pB) (by rw [hB]; exact PL5.out.1.qB))
        clear hP S1 S2 hbase KBd PBd LBd HZ1 HZ2 E5 PL5 L5 K5 R6 KK6 H6 OKE HAT x1 e1 f1
        go_wp2_with fail
        generalize sendTo E l = EZ at *
        generalize q5 = qz at *
        generalize q6 = rqz at *
        generalize ls6 = lz at *
        generalize w6 = wz at *
        have F1 := hid (fun n => quiet_mine (epoch_end (PZ.out.own.drewN (n := n)) AZ.out.epoch))
        have F2 := hid (fun n => quiet_mine (open_end (PZ.out.own.drewN (n := n)) AZ.out.epoch))
        have F3 := hid (fun n => quiet_mine (came_end (PZ.out.own.drewN (n := n)) AZ.out.epoch))
        have F4 := hid (fun n => quiet_mine (owes_end (PZ.out.own.drewN (n := n)) AZ.out.epoch))
        obtain ⟨-, -, r2, ⟨aoz, capz, r3⟩, r4, r5, r6⟩ := PZ.out.ref.cells
        have hwz : IntKind.i64.wrap ((lz.length : Int) - EZ.base) = EZ.opened.length := by
          rw [PZ.out.ref.len, show EZ.base + (EZ.opened.length : Int) - EZ.base = EZ.opened.length by omega]
          exact IntWalk.i64_in _ (by have := AZ.out.len; omega)
        generalize lz.length = lzl at *
        generalize EZ.opened.length = ezl at *
        go_quiet ((first | (go_at_call 17; exact F1.out _) | (go_at_call 14; exact F2.out _) | (go_at_call 16; exact F3.out _) | (go_at_call 15; exact F4.out _)))
        go_wp2_with fail
        go_roundw
        case rel => exact ⟨k + 1, qz, rqz, EZ, lz, by omega, by go_num, ⟨PZ.out.own.drewN, PZ.out.ref.drewN, PZ.out.ne⟩, AZ.out, keep_drewN _ KZ.out⟩
        case measure => simp [intOf] <;> omega
      · generalize wr.alloc (.cells #[.int .u8 kk, .slice aol l.length capl, .int .i64 m.frm, .int .i64 m.to, .int .i64 m.kind, .int .i64 m.epoch, .int .i64 m.seq, .int .i64 m.ack, .slice aou m.load.length capu, .int .i64 n] 65) = wb at *
        clear y0 y1 y2 y3 y4 y5 y6 y7 y8 y9 HLb HUb HZb
        refine (step_some wb B p q E HPb.out.own OKE.out).mono ?_
        rintro e w5 ⟨q5, v5, rfl, hm5, k5⟩
        have O5 := hid (HPb.out.own.stepped k5)
        have R5 := hid (HPb.out.refStepped k5)
        have M5 := hid hm5
        have K5 := hid (HKb.out.stepped (by rw [hB]; exact HPb.out.own.pB) k5)
        clear hm5 k5
        go_wp2_with fail
        refine (rstep_some w5 B r rq E ls R5.out OKE.out).mono ?_
        rintro e w6 ⟨q6, v6, rfl, hm6, k6⟩
        have N6 := hid (HPb.out.ne)
        have hs5 := K5.out.size
        have kr : Keep (One r) w5 (w5.setCell ⟨r, 6, none⟩ (.bool false)) := (Keep.refl w5).setCell (S := One r) (p := ⟨r, 6, none⟩) (fun _ => rfl) (.bool false)
        have O6 := (O5.out.keep kr (fun i e => R5.out.mut i (.inl e)) (fun e => N6.out.1 e) (fun e => N6.out.2.2.1 e)).keep k6 Mut.nil (fun e => e) (fun e => e)
        have R6 := (R5.out.setOwes false).keep k6 Mut.nil (fun e => e) (fun e => e)
        have M6 := (M5.out.keep kr (fun i e => by rw [e]; exact HPb.out.lts.2.2.1)).keep k6 (fun i e => e.elim)
        have K6 := (K5.out.stepped (p := r) (by rw [hB]; exact R5.out.pB) k6)
        obtain ⟨ao5, cap5, rfl⟩ := M6.shape
        obtain ⟨ao6, cap6, rfl⟩ := hm6.shape
        have MS := hid (msgs_same w6 B _ _ _ _ _ _ _ M6 hm6 (stepMs_len HAT.out.len))
        have O6 := hid O6
        have R6 := hid R6
        have K6 := hid K6
        clear k6 hm6 M6 kr O5 R5 M5 K5
        go_wp2_with fail
        refine MS.out.mono ?_
        rintro e wz ⟨rfl, k7⟩
        have PZ : Hid (Pair B wz p q r rq { E with owes := false } ls) := hid ⟨O6.out.keep k7 Mut.nil (fun e => e) (fun e => e), R6.out.keep k7 Mut.nil (fun e => e) (fun e => e), HPb.out.ne⟩
        have AZ := hid HAT.out.owed
        have KZ := hid (K6.out.trans k7)
        clear k7 O6 R6 K6
        go_wp2_with fail
        clear HPb OKE HAT N6
        generalize ({ E with owes := false } : ES) = EZ at *
        generalize q = qz at *
        generalize rq = rqz at *
        generalize ls = lz at *
        have F1 := hid (fun n => quiet_mine (epoch_end (PZ.out.own.drewN (n := n)) AZ.out.epoch))
        have F2 := hid (fun n => quiet_mine (open_end (PZ.out.own.drewN (n := n)) AZ.out.epoch))
        have F3 := hid (fun n => quiet_mine (came_end (PZ.out.own.drewN (n := n)) AZ.out.epoch))
        have F4 := hid (fun n => quiet_mine (owes_end (PZ.out.own.drewN (n := n)) AZ.out.epoch))
        obtain ⟨-, -, r2, ⟨aoz, capz, r3⟩, r4, r5, r6⟩ := PZ.out.ref.cells
        have hwz : IntKind.i64.wrap ((lz.length : Int) - EZ.base) = EZ.opened.length := by
          rw [PZ.out.ref.len, show EZ.base + (EZ.opened.length : Int) - EZ.base = EZ.opened.length by omega]
          exact IntWalk.i64_in _ (by have := AZ.out.len; omega)
        generalize lz.length = lzl at *
        generalize EZ.opened.length = ezl at *
        go_quiet ((first | (go_at_call 17; exact F1.out _) | (go_at_call 14; exact F2.out _) | (go_at_call 16; exact F3.out _) | (go_at_call 15; exact F4.out _)))
        go_wp2_with fail
        go_roundw
        case rel => exact ⟨k + 1, qz, rqz, EZ, lz, by omega, by go_num, ⟨PZ.out.own.drewN, PZ.out.ref.drewN, PZ.out.ne⟩, AZ.out, keep_drewN _ KZ.out⟩
        case measure => simp [intOf] <;> omega
      · generalize wr.alloc (.cells #[.int .u8 kk, .slice aol l.length capl, .int .i64 m.frm, .int .i64 m.to, .int .i64 m.kind, .int .i64 m.epoch, .int .i64 m.seq, .int .i64 m.ack, .slice aou m.load.length capu, .int .i64 n] 65) = wb at *
        generalize wr.heap.size = z at *
        clear y0 y1 y2 y3 y4 y5 y6 y7 y8 y9 HLb
        have rc := recv_some wb B p q E m _ HPb.out.own OKE.out HUb.out
        unfold mV RecvPost at rc
        refine rc.mono ?_
        rintro e w5 ⟨v5, rfl, hv5, e5, k5⟩
        obtain ⟨R5, n1, n2, n3, n4⟩ := HPb.out.left k5 (.inl rfl)
        have Z5 := k5.row HZb.out (fun e => by have := HZl.out; rcases e with e | e <;> omega)
        have U5 := HUb.out.keep k5 HPb.out.own.mut
        have KB5 := hid (HKb.out.fresh2 k5 (by rw [hB]; exact HPb.out.own.pB) (by rw [hB]; exact HPb.out.own.qB))
        obtain ⟨x0, x1, x2, x3, x4, x5, x6, x7, x8, x9⟩ := Boxed10.cells Z5
        have rr := rrecv_some w5 B r rq E ls m _ R5 OKE.out hsq U5 (fun o cap ao => rwrong_some (w5.alloc o) B r rq E m ao cap ls (R5.alloc o))
        unfold mV RRecvPost at rr
        have RR := hid rr
        have M5 := hid R5.mut
        have KR5 := hid R5
        have E5 := hid e5
        have V5 := hid hv5
        have N5 := hid (And.intro n1 (And.intro n2 (And.intro n3 n4)))
        clear rc rr hv5 e5 k5 R5 Z5 U5 n1 n2 n3 n4
        go_wp2_with fail
        refine RR.out.mono ?_
        rintro e w6 ⟨v6, rfl, hv6, rq6, ls6, R6, k6, h6⟩
        have PZ := hid (RefAt.joins (ls := ls) (E := E) KR5.out E5.out N5.out R6 k6 h6)
        have V6 := hid (V5.out.keep k6 M5.out)
        have AZ := hid (HAT.out.recv m)
        have KZ := hid (KB5.out.fresh2 k6 (by rw [hB]; exact KR5.out.pB) (by rw [hB]; exact KR5.out.qB))
        have SA := hid (same_any w6 B v5 v6 _ _ V6.out hv6)
        obtain ⟨aov5, capv5, rfl, -⟩ := id V6.out
        obtain ⟨aov6, capv6, rfl, -⟩ := id hv6
        clear hv6 R6 k6 h6 RR M5 E5 V5 N5 V6 KB5 KR5 x0 x1 x2 x3 x4 x5 x6 x7 x8 x9 HPb HKb HUb HZb HAT OKE HZl
        generalize wrongE E m = we at *
        generalize comes E m = cm at *
        generalize hll : (if cm = true then m.load else []) = xl at *
        go_wp2_with fail
        refine SA.out.mono ?_
        rintro e w7 ⟨rfl, rfl⟩
        have hxx : (xl == xl) = true := by simp
        have hcc : (cm == cm) = true := by simp
        go_wp2_with fail
        clear SA hll hxx hcc
        generalize recvTo E m = EZ at *
        generalize q = qz at *
        generalize rq6 = rqz at *
        generalize ls6 = lz at *
        generalize w6 = wz at *
        have F1 := hid (fun n => quiet_mine (epoch_end (PZ.out.own.drewN (n := n)) AZ.out.epoch))
        have F2 := hid (fun n => quiet_mine (open_end (PZ.out.own.drewN (n := n)) AZ.out.epoch))
        have F3 := hid (fun n => quiet_mine (came_end (PZ.out.own.drewN (n := n)) AZ.out.epoch))
        have F4 := hid (fun n => quiet_mine (owes_end (PZ.out.own.drewN (n := n)) AZ.out.epoch))
        obtain ⟨-, -, r2, ⟨aoz, capz, r3⟩, r4, r5, r6⟩ := PZ.out.ref.cells
        have hwz : IntKind.i64.wrap ((lz.length : Int) - EZ.base) = EZ.opened.length := by
          rw [PZ.out.ref.len, show EZ.base + (EZ.opened.length : Int) - EZ.base = EZ.opened.length by omega]
          exact IntWalk.i64_in _ (by have := AZ.out.len; omega)
        generalize lz.length = lzl at *
        generalize EZ.opened.length = ezl at *
        go_quiet ((first | (go_at_call 17; exact F1.out _) | (go_at_call 14; exact F2.out _) | (go_at_call 16; exact F3.out _) | (go_at_call 15; exact F4.out _)))
        go_wp2_with fail
        go_roundw
        case rel => exact ⟨k + 1, qz, rqz, EZ, lz, by omega, by go_num, ⟨PZ.out.own.drewN, PZ.out.ref.drewN, PZ.out.ne⟩, AZ.out, keep_drewN _ KZ.out⟩
        case measure => simp [intOf] <;> omega
      · generalize wr.alloc (.cells #[.int .u8 kk, .slice aol l.length capl, .int .i64 m.frm, .int .i64 m.to, .int .i64 m.kind, .int .i64 m.epoch, .int .i64 m.seq, .int .i64 m.ack, .slice aou m.load.length capu, .int .i64 n] 65) = wb at *
        generalize wr.heap.size = z at *
        clear y0 y1 y2 y3 y4 y5 y6 y7 y8 y9 HUb HLb
        have hZ1 : ¬ Two p q z := fun e => by have := HZl.out; rcases e with e | e <;> omega
        have hZ2 : ¬ Two r rq z := fun e => by have := HZl.out; rcases e with e | e <;> omega
        have KD := (Keep.refl (S := Nil) wb).drew
        have x1 : wb.drew.cell? ⟨z, 9, none⟩ = some (.int .i64 n) := KD.cell (row_cell HZb.out 9) (fun e => e)
        have S1 := hid (begin_some wb.drew B p q E n HPb.out.own.drew HAT.out.epoch)
        have S2 := hid (fun w5 (hR : RefAt B w5 r rq E ls) => rbegin_some w5 B r rq E ls n hR)
        have KBd := hid (HKb.out.trans KD)
        have PBd : Hid (Pair B wb.drew p q r rq E ls) := hid ⟨HPb.out.own.drew, HPb.out.ref.drew, HPb.out.ne⟩
        have HZ1 := hid hZ1
        have HZ2 := hid hZ2
        clear KD hZ1 hZ2 HPb HKb HZb
        generalize beginErr E n = se at *
        go_wp2_with fail
        go_region_held3 (fun w' => w'.cell? ⟨z, 9, none⟩ = some (.int .i64 n))
          (first | (with_reducible exact x1) | (with_reducible exact e1) | (with_reducible exact f1))
          ((first
            | (go_at_call 21; refine S1.out.mono ?_; rintro e w5 ⟨rfl, he5, k5⟩; have e1 := k5.cell x1 HZ1.out; have E5 := hid he5; have PL5 := hid (PBd.out.left k5 (.inl rfl)); have K5 := hid (KBd.out.fresh2 k5 (by rw [hB]; exact PBd.out.own.pB) (by rw [hB]; exact PBd.out.own.qB)); clear k5 he5)
            | (go_at_call 29; refine (S2.out w5 PL5.out.1).mono ?_; rintro e w6 ⟨rfl, q6, ls6, hr6, k6, h6⟩; have f1 := k6.cell e1 HZ2.out; have R6 := hid hr6; have KK6 := hid k6; have H6 := hid h6; clear hr6 k6 h6)))
        have hP : Pair B w6 p q r q6 (beginTo E n) ls6 := PL5.out.1.joins E5.out PL5.out.2 R6.out KK6.out H6.out
        have PZ := hid hP
        have AZ := hid (HAT.out.begin n)
        have KZ := hid (K5.out.fresh2 KK6.out (by rw [hB]; exact PL5.out.1.pB) (by rw [hB]; exact PL5.out.1.qB))
        clear hP S1 S2 KBd PBd HZ1 HZ2 E5 PL5 K5 R6 KK6 H6 OKE HAT x1 e1 f1
        go_wp2_with fail
        generalize beginTo E n = EZ at *
        generalize q = qz at *
        generalize q6 = rqz at *
        generalize ls6 = lz at *
        generalize w6 = wz at *
        have F1 := hid (fun n => quiet_mine (epoch_end (PZ.out.own.drewN (n := n)) AZ.out.epoch))
        have F2 := hid (fun n => quiet_mine (open_end (PZ.out.own.drewN (n := n)) AZ.out.epoch))
        have F3 := hid (fun n => quiet_mine (came_end (PZ.out.own.drewN (n := n)) AZ.out.epoch))
        have F4 := hid (fun n => quiet_mine (owes_end (PZ.out.own.drewN (n := n)) AZ.out.epoch))
        obtain ⟨-, -, r2, ⟨aoz, capz, r3⟩, r4, r5, r6⟩ := PZ.out.ref.cells
        have hwz : IntKind.i64.wrap ((lz.length : Int) - EZ.base) = EZ.opened.length := by
          rw [PZ.out.ref.len, show EZ.base + (EZ.opened.length : Int) - EZ.base = EZ.opened.length by omega]
          exact IntWalk.i64_in _ (by have := AZ.out.len; omega)
        generalize lz.length = lzl at *
        generalize EZ.opened.length = ezl at *
        go_quiet ((first | (go_at_call 17; exact F1.out _) | (go_at_call 14; exact F2.out _) | (go_at_call 16; exact F3.out _) | (go_at_call 15; exact F4.out _)))
        go_wp2_with fail
        go_roundw
        case rel => exact ⟨k + 1, qz, rqz, EZ, lz, by omega, by go_num, ⟨PZ.out.own.drewN, PZ.out.ref.drewN, PZ.out.ne⟩, AZ.out, keep_drewN _ KZ.out⟩
        case measure => simp [intOf] <;> omega
    · go_wp2
      go_ret
      exact ⟨rfl, hkp.below (fun _ e => e.elim) (Nat.le_refl _)⟩

end Go.Proofs.Ytjlgolkippleaaa
