/-
  The sessions' End: wrong.
-/
import Derived.Test.YtjlgolkippleaaaSend
import Derived.BigRegion
namespace Go.Proofs.Ytjlgolkippleaaa
open Go.RowKit

/-- a message -/
structure MS where
  frm : Int
  to : Int
  kind : Int
  epoch : Int
  seq : Int
  ack : Int
  load : List UInt8
def mV (m : MS) (v : Value) : Value := .agg #[.int .i64 m.frm, .int .i64 m.to, .int .i64 m.kind, .int .i64 m.epoch, .int .i64 m.seq, .int .i64 m.ack, v]
/-- the numbers of an End are small -/
structure ES.Ok (E : ES) : Prop where
  epoch : 0 < E.epoch
  base : 0 ≤ E.base
  base2 : E.base ≤ 1152921504606846976
  len : E.opened.length ≤ 8
  came : 0 ≤ E.came
  came2 : E.came ≤ 1152921504606846976
  loads : ∀ x ∈ E.opened, x.length ≤ 1200

/-- the error of a message -/
def wrongN (node peer ep base : Int) (n : Nat) (frm to kind epoch seq ack : Int) (ll : Nat) : Int :=
  if frm ≠ peer then 1 else if to ≠ node then 1 else if kind ≠ 1 ∧ kind ≠ 2 then 1
  else if epoch < ep then 14 else if ep < epoch then 11
  else if ack < 0 then 5 else if base + n < ack then 5 else if 1200 < ll then 5
  else if kind = 1 ∧ seq < 1 then 5 else if kind = 2 ∧ (seq ≠ 0 ∨ 0 < ll) then 5 else 0
def wrongE (E : ES) (m : MS) : Int := wrongN E.node E.peer E.epoch E.base E.opened.length m.frm m.to m.kind m.epoch m.seq m.ack m.load.length

theorem ret_int' {k : IntKind} {a b : Int} (h : a = b) : Ending.returned (.int k a) = .returned (.int k b) := by rw [h]
theorem keep_drewN {S : Nat → Prop} {a w : World} (n : Nat) (h : Keep S a w) : Keep S a (w.drewN n) := ⟨h.os, h.tape, h.output, h.size, h.block⟩

theorem bne_t {a b : Int} (h : a ≠ b) : (a != b) = true := bne_iff_ne.2 h
theorem bne_f {a b : Int} (h : a = b) : (a != b) = false := bne_eq_false_iff_eq.2 h
theorem beq_t {a b : Int} (h : a = b) : (a == b) = true := beq_iff_eq.2 h
theorem beq_f {a b : Int} (h : a ≠ b) : (a == b) = false := beq_eq_false_iff_ne.2 h

set_option maxHeartbeats 4000000 in
theorem wrong_some (w : World) (B p q : Nat) (E : ES) (m : MS) (ao : Option Addr) (cap : Nat) (H : EndAt B w p q E) (hok : E.Ok) :
    Calls Try.prog 40 #[.pointer (some ⟨p, 0, none⟩), mV m (.slice ao m.load.length cap)] w fun e w' => e = .returned (.int .i64 (wrongE E m)) ∧ Keep Nil w w' := by
  obtain ⟨frm, to, kind, epoch, seq, ack, load⟩ := m
  have hw : IntKind.i64.wrap (E.base + E.opened.length) = E.base + E.opened.length := IntWalk.i64_in _ (by have := hok.base; have := hok.base2; have := hok.len; omega)
  unfold wrongE
  unfold mV
  simp only
  obtain ⟨c0, c1, c2, c3, ⟨ao', cap', c4⟩, c5, c6⟩ := (H.alloc (.cells #[.int .i64 frm, .int .i64 to, .int .i64 kind, .int .i64 epoch, .int .i64 seq, .int .i64 ack, .slice ao load.length cap] 47)).cells
  have hz := row_cell (heap_new w (.cells #[.int .i64 frm, .int .i64 to, .int .i64 kind, .int .i64 epoch, .int .i64 seq, .int .i64 ack, .slice ao load.length cap] 47 (0, 0)))
  have z0 := hz 0
  have z1 := hz 1
  have z2 := hz 2
  have z3 := hz 3
  have z4 := hz 4
  have z5 := hz 5
  have z6 := hz 6
  simp only [List.getElem?_toArray, List.getElem?_cons_zero, List.getElem?_cons_succ] at z0 z1 z2 z3 z4 z5 z6
  have HK := hid ((Keep.refl (S := Nil) w).alloc (.cells #[.int .i64 frm, .int .i64 to, .int .i64 kind, .int .i64 epoch, .int .i64 seq, .int .i64 ack, .slice ao load.length cap] 47 (0, 0)))
  clear hz H hok c5 c6
  generalize E.opened.length = n at *
  generalize E.peer = peer at *
  generalize E.node = node at *
  generalize E.epoch = ep at *
  generalize E.base = base at *
  generalize load.length = ll at *
  obtain ⟨r, hr⟩ : ∃ r, wrongN node peer ep base n frm to kind epoch seq ack ll = r := ⟨_, rfl⟩
  rw [hr]
  have HR := hid hr
  clear hr
  by_cases h1 : frm ≠ peer
  · have b1 := bne_t h1
    go_enter Try.func40, Try.ntmps40
    go_wp2_with fail
    generalize w.alloc (.cells #[.int .i64 frm, .int .i64 to, .int .i64 kind, .int .i64 epoch, .int .i64 seq, .int .i64 ack, .slice ao ll cap] 47) = wa at *
    generalize w.heap.size = z at *
    repeat (go_quiet (fail); go_wp2_with fail)
    go_ret
    refine ⟨ret_int' (HR.out.symm.trans ?_).symm, by (repeat (apply keep_drewN)); exact HK.out⟩
    unfold wrongN
    try have hkd := HKD.out
    try have hsq := HSQ.out
    repeat (first | rw [if_pos (by omega)] | rw [if_neg (by omega)])
  have b1 := bne_f (Decidable.not_not.1 h1)
  by_cases h2 : to ≠ node
  · have b2 := bne_t h2
    go_enter Try.func40, Try.ntmps40
    go_wp2_with fail
    generalize w.alloc (.cells #[.int .i64 frm, .int .i64 to, .int .i64 kind, .int .i64 epoch, .int .i64 seq, .int .i64 ack, .slice ao ll cap] 47) = wa at *
    generalize w.heap.size = z at *
    repeat (go_quiet (fail); go_wp2_with fail)
    go_ret
    refine ⟨ret_int' (HR.out.symm.trans ?_).symm, by (repeat (apply keep_drewN)); exact HK.out⟩
    unfold wrongN
    try have hkd := HKD.out
    try have hsq := HSQ.out
    repeat (first | rw [if_pos (by omega)] | rw [if_neg (by omega)])
  have b2 := bne_f (Decidable.not_not.1 h2)
  by_cases h3 : kind ≠ 1 ∧ kind ≠ 2
  · have b3 := bne_t h3.1
    have b3' := bne_t h3.2
    go_enter Try.func40, Try.ntmps40
    go_wp2_with fail
    generalize w.alloc (.cells #[.int .i64 frm, .int .i64 to, .int .i64 kind, .int .i64 epoch, .int .i64 seq, .int .i64 ack, .slice ao ll cap] 47) = wa at *
    generalize w.heap.size = z at *
    repeat (go_quiet (fail); go_wp2_with fail)
    go_ret
    refine ⟨ret_int' (HR.out.symm.trans ?_).symm, by (repeat (apply keep_drewN)); exact HK.out⟩
    unfold wrongN
    try have hkd := HKD.out
    try have hsq := HSQ.out
    repeat (first | rw [if_pos (by omega)] | rw [if_neg (by omega)])
  have b3 : (Hid (kind = 1) ∧ (kind != 1) = false ∧ (kind == 1) = true ∧ (kind == 2) = false) ∨ (Hid (kind = 2) ∧ (kind != 1) = true ∧ (kind != 2) = false ∧ (kind == 1) = false ∧ (kind == 2) = true) := by
    by_cases hk : kind = 1
    · exact .inl ⟨hid hk, bne_f hk, beq_t hk, beq_f (by omega)⟩
    · have hk2 : kind = 2 := by omega
      exact .inr ⟨hid hk2, bne_t hk, bne_f hk2, beq_f hk, beq_t hk2⟩
  by_cases h4 : epoch < ep
  · rcases b3 with ⟨HKD, b3, b4, b5⟩ | ⟨HKD, b3, b4, b5, b6⟩
    · go_enter Try.func40, Try.ntmps40
      go_wp2_with fail
      generalize w.alloc (.cells #[.int .i64 frm, .int .i64 to, .int .i64 kind, .int .i64 epoch, .int .i64 seq, .int .i64 ack, .slice ao ll cap] 47) = wa at *
      generalize w.heap.size = z at *
      repeat (go_quiet (fail); go_wp2_with fail)
      go_ret
      refine ⟨ret_int' (HR.out.symm.trans ?_).symm, by (repeat (apply keep_drewN)); exact HK.out⟩
      unfold wrongN
      try have hkd := HKD.out
      try have hsq := HSQ.out
      repeat (first | rw [if_pos (by omega)] | rw [if_neg (by omega)])
    · go_enter Try.func40, Try.ntmps40
      go_wp2_with fail
      generalize w.alloc (.cells #[.int .i64 frm, .int .i64 to, .int .i64 kind, .int .i64 epoch, .int .i64 seq, .int .i64 ack, .slice ao ll cap] 47) = wa at *
      generalize w.heap.size = z at *
      repeat (go_quiet (fail); go_wp2_with fail)
      go_ret
      refine ⟨ret_int' (HR.out.symm.trans ?_).symm, by (repeat (apply keep_drewN)); exact HK.out⟩
      unfold wrongN
      try have hkd := HKD.out
      try have hsq := HSQ.out
      repeat (first | rw [if_pos (by omega)] | rw [if_neg (by omega)])
  by_cases h5 : ep < epoch
  · rcases b3 with ⟨HKD, b3, b4, b5⟩ | ⟨HKD, b3, b4, b5, b6⟩
    · go_enter Try.func40, Try.ntmps40
      go_wp2_with fail
      generalize w.alloc (.cells #[.int .i64 frm, .int .i64 to, .int .i64 kind, .int .i64 epoch, .int .i64 seq, .int .i64 ack, .slice ao ll cap] 47) = wa at *
      generalize w.heap.size = z at *
      repeat (go_quiet (fail); go_wp2_with fail)
      go_ret
      refine ⟨ret_int' (HR.out.symm.trans ?_).symm, by (repeat (apply keep_drewN)); exact HK.out⟩
      unfold wrongN
      try have hkd := HKD.out
      try have hsq := HSQ.out
      repeat (first | rw [if_pos (by omega)] | rw [if_neg (by omega)])
    · go_enter Try.func40, Try.ntmps40
      go_wp2_with fail
      generalize w.alloc (.cells #[.int .i64 frm, .int .i64 to, .int .i64 kind, .int .i64 epoch, .int .i64 seq, .int .i64 ack, .slice ao ll cap] 47) = wa at *
      generalize w.heap.size = z at *
      repeat (go_quiet (fail); go_wp2_with fail)
      go_ret
      refine ⟨ret_int' (HR.out.symm.trans ?_).symm, by (repeat (apply keep_drewN)); exact HK.out⟩
      unfold wrongN
      try have hkd := HKD.out
      try have hsq := HSQ.out
      repeat (first | rw [if_pos (by omega)] | rw [if_neg (by omega)])
  by_cases h6 : ack < 0
  · rcases b3 with ⟨HKD, b3, b4, b5⟩ | ⟨HKD, b3, b4, b5, b6⟩
    · go_enter Try.func40, Try.ntmps40
      go_wp2_with fail
      generalize w.alloc (.cells #[.int .i64 frm, .int .i64 to, .int .i64 kind, .int .i64 epoch, .int .i64 seq, .int .i64 ack, .slice ao ll cap] 47) = wa at *
      generalize w.heap.size = z at *
      repeat (go_quiet (fail); go_wp2_with fail)
      go_ret
      refine ⟨ret_int' (HR.out.symm.trans ?_).symm, by (repeat (apply keep_drewN)); exact HK.out⟩
      unfold wrongN
      try have hkd := HKD.out
      try have hsq := HSQ.out
      repeat (first | rw [if_pos (by omega)] | rw [if_neg (by omega)])
    · go_enter Try.func40, Try.ntmps40
      go_wp2_with fail
      generalize w.alloc (.cells #[.int .i64 frm, .int .i64 to, .int .i64 kind, .int .i64 epoch, .int .i64 seq, .int .i64 ack, .slice ao ll cap] 47) = wa at *
      generalize w.heap.size = z at *
      repeat (go_quiet (fail); go_wp2_with fail)
      go_ret
      refine ⟨ret_int' (HR.out.symm.trans ?_).symm, by (repeat (apply keep_drewN)); exact HK.out⟩
      unfold wrongN
      try have hkd := HKD.out
      try have hsq := HSQ.out
      repeat (first | rw [if_pos (by omega)] | rw [if_neg (by omega)])
  by_cases h7 : base + n < ack
  · rcases b3 with ⟨HKD, b3, b4, b5⟩ | ⟨HKD, b3, b4, b5, b6⟩
    · go_enter Try.func40, Try.ntmps40
      go_wp2_with fail
      generalize w.alloc (.cells #[.int .i64 frm, .int .i64 to, .int .i64 kind, .int .i64 epoch, .int .i64 seq, .int .i64 ack, .slice ao ll cap] 47) = wa at *
      generalize w.heap.size = z at *
      repeat (go_quiet (fail); go_wp2_with fail)
      go_ret
      refine ⟨ret_int' (HR.out.symm.trans ?_).symm, by (repeat (apply keep_drewN)); exact HK.out⟩
      unfold wrongN
      try have hkd := HKD.out
      try have hsq := HSQ.out
      repeat (first | rw [if_pos (by omega)] | rw [if_neg (by omega)])
    · go_enter Try.func40, Try.ntmps40
      go_wp2_with fail
      generalize w.alloc (.cells #[.int .i64 frm, .int .i64 to, .int .i64 kind, .int .i64 epoch, .int .i64 seq, .int .i64 ack, .slice ao ll cap] 47) = wa at *
      generalize w.heap.size = z at *
      repeat (go_quiet (fail); go_wp2_with fail)
      go_ret
      refine ⟨ret_int' (HR.out.symm.trans ?_).symm, by (repeat (apply keep_drewN)); exact HK.out⟩
      unfold wrongN
      try have hkd := HKD.out
      try have hsq := HSQ.out
      repeat (first | rw [if_pos (by omega)] | rw [if_neg (by omega)])
  by_cases h8 : 1200 < ll
  · rcases b3 with ⟨HKD, b3, b4, b5⟩ | ⟨HKD, b3, b4, b5, b6⟩
    · go_enter Try.func40, Try.ntmps40
      go_wp2_with fail
      generalize w.alloc (.cells #[.int .i64 frm, .int .i64 to, .int .i64 kind, .int .i64 epoch, .int .i64 seq, .int .i64 ack, .slice ao ll cap] 47) = wa at *
      generalize w.heap.size = z at *
      repeat (go_quiet (fail); go_wp2_with fail)
      go_ret
      refine ⟨ret_int' (HR.out.symm.trans ?_).symm, by (repeat (apply keep_drewN)); exact HK.out⟩
      unfold wrongN
      try have hkd := HKD.out
      try have hsq := HSQ.out
      repeat (first | rw [if_pos (by omega)] | rw [if_neg (by omega)])
    · go_enter Try.func40, Try.ntmps40
      go_wp2_with fail
      generalize w.alloc (.cells #[.int .i64 frm, .int .i64 to, .int .i64 kind, .int .i64 epoch, .int .i64 seq, .int .i64 ack, .slice ao ll cap] 47) = wa at *
      generalize w.heap.size = z at *
      repeat (go_quiet (fail); go_wp2_with fail)
      go_ret
      refine ⟨ret_int' (HR.out.symm.trans ?_).symm, by (repeat (apply keep_drewN)); exact HK.out⟩
      unfold wrongN
      try have hkd := HKD.out
      try have hsq := HSQ.out
      repeat (first | rw [if_pos (by omega)] | rw [if_neg (by omega)])
  rcases b3 with ⟨HKD, b3, b4, b5⟩ | ⟨HKD, b3, b4, b5, b6⟩
  · by_cases h9 : seq < 1
    · go_enter Try.func40, Try.ntmps40
      go_wp2_with fail
      generalize w.alloc (.cells #[.int .i64 frm, .int .i64 to, .int .i64 kind, .int .i64 epoch, .int .i64 seq, .int .i64 ack, .slice ao ll cap] 47) = wa at *
      generalize w.heap.size = z at *
      repeat (go_quiet (fail); go_wp2_with fail)
      go_ret
      refine ⟨ret_int' (HR.out.symm.trans ?_).symm, by (repeat (apply keep_drewN)); exact HK.out⟩
      unfold wrongN
      try have hkd := HKD.out
      try have hsq := HSQ.out
      repeat (first | rw [if_pos (by omega)] | rw [if_neg (by omega)])
    · go_enter Try.func40, Try.ntmps40
      go_wp2_with fail
      generalize w.alloc (.cells #[.int .i64 frm, .int .i64 to, .int .i64 kind, .int .i64 epoch, .int .i64 seq, .int .i64 ack, .slice ao ll cap] 47) = wa at *
      generalize w.heap.size = z at *
      repeat (go_quiet (fail); go_wp2_with fail)
      go_ret
      refine ⟨ret_int' (HR.out.symm.trans ?_).symm, by (repeat (apply keep_drewN)); exact HK.out⟩
      unfold wrongN
      try have hkd := HKD.out
      try have hsq := HSQ.out
      repeat (first | rw [if_pos (by omega)] | rw [if_neg (by omega)])
  · by_cases h9 : seq = 0
    · have b9 := bne_f h9
      have HSQ := hid h9
      clear h9
      by_cases h10 : 0 < ll
      · go_enter Try.func40, Try.ntmps40
        go_wp2_with fail
        generalize w.alloc (.cells #[.int .i64 frm, .int .i64 to, .int .i64 kind, .int .i64 epoch, .int .i64 seq, .int .i64 ack, .slice ao ll cap] 47) = wa at *
        generalize w.heap.size = z at *
        repeat (go_quiet (fail); go_wp2_with fail)
        go_ret
        refine ⟨ret_int' (HR.out.symm.trans ?_).symm, by (repeat (apply keep_drewN)); exact HK.out⟩
        unfold wrongN
        try have hkd := HKD.out
        try have hsq := HSQ.out
        repeat (first | rw [if_pos (by omega)] | rw [if_neg (by omega)])
      · go_enter Try.func40, Try.ntmps40
        go_wp2_with fail
        generalize w.alloc (.cells #[.int .i64 frm, .int .i64 to, .int .i64 kind, .int .i64 epoch, .int .i64 seq, .int .i64 ack, .slice ao ll cap] 47) = wa at *
        generalize w.heap.size = z at *
        repeat (go_quiet (fail); go_wp2_with fail)
        go_ret
        refine ⟨ret_int' (HR.out.symm.trans ?_).symm, by (repeat (apply keep_drewN)); exact HK.out⟩
        unfold wrongN
        try have hkd := HKD.out
        try have hsq := HSQ.out
        repeat (first | rw [if_pos (by omega)] | rw [if_neg (by omega)])
    · have b9 := bne_t h9
      go_enter Try.func40, Try.ntmps40
      go_wp2_with fail
      generalize w.alloc (.cells #[.int .i64 frm, .int .i64 to, .int .i64 kind, .int .i64 epoch, .int .i64 seq, .int .i64 ack, .slice ao ll cap] 47) = wa at *
      generalize w.heap.size = z at *
      repeat (go_quiet (fail); go_wp2_with fail)
      go_ret
      refine ⟨ret_int' (HR.out.symm.trans ?_).symm, by (repeat (apply keep_drewN)); exact HK.out⟩
      unfold wrongN
      try have hkd := HKD.out
      try have hsq := HSQ.out
      repeat (first | rw [if_pos (by omega)] | rw [if_neg (by omega)])

end Go.Proofs.Ytjlgolkippleaaa
