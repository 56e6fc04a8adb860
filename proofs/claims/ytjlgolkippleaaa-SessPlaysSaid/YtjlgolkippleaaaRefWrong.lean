/-
  The reference's End: wrong.
-/
import Derived.Test.YtjlgolkippleaaaRef
import Derived.BigRegion
namespace Go.Proofs.Ytjlgolkippleaaa
open Go.RowKit

set_option maxHeartbeats 4000000 in
theorem rwrong_some (w : World) (B p q : Nat) (E : ES) (m : MS) (ao : Option Addr) (cap : Nat) (ls : List (List UInt8)) (H : RefAt B w p q E ls) :
    Calls Try.prog 44 #[.pointer (some ⟨p, 0, none⟩), mV m (.slice ao m.load.length cap)] w fun e w' => e = .returned (.int .i64 (wrongE E m)) ∧ Keep Nil w w' := by
  obtain ⟨frm, to, kind, epoch, seq, ack, load⟩ := m
  have hll := H.len
  unfold wrongE
  unfold mV
  simp only
  obtain ⟨c0, c1, c2, ⟨ao', cap', c4⟩, c3, c5, c6⟩ := (H.alloc (.cells #[.int .i64 frm, .int .i64 to, .int .i64 kind, .int .i64 epoch, .int .i64 seq, .int .i64 ack, .slice ao load.length cap] 47)).cells
  have hz := row_cell (heap_new w (.cells #[.int .i64 frm, .int .i64 to, .int .i64 kind, .int .i64 epoch, .int .i64 seq, .int .i64 ack, .slice ao load.length cap] 47 (0, 0)))
  have z0 := hz 0
  have z1 := hz 1
  have z2 := hz 2
  have z3 := hz 3
  have z4 := hz 4
  have z5 := hz 5
  have z6 := hz 6
  simp only [List.getElem?_toArray, List.getElem?_cons_zero, List.getElem?_cons_succ] at z0 z1 z2 z3 z4 z5 z6
  have HK := hid ((Keep.refl (S := Nil) w).alloc (.cells #[.int .i64 frm, .int .i64 to, .int .i64 kind, .int .i64 epoch, .int .i64 seq, .int .i64 ack, .slice ao load.length cap] 47 (0, 0)))
  clear hz H c3 c5 c6
  generalize E.opened.length = n at *
  generalize E.peer = peer at *
  generalize E.node = node at *
  generalize E.epoch = ep at *
  generalize E.base = base at *
  generalize ls.length = L at *
  generalize load.length = ll at *
  obtain ⟨r, hr⟩ : ∃ r, wrongN node peer ep base n frm to kind epoch seq ack ll = r := ⟨_, rfl⟩
  rw [hr]
  have HR := hid hr
  clear hr
  have HLL := hid hll
  clear hll
  by_cases h1 : frm ≠ peer
  · have b1 := bne_t h1
    go_enter Try.func44, Try.ntmps44
    go_wp2_with fail
    generalize w.alloc (.cells #[.int .i64 frm, .int .i64 to, .int .i64 kind, .int .i64 epoch, .int .i64 seq, .int .i64 ack, .slice ao ll cap] 47) = wa at *
    generalize w.heap.size = z at *
    repeat (go_quiet (fail); go_wp2_with fail)
    go_ret
    refine ⟨ret_int' (HR.out.symm.trans ?_).symm, by (repeat (apply keep_drewN)); exact HK.out⟩
    unfold wrongN
    try have hkd := HKD.out
    have hll := HLL.out
    try have hsq := HSQ.out
    repeat (first | rw [if_pos (by omega)] | rw [if_neg (by omega)])
  have b1 := bne_f (Decidable.not_not.1 h1)
  by_cases h2 : to ≠ node
  · have b2 := bne_t h2
    go_enter Try.func44, Try.ntmps44
    go_wp2_with fail
    generalize w.alloc (.cells #[.int .i64 frm, .int .i64 to, .int .i64 kind, .int .i64 epoch, .int .i64 seq, .int .i64 ack, .slice ao ll cap] 47) = wa at *
    generalize w.heap.size = z at *
    repeat (go_quiet (fail); go_wp2_with fail)
    go_ret
    refine ⟨ret_int' (HR.out.symm.trans ?_).symm, by (repeat (apply keep_drewN)); exact HK.out⟩
    unfold wrongN
    try have hkd := HKD.out
    have hll := HLL.out
    try have hsq := HSQ.out
    repeat (first | rw [if_pos (by omega)] | rw [if_neg (by omega)])
  have b2 := bne_f (Decidable.not_not.1 h2)
  by_cases h3 : kind ≠ 1 ∧ kind ≠ 2
  · have b3 := bne_t h3.1
    have b3' := bne_t h3.2
    go_enter Try.func44, Try.ntmps44
    go_wp2_with fail
    generalize w.alloc (.cells #[.int .i64 frm, .int .i64 to, .int .i64 kind, .int .i64 epoch, .int .i64 seq, .int .i64 ack, .slice ao ll cap] 47) = wa at *
    generalize w.heap.size = z at *
    repeat (go_quiet (fail); go_wp2_with fail)
    go_ret
    refine ⟨ret_int' (HR.out.symm.trans ?_).symm, by (repeat (apply keep_drewN)); exact HK.out⟩
    unfold wrongN
    try have hkd := HKD.out
    have hll := HLL.out
    try have hsq := HSQ.out
    repeat (first | rw [if_pos (by omega)] | rw [if_neg (by omega)])
  have b3 : (Hid (kind = 1) ∧ (kind != 1) = false ∧ (kind == 1) = true ∧ (kind == 2) = false) ∨ (Hid (kind = 2) ∧ (kind != 1) = true ∧ (kind != 2) = false ∧ (kind == 1) = false ∧ (kind == 2) = true) := by
    by_cases hk : kind = 1
    · exact .inl ⟨hid hk, bne_f hk, beq_t hk, beq_f (by omega)⟩
    · have hk2 : kind = 2 := by omega
      exact .inr ⟨hid hk2, bne_t hk, bne_f hk2, beq_f hk, beq_t hk2⟩
  by_cases h4 : epoch < ep
  · rcases b3 with ⟨HKD, b3, b4, b5⟩ | ⟨HKD, b3, b4, b5, b6⟩
    · go_enter Try.func44, Try.ntmps44
      go_wp2_with fail
      generalize w.alloc (.cells #[.int .i64 frm, .int .i64 to, .int .i64 kind, .int .i64 epoch, .int .i64 seq, .int .i64 ack, .slice ao ll cap] 47) = wa at *
      generalize w.heap.size = z at *
      repeat (go_quiet (fail); go_wp2_with fail)
      go_ret
      refine ⟨ret_int' (HR.out.symm.trans ?_).symm, by (repeat (apply keep_drewN)); exact HK.out⟩
      unfold wrongN
      try have hkd := HKD.out
      have hll := HLL.out
      try have hsq := HSQ.out
      repeat (first | rw [if_pos (by omega)] | rw [if_neg (by omega)])
    · go_enter Try.func44, Try.ntmps44
      go_wp2_with fail
      generalize w.alloc (.cells #[.int .i64 frm, .int .i64 to, .int .i64 kind, .int .i64 epoch, .int .i64 seq, .int .i64 ack, .slice ao ll cap] 47) = wa at *
      generalize w.heap.size = z at *
      repeat (go_quiet (fail); go_wp2_with fail)
      go_ret
      refine ⟨ret_int' (HR.out.symm.trans ?_).symm, by (repeat (apply keep_drewN)); exact HK.out⟩
      unfold wrongN
      try have hkd := HKD.out
      have hll := HLL.out
      try have hsq := HSQ.out
      repeat (first | rw [if_pos (by omega)] | rw [if_neg (by omega)])
  by_cases h5 : ep < epoch
  · rcases b3 with ⟨HKD, b3, b4, b5⟩ | ⟨HKD, b3, b4, b5, b6⟩
    · go_enter Try.func44, Try.ntmps44
      go_wp2_with fail
      generalize w.alloc (.cells #[.int .i64 frm, .int .i64 to, .int .i64 kind, .int .i64 epoch, .int .i64 seq, .int .i64 ack, .slice ao ll cap] 47) = wa at *
      generalize w.heap.size = z at *
      repeat (go_quiet (fail); go_wp2_with fail)
      go_ret
      refine ⟨ret_int' (HR.out.symm.trans ?_).symm, by (repeat (apply keep_drewN)); exact HK.out⟩
      unfold wrongN
      try have hkd := HKD.out
      have hll := HLL.out
      try have hsq := HSQ.out
      repeat (first | rw [if_pos (by omega)] | rw [if_neg (by omega)])
    · go_enter Try.func44, Try.ntmps44
      go_wp2_with fail
      generalize w.alloc (.cells #[.int .i64 frm, .int .i64 to, .int .i64 kind, .int .i64 epoch, .int .i64 seq, .int .i64 ack, .slice ao ll cap] 47) = wa at *
      generalize w.heap.size = z at *
      repeat (go_quiet (fail); go_wp2_with fail)
      go_ret
      refine ⟨ret_int' (HR.out.symm.trans ?_).symm, by (repeat (apply keep_drewN)); exact HK.out⟩
      unfold wrongN
      try have hkd := HKD.out
      have hll := HLL.out
      try have hsq := HSQ.out
      repeat (first | rw [if_pos (by omega)] | rw [if_neg (by omega)])
  by_cases h6 : ack < 0
  · rcases b3 with ⟨HKD, b3, b4, b5⟩ | ⟨HKD, b3, b4, b5, b6⟩
    · go_enter Try.func44, Try.ntmps44
      go_wp2_with fail
      generalize w.alloc (.cells #[.int .i64 frm, .int .i64 to, .int .i64 kind, .int .i64 epoch, .int .i64 seq, .int .i64 ack, .slice ao ll cap] 47) = wa at *
      generalize w.heap.size = z at *
      repeat (go_quiet (fail); go_wp2_with fail)
      go_ret
      refine ⟨ret_int' (HR.out.symm.trans ?_).symm, by (repeat (apply keep_drewN)); exact HK.out⟩
      unfold wrongN
      try have hkd := HKD.out
      have hll := HLL.out
      try have hsq := HSQ.out
      repeat (first | rw [if_pos (by omega)] | rw [if_neg (by omega)])
    · go_enter Try.func44, Try.ntmps44
      go_wp2_with fail
      generalize w.alloc (.cells #[.int .i64 frm, .int .i64 to, .int .i64 kind, .int .i64 epoch, .int .i64 seq, .int .i64 ack, .slice ao ll cap] 47) = wa at *
      generalize w.heap.size = z at *
      repeat (go_quiet (fail); go_wp2_with fail)
      go_ret
      refine ⟨ret_int' (HR.out.symm.trans ?_).symm, by (repeat (apply keep_drewN)); exact HK.out⟩
      unfold wrongN
      try have hkd := HKD.out
      have hll := HLL.out
      try have hsq := HSQ.out
      repeat (first | rw [if_pos (by omega)] | rw [if_neg (by omega)])
  by_cases h7 : (L : Int) < ack
  · rcases b3 with ⟨HKD, b3, b4, b5⟩ | ⟨HKD, b3, b4, b5, b6⟩
    · go_enter Try.func44, Try.ntmps44
      go_wp2_with fail
      generalize w.alloc (.cells #[.int .i64 frm, .int .i64 to, .int .i64 kind, .int .i64 epoch, .int .i64 seq, .int .i64 ack, .slice ao ll cap] 47) = wa at *
      generalize w.heap.size = z at *
      repeat (go_quiet (fail); go_wp2_with fail)
      go_ret
      refine ⟨ret_int' (HR.out.symm.trans ?_).symm, by (repeat (apply keep_drewN)); exact HK.out⟩
      unfold wrongN
      try have hkd := HKD.out
      have hll := HLL.out
      try have hsq := HSQ.out
      repeat (first | rw [if_pos (by omega)] | rw [if_neg (by omega)])
    · go_enter Try.func44, Try.ntmps44
      go_wp2_with fail
      generalize w.alloc (.cells #[.int .i64 frm, .int .i64 to, .int .i64 kind, .int .i64 epoch, .int .i64 seq, .int .i64 ack, .slice ao ll cap] 47) = wa at *
      generalize w.heap.size = z at *
      repeat (go_quiet (fail); go_wp2_with fail)
      go_ret
      refine ⟨ret_int' (HR.out.symm.trans ?_).symm, by (repeat (apply keep_drewN)); exact HK.out⟩
      unfold wrongN
      try have hkd := HKD.out
      have hll := HLL.out
      try have hsq := HSQ.out
      repeat (first | rw [if_pos (by omega)] | rw [if_neg (by omega)])
  by_cases h8 : 1200 < ll
  · rcases b3 with ⟨HKD, b3, b4, b5⟩ | ⟨HKD, b3, b4, b5, b6⟩
    · go_enter Try.func44, Try.ntmps44
      go_wp2_with fail
      generalize w.alloc (.cells #[.int .i64 frm, .int .i64 to, .int .i64 kind, .int .i64 epoch, .int .i64 seq, .int .i64 ack, .slice ao ll cap] 47) = wa at *
      generalize w.heap.size = z at *
      repeat (go_quiet (fail); go_wp2_with fail)
      go_ret
      refine ⟨ret_int' (HR.out.symm.trans ?_).symm, by (repeat (apply keep_drewN)); exact HK.out⟩
      unfold wrongN
      try have hkd := HKD.out
      have hll := HLL.out
      try have hsq := HSQ.out
      repeat (first | rw [if_pos (by omega)] | rw [if_neg (by omega)])
    · go_enter Try.func44, Try.ntmps44
      go_wp2_with fail
      generalize w.alloc (.cells #[.int .i64 frm, .int .i64 to, .int .i64 kind, .int .i64 epoch, .int .i64 seq, .int .i64 ack, .slice ao ll cap] 47) = wa at *
      generalize w.heap.size = z at *
      repeat (go_quiet (fail); go_wp2_with fail)
      go_ret
      refine ⟨ret_int' (HR.out.symm.trans ?_).symm, by (repeat (apply keep_drewN)); exact HK.out⟩
      unfold wrongN
      try have hkd := HKD.out
      have hll := HLL.out
      try have hsq := HSQ.out
      repeat (first | rw [if_pos (by omega)] | rw [if_neg (by omega)])
  rcases b3 with ⟨HKD, b3, b4, b5⟩ | ⟨HKD, b3, b4, b5, b6⟩
  · by_cases h9 : seq < 1
    · go_enter Try.func44, Try.ntmps44
      go_wp2_with fail
      generalize w.alloc (.cells #[.int .i64 frm, .int .i64 to, .int .i64 kind, .int .i64 epoch, .int .i64 seq, .int .i64 ack, .slice ao ll cap] 47) = wa at *
      generalize w.heap.size = z at *
      repeat (go_quiet (fail); go_wp2_with fail)
      go_ret
      refine ⟨ret_int' (HR.out.symm.trans ?_).symm, by (repeat (apply keep_drewN)); exact HK.out⟩
      unfold wrongN
      try have hkd := HKD.out
      have hll := HLL.out
      try have hsq := HSQ.out
      repeat (first | rw [if_pos (by omega)] | rw [if_neg (by omega)])
    · go_enter Try.func44, Try.ntmps44
      go_wp2_with fail
      generalize w.alloc (.cells #[.int .i64 frm, .int .i64 to, .int .i64 kind, .int .i64 epoch, .int .i64 seq, .int .i64 ack, .slice ao ll cap] 47) = wa at *
      generalize w.heap.size = z at *
      repeat (go_quiet (fail); go_wp2_with fail)
      go_ret
      refine ⟨ret_int' (HR.out.symm.trans ?_).symm, by (repeat (apply keep_drewN)); exact HK.out⟩
      unfold wrongN
      try have hkd := HKD.out
      have hll := HLL.out
      try have hsq := HSQ.out
      repeat (first | rw [if_pos (by omega)] | rw [if_neg (by omega)])
  · by_cases h9 : seq = 0
    · have b9 := bne_f h9
      have HSQ := hid h9
      clear h9
      by_cases h10 : 0 < ll
      · go_enter Try.func44, Try.ntmps44
        go_wp2_with fail
        generalize w.alloc (.cells #[.int .i64 frm, .int .i64 to, .int .i64 kind, .int .i64 epoch, .int .i64 seq, .int .i64 ack, .slice ao ll cap] 47) = wa at *
        generalize w.heap.size = z at *
        repeat (go_quiet (fail); go_wp2_with fail)
        go_ret
        refine ⟨ret_int' (HR.out.symm.trans ?_).symm, by (repeat (apply keep_drewN)); exact HK.out⟩
        unfold wrongN
        try have hkd := HKD.out
        have hll := HLL.out
        try have hsq := HSQ.out
        repeat (first | rw [if_pos (by omega)] | rw [if_neg (by omega)])
      · go_enter Try.func44, Try.ntmps44
        go_wp2_with fail
        generalize w.alloc (.cells #[.int .i64 frm, .int .i64 to, .int .i64 kind, .int .i64 epoch, .int .i64 seq, .int .i64 ack, .slice ao ll cap] 47) = wa at *
        generalize w.heap.size = z at *
        repeat (go_quiet (fail); go_wp2_with fail)
        go_ret
        refine ⟨ret_int' (HR.out.symm.trans ?_).symm, by (repeat (apply keep_drewN)); exact HK.out⟩
        unfold wrongN
        try have hkd := HKD.out
        have hll := HLL.out
        try have hsq := HSQ.out
        repeat (first | rw [if_pos (by omega)] | rw [if_neg (by omega)])
    · have b9 := bne_t h9
      go_enter Try.func44, Try.ntmps44
      go_wp2_with fail
      generalize w.alloc (.cells #[.int .i64 frm, .int .i64 to, .int .i64 kind, .int .i64 epoch, .int .i64 seq, .int .i64 ack, .slice ao ll cap] 47) = wa at *
      generalize w.heap.size = z at *
      repeat (go_quiet (fail); go_wp2_with fail)
      go_ret
      refine ⟨ret_int' (HR.out.symm.trans ?_).symm, by (repeat (apply keep_drewN)); exact HK.out⟩
      unfold wrongN
      try have hkd := HKD.out
      have hll := HLL.out
      try have hsq := HSQ.out
      repeat (first | rw [if_pos (by omega)] | rw [if_neg (by omega)])

end Go.Proofs.Ytjlgolkippleaaa
