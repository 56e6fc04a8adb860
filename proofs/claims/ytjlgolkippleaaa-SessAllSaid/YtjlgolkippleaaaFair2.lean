/-
  Fair rounds bring all over, in plain Lean. No Go text in sight.
-/
import Derived.Test.YtjlgolkippleaaaFair
namespace Go.Proofs.Ytjlgolkippleaaa

/-- the i-th datagram from side s is handed over -/
inductive Deliv (M : WM) (s : Nat) (i : Int) : WM → Prop
  | none : ¬ (0 ≤ i ∧ i < (M.G s).length) → Deliv M s i M
  | bad (k : Nat) (hk : k < (M.G s).length) : i = k → (M.G s)[k].spoilt = true → Deliv M s i (takeM M s k)
  | good (k : Nat) (hk : k < (M.G s).length) (m : MS) : i = k → (M.G s)[k] = gramOf m → MsgOk M s m → Deliv M s i (recvM (takeM M s k) s m)
theorem MsgOk.take {M : WM} {s k : Nat} {m : MS} (h : MsgOk M s m) : MsgOk (takeM M s k) s m := ⟨h.frm, h.to, h.epoch, h.ack, h.body⟩
theorem inv_deliv {n : Nat} {M M' : WM} {s : Nat} {i : Int} (hs : s < 2) (h : Inv n M) (d : Deliv M s i M') : Inv n M' := by
  cases d with
  | none _ => exact h
  | bad k hk _ _ => exact inv_take hs h
  | good k hk m _ _ hm => exact inv_recv hs (inv_take hs h) hm.take

/-- all that is on its way from side s is handed over, in order -/
inductive Flush (s : Nat) : WM → WM → Prop
  | done {M : WM} : M.G s = [] → Flush s M M
  | more {M M1 M' : WM} : M.G s ≠ [] → Deliv M s 0 M1 → Flush s M1 M' → Flush s M M'
def Half (s : Nat) (M M' : WM) : Prop := ∃ M1, Flush s M M1 ∧ Flush s (stepM M1 s) M'

theorem has8_inj {bs : List UInt8} {a x y : Nat} (hx : Has8 bs a x) (hy : Has8 bs a y) (h1 : x < 18446744073709551616) (h2 : y < 18446744073709551616) : x = y := by
  have key : ∀ k, k < 8 → x / 256 ^ k % 256 = y / 256 ^ k % 256 := by
    intro k hk
    have e := (hx k hk).symm.trans (hy k hk)
    have e2 := congrArg UInt8.toNat (Option.some.inj e)
    simpa using e2
  have k0 := key 0 (by omega)
  have k1 := key 1 (by omega)
  have k2 := key 2 (by omega)
  have k3 := key 3 (by omega)
  have k4 := key 4 (by omega)
  have k5 := key 5 (by omega)
  have k6 := key 6 (by omega)
  have k7 := key 7 (by omega)
  simp only [Nat.reducePow] at k0 k1 k2 k3 k4 k5 k6 k7
  omega
/-- what one handing over at 0 leaves -/
theorem deliv_facts {n : Nat} {M M' : WM} {s : Nat} (hs : s < 2) (h : Inv n M) (hg : M.G s ≠ []) (d : Deliv M s 0 M') :
    M'.S = M.S ∧ M'.G (1 - s) = M.G (1 - s) ∧ M'.G s = (M.G s).tail ∧ M'.E s = M.E s ∧ M'.C (1 - s) = M.C (1 - s) ∧ M.C s ≤ M'.C s ∧
    (M.E (1 - s)).base ≤ (M'.E (1 - s)).base ∧ ((M.E (1 - s)).opened = [] → (M'.E (1 - s)).opened = []) ∧
    (∀ m, (M.G s).head? = some (gramOf m) → MsgOk M s m → m.ack ≤ (M'.E (1 - s)).base ∧ (m.kind = 1 → (M'.E (1 - s)).owes = true) ∧ (m.kind = 2 → (M'.E (1 - s)).owes = (M.E (1 - s)).owes) ∧ (m.kind = 1 → m.seq = M.C s + 1 → M'.C s = M.C s + 1)) := by
  have hne : (1 - s : Nat) ≠ s := by omega
  have hne' : s ≠ 1 - s := fun e => hne e.symm
  obtain ⟨x, gs, hx⟩ : ∃ x gs, M.G s = x :: gs := by
    cases hM : M.G s with
    | nil => exact absurd hM hg
    | cons x gs => exact ⟨x, gs, rfl⟩
  cases d with
  | none hn => rw [hx] at hn; exact absurd (by constructor <;> simp <;> omega) hn
  | bad k hk hik hsp =>
    obtain rfl : k = 0 := by omega
    unfold takeM
    simp only [hx, List.getElem_cons_zero] at hsp
    refine ⟨rfl, upd_ne _ _ hne, by show upd M.G s _ s = _; rw [upd_self]; simp [hx], rfl, rfl, Nat.le_refl _, Int.le_refl _, id, ?_⟩
    intro m hm _
    rw [hx] at hm
    simp at hm
    rw [hm] at hsp
    cases hsp
  | good k hk m hik hgm hm =>
    obtain rfl : k = 0 := by omega
    obtain ⟨p1, p2, p3, p4, p5, p6, p7⟩ := recv_parts hs (inv_take (k := 0) hs h) hm.take
    have hE : (takeM M s 0).E = M.E := rfl
    rw [hE] at p4 p5 p6 p7
    have hmm : ∀ m', (M.G s).head? = some (gramOf m') → MsgOk M s m' → m'.ack = m.ack ∧ m'.kind = m.kind ∧ m'.seq = m.seq := by
      intro m' h1 h2
      simp only [hx, List.getElem_cons_zero] at hgm
      rw [hx] at h1
      simp at h1
      have h3 : gramOf m' = gramOf m := by rw [← h1]; exact hgm
      have h4 : sealL (packB m') = sealL (packB m) := congrArg GS.bytes h3
      have h5 : packB m' = packB m := by
        have a := open_seal (packB m')
        have b := open_seal (packB m)
        rw [h4] at a
        exact a.symm.trans b
      have g1 := (msg_facts hs h h2).1
      have g2 := (msg_facts hs h hm).1
      have key : ∀ i (hi : i < 6) x y, (headL m')[i]? = some x → (headL m)[i]? = some y → x < 18446744073709551616 → y < 18446744073709551616 → x = y := by
        intro i hi x y e1 e2 b1 b2
        have a := packB_has m' i (by omega)
        have b := packB_has m i (by omega)
        rw [h5] at a
        have ea : (headL m' ++ [m'.load.length])[i]'(by simp [headL]; omega) = x := by
          have : (headL m' ++ [m'.load.length])[i]? = some x := by rw [List.getElem?_append_left (by simp [headL]; omega)]; exact e1
          rw [List.getElem?_eq_getElem (by simp [headL]; omega)] at this
          exact Option.some.inj this
        have eb : (headL m ++ [m.load.length])[i]'(by simp [headL]; omega) = y := by
          have : (headL m ++ [m.load.length])[i]? = some y := by rw [List.getElem?_append_left (by simp [headL]; omega)]; exact e2
          rw [List.getElem?_eq_getElem (by simp [headL]; omega)] at this
          exact Option.some.inj this
        rw [ea] at a
        rw [eb] at b
        exact has8_inj a b b1 b2
      have k1 := key 5 (by omega) m'.ack.toNat m.ack.toNat rfl rfl (by have := g1.ack; omega) (by have := g2.ack; omega)
      have k2 := key 2 (by omega) m'.kind.toNat m.kind.toNat rfl rfl (by have := g1.kind; omega) (by have := g2.kind; omega)
      have k3 := key 4 (by omega) m'.seq.toNat m.seq.toNat rfl rfl (by have := g1.seq; omega) (by have := g2.seq; omega)
      have := g1.ack; have := g2.ack; have := g1.kind; have := g2.kind; have := g1.seq; have := g2.seq
      omega
    have hw := (msg_facts hs h hm).2.1
    have hcm := (h.side s hs).came
    unfold recvM
    refine ⟨rfl, upd_ne _ _ hne, by show upd M.G s _ s = _; rw [upd_self]; simp [hx], upd_ne _ _ hne', upd_ne _ _ hne, ?_, ?_, ?_, ?_⟩
    · show M.C s ≤ upd M.C s _ s
      rw [upd_self]
      split
      · exact Nat.le_succ _
      · exact Nat.le_refl _
    · show _ ≤ (upd M.E (1 - s) _ (1 - s)).base
      rw [upd_self, hE, p4]; split <;> omega
    · intro h0
      show (upd M.E (1 - s) _ (1 - s)).opened = []
      rw [upd_self, hE, p5, h0]; simp
    · intro m' h1 h2
      obtain ⟨e1, e2, e3⟩ := hmm m' h1 h2
      refine ⟨?_, ?_, ?_, ?_⟩
      · show _ ≤ (upd M.E (1 - s) _ (1 - s)).base
        rw [upd_self, hE, p4, e1]; split <;> omega
      · intro hk1
        show (upd M.E (1 - s) _ (1 - s)).owes = true
        rw [upd_self, hE, p7, if_pos (by omega)]
      · intro hk2
        show (upd M.E (1 - s) _ (1 - s)).owes = _
        rw [upd_self, hE, p7, if_neg (by omega)]
      · intro hk1 hsq
        show upd M.C s _ s = _
        rw [upd_self]
        show (if comes (M.E (1 - s)) m then M.C s + 1 else M.C s) = _
        rw [if_pos (by unfold comes; simp only [decide_eq_true_eq]; exact ⟨hw, by omega, by omega⟩)]

/-- what any flush leaves -/
theorem flush_any {n s : Nat} (hs : s < 2) {M M' : WM} (f : Flush s M M') (h : Inv n M) :
    Inv n M' ∧ M'.S = M.S ∧ M'.G (1 - s) = M.G (1 - s) ∧ M'.G s = [] ∧ M'.E s = M.E s ∧ M'.C (1 - s) = M.C (1 - s) ∧ ((M.E (1 - s)).opened = [] → (M'.E (1 - s)).opened = []) ∧ (M.E (1 - s)).base ≤ (M'.E (1 - s)).base := by
  induction f with
  | done hg => exact ⟨h, rfl, rfl, hg, rfl, rfl, id, Int.le_refl _⟩
  | more hg d f ih =>
    obtain ⟨a1, a2, a3, a4, a5, a6, a7, a8, -⟩ := deliv_facts hs h hg d
    obtain ⟨b0, b1, b2, b3, b4, b5, b6, b7⟩ := ih (inv_deliv hs h d)
    exact ⟨b0, b1.trans a1, b2.trans a2, b3, b4.trans a4, b5.trans a5, fun x => b6 (a8 x), Int.le_trans a7 b7⟩

/-- the datagrams from side s are loads with the numbers from a + 1 on -/
def Row (M : WM) (s a : Nat) : List GS → Prop
  | [] => a = (M.S s).length
  | x :: r => (∃ m, x = gramOf m ∧ MsgOk M s m ∧ m.kind = 1 ∧ m.seq = (a : Int) + 1 ∧ m.ack = M.C (1 - s)) ∧ Row M s (a + 1) r
theorem Row.mono {M M' : WM} {s : Nat} (hS : M'.S = M.S) (hC : M'.C (1 - s) = M.C (1 - s)) : ∀ (gs : List GS) (a : Nat), Row M s a gs → Row M' s a gs
  | [], a, h => by show a = (M'.S s).length; rw [hS]; exact h
  | x :: r, a, ⟨⟨m, h1, h2, h3, h4, h5⟩, h⟩ => ⟨⟨m, h1, h2.mono (by omega) ⟨[], by rw [hS]; simp⟩, h3, h4, by rw [hC]; exact h5⟩, Row.mono hS hC r _ h⟩
theorem flush_row {n s : Nat} (hs : s < 2) {M M' : WM} (f : Flush s M M') : ∀ (a : Nat), Inv n M → Row M s a (M.G s) → a ≤ M.C s →
    M'.C s = (M'.S s).length ∧ (M.G s ≠ [] → (M'.E (1 - s)).owes = true ∧ (M.C (1 - s) : Int) ≤ (M'.E (1 - s)).base) ∧ ((M.E (1 - s)).owes = true → (M'.E (1 - s)).owes = true) := by
  induction f with
  | @done M hg =>
    intro a h hr ha
    rw [hg] at hr
    have hr' : a = (M.S s).length := hr
    have := (h.side s hs).le
    exact ⟨by omega, fun e => absurd hg e, id⟩
  | @more M M1 M' hg d f ih =>
    intro a h hr ha
    obtain ⟨a1, a2, a3, a4, a5, a6, a7, a8, a9⟩ := deliv_facts hs h hg d
    obtain ⟨x, gs, hx⟩ : ∃ x gs, M.G s = x :: gs := by
      cases hM : M.G s with
      | nil => exact absurd hM hg
      | cons x gs => exact ⟨x, gs, rfl⟩
    rw [hx] at hr a9 a3
    obtain ⟨⟨m, hm1, hm2, hm3, hm4, hm5⟩, hr2⟩ := hr
    obtain ⟨c1, c2, -, c4⟩ := a9 m (by rw [hm1]; rfl) hm2
    have hC : a + 1 ≤ M1.C s := by
      by_cases hq : M.C s = a
      · have := c4 hm3 (by omega); omega
      · omega
    obtain ⟨i1, i2, i3⟩ := ih (a + 1) (inv_deliv hs h d) (by rw [a3]; exact Row.mono a1 a5 _ _ hr2) hC
    refine ⟨i1, fun _ => ⟨i3 (c2 hm3), ?_⟩, fun _ => i3 (c2 hm3)⟩
    obtain ⟨-, -, -, -, -, -, -, b7⟩ := flush_any hs f (inv_deliv hs h d)
    omega

/-- what a step behind an empty bag puts there -/
theorem step_row {n s : Nat} {M : WM} (hs : s < 2) (h : Inv n M) (hg : M.G s = []) (ho : (M.E s).opened ≠ []) : Row (stepM M s) s (M.E s).base.toNat ((stepM M s).G s) ∧ (stepM M s).G s ≠ [] := by
  have e := h.side s hs
  have e' := h.side (1 - s) (by omega)
  have hc : (M.E s).came = M.C (1 - s) := by
    have := e'.came
    rwa [show 1 - (1 - s) = s by omega] at this
  have hl0 : (M.E s).opened.length ≠ 0 := fun x => ho (List.eq_nil_of_length_eq_zero x)
  have hms := step_msgs hs h
  have hG : (stepM M s).G s = putMs [] ((List.range (M.E s).opened.length).map (dataM (M.E s))) := by
    show upd M.G s _ s = _
    rw [upd_self, hg]
    unfold stepMs
    rw [if_neg hl0]
  have hput : ∀ (ms : List MS) (gs : List GS), gs.length + ms.length ≤ 256 → putMs gs ms = gs ++ ms.map gramOf := by
    intro ms
    induction ms with
    | nil => intro gs _; simp [putMs]
    | cons m ms ih =>
      intro gs hgs
      show putMs (putG gs m) ms = _
      simp only [List.length_cons] at hgs
      have hp : putG gs m = gs ++ [gramOf m] := if_pos (by omega)
      rw [hp, ih _ (by simp; omega)]
      simp
  have h8 := e.len
  rw [hG, hput _ _ (by simp; omega), List.nil_append, List.map_map]
  refine ⟨?_, by simp; omega⟩
  have hsum := e.sum
  have hb := e.base
  have gen : ∀ (k d : Nat), k + d = (M.E s).opened.length → Row (stepM M s) s ((M.E s).base.toNat + k) ((List.range' k d).map (gramOf ∘ dataM (M.E s))) := by
    intro k d
    induction d generalizing k with
    | zero =>
      intro hk
      show (M.E s).base.toNat + k = ((stepM M s).S s).length
      show (M.E s).base.toNat + k = (M.S s).length
      omega
    | succ d ih =>
      intro hk
      rw [List.range'_succ, List.map_cons]
      refine ⟨⟨dataM (M.E s) k, rfl, ?_, rfl, ?_, ?_⟩, ?_⟩
      · have hm := hms (dataM (M.E s) k) (by
          unfold stepMs
          rw [if_neg hl0]
          exact List.mem_map.2 ⟨k, by rw [List.mem_range]; omega, rfl⟩)
        exact hm.mono (Nat.le_refl _) ⟨[], by simp [stepM]⟩
      · show (M.E s).base + k + 1 = _
        omega
      · show (M.E s).came = _
        exact hc
      · have := ih (k + 1) (by omega)
        rw [show (M.E s).base.toNat + (k + 1) = (M.E s).base.toNat + k + 1 by omega] at this
        exact this
  have := gen 0 (M.E s).opened.length (by omega)
  rw [← List.range_eq_range', Nat.add_zero] at this
  exact this

/-- half a fair round -/
theorem half_facts {n s : Nat} (hs : s < 2) {M M' : WM} (h : Inv n M) (f : Half s M M') :
    Inv n M' ∧ M'.S = M.S ∧ M'.G (1 - s) = M.G (1 - s) ∧ M'.G s = [] ∧ M'.C (1 - s) = M.C (1 - s) ∧ M'.C s = (M'.S s).length ∧ (M'.E s).opened = (M.E s).opened ∧ (M'.E s).owes = false ∧
    ((M.E (1 - s)).opened = [] → (M'.E (1 - s)).opened = []) ∧
    ((M.E s).opened ≠ [] → (M'.E (1 - s)).owes = true) ∧
    ((M.E s).opened ≠ [] ∨ (M.E s).owes = true → M.C (1 - s) = (M.S (1 - s)).length → (M'.E (1 - s)).opened = []) ∧
    ((M.E s).opened = [] → M.G s = [] → (M'.E (1 - s)).owes = (M.E (1 - s)).owes) := by
  obtain ⟨M1, f1, f2⟩ := f
  obtain ⟨b0, b1, b2, b3, b4, b5, b6, b7⟩ := flush_any hs f1 h
  have hI := inv_step hs b0
  obtain ⟨c0, c1, c2, c3, c4, c5, c6, c7⟩ := flush_any hs f2 hI
  have hne : (1 - s : Nat) ≠ s := by omega
  have hE1 : (stepM M1 s).E (1 - s) = M1.E (1 - s) := upd_ne _ _ hne
  have hEs : (stepM M1 s).E s = { M1.E s with owes := false } := upd_self _ _ _
  have hG1 : (stepM M1 s).G (1 - s) = M1.G (1 - s) := upd_ne _ _ hne
  have hS1 : (stepM M1 s).S = M1.S := rfl
  have hC1 : (stepM M1 s).C = M1.C := rfl
  rw [hE1] at c6 c7
  rw [hS1, b1] at c1
  rw [hG1, b2] at c2
  rw [hC1, b5] at c5
  have opn : ∀ (X : WM), Inv n X → X.S = M.S → (M.S (1 - s)).length ≤ (X.E (1 - s)).base → (X.E (1 - s)).opened = [] := by
    intro X hX hXS hle
    have e := hX.side (1 - s) (by omega)
    have := e.sum
    rw [hXS] at this
    exact List.eq_nil_of_length_eq_zero (by omega)
  have e1 := b0.side s hs
  by_cases ho : (M.E s).opened = []
  · -- nothing is open: an ack at most
    have ho1 : (M1.E s).opened = [] := by rw [b4]; exact ho
    have hfull : M1.C s = (M1.S s).length := by
      have h1 := e1.sum
      have h2 := e1.acked
      have h3 := e1.le
      rw [ho1] at h1
      simp at h1
      omega
    have hCs : M'.C s = (M'.S s).length := by
      have hle := (c0.side s hs).le
      have hmon : M1.C s ≤ M'.C s := by
        have := (c0.side s hs).acked
        have h1 := (c0.side s hs).sum
        rw [c4, hEs] at h1 this
        simp [ho1] at h1 this
        rw [c1, ← b1] at h1
        omega
      rw [c1, ← b1] at hle
      rw [c1, ← b1]; omega
    refine ⟨c0, c1, c2, c3, c5, hCs, by rw [c4, hEs]; show (M1.E s).opened = _; rw [b4], by rw [c4, hEs], fun x => c6 (b6 x), fun x => absurd ho x, ?_, ?_⟩
    · intro hor hful
      have how : (M1.E s).owes = true := by
        rw [b4]
        rcases hor with x | x
        · exact absurd ho x
        · exact x
      have hGs : (stepM M1 s).G s = [gramOf (ackM (M1.E s))] := by
        show upd M1.G s _ s = _
        rw [upd_self, b3]
        unfold stepMs
        rw [if_pos (by rw [ho1]; rfl), if_pos how]
        rfl
      have hm : MsgOk (stepM M1 s) s (ackM (M1.E s)) := by
        have := step_msgs hs b0 (ackM (M1.E s)) (by unfold stepMs; rw [if_pos (by rw [ho1]; rfl), if_pos how]; simp)
        exact this.mono (Nat.le_refl _) ⟨[], by simp [stepM]⟩
      cases f2 with
      | done hg => rw [hGs] at hg; cases hg
      | more hg d f3 =>
        obtain ⟨-, -, -, -, -, -, -, -, a9⟩ := deliv_facts hs hI hg d
        obtain ⟨k1, -, -, -⟩ := a9 _ (by rw [hGs]; rfl) hm
        obtain ⟨-, -, -, -, -, -, -, d7⟩ := flush_any hs f3 (inv_deliv hs hI d)
        have hc : (M1.E s).came = M1.C (1 - s) := by
          have := (b0.side (1 - s) (by omega)).came
          rwa [show 1 - (1 - s) = s by omega] at this
        have k1' : (M1.E s).came ≤ _ := k1
        refine opn M' c0 c1 ?_
        rw [b5] at hc
        omega
    · intro _ hgs
      have hM1 : M1 = M := by
        cases f1 with
        | done _ => rfl
        | more hg _ _ => exact absurd hgs hg
      subst hM1
      by_cases how : (M1.E s).owes = true
      · have hGs : (stepM M1 s).G s = [gramOf (ackM (M1.E s))] := by
          show upd M1.G s _ s = _
          rw [upd_self, b3]
          unfold stepMs
          rw [if_pos (by rw [ho1]; rfl), if_pos how]
          rfl
        have hm : MsgOk (stepM M1 s) s (ackM (M1.E s)) := by
          have := step_msgs hs b0 (ackM (M1.E s)) (by unfold stepMs; rw [if_pos (by rw [ho1]; rfl), if_pos how]; simp)
          exact this.mono (Nat.le_refl _) ⟨[], by simp [stepM]⟩
        cases f2 with
        | done hg => rw [hGs] at hg; cases hg
        | more hg d f3 =>
          obtain ⟨-, -, a3, -, -, -, -, -, a9⟩ := deliv_facts hs hI hg d
          obtain ⟨-, -, k3, -⟩ := a9 _ (by rw [hGs]; rfl) hm
          rw [hGs] at a3
          cases f3 with
          | done _ => rw [k3 rfl, hE1]
          | more hg' _ _ => exact absurd a3 hg'
      · have hGs : (stepM M1 s).G s = [] := by
          show upd M1.G s _ s = _
          rw [upd_self, b3]
          unfold stepMs
          rw [if_pos (by rw [ho1]; rfl), if_neg how]
          rfl
        cases f2 with
        | done _ => rw [hE1]
        | more hg' _ _ => exact absurd hGs hg'
  · have ho1 : (M1.E s).opened ≠ [] := by rw [b4]; exact ho
    obtain ⟨r1, r2⟩ := step_row hs b0 b3 ho1
    have hac : (M1.E s).base.toNat ≤ (stepM M1 s).C s := by
      show _ ≤ M1.C s
      have := e1.acked; omega
    obtain ⟨q1, q2, q3⟩ := flush_row hs f2 _ hI r1 hac
    refine ⟨c0, c1, c2, c3, c5, q1, by rw [c4, hEs]; show (M1.E s).opened = _; rw [b4], by rw [c4, hEs], fun x => c6 (b6 x), fun _ => (q2 r2).1, ?_, fun x => absurd x ho⟩
    intro _ hful
    refine opn M' c0 c1 ?_
    have := (q2 r2).2
    rw [hC1, b5] at this
    omega

/-- where fair rounds stand behind so many halves -/
def Stage : Nat → WM → Prop
  | 0, _ => True
  | 1, M => M.C 0 = (M.S 0).length ∧ ((M.E 0).opened ≠ [] → (M.E 1).owes = true) ∧ M.G 0 = []
  | 2, M => M.C 0 = (M.S 0).length ∧ M.C 1 = (M.S 1).length ∧ (M.E 0).opened = [] ∧ M.G 0 = [] ∧ M.G 1 = [] ∧ (M.E 1).owes = false ∧ ((M.E 1).opened ≠ [] → (M.E 0).owes = true)
  | _, M => ∀ s, s < 2 → M.C s = (M.S s).length ∧ (M.E s).opened = [] ∧ M.G s = [] ∧ (M.E s).owes = false
theorem stage_next {n h : Nat} {M M' : WM} (hI : Inv n M) (hst : Stage h M) (f : Half (h % 2) M M') : Stage (h + 1) M' := by
  obtain ⟨a0, a1, a2, a3, a4, a5, a6, a7, a8, a9, a10, a11⟩ := half_facts (Nat.mod_lt _ (by decide)) hI f
  match h, hst with
  | 0, _ =>
    simp only [Nat.zero_mod] at *
    exact ⟨a5, fun x => a9 (by rw [← a6]; exact x), a3⟩
  | 1, ⟨b1, b2, b3⟩ =>
    simp only [show 1 % 2 = 1 from rfl, Nat.sub_self] at *
    refine ⟨by rw [a4, a1]; exact b1, a5, ?_, by rw [a2]; exact b3, a3, a7, fun x => a9 (by rw [← a6]; exact x)⟩
    by_cases ho : (M.E 0).opened = []
    · exact a8 ho
    · exact a10 (.inr (b2 ho)) b1
  | 2, ⟨b1, b2, b3, b4, b5, b6, b7⟩ =>
    simp only [show 2 % 2 = 0 from rfl, Nat.sub_zero] at *
    have ho1 : (M'.E 1).opened = [] := by
      by_cases how : (M.E 0).owes = true
      · exact a10 (.inr how) b2
      · exact a8 (by
          by_cases hx : (M.E 1).opened = []
          · exact hx
          · exact absurd (b7 hx) how)
    intro s hs
    rcases (by omega : s = 0 ∨ s = 1) with rfl | rfl
    · exact ⟨a5, by rw [a6]; exact b3, a3, a7⟩
    · exact ⟨by rw [a4, a1]; exact b2, ho1, by rw [a2]; exact b5, by rw [a11 b3 b4]; exact b6⟩
  | k + 3, hq =>
    have hq' : ∀ s, s < 2 → M.C s = (M.S s).length ∧ (M.E s).opened = [] ∧ M.G s = [] ∧ (M.E s).owes = false := hq
    show ∀ s, s < 2 → M'.C s = (M'.S s).length ∧ (M'.E s).opened = [] ∧ M'.G s = [] ∧ (M'.E s).owes = false
    have hlt : (k + 3) % 2 < 2 := Nat.mod_lt _ (by decide)
    generalize (k + 3) % 2 = t at *
    intro s hs
    obtain ⟨q1, q2, q3, q4⟩ := hq' s hs
    obtain ⟨p1, p2, p3, p4⟩ := hq' t hlt
    by_cases hst : s = t
    · subst hst
      exact ⟨a5, by rw [a6]; exact q2, a3, a7⟩
    · obtain ⟨e1, -⟩ := other hlt hs hst
      subst e1
      exact ⟨by rw [a4, a1]; exact q1, a8 q2, by rw [a2]; exact q3, by rw [a11 p2 p3]; exact q4⟩

end Go.Proofs.Ytjlgolkippleaaa
