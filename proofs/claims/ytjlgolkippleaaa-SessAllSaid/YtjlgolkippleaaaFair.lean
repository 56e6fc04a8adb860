/-
  Two ends and the network between them, in plain Lean: what holds behind every deed, and that fair rounds bring all over. No Go text in sight.
-/
import Derived.Test.YtjlgolkippleaaaBag4
namespace Go.Proofs.Ytjlgolkippleaaa

/-- two ends (by their side), the datagrams from each, what was sent, how many came -/
structure WM where
  E : Nat → ES
  G : Nat → List GS
  S : Nat → List (List UInt8)
  C : Nat → Nat
def upd {α : Type} (f : Nat → α) (s : Nat) (x : α) : Nat → α := fun i => if i = s then x else f i
theorem upd_self {α : Type} (f : Nat → α) (s : Nat) (x : α) : upd f s x s = x := if_pos rfl
theorem upd_ne {α : Type} (f : Nat → α) {s i : Nat} (x : α) (h : i ≠ s) : upd f s x i = f i := if_neg h

def gramOf (m : MS) : GS := ⟨sealL (packB m), false⟩
def putG (gs : List GS) (m : MS) : List GS := if gs.length < 256 then gs ++ [gramOf m] else gs
def putMs (gs : List GS) (ms : List MS) : List GS := ms.foldl putG gs

/-! ### the deeds -/
def sendM (M : WM) (s : Nat) (l : List UInt8) : WM := if sendErr (M.E s) l = 0 then { M with E := upd M.E s (sendTo (M.E s) l), S := upd M.S s (M.S s ++ [l]) } else M
def stepM (M : WM) (s : Nat) : WM := { M with E := upd M.E s { M.E s with owes := false }, G := upd M.G s (putMs (M.G s) (stepMs (M.E s))) }
def takeM (M : WM) (s k : Nat) : WM := { M with G := upd M.G s ((M.G s).take k ++ (M.G s).drop (k + 1)) }
def recvM (M : WM) (s : Nat) (m : MS) : WM := { M with E := upd M.E (1 - s) (recvTo (M.E (1 - s)) m), C := upd M.C s (if comes (M.E (1 - s)) m then M.C s + 1 else M.C s) }

/-- a message from side s -/
structure MsgOk (M : WM) (s : Nat) (m : MS) : Prop where
  frm : m.frm = 3 + (s : Int)
  to : m.to = 4 - (s : Int)
  epoch : m.epoch = 9
  ack : 0 ≤ m.ack ∧ m.ack ≤ M.C (1 - s)
  body : (m.kind = 1 ∧ 1 ≤ m.seq ∧ m.seq ≤ (M.S s).length ∧ (M.S s)[m.seq.toNat - 1]? = some m.load) ∨ (m.kind = 2 ∧ m.seq = 0 ∧ m.load = [])
def GramOk (M : WM) (s : Nat) (x : GS) : Prop := (x.spoilt = false ∧ ∃ m, x = gramOf m ∧ MsgOk M s m) ∨ (x.spoilt = true ∧ openBad x.bytes ∧ x.bytes.length ≤ 2000)
structure EndOk (M : WM) (s : Nat) : Prop where
  node : (M.E s).node = 3 + (s : Int)
  peer : (M.E s).peer = 4 - (s : Int)
  epoch : (M.E s).epoch = 9
  base : 0 ≤ (M.E s).base
  sum : (M.E s).base + (M.E s).opened.length = (M.S s).length
  opened : (M.E s).opened = (M.S s).drop (M.E s).base.toNat
  len : (M.E s).opened.length ≤ 8
  came : (M.E (1 - s)).came = M.C s
  acked : (M.E s).base ≤ M.C s
  le : M.C s ≤ (M.S s).length
  loads : ∀ x ∈ M.S s, x.length ≤ 1200
  grams : ∀ x ∈ M.G s, GramOk M s x
  bag : (M.G s).length ≤ 256
structure Inv (n : Nat) (M : WM) : Prop where
  side : ∀ s, s < 2 → EndOk M s
  small : ∀ s, s < 2 → (M.S s).length ≤ n
  few : n ≤ 2000

theorem MsgOk.mono {M M' : WM} {s : Nat} {m : MS} (h : MsgOk M s m) (hc : M.C (1 - s) ≤ M'.C (1 - s)) (hs : ∃ r, M'.S s = M.S s ++ r) : MsgOk M' s m := by
  obtain ⟨r, hr⟩ := hs
  refine ⟨h.frm, h.to, h.epoch, ⟨h.ack.1, by have := h.ack.2; omega⟩, h.body.imp (fun ⟨a, b, c, d⟩ => ⟨a, b, ?_, ?_⟩) id⟩
  · rw [hr, List.length_append]; omega
  · rw [hr, List.getElem?_append_left (by omega)]; exact d
theorem GramOk.mono {M M' : WM} {s : Nat} {x : GS} (h : GramOk M s x) (hc : M.C (1 - s) ≤ M'.C (1 - s)) (hs : ∃ r, M'.S s = M.S s ++ r) : GramOk M' s x :=
  h.imp (fun ⟨a, m, b, c⟩ => ⟨a, m, b, c.mono hc hs⟩) id

/-- what Recv needs to know -/
theorem msg_facts {n : Nat} {M : WM} {s : Nat} {m : MS} (hs : s < 2) (h : Inv n M) (hm : MsgOk M s m) :
    GoodM m ∧ wrongE (M.E (1 - s)) m = 0 ∧ (comes (M.E (1 - s)) m = true → M.C s < (M.S s).length ∧ (M.S s)[M.C s]? = some m.load) ∧ (m.kind = 1 ∨ m.kind = 2) := by
  have h0 := h.side (1 - s) (by omega)
  have h1 := h.side s hs
  have hsm := h.small s hs
  have hsm2 := h.small (1 - s) (by omega)
  have hfew := h.few
  have hl : m.load.length ≤ 1200 := by
    rcases hm.body with ⟨-, -, -, hx⟩ | ⟨-, -, hx⟩
    · exact h1.loads _ (List.mem_of_getElem? hx)
    · rw [hx]; simp
  have hack := hm.ack
  have hle2 := h0.le
  have hle1 := h1.le
  have hsum := h0.sum
  have hk : (m.kind = 1 ∧ 1 ≤ m.seq ∧ m.seq ≤ (M.S s).length) ∨ (m.kind = 2 ∧ m.seq = 0 ∧ m.load.length = 0) := by
    rcases hm.body with ⟨a, b, c, -⟩ | ⟨a, b, c⟩
    · exact .inl ⟨a, b, c⟩
    · exact .inr ⟨a, b, by rw [c]; rfl⟩
  refine ⟨⟨?_, ?_, ?_, ?_, ?_, ?_, hl⟩, ?_, ?_, ?_⟩
  · rw [hm.frm]; omega
  · rw [hm.to]; omega
  · omega
  · rw [hm.epoch]; omega
  · omega
  · omega
  · unfold wrongE wrongN
    rw [h0.node, h0.peer, h0.epoch, hm.frm, hm.to, hm.epoch]
    have hsc : ((1 - s : Nat) : Int) = 1 - (s : Int) := by omega
    rw [if_neg (by omega), if_neg (by omega), if_neg (by omega), if_neg (by omega), if_neg (by omega), if_neg (by omega), if_neg (by omega), if_neg (by omega), if_neg (by omega), if_neg (by omega)]
  · intro hc
    unfold comes at hc
    simp only [decide_eq_true_eq] at hc
    obtain ⟨-, hk2, hseq⟩ := hc
    have hcame := h1.came
    rcases hm.body with ⟨a, b, c, d⟩ | ⟨a, -, -⟩
    · refine ⟨by omega, ?_⟩
      rw [← d]
      congr 1
      omega
    · omega
  · omega

theorem other {s t : Nat} (hs : s < 2) (ht : t < 2) (h : t ≠ s) : t = 1 - s ∧ 1 - t = s := by omega

/-! ### each deed keeps what holds -/
theorem EndOk.fineOk {M : WM} {s n : Nat} (h : EndOk M s) (h' : EndOk M (1 - s)) (_hs : s < 2) (hn : (M.S s).length ≤ n) (hn' : (M.S (1 - s)).length ≤ n) (hf : n ≤ 2000) : (M.E s).Ok := by
  have := h.sum
  have hb := h.base
  have hc : (M.E s).came = M.C (1 - s) := by
    have := h'.came
    rwa [show 1 - (1 - s) = s by omega] at this
  have hle := h'.le
  refine ⟨by rw [h.epoch]; decide, hb, by omega, h.len, by omega, by omega, fun x hx => ?_⟩
  rw [h.opened] at hx
  exact h.loads x (List.mem_of_mem_drop hx)
theorem Inv.ok {n : Nat} {M : WM} {s : Nat} (h : Inv n M) (hs : s < 2) : (M.E s).Ok := (h.side s hs).fineOk (h.side (1 - s) (by omega)) hs (h.small s hs) (h.small _ (by omega)) h.few

theorem inv_send {n : Nat} {M : WM} {s : Nat} (l : List UInt8) (hs : s < 2) (h : Inv n M) (hn : n + 1 ≤ 2000) : Inv (n + 1) (sendM M s l) := by
  unfold sendM
  by_cases hz : sendErr (M.E s) l = 0
  · rw [if_pos hz]
    have h8 : ¬ 1200 < l.length ∧ ¬ (M.E s).opened.length = 8 := by
      unfold sendErr at hz
      split at hz
      · omega
      · split at hz
        · omega
        · omega
    have hst : sendTo (M.E s) l = { M.E s with opened := (M.E s).opened ++ [l] } := by unfold sendTo; rw [if_neg h8.1, if_neg h8.2]
    rw [hst]
    refine ⟨fun t ht => ?_, fun t ht => ?_, hn⟩
    · by_cases hts : t = s
      · subst hts
        have e := h.side t ht
        have hlen := e.len
        have hsum := e.sum
        have hb := e.base
        refine ⟨?_, ?_, ?_, ?_, ?_, ?_, ?_, ?_, ?_, ?_, ?_, ?_, e.bag⟩ <;> simp only [upd_self]
        · exact e.node
        · exact e.peer
        · exact e.epoch
        · exact e.base
        · simp; omega
        · rw [List.drop_append_of_le_length (by omega), ← e.opened]
        · simp; omega
        · rw [upd_ne _ _ (by omega)]; exact e.came
        · exact e.acked
        · have := e.le; simp; omega
        · intro x hx
          rcases List.mem_append.1 hx with hx | hx
          · exact e.loads x hx
          · simp at hx; subst hx; omega
        · intro x hx
          exact (e.grams x hx).mono (Nat.le_refl _) ⟨[l], by simp [upd_self]⟩
      · obtain ⟨e1, e2⟩ := other hs ht hts
        have e := h.side t ht
        refine ⟨?_, ?_, ?_, ?_, ?_, ?_, ?_, ?_, ?_, ?_, ?_, ?_, e.bag⟩ <;> simp only [upd_ne _ _ hts]
        · exact e.node
        · exact e.peer
        · exact e.epoch
        · exact e.base
        · exact e.sum
        · exact e.opened
        · exact e.len
        · rw [e2, upd_self]
          have := e.came
          rwa [e2] at this
        · exact e.acked
        · exact e.le
        · exact e.loads
        · intro x hx
          exact (e.grams x hx).mono (Nat.le_refl _) ⟨[], by simp [upd_ne _ _ hts]⟩
    · by_cases hts : t = s
      · subst hts
        have := h.small t ht
        simp only [upd_self, List.length_append, List.length_singleton]; omega
      · have := h.small t ht
        simp only [upd_ne _ _ hts]; omega
  · rw [if_neg hz]
    exact ⟨h.side, fun t ht => Nat.le_trans (h.small t ht) (Nat.le_succ _), hn⟩

theorem Inv.more {n k : Nat} {M : WM} (h : Inv n M) (hk : n ≤ k) (hf : k ≤ 2000) : Inv k M := ⟨h.side, fun t ht => Nat.le_trans (h.small t ht) hk, hf⟩
/-- the bag of a side alone is another -/
theorem inv_bag {n : Nat} {M : WM} {s : Nat} (gs : List GS) (hs : s < 2) (h : Inv n M) (hg : ∀ x ∈ gs, GramOk M s x) (hl : gs.length ≤ 256) : Inv n { M with G := upd M.G s gs } := by
  refine ⟨fun t ht => ?_, h.small, h.few⟩
  have e := h.side t ht
  by_cases hts : t = s
  · subst hts
    refine ⟨e.node, e.peer, e.epoch, e.base, e.sum, e.opened, e.len, e.came, e.acked, e.le, e.loads, ?_, ?_⟩ <;> simp only [upd_self]
    · intro x hx
      exact (hg x hx).mono (Nat.le_refl _) ⟨[], by simp⟩
    · exact hl
  · refine ⟨e.node, e.peer, e.epoch, e.base, e.sum, e.opened, e.len, e.came, e.acked, e.le, e.loads, ?_, ?_⟩ <;> simp only [upd_ne _ _ hts]
    · intro x hx
      exact (e.grams x hx).mono (Nat.le_refl _) ⟨[], by simp⟩
    · exact e.bag
theorem inv_take {n : Nat} {M : WM} {s k : Nat} (hs : s < 2) (h : Inv n M) : Inv n (takeM M s k) := by
  refine inv_bag _ hs h (fun x hx => ?_) ?_
  · rcases List.mem_append.1 hx with hx | hx
    · exact (h.side s hs).grams x (List.mem_of_mem_take hx)
    · exact (h.side s hs).grams x (List.mem_of_mem_drop hx)
  · have := (h.side s hs).bag
    simp; omega
theorem GramOk.len {n : Nat} {M : WM} {s : Nat} {x : GS} (hs : s < 2) (h : Inv n M) (hx : GramOk M s x) : x.bytes.length ≤ 2000 ∧ (x.spoilt = false → 0 < x.bytes.length) := by
  rcases hx with ⟨-, m, rfl, hm⟩ | ⟨h1, -, h2⟩
  · have hg := (msg_facts hs h hm).1.load
    have h1 := sealL_length (packB m)
    have h2 := packB_length m
    show (sealL (packB m)).length ≤ 2000 ∧ _
    refine ⟨by omega, fun _ => ?_⟩
    show 0 < (sealL (packB m)).length
    omega
  · exact ⟨h2, fun h => by rw [h1] at h; cases h⟩
theorem inv_turn {n : Nat} {M : WM} {s k i : Nat} {y : UInt8} (hs : s < 2) (h : Inv n M) (hk : k < (M.G s).length) (hsp : (M.G s)[k].spoilt = false) (hi : i < (M.G s)[k].bytes.length) (hy : y ≠ 0) :
    Inv n { M with G := upd M.G s ((M.G s).set k ⟨turnL (M.G s)[k].bytes i y, true⟩) } := by
  refine inv_bag _ hs h (fun x hx => ?_) (by simpa using (h.side s hs).bag)
  have hg := (h.side s hs).grams _ (List.getElem_mem hk)
  have hlen := (hg.len hs h).1
  rcases List.mem_or_eq_of_mem_set hx with hx | rfl
  · exact (h.side s hs).grams x hx
  · refine .inr ⟨rfl, ?_, by rw [turnL_length]; exact hlen⟩
    rcases hg with ⟨-, m, hm, -⟩ | ⟨h1, -, -⟩
    · rw [hm] at hi ⊢
      exact seal_turned _ i y hi hy
    · rw [hsp] at h1; cases h1
theorem inv_twice {n : Nat} {M : WM} {s k : Nat} (hs : s < 2) (h : Inv n M) (hk : k < (M.G s).length) (hl : (M.G s).length < 256) : Inv n { M with G := upd M.G s (M.G s ++ [(M.G s)[k]]) } := by
  refine inv_bag _ hs h (fun x hx => ?_) (by simp; omega)
  rcases List.mem_append.1 hx with hx | hx
  · exact (h.side s hs).grams x hx
  · simp at hx; subst hx
    exact (h.side s hs).grams _ (List.getElem_mem hk)

theorem putMs_mem : ∀ (ms : List MS) (gs : List GS) (x : GS), x ∈ putMs gs ms → x ∈ gs ∨ ∃ m ∈ ms, x = gramOf m
  | [], gs, x, h => .inl h
  | m :: ms, gs, x, h => by
    rcases putMs_mem ms (putG gs m) x h with h | ⟨m', h1, h2⟩
    · unfold putG at h
      split at h
      · rcases List.mem_append.1 h with h | h
        · exact .inl h
        · simp at h; exact .inr ⟨m, by simp, h⟩
      · exact .inl h
    · exact .inr ⟨m', by simp [h1], h2⟩
theorem putMs_len : ∀ (ms : List MS) (gs : List GS), gs.length ≤ 256 → (putMs gs ms).length ≤ 256
  | [], gs, h => h
  | m :: ms, gs, h => putMs_len ms (putG gs m) (by
    unfold putG
    split
    · rw [List.length_append, List.length_singleton]; omega
    · exact h)
theorem step_msgs {n : Nat} {M : WM} {s : Nat} (hs : s < 2) (h : Inv n M) : ∀ m ∈ stepMs (M.E s), MsgOk M s m := by
  have e := h.side s hs
  have e' := h.side (1 - s) (by omega)
  have hc : (M.E s).came = M.C (1 - s) := by
    have := e'.came
    rwa [show 1 - (1 - s) = s by omega] at this
  intro m hm
  unfold stepMs at hm
  split at hm
  · split at hm
    · simp only [List.mem_singleton] at hm
      subst hm
      refine ⟨e.node, e.peer, e.epoch, ?_, .inr ⟨rfl, rfl, rfl⟩⟩
      show 0 ≤ (M.E s).came ∧ (M.E s).came ≤ _
      omega
    · cases hm
  · obtain ⟨i, hi, rfl⟩ := List.mem_map.1 hm
    rw [List.mem_range] at hi
    have hsum := e.sum
    have hb := e.base
    refine ⟨e.node, e.peer, e.epoch, ?_, .inl ⟨rfl, ?_, ?_, ?_⟩⟩
    · show 0 ≤ (M.E s).came ∧ (M.E s).came ≤ _
      omega
    · show 1 ≤ (M.E s).base + i + 1
      omega
    · show (M.E s).base + i + 1 ≤ _
      omega
    · show (M.S s)[((M.E s).base + i + 1).toNat - 1]? = some ((M.E s).opened.getD i [])
      have h2 : ((M.E s).base + i + 1).toNat - 1 = (M.E s).base.toNat + i := by omega
      rw [h2, ← List.getElem?_drop, ← e.opened]
      simp [List.getD, hi]
theorem inv_step {n : Nat} {M : WM} {s : Nat} (hs : s < 2) (h : Inv n M) : Inv n (stepM M s) := by
  have hms := step_msgs hs h
  have e0 := h.side s hs
  have hI := inv_bag (putMs (M.G s) (stepMs (M.E s))) hs h (fun x hx => by
    rcases putMs_mem _ _ _ hx with hx | ⟨m, h1, rfl⟩
    · exact e0.grams x hx
    · exact .inl ⟨rfl, m, rfl, hms m h1⟩) (putMs_len _ _ e0.bag)
  refine ⟨fun t ht => ?_, hI.small, hI.few⟩
  have e := hI.side t ht
  have hE : ∀ t, (upd M.E s { M.E s with owes := false } t).node = (M.E t).node ∧ (upd M.E s { M.E s with owes := false } t).peer = (M.E t).peer ∧ (upd M.E s { M.E s with owes := false } t).epoch = (M.E t).epoch ∧ (upd M.E s { M.E s with owes := false } t).base = (M.E t).base ∧ (upd M.E s { M.E s with owes := false } t).opened = (M.E t).opened ∧ (upd M.E s { M.E s with owes := false } t).came = (M.E t).came := by
    intro t
    by_cases hts : t = s
    · subst hts; rw [upd_self]; exact ⟨rfl, rfl, rfl, rfl, rfl, rfl⟩
    · rw [upd_ne _ _ hts]; exact ⟨rfl, rfl, rfl, rfl, rfl, rfl⟩
  obtain ⟨f1, f2, f3, f4, f5, -⟩ := hE t
  have f6 := (hE (1 - t)).2.2.2.2.2
  unfold stepM
  refine ⟨by simp only [f1]; exact e.node, by simp only [f2]; exact e.peer, by simp only [f3]; exact e.epoch, by simp only [f4]; exact e.base, by simp only [f4, f5]; exact e.sum, by simp only [f4, f5]; exact e.opened, by simp only [f5]; exact e.len, by simp only [f6]; exact e.came, by simp only [f4]; exact e.acked, e.le, e.loads, fun x hx => (e.grams x hx).mono (Nat.le_refl _) ⟨[], by simp⟩, e.bag⟩

/-- a load or an ack has come to the other end -/
theorem recv_parts {n : Nat} {M : WM} {s : Nat} {m : MS} (hs : s < 2) (h : Inv n M) (hm : MsgOk M s m) :
    let E := M.E (1 - s)
    let E' := recvTo E m
    E'.node = E.node ∧ E'.peer = E.peer ∧ E'.epoch = E.epoch ∧ E'.base = (if E.base < m.ack then m.ack else E.base) ∧ E'.opened = (if E.base < m.ack then E.opened.drop (m.ack - E.base).toNat else E.opened) ∧
    E'.came = E.came + (if comes E m then 1 else 0) ∧ E'.owes = (if m.kind = 1 then true else E.owes) := by
  intro E E'
  have hw := (msg_facts hs h hm).2.1
  have hk := (msg_facts hs h hm).2.2.2
  have hT : ∀ E : ES, (takeTo E m.ack).node = E.node ∧ (takeTo E m.ack).peer = E.peer ∧ (takeTo E m.ack).epoch = E.epoch ∧ (takeTo E m.ack).base = (if E.base < m.ack then m.ack else E.base) ∧ (takeTo E m.ack).opened = (if E.base < m.ack then E.opened.drop (m.ack - E.base).toNat else E.opened) ∧ (takeTo E m.ack).came = E.came ∧ (takeTo E m.ack).owes = E.owes := by
    intro E
    unfold takeTo
    split
    · exact ⟨rfl, rfl, rfl, rfl, rfl, rfl, rfl⟩
    · exact ⟨rfl, rfl, rfl, rfl, rfl, rfl, rfl⟩
  obtain ⟨t1, t2, t3, t4, t5, t6, t7⟩ := hT E
  have hw' : ¬ wrongE E m ≠ 0 := by simpa using hw
  show (recvTo E m).node = E.node ∧ _
  unfold E'
  unfold recvTo comes
  rw [if_neg hw']
  by_cases hk2 : m.kind = 2
  · rw [if_pos hk2]
    refine ⟨t1, t2, t3, t4, t5, ?_, ?_⟩
    · rw [t6, if_neg (by simp [hk2])]; omega
    · rw [t7, if_neg (by omega)]
  · rw [if_neg hk2]
    by_cases hq : m.seq ≠ E.came + 1
    · rw [if_pos hq]
      refine ⟨t1, t2, t3, t4, t5, ?_, ?_⟩
      · rw [if_neg (by simp only [decide_eq_true_eq]; intro hx; exact hq hx.2.2)]
        show (takeTo E m.ack).came = _
        rw [t6]; omega
      · rw [if_pos (by omega)]
    · rw [if_neg hq]
      refine ⟨t1, t2, t3, t4, t5, ?_, ?_⟩
      · rw [if_pos (by simp only [decide_eq_true_eq]; exact ⟨by simpa using hw', hk2, by omega⟩)]
      · rw [if_pos (by omega)]
theorem inv_recv {n : Nat} {M : WM} {s : Nat} {m : MS} (hs : s < 2) (h : Inv n M) (hm : MsgOk M s m) : Inv n (recvM M s m) := by
  obtain ⟨p1, p2, p3, p4, p5, p6, p7⟩ := recv_parts hs h hm
  have hf := (msg_facts hs h hm).2.2.1
  refine ⟨fun t ht => ?_, h.small, h.few⟩
  have e := h.side t ht
  have hack := hm.ack
  by_cases hts : t = s
  · subst hts
    have hne : t ≠ 1 - t := by omega
    have hCle : M.C t ≤ upd M.C t (if comes (M.E (1 - t)) m then M.C t + 1 else M.C t) t := by rw [upd_self]; split <;> omega
    unfold recvM
    refine ⟨?_, ?_, ?_, ?_, ?_, ?_, ?_, ?_, ?_, ?_, e.loads, ?_, e.bag⟩ <;> simp only [upd_ne _ _ hne]
    · exact e.node
    · exact e.peer
    · exact e.epoch
    · exact e.base
    · exact e.sum
    · exact e.opened
    · exact e.len
    · rw [upd_self, upd_self, p6, e.came]
      split <;> simp
    · have := e.acked; omega
    · rw [upd_self]
      split
      · rename_i hc
        have := (hf hc).1
        omega
      · exact e.le
    · intro x hx
      exact (e.grams x hx).mono (by show M.C (1 - t) ≤ upd M.C t _ (1 - t); rw [upd_ne _ _ (by omega)]; exact Nat.le_refl _) ⟨[], by simp⟩
  · obtain ⟨e1, e2⟩ := other hs ht hts
    rw [← e1] at p1 p2 p3 p4 p5 p6 p7 hack
    have hsum := e.sum
    have hb := e.base
    have hle := e.le
    have hac := e.acked
    unfold recvM
    refine ⟨?_, ?_, ?_, ?_, ?_, ?_, ?_, ?_, ?_, ?_, e.loads, ?_, e.bag⟩ <;> simp only [← e1, upd_self, upd_ne _ _ hts]
    · rw [p1]; exact e.node
    · rw [p2]; exact e.peer
    · rw [p3]; exact e.epoch
    · rw [p4]; split <;> omega
    · rw [p4, p5]
      split
      · rw [List.length_drop]; omega
      · exact e.sum
    · rw [p4, p5]
      split
      · rw [e.opened, List.drop_drop]
        congr 1
        omega
      · exact e.opened
    · rw [p5]
      have := e.len
      split
      · rw [List.length_drop]; omega
      · exact this
    · rw [e2, upd_ne _ _ (fun h => hts h.symm)]
      have := e.came
      rwa [e2] at this
    · rw [p4]; split <;> omega
    · exact e.le
    · intro x hx
      refine (e.grams x hx).mono ?_ ⟨[], by simp⟩
      show M.C (1 - t) ≤ upd M.C s _ (1 - t)
      rw [e2, upd_self]
      split <;> omega

end Go.Proofs.Ytjlgolkippleaaa
