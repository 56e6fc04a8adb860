/-
  The world of the laws: deliver.
-/
import Derived.Test.YtjlgolkippleaaaNetW
namespace Go.Proofs.Ytjlgolkippleaaa
open Go.RowKit

def DelivPost (B W : Nat) (p : Nat → Nat) (M : WM) (s : Nat) (i : Int) (w : World) (e : Ending) (w' : World) : Prop := ∃ M', Deliv M s i M' ∧ NetPost B W p M' w e w'
set_option maxRecDepth 100000 in
set_option maxHeartbeats 4000000 in
theorem ndeliver_none (w : World) (B W n s : Nat) (i : Int) (L : Lay) (M : WM) (hs : s < 2) (_hI : Inv n M) (h : NetAt B w W L M) (hi : ¬ (0 ≤ i ∧ i < (M.G s).length)) :
    Calls Try.prog 12 #[.pointer (some ⟨W, 0, none⟩), .int .i64 (s : Nat), .int .i64 i] w (DelivPost B W L.p M s i w) := by
  have hb := h.bags s hs
  obtain ⟨aog, capg, hvg⟩ := hb.row.shape
  have HT := btake_none w W (2 + s) aog (M.G s).length capg i (by rw [h.cBag hs, hvg]) hi
  replace HT := hid HT
  have HU := hid (unpack_bad w B (.slice none 0 0) [] (Blk.nil B w) (by simp) openBad_nil)
  have hend : Hid (∀ w', Keep Nil w w' → DelivPost B W L.p M s i w (.returned (.tuple #[])) w') := hid (fun w' k => ⟨M, .none hi, rfl, L, rfl, h.nil k, k.mono (fun _ _ e => e.elim)⟩)
  have hsI : ((s : Nat) : Int) < 2 := by omega
  clear h hb hvg hi
  go_enter Try.func12, Try.ntmps12
  go_wp2_with fail
  refine HT.out.mono ?_
  rintro e w1 ⟨rfl, rfl⟩
  go_wp2_with fail
  refine HU.out.mono ?_
  rintro e w1 ⟨rfl, k1⟩
  replace k1 := hid k1
  unfold zeroM
  go_wp2
  exact bodyPost_ret (v := .tuple #[]) (by simp [results, Try.results12, go_sem]) rfl (hend.out _ (k1.out.alloc _))

set_option maxRecDepth 100000 in
set_option maxHeartbeats 4000000 in
theorem ndeliver_bad (w : World) (B W n s k : Nat) (L : Lay) (M : WM) (hs : s < 2) (hI : Inv n M) (h : NetAt B w W L M) (hk : k < (M.G s).length) (hsp : (M.G s)[k].spoilt = true) (hbad : openBad (M.G s)[k].bytes) :
    Calls Try.prog 12 #[.pointer (some ⟨W, 0, none⟩), .int .i64 (s : Nat), .int .i64 (k : Nat)] w (DelivPost B W L.p M s (k : Nat) w) := by
  have hb := h.bags s hs
  have hgl := ((hI.side s hs).grams _ (List.getElem_mem hk)).len hs hI
  have HT := hid (btake_some w B W (2 + s) (L.g s) k (L.v s) (M.G s) (L.us s) hb (h.cBag hs) (h.free _) ⟨_, h.block⟩ h.BW hk (hI.side s hs).bag)
  have HU := hid (fun w1 v (hv : Blk B w1 v (M.G s)[k].bytes) => unpack_bad w1 B v _ hv (by omega) hbad)
  have hend : Hid (∀ w1 w', BagTo B W (2 + s) ((M.G s).take k ++ (M.G s).drop (k + 1)) w w1 → Keep Nil w1 w' → DelivPost B W L.p M s (k : Nat) w (.returned (.tuple #[])) w') := hid (fun w1 w' hbg kk => by
    obtain ⟨L', e, hN, k2⟩ := h.bagged hs hbg
    exact ⟨_, .bad k hk rfl hsp, rfl, L', e, hN.nil kk, (k2.mono (fun i _ e' => by have e2 : i = W := e'; rw [e2]; exact h.BW)).trans (kk.mono (fun _ _ e => e.elim))⟩)
  have hsI : ((s : Nat) : Int) < 2 := by omega
  rw [hsp] at HT
  clear h hb hbad hgl
  go_enter Try.func12, Try.ntmps12
  go_wp2_with fail
  refine HT.out.mono ?_
  rintro e w1 ⟨u, rfl, hu, hbg⟩
  obtain ⟨-, aou, capu, rfl, -⟩ := id hu
  have HU1 := hid (HU.out w1 _ hu)
  replace hbg := hid hbg
  clear hu
  go_wp2_with fail
  refine HU1.out.mono ?_
  rintro e w2 ⟨rfl, k2⟩
  replace k2 := hid k2
  unfold zeroM
  go_wp2
  exact bodyPost_ret (v := .tuple #[]) (by simp [results, Try.results12, go_sem]) rfl (hend.out _ _ hbg.out (k2.out.alloc _))

set_option maxRecDepth 100000 in
set_option maxHeartbeats 8000000 in
theorem ndeliver_good (w : World) (B W n s k : Nat) (L : Lay) (M : WM) (m : MS) (hs : s < 2) (hI : Inv n M) (h : NetAt B w W L M) (hk : k < (M.G s).length) (hgm : (M.G s)[k] = gramOf m) (hm : MsgOk M s m) :
    Calls Try.prog 12 #[.pointer (some ⟨W, 0, none⟩), .int .i64 (s : Nat), .int .i64 (k : Nat)] w (DelivPost B W L.p M s (k : Nat) w) := by
  have hb := h.bags s hs
  obtain ⟨hg, hw0, hcm, -⟩ := msg_facts hs hI hm
  have HT := btake_some w B W (2 + s) (L.g s) k (L.v s) (M.G s) (L.us s) hb (h.cBag hs) (h.free _) ⟨_, h.block⟩ h.BW hk (hI.side s hs).bag
  rw [hgm] at HT
  have hok := hI.ok (s := 1 - s) (by omega)
  have hdl := fun M' (e : M' = recvM (takeM M s k) s m) => (show Deliv M s (k : Nat) M' from e ▸ .good k hk m rfl hgm hm)
  have hs0 : s < 2 := hs
  obtain ⟨r, hr, hr2⟩ : ∃ r : Nat, 1 - s = r ∧ r < 2 := ⟨_, rfl, by omega⟩
  have hrw : IntKind.i64.wrap (1 - ((s : Nat) : Int)) = (r : Int) := by rw [show (1 : Int) - ((s : Nat) : Int) = (r : Int) by omega]; exact IntWalk.i64_in _ (by omega)
  rw [hr] at hw0 hcm hok
  replace HT := hid HT
  have HD := hid hdl
  have HG := hid hg
  have HOK := hid hok
  have HCM := hid hcm
  have HB0 : Hid (∀ w1, BagTo B W (2 + s) ((M.G s).take k ++ (M.G s).drop (k + 1)) w w1 → ∃ L', L'.p = L.p ∧ NetAt B w1 W L' (takeM M s k) ∧ Keep (From B) w w1) := hid (fun w1 hbg => by
    obtain ⟨L', e, hN, k2⟩ := h.bagged hs hbg
    exact ⟨L', e, hN, k2.mono (fun i _ e' => by have e2 : i = W := e'; rw [e2]; exact h.BW)⟩)
  have hsI : ((s : Nat) : Int) < 2 := by omega
  have hrI : ((r : Nat) : Int) < 2 := by omega
  have HS2 := hid hI
  replace hr := hid hr
  replace hw0 := hid hw0
  clear h hb hg hok hcm hdl hgm hm hI
  go_enter Try.func12, Try.ntmps12
  go_wp2_with fail
  refine HT.out.mono ?_
  rintro e w1 ⟨u, rfl, hu, hbg⟩
  obtain ⟨-, aou, capu, rfl, -⟩ := id hu
  obtain ⟨L1, hL1, hN1, k1⟩ := HB0.out w1 hbg
  have HU1 := unpack_good w1 B _ m (Nat.le_trans hN1.BW (Nat.le_of_lt hN1.lt)) hu HG.out
  unfold mV at HU1
  replace HU1 := hid HU1
  have HN1 := hid hN1
  have K1 := hid k1
  replace hL1 := hid hL1
  clear hu hbg hN1 k1 HT HB0
  generalize (gramOf m).spoilt = gsp at *
  generalize (gramOf m).bytes.length = gbl at *
  go_wp2_with fail
  refine HU1.out.mono ?_
  rintro e w2 ⟨q2, u2, rfl, r2, hq2, k2⟩
  obtain ⟨ao2, cap2, rfl⟩ := r2.shape
  have HN2 := hid (HN1.out.nil k2)
  have K2 := hid (K1.out.trans (k2.mono (fun _ _ e => e.elim)))
  have V2 := hid (Bts.of_row (B := B) r2)
  clear hq2 k2 r2 HN1 K1 HU1
  have Z3 := heap_new w2 (.cells #[.int .i64 m.frm, .int .i64 m.to, .int .i64 m.kind, .int .i64 m.epoch, .int .i64 m.seq, .int .i64 m.ack, .slice ao2 m.load.length cap2] 47)
  have N3 := HN2.out.nil ((Keep.refl w2).alloc (.cells #[.int .i64 m.frm, .int .i64 m.to, .int .i64 m.kind, .int .i64 m.epoch, .int .i64 m.seq, .int .i64 m.ack, .slice ao2 m.load.length cap2] 47))
  have V3 := V2.out.alloc (.cells #[.int .i64 m.frm, .int .i64 m.to, .int .i64 m.kind, .int .i64 m.epoch, .int .i64 m.seq, .int .i64 m.ack, .slice ao2 m.load.length cap2] 47)
  have K3 := K2.out.trans (((Keep.refl (S := Nil) w2).alloc (.cells #[.int .i64 m.frm, .int .i64 m.to, .int .i64 m.kind, .int .i64 m.epoch, .int .i64 m.seq, .int .i64 m.ack, .slice ao2 m.load.length cap2] 47)).mono (fun _ _ e => e.elim))
  have hzW : W ≠ w2.heap.size := by have := HN2.out.lt; omega
  have hzp : w2.heap.size ≠ L1.p r ∧ w2.heap.size ≠ L1.q r := by have := (HN2.out.ends r hr2).lt; omega
  have hWpq := HN2.out.Wp r hr2
  replace Z3 := hid Z3
  replace N3 := hid N3
  replace V3 := hid V3
  replace K3 := hid K3
  clear HN2 V2 K2
  go_wp2_with fail
  generalize w2.alloc (.cells #[.int .i64 m.frm, .int .i64 m.to, .int .i64 m.kind, .int .i64 m.epoch, .int .i64 m.seq, .int .i64 m.ack, .slice ao2 m.load.length cap2] 47) = w3 at *
  generalize w2.heap.size = z at *
  have rc := recv_some w3.drew B (L1.p r) (L1.q r) ((takeM M s k).E r) m _ ((N3.out.ends r hr2).drew) HOK.out V3.out.drew
  unfold mV RecvPost at rc
  have hME : (takeM M s k).E = M.E := rfl
  rw [hME, hw0.out] at rc
  replace rc := hid rc
  have x0 : w3.drew.cell? ⟨W, r, none⟩ = some (.pointer (some ⟨L1.p r, 0, none⟩)) := N3.out.cEnd hr2
  obtain ⟨y0, y1, y2, y3, y4, y5, y6⟩ : w3.drew.cell? ⟨z, 0, none⟩ = some (.int .i64 m.frm) ∧ w3.drew.cell? ⟨z, 1, none⟩ = some (.int .i64 m.to) ∧ w3.drew.cell? ⟨z, 2, none⟩ = some (.int .i64 m.kind) ∧ w3.drew.cell? ⟨z, 3, none⟩ = some (.int .i64 m.epoch) ∧ w3.drew.cell? ⟨z, 4, none⟩ = some (.int .i64 m.seq) ∧ w3.drew.cell? ⟨z, 5, none⟩ = some (.int .i64 m.ack) ∧ w3.drew.cell? ⟨z, 6, none⟩ = some (.slice ao2 m.load.length cap2) := by
    have k := row_cell Z3.out
    exact ⟨k 0, k 1, k 2, k 3, k 4, k 5, k 6⟩
  have HnW : Hid (¬ Two (L1.p r) (L1.q r) W) := hid (fun e => by rcases e with e | e; exact hWpq.1 e; exact hWpq.2 e)
  have Hnz : Hid (¬ Two (L1.p r) (L1.q r) z) := hid (fun e => by rcases e with e | e; exact hzp.1 e; exact hzp.2 e)
  clear hWpq hzp
  replace hzW := hid hzW
  go_region_held3 (fun w' => w'.cell? ⟨W, r, none⟩ = some (.pointer (some ⟨L1.p r, 0, none⟩)) ∧ w'.cell? ⟨z, 0, none⟩ = some (.int .i64 m.frm) ∧ w'.cell? ⟨z, 1, none⟩ = some (.int .i64 m.to) ∧ w'.cell? ⟨z, 2, none⟩ = some (.int .i64 m.kind) ∧ w'.cell? ⟨z, 3, none⟩ = some (.int .i64 m.epoch) ∧ w'.cell? ⟨z, 4, none⟩ = some (.int .i64 m.seq) ∧ w'.cell? ⟨z, 5, none⟩ = some (.int .i64 m.ack) ∧ w'.cell? ⟨z, 6, none⟩ = some (.slice ao2 m.load.length cap2))
    (first | (with_reducible exact ⟨x0, y0, y1, y2, y3, y4, y5, y6⟩) | (with_reducible exact ⟨e0, z0, z1, z2, z3, z4, z5, z6⟩))
    ((first | (go_at_call 20; refine rc.out.mono ?_; rintro e w4 ⟨v4, rfl, hv4, he4, k4⟩; have e0 := k4.cell x0 HnW.out; have z0 := k4.cell y0 Hnz.out; have z1 := k4.cell y1 Hnz.out; have z2 := k4.cell y2 Hnz.out; have z3 := k4.cell y3 Hnz.out; have z4 := k4.cell y4 Hnz.out; have z5 := k4.cell y5 Hnz.out; have z6 := k4.cell y6 Hnz.out; have V4 := hid hv4; have E4 := hid he4; have KK4 := hid k4; clear hv4 he4 k4)))
  have N4 := hid (N3.out.drew.turned hr2 KK4.out E4.out (.inl rfl))
  have K4 := hid (K3.out.drew.trans (KK4.out.mono (fun i _ e => by rcases e with e | e; rw [e]; exact (N3.out.ends r hr2).pB; rw [e]; exact (N3.out.ends r hr2).qB)))
  clear x0 y0 y1 y2 y3 y4 y5 y6 e0 z0 z1 z2 z3 z4 z5 z6 rc E4 KK4 N3 V3 K3 Z3 HnW Hnz
  obtain ⟨L4, hL4, M2, hM2, hN4⟩ : ∃ L4, L4.p = L.p ∧ ∃ M2 : WM, (M2 = { takeM M s k with E := upd (takeM M s k).E r (recvTo (M.E r) m) }) ∧ NetAt B w4 W L4 M2 := ⟨_, hL1.out, _, rfl, N4.out⟩
  have hrec : Hid (∀ c, c = (if comes (M.E r) m then M.C s + 1 else M.C s) → recvM (takeM M s k) s m = { M2 with C := upd M2.C s c }) := hid (by
    intro c e
    subst e
    rw [hM2]
    unfold recvM
    rw [hr.out]
    rfl)
  have hMS : M2.S = M.S := by rw [hM2]; rfl
  have hMC : M2.C = M.C := by rw [hM2]; rfl
  replace hMS := hid hMS
  replace hMC := hid hMC
  have N5 := hid hN4
  replace hL4 := hid hL4
  clear N4 hN4 hM2
  have x8 := N5.out.cBad
  have f8 := N5.out.free 8
  obtain ⟨-, ao4, cap4, rfl, -⟩ : True ∧ ∃ ao cap, v4 = .slice ao (if comes (M.E r) m = true then m.load else []).length cap ∧ True := by
    obtain ⟨ao, cap, e, -⟩ := V4.out
    exact ⟨trivial, ao, cap, e, trivial⟩
  generalize comes (M.E r) m = cm at *
  cases cm with
  | false =>
    have hfin : Hid (NetPost B W L.p (recvM (takeM M s k) s m) w (.returned (.tuple #[])) ((w4.setCell ⟨W, 8, none⟩ (.bool false)).setCell ⟨W, 8, none⟩ (.bool false))) := hid (by
      have hN := N5.out.bad.bad
      have e : recvM (takeM M s k) s m = M2 := by
        rw [hrec.out (M.C s) rfl]
        have : upd M2.C s (M.C s) = M2.C := by
          funext i
          unfold upd
          split
          · rename_i h; rw [h, hMC.out]
          · rfl
        rw [this]
      rw [e]
      have kS : Keep (From B) w4 ((w4.setCell ⟨W, 8, none⟩ (.bool false)).setCell ⟨W, 8, none⟩ (.bool false)) := ((Keep.refl w4).setCell (S := From B) (p := ⟨W, 8, none⟩) (fun _ => N5.out.BW) _).setCell (S := From B) (p := ⟨W, 8, none⟩) (fun _ => N5.out.BW) _
      exact ⟨rfl, L4, hL4.out, hN, K4.out.trans kS⟩)
    simp only [Bool.false_eq_true, if_false, List.length_nil] at *
    go_wp2
    exact bodyPost_ret (v := .tuple #[]) (by simp [results, Try.results12, go_sem]) rfl ⟨_, HD.out _ rfl, hfin.out⟩
  | true =>
    simp only [if_true] at *
    obtain ⟨hc1, hc2⟩ := HCM.out trivial
    obtain ⟨hr1, hvl, hr2'⟩ := N5.out.sent s hs
    rw [hMS.out] at hr1 hvl hr2'
    obtain ⟨aot, capt, hut⟩ := hr1.shape
    have x4 := N5.out.cSent hs
    rw [hut] at x4 hr1
    have x6 := N5.out.cCame hs
    rw [hMC.out] at x6
    obtain ⟨ul, hul, hub⟩ := hr2' (M.C s) hc1
    have hload : (M.S s)[M.C s] = m.load := by
      rw [List.getElem?_eq_getElem hc1] at hc2
      exact Option.some.inj hc2
    rw [hload] at hub
    obtain ⟨aol, capl, rfl, -⟩ := id hub
    obtain ⟨offt, e1, e2⟩ := hr1.cell (M.C s) (by omega)
    subst e1
    rw [hul] at e2
    have htW : L4.t s ≠ W := by
      intro e
      rcases hr1 with ⟨h0, -⟩ | ⟨_, _, cur, e3, e4, -⟩
      · omega
      · rw [e, N5.out.block] at e4; simp at e4
    have hWt : W ≠ L4.t s := fun e => htW e.symm
    have hs2 : ¬ s = 2 := by omega
    have hd : decide (((M.S s).length : Int) ≤ ((M.C s : Nat) : Int)) = false := by simp; omega
    have hd3 : decide ((M.S s).length ≤ M.C s) = false := by simp; omega
    have hCb : Hid ((M.S s).length ≤ 2000) := hid (by have := HS2.out.small s hs; have := HS2.out.few; omega)
    have kS : Keep (One W) w4 (w4.setCell ⟨W, 8, none⟩ (.bool false)) := (Keep.refl w4).setCell (S := One W) (p := ⟨W, 8, none⟩) (fun _ => rfl) _
    have hsame := same_any (w4.setCell ⟨W, 8, none⟩ (.bool false)) B _ _ _ _ (hub.keep kS N5.out.mutW.1) (V4.out.keep kS N5.out.mutW.1)
    rw [show (m.load == m.load) = true by simp] at hsame
    replace hsame := hid hsame
    have HC1 := hid hc1
    have hwC : IntKind.i64.wrap (((M.C s : Nat) : Int) + 1) = ((M.C s : Nat) : Int) + 1 := IntWalk.i64_in _ (by have := hCb.out; omega)
    clear hr1 hvl hr2' hut hul hub hc2 hload kS
    generalize hcs : M.C s = c at *
    replace hcs := hid hcs
    go_wp2_with fail
    refine hsame.out.mono ?_
    rintro e w5 ⟨rfl, rfl⟩
    have N7 := N5.out.bad.bad
    have K7 : Keep (From B) w ((w4.setCell ⟨W, 8, none⟩ (.bool false)).setCell ⟨W, 8, none⟩ (.bool false)) := K4.out.trans (((Keep.refl w4).setCell (S := From B) (p := ⟨W, 8, none⟩) (fun _ => N5.out.BW) _).setCell (S := From B) (p := ⟨W, 8, none⟩) (fun _ => N5.out.BW) _)
    go_wp2_with fail
    replace N7 := hid N7
    replace K7 := hid K7
    clear hsame x4 x6 x8 f8 e2
    generalize (w4.setCell ⟨W, 8, none⟩ (.bool false)).setCell ⟨W, 8, none⟩ (.bool false) = w7 at *
    have x6 := N7.out.cCame hs
    rw [hMC.out, hcs.out] at x6
    have f6 := N7.out.free (6 + s)
    have hfin : Hid (NetPost B W L.p (recvM (takeM M s k) s m) w (.returned (.tuple #[])) ((w7.setCell ⟨W, 6 + s, none⟩ (.int .i64 ((c + 1 : Nat) : Int))).drew)) := hid (by
      have hN := (N7.out.cameUp s hs (c + 1)).drew
      rw [hrec.out (c + 1) rfl]
      have kS : Keep (From B) w7 (w7.setCell ⟨W, 6 + s, none⟩ (.int .i64 ((c + 1 : Nat) : Int))).drew := ((Keep.refl w7).setCell (S := From B) (p := ⟨W, 6 + s, none⟩) (fun _ => N7.out.BW) _).drew
      exact ⟨rfl, L4, hL4.out, hN, K7.out.trans kS⟩)
    have hfin2 : Hid (NetPost B W L.p (recvM (takeM M s k) s m) w (.returned (.tuple #[])) ((w7.setCell ⟨W, 6 + s, none⟩ (.int .i64 ((c : Int) + 1))).drew)) := hfin
    clear hfin
    go_region
    go_wp2
    exact bodyPost_ret (v := .tuple #[]) (by simp [results, Try.results12, go_sem]) rfl ⟨_, HD.out _ rfl, hfin2.out⟩

theorem ndeliver (w : World) (B W n s : Nat) (i : Int) (L : Lay) (M : WM) (hs : s < 2) (hI : Inv n M) (h : NetAt B w W L M) :
    Calls Try.prog 12 #[.pointer (some ⟨W, 0, none⟩), .int .i64 (s : Nat), .int .i64 i] w (DelivPost B W L.p M s i w) := by
  by_cases hi : 0 ≤ i ∧ i < (M.G s).length
  · obtain ⟨k, rfl⟩ : ∃ k : Nat, i = k := ⟨i.toNat, by omega⟩
    have hk : k < (M.G s).length := by omega
    rcases (hI.side s hs).grams _ (List.getElem_mem hk) with ⟨-, m, h1, h2⟩ | ⟨h1, h2, -⟩
    · exact ndeliver_good w B W n s k L M m hs hI h hk h1 h2
    · exact ndeliver_bad w B W n s k L M hs hI h hk h1 h2
  · exact ndeliver_none w B W n s i L M hs hI h hi
end Go.Proofs.Ytjlgolkippleaaa
