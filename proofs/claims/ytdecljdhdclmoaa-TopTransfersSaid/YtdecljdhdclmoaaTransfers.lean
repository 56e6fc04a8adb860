/-
  TopTransfers: the walk.
-/
import Derived.Test.YtdecljdhdclmoaaTop
namespace Go.Proofs.Ytdecljdhdclmoaa
open Go.RowKit

set_option maxRecDepth 100000 in
set_option maxHeartbeats 8000000 in
theorem transfers_any (w : World) (ao : Option Addr) (len cap : Nat) (xs : List UInt8) (hlc : len ≤ cap) (hlen : xs.length = len) (hM : Bts w.heap.size w (.slice ao len cap) xs) (al : Option Addr) (ll cl : Nat) (hll : ll ≤ cl) (hL : Losses w al ll) :
    Calls Try.prog 3 #[.slice ao len cap, .slice al ll cl] w fun e w' => e = .returned (.bool true) ∧ Below w.heap.size w w' := by
  have HM := hid hM
  have HL := hid hL
  clear hM hL
  go_enter Try.func3, Try.ntmps3
  go_wp2_with fail
  refine (new_some w).mono ?_
  rintro e w1 ⟨b, p, c, rfl, h1, k1, hn1⟩
  have D1 := hid h1
  have K1 := hid k1
  have HN := hid hn1
  clear h1 k1 hn1
  go_wp2_with fail
  refine (logs_some w1).mono ?_
  rintro e w2 ⟨rfl, k2⟩
  have D2 := hid (D1.out.nil k2)
  have K2 := hid (K1.out.trans k2)
  clear k2
  go_wp2_with fail
  refine (format_some D2.out fresh_calm).mono ?_
  rintro e w3 ⟨rfl, h3, k3⟩
  have K3 : Hid (Keep Nil w w3) := hid (K2.out.andThen k3 (fun i hi e => by have := HN.out i e; omega))
  obtain ⟨d2, hc2, hg2, ho⟩ := open_new w3 h3
  have HO := hid ho
  have HC2 := hid hc2
  have HG2 := hid hg2
  clear h3 k3 ho hc2 hg2
  go_wp2_with fail
  refine HO.out.mono ?_
  rintro e w4 ⟨g, rfl, g4, h4, k4, hg4⟩
  have K4 : Hid (Keep Nil w w4) := hid (K3.out.andThen k4 (fun i hi e => by have := HN.out i e; omega))
  have HG : Hid (w.heap.size ≤ g) := hid (Nat.le_trans K3.out.size hg4)
  have HM4 := hid (cmt_two g4 h4 (by omega) 200 55)
  clear g4 h4 k4 hg4
  go_wp2_with fail
  refine HM4.out.mono ?_
  rintro e w5 ⟨o, d5, ho5, rfl, h5, g5, k5⟩
  obtain rfl : o = true := by
    have h := (commit_calm HC2.out 0 false [(0, [200]), (2, [55])]).1
    rw [ho5] at h; exact h
  rw [show okV true = .int .i64 0 from rfl] at *
  have hK5 : Keep Nil w w5 := K4.out.andThen k5 (fun i hi e => by
    rcases e with e | e
    · have := HN.out i e; omega
    · have := HG.out; omega)
  have hC5 : Calm d5 ∧ GoodPC d5 (0 + 1) true (pad48 [200]) (pad48 [55]) := by
    have h := (commit_calm HC2.out 0 false [(0, [200]), (2, [55])]).2
    have h' := commit_good HC2.out 0 false Z48 Z48 [200] [55] HG2.out
    rw [ho5] at h h'
    exact ⟨h, h'⟩
  have hP5 : Pair (pad48 [200]) (pad48 [55]) := ⟨pad48_length _ (by simp), pad48_length _ (by simp), by rw [pad48_head, pad48_head]; rfl⟩
  have HR : ∀ T, Hid (TopRel w b p c T (.pointer (some ⟨g, 0, none⟩)) (.int .i64 0) w5) := fun T => hid ⟨0, g, 1, true, _, _, d5, Nat.zero_le _, rfl, rfl, g5 rfl, h5, hC5.1, hC5.2, hP5, by omega, HG.out, hK5⟩
  clear h5 g5 k5 ho5 hC5 hP5 hK5 D1 K1 D2 K2 K3 HO HC2 HG2 K4 HM4
  by_cases h60 : (len : Int) ≤ 60
  · have h60' : len ≤ 60 := by omega
    replace HR := HR len
    go_wp2_with fail
    go_loopw [7, 61] (fun lv iv wr => TopRel w b p c len lv iv wr) (fun _ i _ => len - (intOf i).toNat)
    case atStart => exact HR.out
    case round =>
      obtain ⟨k, g1, n, pend, A, B, d, hk, rfl, rfl, hlg, hd, hca, hgo, hpa, hn, hgs, hkp⟩ := hrel
      have GR := hid hlg
      have DR := hid hd
      have CR := hid hca
      have PR := hid hgo
      have AR := hid hpa
      have KR := hid hkp
      have GS := hid hgs
      clear hlg hd hca hgo hpa hkp hgs HR
      by_cases hkn : k < len
      · have hkl : k < xs.length := by omega
        obtain ⟨bm, om, rfl, hbm, y0⟩ : ∃ bm om, ao = some ⟨bm, om, none⟩ ∧ bm < w.heap.size ∧ wr.cell? ⟨bm, om + k, none⟩ = some (.int .u8 (xs[k].toNat : Int)) := by
          obtain ⟨_, _, e, hc⟩ := HM.out.keep KR.out Mut.nil
          cases e
          obtain ⟨bm, om, rfl, h1, h2⟩ := hc (by omega)
          refine ⟨bm, om, rfl, ?_, h2 k hkl⟩
          obtain ⟨_, _, e, hc⟩ := HM.out
          cases e
          obtain ⟨_, _, e, -, h2⟩ := hc (by omega)
          cases e
          exact cell_lt (h2 k hkl)
        generalize xs[k] = m at *
        obtain ⟨gv1, gv2⟩ := good_view PR.out
        have HV9 : Hid ((viewD d (9 + 0)).take 48 = A) := hid (by rw [show 9 + 0 = 9 from rfl, gv1, padL_take A AR.out.1])
        have HV11 : Hid ((viewD d (9 + 2)).take 48 = B) := hid (by rw [show 9 + 2 = 11 from rfl, gv2, padL_take B AR.out.2.1])
        clear gv1 gv2
        have F0 := hid (lread_some GR.out DR.out CR.out.1 0 (by omega))
        rw [HV9.out] at F0
        go_wp2_with fail
        refine F0.out.mono ?_
        rintro e w6 ⟨va, rfl, hba, k6⟩
        have G6 := hid (GR.out.keep k6 (fun e => e))
        have D6 := hid (DR.out.nil k6)
        have BA := hid hba
        have K6 := hid (KR.out.trans k6)
        clear hba k6 y0
        have F2 := hid (lread_some G6.out D6.out CR.out.1 2 (by omega))
        rw [HV11.out] at F2
        go_wp2_with fail
        refine F2.out.mono ?_
        rintro e w7 ⟨vb, rfl, hbb, k7⟩
        have G7 := hid (G6.out.keep k7 (fun e => e))
        have D7 := hid (D6.out.nil k7)
        have K7 := hid (K6.out.trans k7)
        obtain ⟨ba, oa, ca, rfl, za, cu1, fr1, ta⟩ := first_byte (BA.out.keep k7 Mut.nil) AR.out.1
        obtain ⟨bb, ob, cb, rfl, zb, cu2, fr2, tb⟩ := first_byte hbb AR.out.2.1
        have NA := hid (not_dg G7.out D7.out ta)
        have NB := hid (not_dg G7.out D7.out tb)
        clear hbb k7 BA ta tb cu1 cu2 fr1 fr2
        have hsum : IntKind.u8.wrap (((A.headD 0).toNat : Int) + ((B.headD 0).toNat : Int)) = 255 := by rw [u8_add, AR.out.2.2]; rfl
        have hs1 : IntKind.u8.wrap (((A.headD 0).toNat : Int) - (m.toNat : Int)) = ((A.headD 0 - m).toNat : Int) := u8_sub _ _
        have hs2 : IntKind.u8.wrap (((B.headD 0).toNat : Int) + (m.toNat : Int)) = ((B.headD 0 + m).toNat : Int) := u8_add _ _
        have hP := hid (pair_moved AR.out m)
        have CG := hid (commit_good CR.out n pend A B [A.headD 0 - m] [B.headD 0 + m] PR.out)
        have CC := hid (commit_calm CR.out n pend [(0, [A.headD 0 - m]), (2, [B.headD 0 + m])])
        have CS := hid (fun (d' : DS) (h1 : d'.plate = d.plate) (h2 : d'.cache = d.cache) f hf => commit_safe d' n pend A B [A.headD 0 - m] [B.headD 0 + m] (PR.out.of h1 h2) AR.out hP.out f hf)
        generalize A.headD 0 = a0 at *
        generalize B.headD 0 = b0 at *
        generalize hx1 : a0 - m = x1 at *
        generalize hx2 : b0 + m = x2 at *
        clear hx1 hx2
        have hn6 : n ≤ 100000 := by omega
        go_wp2_with fail
        go_quiet (fail)
        have KQ : Keep Nil w7 (w7.drewN nq) := keep_drewN nq (Keep.refl w7)
        have G9 := hid (G7.out.keep KQ (fun e => e))
        have D9 := hid (D7.out.nil KQ)
        have K9 := hid (K7.out.trans KQ)
        replace za := KQ.cell za (fun e => e)
        replace zb := KQ.cell zb (fun e => e)
        clear KQ
        generalize w7.drewN nq = w9 at *
        by_cases hkl2 : k < ll
        · obtain ⟨bl, ol, s, ul, ks, rfl, hbl, c0, c1, hbo⟩ := HL.out.at_ k hkl2
          have y1 : w9.cell? ⟨bl, ol + k * 2, none⟩ = some (.int .u8 (s.toNat : Int)) := K9.out.cell c0 (fun e => e)
          have hs30 : (s.toNat : Int) < 256 := by have := s.toNat_lt; omega
          generalize s.toNat = sn at *
          have hd1 : decide ((k : Int) < (ll : Int)) = true := by simp; omega
          have hkc : ¬ cl ≤ k := by omega
          have hw1 : IntKind.i64.wrap (sn : Int) = (sn : Int) := IntWalk.i64_in _ (by omega)
          have hw2 : (sn : Int).tmod 30 = ((sn % 30 : Nat) : Int) := by rw [Int.tmod_eq_emod_of_nonneg (by omega)]; omega
          have hw3 : IntKind.i64.wrap ((sn % 30 : Nat) : Int) = ((sn % 30 : Nat) : Int) := IntWalk.i64_in _ (by omega)
          have HA : Hid (Calls Try.prog 10 #[.pointer (some ⟨b, 0, none⟩), .int .i64 ((sn : Int) % 30)] w9 fun e w' => e = .returned (.tuple #[]) ∧ DiskAt w' b p c ⟨d.plate, d.cache, d.off, true, sn % 30⟩ ∧ Keep (One b) w9 w') := hid (arm_some D9.out (sn % 30) (by omega))
          obtain ⟨aok, capk, rfl, -⟩ := id hbo
          have HBO := hid hbo
          have C1 := hid c1
          clear c0 c1 hbo
          go_wp2_with fail
          refine HA.out.mono ?_
          rintro e w10 ⟨rfl, h10, k10⟩
          have D10 := hid h10
          have G10 := hid (G9.out.keep k10 (fun e => log_dk G9.out D9.out (.inl e)))
          have K10 : Hid (Keep Nil w w10) := hid (K9.out.andThen k10 (fun i hi e => by have := HN.out i (.inl e); omega))
          replace za := k10.cell za (fun e => NA.out (.inl (.inl e)))
          replace zb := k10.cell zb (fun e => NB.out (.inl (.inl e)))
          clear h10 k10 HA
          have FA := hid (cmt_two1 G10.out D10.out hn6 x1 x2)
          have FB := hid (cmt_two2 G10.out D10.out hn6 x1 x2)
          go_wp2_with fail
          go_region_held3 (fun w' => w'.cell? ⟨ba, oa, none⟩ = some (.int .u8 (a0.toNat : Int)) ∧ w'.cell? ⟨bb, ob, none⟩ = some (.int .u8 (b0.toNat : Int))) (first | exact ⟨za, zb⟩ | exact ⟨cell_alloc _ za, cell_alloc _ zb⟩ | exact ⟨cell_alloc _ (cell_alloc _ za), cell_alloc _ (cell_alloc _ zb)⟩ | exact ⟨cell_alloc _ (cell_alloc _ (cell_alloc _ za)), cell_alloc _ (cell_alloc _ (cell_alloc _ zb))⟩ | exact ⟨f0, f1⟩)
            ((go_at_call 8; (first | refine FA.out.mono ?_ | refine FB.out.mono ?_); rintro e w8 ⟨o, d8, ho8, rfl, h8, g8, k8⟩; have f0 := k8.cell za NA.out; have f1 := k8.cell zb NB.out; have D8 := hid h8; have G8 := hid g8; have K8 := hid k8; clear h8 g8 k8))
          all_goals
            have CS8 : Hid (∀ f, Some12 d8 f → Safe f (n + 1)) := hid (fun f hf => CS.out ⟨d.plate, d.cache, d.off, true, sn % 30⟩ rfl rfl f (by rw [ho8]; exact hf))
            have K11 : Hid (Keep Nil w w8) := hid (K10.out.andThen K8.out (fun i hi e => by
              rcases e with e | e
              · have := HN.out i e; omega
              · have := GS.out; omega))
            generalize okV o = vo at *
            clear ho8 za zb hsum hs1 hs2 G8 K8 f0 f1 y1 hw1 hw2 hw3
            go_wp2_with fail
            refine (cut_some D8.out).mono ?_
            rintro e w11 ⟨rfl, h11, k11⟩
            have D11 := hid h11
            have K12 : Hid (Keep Nil w w11) := hid (K11.out.andThen k11 (fun i hi e => by have := HN.out i (.inl e); omega))
            clear h11 k11
            have y2 : w11.cell? ⟨bl, ol + k * 2 + 1, none⟩ = some (.slice aok ks.length capk) := K12.out.cell C1.out (fun e => e)
            have HST := hid (start_some D11.out w.heap.size HN.out _ ks (HBO.out.keep K12.out (fun i e => e.elim)) rfl)
            go_wp2_with fail
            refine HST.out.mono ?_
            rintro e w12 ⟨rfl, f, hf, h12, k12⟩
            rw [show okV true = .int .i64 0 from rfl] at *
            have K13 : Hid (Keep Nil w w12) := hid (K12.out.andThen k12 (fun i hi e => by have := HN.out i e; omega))
            obtain ⟨n', l, e1, e2, A', B', hn', hl6, hv, hj, hp, hlay, hfl, hcal, hpair, hgood⟩ := open_safe ⟨f, fun _ => none, false, false, d8.fuse⟩ ⟨rfl, rfl⟩ (fun _ => rfl) (n + 1) (CS8.out f hf)
            have HOP := hid (open_good h12 rfl n' l (by omega) hl6 hv hj hp hlay hfl)
            have HF1 := hid hcal
            have HF2 := hid hgood
            have HF3 := hid hpair
            clear hf h12 k12 hl6 hv hj hp hlay hfl hcal hpair hgood y2 HST
            go_wp2_with fail
            refine HOP.out.mono ?_
            rintro e w13 ⟨g', rfl, g13, h13, k13, hg13⟩
            have HE : Hid (TopRel w b p c len (.pointer (some ⟨g', 0, none⟩)) (.int .i64 ((k : Int) + 1)) w13) := hid ⟨k + 1, g', n', _, A', B', e2, by omega, by go_num, rfl, g13, h13, HF1.out, HF2.out, HF3.out, by omega, Nat.le_trans K13.out.size hg13, K13.out.andThen k13 (fun i hi e => by have := HN.out i e; omega)⟩
            clear g13 h13 k13 hg13 HOP
            go_wp2_with fail
            go_roundw
            case rel => exact HE.out
            case measure => simp [intOf] <;> omega
        · have hd1 : decide ((k : Int) < (ll : Int)) = false := by simp; omega
          have FA := hid (cmt_two1 G9.out D9.out hn6 x1 x2)
          have FB := hid (cmt_two2 G9.out D9.out hn6 x1 x2)
          go_wp2_with fail
          go_region_held3 (fun w' => w'.cell? ⟨ba, oa, none⟩ = some (.int .u8 (a0.toNat : Int)) ∧ w'.cell? ⟨bb, ob, none⟩ = some (.int .u8 (b0.toNat : Int))) (first | exact ⟨za, zb⟩ | exact ⟨cell_alloc _ za, cell_alloc _ zb⟩ | exact ⟨cell_alloc _ (cell_alloc _ za), cell_alloc _ (cell_alloc _ zb)⟩ | exact ⟨cell_alloc _ (cell_alloc _ (cell_alloc _ za)), cell_alloc _ (cell_alloc _ (cell_alloc _ zb))⟩ | exact ⟨f0, f1⟩)
            ((go_at_call 8; (first | refine FA.out.mono ?_ | refine FB.out.mono ?_); rintro e w8 ⟨o, d8, ho8, rfl, h8, g8, k8⟩; have f0 := k8.cell za NA.out; have f1 := k8.cell zb NB.out; have D8 := hid h8; have G8 := hid g8; have K8 := hid k8; clear h8 g8 k8))
          all_goals
            obtain rfl : o = true := by
              have h := CC.out.1
              rw [ho8] at h; exact h
            have hK8 : Keep Nil w w8 := K9.out.andThen K8.out (fun i hi e => by
              rcases e with e | e
              · have := HN.out i e; omega
              · have := GS.out; omega)
            have HE : Hid (TopRel w b p c len (.pointer (some ⟨g1, 0, none⟩)) (.int .i64 ((k : Int) + 1)) w8) := hid ⟨k + 1, g1, n + 1, true, _, _, d8, by omega, by go_num, rfl, G8.out rfl, D8.out, by have h := CC.out.2; rw [ho8] at h; exact h, by have h := CG.out; rw [ho8] at h; exact h, hP.out, by omega, GS.out, hK8⟩
            clear ho8 hK8 za zb hsum hs1 hs2 D8 G8 K8 f0 f1
            go_wp2_with fail
            go_roundw
            case rel => exact HE.out
            case measure => simp [intOf] <;> omega
      · have hkT : k = len := by omega
        subst hkT
        have hbel : Hid (Below w.heap.size w wr) := hid (KR.out.below (fun _ e => e.elim) (Nat.le_refl _))
        clear GR DR CR PR AR KR
        go_wp2
        go_ret
        exact ⟨rfl, hbel.out⟩
  · have h60' : 60 ≤ len := by omega
    have hcap : 60 ≤ cap := by omega
    replace HR := HR 60
    go_wp2_with fail
    go_loopw [7, 61] (fun lv iv wr => TopRel w b p c 60 lv iv wr) (fun _ i _ => 60 - (intOf i).toNat)
    case atStart => exact HR.out
    case round =>
      obtain ⟨k, g1, n, pend, A, B, d, hk, rfl, rfl, hlg, hd, hca, hgo, hpa, hn, hgs, hkp⟩ := hrel
      have GR := hid hlg
      have DR := hid hd
      have CR := hid hca
      have PR := hid hgo
      have AR := hid hpa
      have KR := hid hkp
      have GS := hid hgs
      clear hlg hd hca hgo hpa hkp hgs HR
      by_cases hkn : k < 60
      · have hkl : k < xs.length := by omega
        obtain ⟨bm, om, rfl, hbm, y0⟩ : ∃ bm om, ao = some ⟨bm, om, none⟩ ∧ bm < w.heap.size ∧ wr.cell? ⟨bm, om + k, none⟩ = some (.int .u8 (xs[k].toNat : Int)) := by
          obtain ⟨_, _, e, hc⟩ := HM.out.keep KR.out Mut.nil
          cases e
          obtain ⟨bm, om, rfl, h1, h2⟩ := hc (by omega)
          refine ⟨bm, om, rfl, ?_, h2 k hkl⟩
          obtain ⟨_, _, e, hc⟩ := HM.out
          cases e
          obtain ⟨_, _, e, -, h2⟩ := hc (by omega)
          cases e
          exact cell_lt (h2 k hkl)
        generalize xs[k] = m at *
        obtain ⟨gv1, gv2⟩ := good_view PR.out
        have HV9 : Hid ((viewD d (9 + 0)).take 48 = A) := hid (by rw [show 9 + 0 = 9 from rfl, gv1, padL_take A AR.out.1])
        have HV11 : Hid ((viewD d (9 + 2)).take 48 = B) := hid (by rw [show 9 + 2 = 11 from rfl, gv2, padL_take B AR.out.2.1])
        clear gv1 gv2
        have F0 := hid (lread_some GR.out DR.out CR.out.1 0 (by omega))
        rw [HV9.out] at F0
        go_wp2_with fail
        refine F0.out.mono ?_
        rintro e w6 ⟨va, rfl, hba, k6⟩
        have G6 := hid (GR.out.keep k6 (fun e => e))
        have D6 := hid (DR.out.nil k6)
        have BA := hid hba
        have K6 := hid (KR.out.trans k6)
        clear hba k6 y0
        have F2 := hid (lread_some G6.out D6.out CR.out.1 2 (by omega))
        rw [HV11.out] at F2
        go_wp2_with fail
        refine F2.out.mono ?_
        rintro e w7 ⟨vb, rfl, hbb, k7⟩
        have G7 := hid (G6.out.keep k7 (fun e => e))
        have D7 := hid (D6.out.nil k7)
        have K7 := hid (K6.out.trans k7)
        obtain ⟨ba, oa, ca, rfl, za, cu1, fr1, ta⟩ := first_byte (BA.out.keep k7 Mut.nil) AR.out.1
        obtain ⟨bb, ob, cb, rfl, zb, cu2, fr2, tb⟩ := first_byte hbb AR.out.2.1
        have NA := hid (not_dg G7.out D7.out ta)
        have NB := hid (not_dg G7.out D7.out tb)
        clear hbb k7 BA ta tb cu1 cu2 fr1 fr2
        have hsum : IntKind.u8.wrap (((A.headD 0).toNat : Int) + ((B.headD 0).toNat : Int)) = 255 := by rw [u8_add, AR.out.2.2]; rfl
        have hs1 : IntKind.u8.wrap (((A.headD 0).toNat : Int) - (m.toNat : Int)) = ((A.headD 0 - m).toNat : Int) := u8_sub _ _
        have hs2 : IntKind.u8.wrap (((B.headD 0).toNat : Int) + (m.toNat : Int)) = ((B.headD 0 + m).toNat : Int) := u8_add _ _
        have hP := hid (pair_moved AR.out m)
        have CG := hid (commit_good CR.out n pend A B [A.headD 0 - m] [B.headD 0 + m] PR.out)
        have CC := hid (commit_calm CR.out n pend [(0, [A.headD 0 - m]), (2, [B.headD 0 + m])])
        have CS := hid (fun (d' : DS) (h1 : d'.plate = d.plate) (h2 : d'.cache = d.cache) f hf => commit_safe d' n pend A B [A.headD 0 - m] [B.headD 0 + m] (PR.out.of h1 h2) AR.out hP.out f hf)
        generalize A.headD 0 = a0 at *
        generalize B.headD 0 = b0 at *
        generalize hx1 : a0 - m = x1 at *
        generalize hx2 : b0 + m = x2 at *
        clear hx1 hx2
        have hn6 : n ≤ 100000 := by omega
        go_wp2_with fail
        go_quiet (fail)
        have KQ : Keep Nil w7 (w7.drewN nq) := keep_drewN nq (Keep.refl w7)
        have G9 := hid (G7.out.keep KQ (fun e => e))
        have D9 := hid (D7.out.nil KQ)
        have K9 := hid (K7.out.trans KQ)
        replace za := KQ.cell za (fun e => e)
        replace zb := KQ.cell zb (fun e => e)
        clear KQ
        generalize w7.drewN nq = w9 at *
        by_cases hkl2 : k < ll
        · obtain ⟨bl, ol, s, ul, ks, rfl, hbl, c0, c1, hbo⟩ := HL.out.at_ k hkl2
          have y1 : w9.cell? ⟨bl, ol + k * 2, none⟩ = some (.int .u8 (s.toNat : Int)) := K9.out.cell c0 (fun e => e)
          have hs30 : (s.toNat : Int) < 256 := by have := s.toNat_lt; omega
          generalize s.toNat = sn at *
          have hd1 : decide ((k : Int) < (ll : Int)) = true := by simp; omega
          have hkc : ¬ cl ≤ k := by omega
          have hw1 : IntKind.i64.wrap (sn : Int) = (sn : Int) := IntWalk.i64_in _ (by omega)
          have hw2 : (sn : Int).tmod 30 = ((sn % 30 : Nat) : Int) := by rw [Int.tmod_eq_emod_of_nonneg (by omega)]; omega
          have hw3 : IntKind.i64.wrap ((sn % 30 : Nat) : Int) = ((sn % 30 : Nat) : Int) := IntWalk.i64_in _ (by omega)
          have HA : Hid (Calls Try.prog 10 #[.pointer (some ⟨b, 0, none⟩), .int .i64 ((sn : Int) % 30)] w9 fun e w' => e = .returned (.tuple #[]) ∧ DiskAt w' b p c ⟨d.plate, d.cache, d.off, true, sn % 30⟩ ∧ Keep (One b) w9 w') := hid (arm_some D9.out (sn % 30) (by omega))
          obtain ⟨aok, capk, rfl, -⟩ := id hbo
          have HBO := hid hbo
          have C1 := hid c1
          clear c0 c1 hbo
          go_wp2_with fail
          refine HA.out.mono ?_
          rintro e w10 ⟨rfl, h10, k10⟩
          have D10 := hid h10
          have G10 := hid (G9.out.keep k10 (fun e => log_dk G9.out D9.out (.inl e)))
          have K10 : Hid (Keep Nil w w10) := hid (K9.out.andThen k10 (fun i hi e => by have := HN.out i (.inl e); omega))
          replace za := k10.cell za (fun e => NA.out (.inl (.inl e)))
          replace zb := k10.cell zb (fun e => NB.out (.inl (.inl e)))
          clear h10 k10 HA
          have FA := hid (cmt_two1 G10.out D10.out hn6 x1 x2)
          have FB := hid (cmt_two2 G10.out D10.out hn6 x1 x2)
          go_wp2_with fail
          go_region_held3 (fun w' => w'.cell? ⟨ba, oa, none⟩ = some (.int .u8 (a0.toNat : Int)) ∧ w'.cell? ⟨bb, ob, none⟩ = some (.int .u8 (b0.toNat : Int))) (first | exact ⟨za, zb⟩ | exact ⟨cell_alloc _ za, cell_alloc _ zb⟩ | exact ⟨cell_alloc _ (cell_alloc _ za), cell_alloc _ (cell_alloc _ zb)⟩ | exact ⟨cell_alloc _ (cell_alloc _ (cell_alloc _ za)), cell_alloc _ (cell_alloc _ (cell_alloc _ zb))⟩ | exact ⟨f0, f1⟩)
            ((go_at_call 8; (first | refine FA.out.mono ?_ | refine FB.out.mono ?_); rintro e w8 ⟨o, d8, ho8, rfl, h8, g8, k8⟩; have f0 := k8.cell za NA.out; have f1 := k8.cell zb NB.out; have D8 := hid h8; have G8 := hid g8; have K8 := hid k8; clear h8 g8 k8))
          all_goals
            have CS8 : Hid (∀ f, Some12 d8 f → Safe f (n + 1)) := hid (fun f hf => CS.out ⟨d.plate, d.cache, d.off, true, sn % 30⟩ rfl rfl f (by rw [ho8]; exact hf))
            have K11 : Hid (Keep Nil w w8) := hid (K10.out.andThen K8.out (fun i hi e => by
              rcases e with e | e
              · have := HN.out i e; omega
              · have := GS.out; omega))
            generalize okV o = vo at *
            clear ho8 za zb hsum hs1 hs2 G8 K8 f0 f1 y1 hw1 hw2 hw3
            go_wp2_with fail
            refine (cut_some D8.out).mono ?_
            rintro e w11 ⟨rfl, h11, k11⟩
            have D11 := hid h11
            have K12 : Hid (Keep Nil w w11) := hid (K11.out.andThen k11 (fun i hi e => by have := HN.out i (.inl e); omega))
            clear h11 k11
            have y2 : w11.cell? ⟨bl, ol + k * 2 + 1, none⟩ = some (.slice aok ks.length capk) := K12.out.cell C1.out (fun e => e)
            have HST := hid (start_some D11.out w.heap.size HN.out _ ks (HBO.out.keep K12.out (fun i e => e.elim)) rfl)
            go_wp2_with fail
            refine HST.out.mono ?_
            rintro e w12 ⟨rfl, f, hf, h12, k12⟩
            rw [show okV true = .int .i64 0 from rfl] at *
            have K13 : Hid (Keep Nil w w12) := hid (K12.out.andThen k12 (fun i hi e => by have := HN.out i e; omega))
            obtain ⟨n', l, e1, e2, A', B', hn', hl6, hv, hj, hp, hlay, hfl, hcal, hpair, hgood⟩ := open_safe ⟨f, fun _ => none, false, false, d8.fuse⟩ ⟨rfl, rfl⟩ (fun _ => rfl) (n + 1) (CS8.out f hf)
            have HOP := hid (open_good h12 rfl n' l (by omega) hl6 hv hj hp hlay hfl)
            have HF1 := hid hcal
            have HF2 := hid hgood
            have HF3 := hid hpair
            clear hf h12 k12 hl6 hv hj hp hlay hfl hcal hpair hgood y2 HST
            go_wp2_with fail
            refine HOP.out.mono ?_
            rintro e w13 ⟨g', rfl, g13, h13, k13, hg13⟩
            have HE : Hid (TopRel w b p c 60 (.pointer (some ⟨g', 0, none⟩)) (.int .i64 ((k : Int) + 1)) w13) := hid ⟨k + 1, g', n', _, A', B', e2, by omega, by go_num, rfl, g13, h13, HF1.out, HF2.out, HF3.out, by omega, Nat.le_trans K13.out.size hg13, K13.out.andThen k13 (fun i hi e => by have := HN.out i e; omega)⟩
            clear g13 h13 k13 hg13 HOP
            go_wp2_with fail
            go_roundw
            case rel => exact HE.out
            case measure => simp [intOf] <;> omega
        · have hd1 : decide ((k : Int) < (ll : Int)) = false := by simp; omega
          have FA := hid (cmt_two1 G9.out D9.out hn6 x1 x2)
          have FB := hid (cmt_two2 G9.out D9.out hn6 x1 x2)
          go_wp2_with fail
          go_region_held3 (fun w' => w'.cell? ⟨ba, oa, none⟩ = some (.int .u8 (a0.toNat : Int)) ∧ w'.cell? ⟨bb, ob, none⟩ = some (.int .u8 (b0.toNat : Int))) (first | exact ⟨za, zb⟩ | exact ⟨cell_alloc _ za, cell_alloc _ zb⟩ | exact ⟨cell_alloc _ (cell_alloc _ za), cell_alloc _ (cell_alloc _ zb)⟩ | exact ⟨cell_alloc _ (cell_alloc _ (cell_alloc _ za)), cell_alloc _ (cell_alloc _ (cell_alloc _ zb))⟩ | exact ⟨f0, f1⟩)
            ((go_at_call 8; (first | refine FA.out.mono ?_ | refine FB.out.mono ?_); rintro e w8 ⟨o, d8, ho8, rfl, h8, g8, k8⟩; have f0 := k8.cell za NA.out; have f1 := k8.cell zb NB.out; have D8 := hid h8; have G8 := hid g8; have K8 := hid k8; clear h8 g8 k8))
          all_goals
            obtain rfl : o = true := by
              have h := CC.out.1
              rw [ho8] at h; exact h
            have hK8 : Keep Nil w w8 := K9.out.andThen K8.out (fun i hi e => by
              rcases e with e | e
              · have := HN.out i e; omega
              · have := GS.out; omega)
            have HE : Hid (TopRel w b p c 60 (.pointer (some ⟨g1, 0, none⟩)) (.int .i64 ((k : Int) + 1)) w8) := hid ⟨k + 1, g1, n + 1, true, _, _, d8, by omega, by go_num, rfl, G8.out rfl, D8.out, by have h := CC.out.2; rw [ho8] at h; exact h, by have h := CG.out; rw [ho8] at h; exact h, hP.out, by omega, GS.out, hK8⟩
            clear ho8 hK8 za zb hsum hs1 hs2 D8 G8 K8 f0 f1
            go_wp2_with fail
            go_roundw
            case rel => exact HE.out
            case measure => simp [intOf] <;> omega
      · have hkT : k = 60 := by omega
        subst hkT
        have hbel : Hid (Below w.heap.size w wr) := hid (KR.out.below (fun _ e => e.elim) (Nat.le_refl _))
        clear GR DR CR PR AR KR
        go_wp2
        go_ret
        exact ⟨rfl, hbel.out⟩
end Go.Proofs.Ytdecljdhdclmoaa
