/-
  wal.lay.
-/
import Derived.Test.YtdecljdhdclmoaaJournal
namespace Go.Proofs.Ytdecljdhdclmoaa
open Go.RowKit
variable {w w' : World} {b p c : Nat} {d : DS}

theorem quiet_mine {P : Program} {f : FuncId} {args : Array Value} {w : World} {n : Nat} {v : Value}
    (h : Calls P f args (w.drewN n) fun e w' => e = .returned v ∧ w' = w.drewN n) : Calls P f args (w.drewN n) fun e w'' => e = .returned v ∧ ∃ m, w'' = w.drewN m :=
  h.mono fun _ _ ⟨he, hm⟩ => ⟨he, n, hm⟩
/-- lay: each update at its place -/
def layD : DS → List (Nat × List UInt8) → Bool × DS
  | d, [] => (true, d)
  | d, a :: l => if (writeD d (9 + a.1) a.2).1 then layD (writeD d (9 + a.1) a.2).2 l else (false, (writeD d (9 + a.1) a.2).2)

set_option maxRecDepth 100000 in
set_option maxHeartbeats 4000000 in
theorem lay_some (h : DiskAt w b p c d) (v : Value) (q : Nat) (l : List (Nat × List UInt8)) (hu : UpsAt w v q l) (hq : ¬ Dk b p c q) (hl : l.length ≤ 6) (hp : ∀ a ∈ l, a.1 < 3 ∧ a.2.length ≤ 64) :
    Calls Try.prog 30 #[.pointer (some ⟨b, 0, none⟩), v] w fun e w' => e = .returned (okV (layD d l).1) ∧ DiskAt w' b p c (layD d l).2 ∧ Keep (Dk b p c) w w' := by
  obtain ⟨ao, cap, rfl⟩ := hu.shape
  have H := hid h
  have HU := hid hu
  have HP := hid hp
  have hend : Hid (∀ w', DiskAt w' b p c (layD d l).2 → Keep (Dk b p c) w w' → DiskAt w' b p c (layD d l).2 ∧ Keep (Dk b p c) w w') := hid (fun w' h1 h2 => ⟨h1, h2⟩)
  clear h hu hp
  generalize hr : layD d l = res at *
  obtain ⟨ro, rd⟩ := res
  simp only at *
  replace hr := hid hr
  go_enter Try.func30, Try.ntmps30
  go_wp2_with fail
  go_loopw [10] (fun iv wr => ∃ (k : Nat) (dk : DS), k ≤ l.length ∧ iv = .int .i64 k ∧ layD dk (l.drop k) = (ro, rd) ∧ DiskAt wr b p c dk ∧ Keep (Dk b p c) w wr) (fun iv _ => l.length - (intOf iv).toNat)
  case atStart => exact ⟨0, d, Nat.zero_le _, rfl, by simpa using hr.out, H.out, Keep.refl _⟩
  case round =>
    obtain ⟨k, dk, hk, rfl, hpd, hd, hkp⟩ := hrel
    have HD := hid hd
    have HK := hid hkp
    have HPD := hid hpd
    by_cases hkn : k < l.length
    · obtain ⟨ha, hxl⟩ := HP.out l[k] (List.getElem_mem hkn)
      obtain ⟨off, u, aou, capu, rfl, c0, c1, rfl, hb⟩ := (HU.out.keep HK.out hq H.out.mut).cell k hkn
      have hdr : l.drop k = l[k] :: l.drop (k + 1) := List.drop_eq_getElem_cons hkn
      rw [hdr, layD] at hpd
      generalize l[k] = x at *
      obtain ⟨a, xs⟩ := x
      simp only at *
      have hW := hid (fun (o1 : Obj) (n : Nat) => write_some (HD.out.nil (keep_drewN n ((Keep.refl wr).alloc o1))) (9 + a) (by omega) _ xs (hb.keep (keep_drewN n ((Keep.refl wr).alloc o1)) Mut.nil) hxl)
      have hw1 : IntKind.i64.wrap (9 + (a : Int)) = ((9 + a : Nat) : Int) := by rw [IntWalk.i64_in _ (by omega)]; rfl
      have F1 := hid (fun (o1 : Obj) (n : Nat) => quiet_mine (sectors_some (HD.out.nil (keep_drewN n ((Keep.refl wr).alloc o1)))))
      have hge : decide ((0 : Int) ≤ (a : Int)) = true := by simp
      have hlt : decide ((a : Int) < 3) = true := by simp; omega
      generalize writeD dk (9 + a) xs = res2 at *
      obtain ⟨o2, d2⟩ := res2
      simp only at hpd hW
      have KA := hid (fun (o1 : Obj) (n : Nat) => HK.out.trans ((keep_drewN n ((Keep.refl (S := Nil) wr).alloc o1)).mono (fun _ _ e => e.elim)))
      clear hb hdr hd hkp
      cases o2
      · rw [if_neg (by simp)] at hpd
        cases hpd
        go_wp2_with fail
        go_quiet ((go_at_call 15; exact F1.out _ _))
        go_wp2_with fail
        refine (hW.out _ nq).mono ?_
        rintro e w2 ⟨rfl, h2, k2⟩
        have hE := hid (hend.out w2 h2 ((KA.out _ _).trans k2))
        clear h2 k2
        rw [show okV false = .int .i64 8 from rfl] at *
        go_wp2
        go_ret
        exact ⟨rfl, hE.out⟩
      · rw [if_pos rfl] at hpd
        have hpd := hid hpd
        go_wp2_with fail
        go_quiet ((go_at_call 15; exact F1.out _ _))
        go_wp2_with fail
        refine (hW.out _ nq).mono ?_
        rintro e w2 ⟨rfl, h2, k2⟩
        have h2 := hid h2
        have k2 := hid ((KA.out _ _).trans k2)
        rw [show okV true = .int .i64 0 from rfl] at *
        go_wp2_with fail
        go_roundw
        case rel => exact ⟨k + 1, d2, by omega, by go_num, hpd.out, h2.out, k2.out⟩
        case measure => simp [intOf] <;> omega
    · obtain rfl : k = l.length := by omega
      rw [List.drop_length, layD] at hpd
      cases hpd
      have hE := hid (hend.out wr HD.out HK.out)
      clear hd hkp
      go_wp2
      go_ret
      exact ⟨rfl, hE.out⟩
end Go.Proofs.Ytdecljdhdclmoaa
