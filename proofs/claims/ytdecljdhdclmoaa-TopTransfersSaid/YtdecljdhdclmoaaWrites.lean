/-
  wal.writes.
-/
import Derived.Test.YtdecljdhdclmoaaFlush
import Derived.Test.YtdecljdhdclmoaaPack
namespace Go.Proofs.Ytdecljdhdclmoaa
open Go.RowKit
variable {w w' : World} {b p c : Nat} {d : DS}

/-- a row of values in a block that is none of S -/
def Rows (S : Nat → Prop) (w : World) (v : Value) (us : List Value) : Prop :=
  ∃ ao cap, v = .slice ao us.length cap ∧ (0 < us.length → ∃ b off, ao = some ⟨b, off, none⟩ ∧ ¬ S b ∧ ∀ j (h : j < us.length), w.cell? ⟨b, off + j, none⟩ = some us[j])
theorem Rows.keep {S : Nat → Prop} {v : Value} {us : List Value} (h : Rows S w v us) (k : Keep S w w') : Rows S w' v us := by
  obtain ⟨ao, cap, rfl, hc⟩ := h
  refine ⟨ao, cap, rfl, fun hp => ?_⟩
  obtain ⟨b, off, rfl, h1, h2⟩ := hc hp
  exact ⟨b, off, rfl, h1, fun j hj => k.cell (h2 j hj) h1⟩
/-- each value is a slice of bytes -/
def AllBts (w : World) (us : List Value) (xss : List (List UInt8)) : Prop := us.length = xss.length ∧ ∀ j (h : j < us.length) (h' : j < xss.length), Bts 0 w us[j] xss[j]
theorem AllBts.keep {S : Nat → Prop} {us : List Value} {xss : List (List UInt8)} (h : AllBts w us xss) (k : Keep S w w') (hS : Mut 0 w S) : AllBts w' us xss := ⟨h.1, fun j h1 h2 => (h.2 j h1 h2).keep k hS⟩
/-- writes: one behind the other, and a flush -/
def putsD : DS → Nat → List (List UInt8) → Bool × DS
  | d, _, [] => flushD d
  | d, i, xs :: r => if (writeD d i xs).1 then putsD (writeD d i xs).2 (i + 1) r else (false, (writeD d i xs).2)

set_option maxRecDepth 100000 in
set_option maxHeartbeats 1000000 in
theorem writes_some (h : DiskAt w b p c d) (i : Nat) (v : Value) (us : List Value) (xss : List (List UInt8)) (hv : Rows (Dk b p c) w v us) (hx : AllBts w us xss) (hi : i + xss.length ≤ 12) (hl : ∀ xs ∈ xss, xs.length ≤ 64) :
    Calls Try.prog 14 #[.pointer (some ⟨b, 0, none⟩), .int .i64 i, v] w fun e w' => e = .returned (okV (putsD d i xss).1) ∧ DiskAt w' b p c (putsD d i xss).2 ∧ Keep (Dk b p c) w w' := by
  obtain ⟨ao, cap, rfl, -⟩ := id hv
  have H := hid h
  have HV := hid hv
  have HX := hid hx
  have HL := hid hl
  have hul := hid hx.1
  have hil : i + us.length ≤ 12 := by rw [hx.1]; exact hi
  have hend : Hid (∀ w', DiskAt w' b p c (putsD d i xss).2 → Keep (Dk b p c) w w' → (Ending.returned (okV (putsD d i xss).1) = Ending.returned (okV (putsD d i xss).1) ∧ DiskAt w' b p c (putsD d i xss).2 ∧ Keep (Dk b p c) w w')) := hid (fun w' h1 h2 => ⟨rfl, h1, h2⟩)
  clear h hv hx hl hi
  generalize hr : putsD d i xss = res at *
  obtain ⟨ro, rd⟩ := res
  simp only at *
  replace hr := hid hr
  go_enter Try.func14, Try.ntmps14
  go_wp2_with fail
  go_loopw [12] (fun iv wr => ∃ (k : Nat) (dk : DS), k ≤ us.length ∧ iv = .int .i64 k ∧ putsD dk (i + k) (xss.drop k) = (ro, rd) ∧ DiskAt wr b p c dk ∧ Keep (Dk b p c) w wr) (fun iv _ => us.length - (intOf iv).toNat)
  case atStart => exact ⟨0, d, Nat.zero_le _, rfl, by simpa using hr.out, H.out, Keep.refl _⟩
  case round =>
    obtain ⟨k, dk, hk, rfl, hp, hd, hkp⟩ := hrel
    have HD := hid hd
    have HK := hid hkp
    have HP := hid hp
    by_cases hkn : k < us.length
    · have hkx : k < xss.length := by rw [← hul.out]; exact hkn
      obtain ⟨bk, ofk, rfl, hbk, hck⟩ : ∃ bk off, ao = some ⟨bk, off, none⟩ ∧ ¬ Dk b p c bk ∧ ∀ j (h : j < us.length), w.cell? ⟨bk, off + j, none⟩ = some us[j] := by
        obtain ⟨_, _, e, hcc⟩ := HV.out
        cases e
        exact hcc (by omega)
      have y1 : wr.cell? ⟨bk, ofk + k, none⟩ = some us[k] := HK.out.cell (hck k hkn) hbk
      have hb := (HX.out.2 k hkn hkx).keep HK.out (H.out.mut)
      obtain ⟨aok, capk, hk1, -⟩ := id hb
      have hxl := HL.out xss[k] (List.getElem_mem hkx)
      have hdr : xss.drop k = xss[k] :: xss.drop (k + 1) := List.drop_eq_getElem_cons hkx
      rw [hdr, putsD] at hp
      generalize xss[k] = xs at *
      generalize us[k] = u at *
      subst hk1
      have hW := hid (write_some HD.out (i + k) (by omega) _ xs hb hxl)
      have hw1 : IntKind.i64.wrap (((i : Nat) : Int) + (k : Nat)) = ((i + k : Nat) : Int) := by rw [IntWalk.i64_in _ (by omega)]; rfl
      generalize writeD dk (i + k) xs = res2 at *
      obtain ⟨o2, d2⟩ := res2
      simp only at hp hW
      clear hck hb hdr hd hkp
      cases o2
      · rw [if_neg (by simp)] at hp
        cases hp
        go_wp2_with fail
        refine hW.out.mono ?_
        rintro e w2 ⟨rfl, h2, k2⟩
        have hE := hid (hend.out w2 h2 (HK.out.trans k2))
        clear h2 k2
        rw [show okV false = .int .i64 8 from rfl] at *
        go_wp2
        go_ret
        exact ⟨rfl, hE.out.2⟩
      · rw [if_pos rfl] at hp
        have hp := hid hp
        go_wp2_with fail
        refine hW.out.mono ?_
        rintro e w2 ⟨rfl, h2, k2⟩
        have h2 := hid h2
        have k2 := hid k2
        rw [show okV true = .int .i64 0 from rfl] at *
        go_wp2_with fail
        go_roundw
        case rel => exact ⟨k + 1, d2, by omega, by go_num, hp.out, h2.out, HK.out.trans k2.out⟩
        case measure => simp [intOf] <;> omega
    · obtain rfl : k = us.length := by omega
      have hF := hid (flush_some HD.out)
      rw [hul.out, List.drop_length, putsD] at hp
      rw [hp] at hF
      clear hd hkp hp
      go_wp2_with fail
      refine hF.out.mono ?_
      rintro e w2 ⟨rfl, h2, k2⟩
      have hE := hid (hend.out w2 h2 (HK.out.trans k2))
      clear h2 k2
      go_wp2
      go_ret
      exact ⟨rfl, hE.out.2⟩
end Go.Proofs.Ytdecljdhdclmoaa
