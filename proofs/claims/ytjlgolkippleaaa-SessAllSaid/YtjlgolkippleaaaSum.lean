/-
  The sum over bytes, in plain Lean: a sealed text of which one byte was turned is refused. No Go text in sight.
-/
import Derived.ProofKit
namespace Go.Proofs.Ytjlgolkippleaaa

def stepAB (p : Nat × Nat) (x : UInt8) : Nat × Nat := ((p.1 + x.toNat) % 65521, (p.2 + (p.1 + x.toNat) % 65521) % 65521)
def sumAB (xs : List UInt8) : Nat × Nat := xs.foldl stepAB (1, 0)
def moreL (xs : List UInt8) : Nat := (sumAB xs).2 * 65536 + (sumAB xs).1
theorem sumAB_snoc (xs : List UInt8) (x : UInt8) : sumAB (xs ++ [x]) = stepAB (sumAB xs) x := by simp [sumAB]
theorem foldAB_lt : ∀ (xs : List UInt8) (a b : Nat), a < 65521 → b < 65521 → (xs.foldl stepAB (a, b)).1 < 65521 ∧ (xs.foldl stepAB (a, b)).2 < 65521
  | [], a, b, h1, h2 => ⟨h1, h2⟩
  | x :: xs, a, b, _, _ => by
    rw [List.foldl_cons]
    exact foldAB_lt xs _ _ (Nat.mod_lt _ (by decide)) (Nat.mod_lt _ (by decide))
theorem sumAB_lt (xs : List UInt8) : (sumAB xs).1 < 65521 ∧ (sumAB xs).2 < 65521 := foldAB_lt xs 1 0 (by decide) (by decide)
def tot : List UInt8 → Nat
  | [] => 0
  | x :: xs => x.toNat + tot xs
theorem foldAB_fst : ∀ (xs : List UInt8) (a b : Nat), (xs.foldl stepAB (a, b)).1 % 65521 = (a + tot xs) % 65521
  | [], a, b => rfl
  | x :: xs, a, b => by
    rw [List.foldl_cons]
    have h := foldAB_fst xs ((a + x.toNat) % 65521) ((b + (a + x.toNat) % 65521) % 65521)
    show (List.foldl stepAB ((a + x.toNat) % 65521, (b + (a + x.toNat) % 65521) % 65521) xs).1 % 65521 = (a + (x.toNat + tot xs)) % 65521
    rw [h]
    omega
theorem sumAB_fst (xs : List UInt8) : (sumAB xs).1 = (1 + tot xs) % 65521 := by
  have h1 := (sumAB_lt xs).1
  have h2 := foldAB_fst xs 1 0
  have h3 : (sumAB xs).1 % 65521 = (1 + tot xs) % 65521 := h2
  omega
theorem tot_set : ∀ (xs : List UInt8) (i : Nat) (y : UInt8) (h : i < xs.length), tot (xs.set i y) + xs[i].toNat = tot xs + y.toNat
  | x :: xs, 0, y, _ => by simp [tot]; omega
  | x :: xs, i + 1, y, h => by
    have := tot_set xs i y (by simpa using h)
    simp [tot]; omega

def sumBytes (s : Nat) : List UInt8 := [UInt8.ofNat (s / 16777216), UInt8.ofNat (s / 65536), UInt8.ofNat (s / 256), UInt8.ofNat s]
def sealL (xs : List UInt8) : List UInt8 := xs ++ sumBytes (moreL xs)
theorem sealL_length (xs : List UInt8) : (sealL xs).length = xs.length + 4 := by simp [sealL, sumBytes]
theorem moreL_lt (xs : List UInt8) : moreL xs < 4294967296 := by
  have := sumAB_lt xs
  unfold moreL; omega
theorem sumBytes_low {s t : Nat} (h : sumBytes s = sumBytes t) : s % 65536 = t % 65536 := by
  unfold sumBytes at h
  simp only [List.cons.injEq, and_true] at h
  obtain ⟨-, -, h1, h2⟩ := h
  have e1 := congrArg UInt8.toNat h1
  have e2 := congrArg UInt8.toNat h2
  simp at e1 e2
  omega

/-- a byte is turned -/
def turnL (xs : List UInt8) (i : Nat) (y : UInt8) : List UInt8 := xs.set i (xs.getD i 0 ^^^ y)
theorem xor_ne (x y : UInt8) (h : y ≠ 0) : x ^^^ y ≠ x := by
  intro e
  apply h
  have := congrArg (x ^^^ ·) e
  simpa [← UInt8.xor_assoc] using this
theorem turnL_length (xs : List UInt8) (i : Nat) (y : UInt8) : (turnL xs i y).length = xs.length := by simp [turnL]
/-- Open refuses it -/
def openBad (bs : List UInt8) : Prop := bs.length < 4 ∨ sealL (bs.take (bs.length - 4)) ≠ bs
theorem openBad_nil : openBad [] := .inl (by decide)
theorem open_seal (xs : List UInt8) : (sealL xs).take ((sealL xs).length - 4) = xs := by
  rw [sealL_length]
  simp [sealL]
theorem seal_turned (xs : List UInt8) (i : Nat) (y : UInt8) (hi : i < (sealL xs).length) (hy : y ≠ 0) : openBad (turnL (sealL xs) i y) := by
  right
  rw [turnL_length, sealL_length, Nat.add_sub_cancel]
  intro e
  unfold turnL at e
  have hg : (sealL xs).getD i 0 = (sealL xs)[i] := by simp [List.getD, hi]
  rw [hg] at e
  have hne := xor_ne (sealL xs)[i] y hy
  generalize (sealL xs)[i] ^^^ y = z at e hne
  by_cases hx : i < xs.length
  · have h1 : (sealL xs).set i z = xs.set i z ++ sumBytes (moreL xs) := by unfold sealL; rw [List.set_append_left _ _ hx]
    rw [h1] at e
    rw [List.take_append_of_le_length (by simp), List.take_of_length_le (by simp)] at e
    have h2 := List.append_cancel_left e
    have h3 := sumBytes_low h2
    have a1 := sumAB_lt xs
    have a2 := sumAB_lt (xs.set i z)
    have b1 := sumAB_fst xs
    have b2 := sumAB_fst (xs.set i z)
    have ht := tot_set xs i z hx
    have hn : z ≠ xs[i] := by
      intro e'
      apply hne
      rw [e']
      simp [sealL, List.getElem_append_left hx]
    have hz := UInt8.toNat_lt z
    have hw := UInt8.toNat_lt xs[i]
    have hzn : z.toNat ≠ xs[i].toNat := fun e' => hn (UInt8.toNat_inj.1 e')
    unfold moreL at h3
    omega
  · have hi' : i < xs.length + 4 := by rw [sealL_length] at hi; exact hi
    have h1 : (sealL xs).set i z = xs ++ (sumBytes (moreL xs)).set (i - xs.length) z := by unfold sealL; rw [List.set_append_right _ _ (by omega)]
    rw [h1, List.take_left'  rfl] at e
    have h2 := List.append_cancel_left e
    have hl : i - xs.length < (sumBytes (moreL xs)).length := by show _ < 4; omega
    have h3 : (sumBytes (moreL xs))[i - xs.length] = z := by
      have h4 : ((sumBytes (moreL xs)).set (i - xs.length) z)[i - xs.length]'(by simpa using hl) = z := by simp
      rw [← h4]
      congr 1
    apply hne
    rw [← h3]
    simp only [sealL]
    rw [List.getElem_append_right (by omega)]

/-- eight bytes of a number, the low one ahead -/
def le8 (n : Nat) : List UInt8 := (List.range 8).map fun k => UInt8.ofNat (n / 256 ^ k)
theorem le8_length (n : Nat) : (le8 n).length = 8 := by simp [le8]
theorem le8_get (n k : Nat) (h : k < 8) : (le8 n)[k]? = some (UInt8.ofNat (n / 256 ^ k)) := by
  simp [le8, List.getElem?_map, List.getElem?_range h]

end Go.Proofs.Ytjlgolkippleaaa
