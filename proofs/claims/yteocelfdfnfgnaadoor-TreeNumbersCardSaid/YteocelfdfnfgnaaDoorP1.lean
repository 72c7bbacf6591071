/- The plain law of numbers: what bytes a number has. -/
import Derived.Test.YteocelfdfnfgnaaDoorW15
set_option linter.unusedVariables false
namespace Go.Proofs.YteocelfdfnfgnaaDoor
open Go.RowKit

def numB : Nat → Int → List UInt8
  | 0, n => [byteOf n]
  | f + 1, n => if n / 128 = 0 ∨ n / 128 = -1 then [byteOf n] else numB f (n / 256) ++ [byteOf n]
theorem intGo_numB : ∀ (f : Nat) (n : Int) (t : List UInt8), intGo f n (byteOf n :: t) = numB f n ++ t
  | 0, n, t => rfl
  | f + 1, n, t => by
    rw [intGo, numB]
    split
    · rfl
    · rw [intGo_numB f (n / 256) (byteOf n :: t), List.append_assoc]; rfl
theorem intBytes_eq (n : Int) : intBytes n = numB 7 n := by
  unfold intBytes
  rw [intGo_numB, List.append_nil]
theorem numB_pos : ∀ (f : Nat) (n : Int), 1 ≤ (numB f n).length
  | 0, n => by simp [numB]
  | f + 1, n => by rw [numB]; split <;> simp
theorem numB_le : ∀ (f : Nat) (n : Int), (numB f n).length ≤ f + 1
  | 0, n => by simp [numB]
  | f + 1, n => by
    rw [numB]
    split
    · simp
    · have := numB_le f (n / 256); simp; omega
theorem s8_byteOf (n : Int) (h : -128 ≤ n) (h' : n < 128) : s8 (byteOf n) = n := by
  have e := byteOf_toNat n
  unfold s8
  split <;> omega
def lim : Nat → Int
  | 0 => 128
  | f + 1 => lim f * 256
theorem numB_val : ∀ (f : Nat) (n : Int), -lim f ≤ n → n < lim f → beVal (numB f n) = n
  | 0, n, h1, h2 => by rw [lim] at h1 h2; rw [numB]; exact s8_byteOf n (by omega) (by omega)
  | f + 1, n, h1, h2 => by
    rw [lim] at h1 h2
    rw [numB]
    split
    · exact s8_byteOf n (by omega) (by omega)
    · rw [beVal_snoc _ _ (by intro e; have := numB_pos f (n / 256); rw [e] at this; simp at this), byteOf_toNat, numB_val f (n / 256) (by generalize lim f = P at *; omega) (by generalize lim f = P at *; omega)]
      omega
/-- The range that so many bytes have. -/
def cap (k : Nat) : Int := 128 * 256 ^ (k - 1)
theorem cap_one : cap 1 = 128 := by decide
theorem cap_succ (k : Nat) (h : 1 ≤ k) : cap (k + 1) = cap k * 256 := by
  unfold cap
  rw [show k + 1 - 1 = (k - 1) + 1 by omega, Int.pow_succ]
  omega
theorem numB_fits : ∀ (f : Nat) (n : Int), -lim f ≤ n → n < lim f → -(cap (numB f n).length) ≤ n ∧ n < cap (numB f n).length
  | 0, n, h1, h2 => by rw [lim] at h1 h2; simp only [numB, List.length_singleton, cap_one]; omega
  | f + 1, n, h1, h2 => by
    rw [lim] at h1 h2
    rw [numB]
    split
    · simp only [List.length_singleton, cap_one]; omega
    · obtain ⟨g1, g2⟩ := numB_fits f (n / 256) (by generalize lim f = P at *; omega) (by generalize lim f = P at *; omega)
      rw [List.length_append, List.length_singleton, cap_succ _ (numB_pos f _)]
      generalize cap (numB f (n / 256)).length = C at *
      omega
theorem numB_less : ∀ (f : Nat) (n : Int), (numB f n).length = 1 ∨ cap ((numB f n).length - 1) ≤ n ∨ n < -(cap ((numB f n).length - 1))
  | 0, n => .inl (by simp [numB])
  | f + 1, n => by
    rw [numB]
    split
    · left; simp
    · right
      rw [List.length_append, List.length_singleton, Nat.add_sub_cancel]
      rcases numB_less f (n / 256) with h | h
      · rw [h, cap_one]; omega
      · have hp := numB_pos f (n / 256)
        by_cases h1 : (numB f (n / 256)).length = 1
        · rw [h1, cap_one]; omega
        · rw [show (numB f (n / 256)).length = (numB f (n / 256)).length - 1 + 1 by omega, cap_succ _ (by omega)]
          generalize cap ((numB f (n / 256)).length - 1) = C at *
          omega
theorem shortB_snoc (a b : UInt8) (l : List UInt8) (c : UInt8) : shortB (a :: b :: l ++ [c]) = shortB (a :: b :: l) := rfl
theorem numB_short : ∀ (f : Nat) (n : Int), -lim f ≤ n → n < lim f → shortB (numB f n) = true
  | 0, n, h1, h2 => rfl
  | f + 1, n, h1, h2 => by
    rw [lim] at h1 h2
    rw [numB]
    split
    · rfl
    · have q1 : -lim f ≤ n / 256 := by generalize lim f = P at *; omega
      have q2 : n / 256 < lim f := by generalize lim f = P at *; omega
      have ih := numB_short f (n / 256) q1 q2
      have hv := numB_val f (n / 256) q1 q2
      have hp := numB_pos f (n / 256)
      generalize numB f (n / 256) = l at *
      match l, hp with
      | a :: b :: l, _ => rw [shortB_snoc]; exact ih
      | [a], _ =>
        have e : s8 a = n / 256 := hv
        have eb := byteOf_toNat n
        show shortB [a, byteOf n] = true
        have ha := a.toNat_lt
        unfold s8 at e
        have hb := (byteOf n).toNat_lt
        simp only [shortB]
        split
        · rw [bne_iff_ne]
          split at e <;> omega
        · rfl
end Go.Proofs.YteocelfdfnfgnaaDoor
