/- Walks: the content checks of package tree. -/
import Derived.Test.YtkjmnoaenclleaaDoorBase
import Derived.Test.YtkjmnoaenclleaaDoorProg
set_option linter.unusedVariables false
namespace Go.Proofs.YtkjmnoaenclleaaDoor
open Go.RowKit

/-- A number's bytes: none that is not needed. -/
def shortB : List UInt8 → Bool
  | [] => false
  | [_] => true
  | a :: b :: _ => if a.toNat = 0 ∨ a.toNat = 255 then (a.toNat : Int) / 128 != (b.toNat : Int) / 128 else true

theorem short_calls (w : World) (S : Nat → Prop) (A : Option Addr) (c : Nat) (bs : List UInt8) (hb : BytesIn w S A c bs) :
    Calls Tryd.prog 39 #[.slice A bs.length c] w fun e w' => e = .returned (.bool (shortB bs)) ∧ ∃ n, w' = w.drewN n := by
  obtain ⟨h1, h2, h3⟩ := hb
  match bs, h1, h3 with
  | [], _, _ =>
    go_enter Tryd.func39, Tryd.ntmps39
    go_wp2
    go_ret
    exact ⟨rfl, 0, rfl⟩
  | [x], _, _ =>
    go_enter Tryd.func39, Tryd.ntmps39
    go_wp2
    go_ret
    exact ⟨rfl, 0, rfl⟩
  | x :: y :: l, h1, h3 =>
    obtain ⟨b, o, rfl, _, q0⟩ := h3 0 (by simp)
    obtain ⟨b', o', e, _, q1⟩ := h3 1 (by simp)
    obtain ⟨rfl, rfl⟩ : b = b' ∧ o = o' := by simpa using e
    simp only [List.getElem_cons_zero, List.getElem_cons_succ, Nat.add_zero] at q0 q1
    have hx := x.toNat_lt
    have hy := y.toNat_lt
    simp only [List.length_cons] at h1 ⊢
    clear h3 e h2
    go_enter Tryd.func39, Tryd.ntmps39
    go_wp2
    have hx0 : (0 : Int) ≤ x.toNat := Int.natCast_nonneg _
    by_cases c0 : (x.toNat : Int) = 0
    · have g0 := ne_f c0
      have C := Lib.hid c0; clear c0
      go_quiet (fail)
      go_wp2
      go_ret
      exact ⟨ret_bool (by rw [shortB, if_pos (.inl (by have := C.out; omega))]), _, rfl⟩
    · have g0 := ne_t c0
      have C := Lib.hid c0; clear c0
      by_cases c1 : (x.toNat : Int) = 255
      · have g1 := ne_f c1
        have C1 := Lib.hid c1; clear c1
        go_quiet (fail)
        go_wp2
        go_ret
        exact ⟨ret_bool (by rw [shortB, if_pos (.inr (by have := C1.out; omega))]), _, rfl⟩
      · have g1 := ne_t c1
        have C1 := Lib.hid c1; clear c1
        go_quiet (fail)
        go_wp2
        go_ret
        exact ⟨ret_bool (by rw [shortB, if_neg (by have := C.out; have := C1.out; omega)]), _, rfl⟩

/-- One byte, 0 or 255. -/
def boolB : List UInt8 → Bool
  | [a] => a.toNat = 0 ∨ a.toNat = 255
  | _ => false

theorem bool_calls (w : World) (S : Nat → Prop) (A : Option Addr) (c : Nat) (bs : List UInt8) (hb : BytesIn w S A c bs) :
    Calls Tryd.prog 38 #[.slice A bs.length c] w fun e w' => e = .returned (.bool (boolB bs)) ∧ ∃ n, w' = w.drewN n := by
  obtain ⟨h1, h2, h3⟩ := hb
  match bs, h1, h3 with
  | [], _, _ =>
    go_enter Tryd.func38, Tryd.ntmps38
    go_wp2
    go_ret
    exact ⟨rfl, 0, rfl⟩
  | [x], h1, h3 =>
    obtain ⟨b, o, rfl, _, q0⟩ := h3 0 (by simp)
    simp only [List.getElem_cons_zero, Nat.add_zero] at q0
    have hx := x.toNat_lt
    have hx0 : (0 : Int) ≤ x.toNat := Int.natCast_nonneg _
    clear h3 h2
    by_cases c0 : (x.toNat : Int) = 0
    · have g0 := eq_t c0
      have C := Lib.hid c0; clear c0
      go_enter Tryd.func38, Tryd.ntmps38
      go_wp2
      go_ret
      exact ⟨ret_bool (by have := C.out; simp only [boolB]; symm; simp; omega), 0, rfl⟩
    · have g0 := eq_f c0
      have C := Lib.hid c0; clear c0
      go_enter Tryd.func38, Tryd.ntmps38
      go_wp2
      go_ret
      exact ⟨ret_bool (by have := C.out; simp only [boolB]; rw [Bool.eq_iff_iff]; simp; omega), 0, rfl⟩
  | x :: y :: l, h1, h3 =>
    simp only [List.length_cons] at h1 ⊢
    clear h3 h2
    have g : ((l.length : Int) + 1 + 1 == 1) = false := eq_f (by omega)
    go_enter Tryd.func38, Tryd.ntmps38
    go_wp2
    go_ret
    exact ⟨rfl, 0, rfl⟩

theorem null_calls (w : World) (S : Nat → Prop) (A : Option Addr) (c : Nat) (bs : List UInt8) (hb : BytesIn w S A c bs) :
    Calls Tryd.prog 42 #[.slice A bs.length c] w fun e w' => e = .returned (.bool (bs.length == 0)) ∧ ∃ n, w' = w.drewN n := by
  obtain ⟨h1, h2, h3⟩ := hb
  go_enter Tryd.func42, Tryd.ntmps42
  go_wp2
  go_ret
  exact ⟨ret_bool (by rw [Bool.eq_iff_iff]; simp), 0, rfl⟩

/-- Bytes are a string of bits. -/
def bitsB : List UInt8 → Bool
  | [] => false
  | [a] => a.toNat == 0
  | a :: b :: l => decide (a.toNat < 8) && decide (((b :: l).getLast (by simp)).toNat % 2 ^ a.toNat = 0)

/-- An object identifier's bytes: no group begins with 128, the last byte ends one. -/
def oidGo : Bool → List UInt8 → Bool
  | b, [] => b
  | b, c :: l => if b ∧ c.toNat = 128 then false else oidGo (decide (c.toNat < 128)) l
def oidB (l : List UInt8) : Bool := oidGo true l && !l.isEmpty
end Go.Proofs.YtkjmnoaenclleaaDoor
