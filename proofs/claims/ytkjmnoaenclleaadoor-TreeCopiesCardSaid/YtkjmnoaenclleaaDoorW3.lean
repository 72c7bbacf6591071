/- Walks: each byte is one that may stand in a text. -/
import Derived.Test.YtkjmnoaenclleaaDoorW2
import Derived.Test.YtkjmnoaenclleaaDoorShelf
set_option linter.unusedVariables false
namespace Go.Proofs.YtkjmnoaenclleaaDoor
open Go.RowKit

def signsL : List UInt8 := [65,66,67,68,69,70,71,72,73,74,75,76,77,78,79,80,81,82,83,84,85,86,87,88,89,90,97,98,99,100,101,102,103,104,105,106,107,108,109,110,111,112,113,114,115,116,117,118,119,120,121,122,48,49,50,51,52,53,54,55,56,57,32,39,40,41,43,44,45,46,47,58,61,63]
/-- What may stand in a byte, by a tag: 4: all, 19: printable, 22: below 128. -/
inductive Each | all | print | ascii
def Each.fn : Each → Nat | .all => 41 | .print => 45 | .ascii => 47
def Each.may : Each → UInt8 → Bool
  | .all, _ => true
  | .print, c => signsL.contains c
  | .ascii, c => decide ((c.toNat : Int) < 128)

theorem indexByte_ge (l : List UInt8) (c : UInt8) : decide (Lib.indexByte l c ≥ 0) = l.contains c := by
  induction l with
  | nil => rfl
  | cons b l ih =>
    have hg := Lib.indexByte_ge l c
    rw [Lib.indexByte, List.contains_cons, ← ih]
    by_cases h : b = c
    · subst h; simp
    · have h1 : (b == c) = false := by simpa using h
      have h2 : (c == b) = false := by simpa using fun e : c = b => h e.symm
      rw [h1, h2, Bool.false_or, if_neg (by simp), Bool.eq_iff_iff, decide_eq_true_eq, decide_eq_true_eq]
      by_cases h3 : Lib.indexByte l c = -1
      · simp [h3]
      · rw [if_neg (by simpa using h3)]; omega

theorem each_calls (p : Each) (c : UInt8) (w : World) : Calls Tryd.prog p.fn #[.int .u8 (c.toNat : Int)] w fun e w' => e = .returned (.bool (p.may c)) ∧ w' = w := by
  have hx := c.toNat_lt
  have hx0 : (0 : Int) ≤ c.toNat := Int.natCast_nonneg _
  cases p with
  | all =>
    simp only [Each.fn]
    go_enter Tryd.func41, Tryd.ntmps41
    go_wp2
    go_ret
    exact ⟨rfl, rfl⟩
  | print =>
    simp only [Each.fn]
    have hs := Tryd.strings_IndexByte ⟨signsL.toArray⟩ (c.toNat : Int) w
    simp only [Int.toNat_natCast, show c.toNat.toUInt8 = c from by simp] at hs
    have H := Lib.hid hs; clear hs
    go_enter Tryd.func45, Tryd.ntmps45
    go_wp2_with fail
    refine H.out.mono ?_
    rintro e w' ⟨rfl, rfl⟩
    go_wp2
    go_ret
    exact ⟨ret_bool (indexByte_ge _ _), rfl⟩
  | ascii =>
    simp only [Each.fn]
    go_enter Tryd.func47, Tryd.ntmps47
    go_wp2
    go_ret
    exact ⟨rfl, rfl⟩

theorem not_calls (p : Each) (c : UInt8) (B : Nat) (w : World) (hB : w.cell? ⟨B, 0, none⟩ = some (.func (.func p.fn) #[] #[])) :
    Calls Tryd.prog 37 #[.int .u8 (c.toNat : Int), .pointer (some ⟨B, 0, none⟩)] w fun e w' => e = .returned (.bool (!p.may c)) ∧ w' = w := by
  have h := each_calls p c w
  cases p <;>
  · simp only [Each.fn] at hB h
    have H := Lib.hid h; clear h
    go_enter Tryd.func37, Tryd.ntmps37
    go_wp2_with fail
    refine H.out.mono ?_
    rintro e w' ⟨rfl, rfl⟩
    go_wp2
    go_ret
    exact ⟨rfl, rfl⟩

/-- The place of the first byte that may not; -1: there is none. -/
def firstNot (p : Each) : Nat → List UInt8 → Int
  | _, [] => -1
  | k, c :: l => if p.may c then firstNot p (k + 1) l else k
theorem firstNot_ge (p : Each) (l : List UInt8) : ∀ k : Nat, decide (firstNot p k l ≥ 0) = !l.all p.may := by
  induction l with
  | nil => intro k; rfl
  | cons c l ih =>
    intro k
    rw [firstNot, List.all_cons]
    by_cases h : p.may c = true
    · rw [if_pos h, ih, h, Bool.true_and]
    · rw [if_neg h, Bool.not_eq_true] at *
      rw [h, Bool.false_and, Bool.not_false, decide_eq_true_eq]; omega

theorem indexNot_calls (p : Each) (B : Nat) (w : World) (S : Nat → Prop) (A : Option Addr) (c : Nat) (bs : List UInt8) (hb : BytesIn w S A c bs) (hB : w.cell? ⟨B, 0, none⟩ = some (.func (.func p.fn) #[] #[])) :
    Calls Tryd.prog 50 #[.slice A bs.length c, .func (.func 37) #[] #[.pointer (some ⟨B, 0, none⟩)]] w fun e w' => e = .returned (.int .i64 (firstNot p 0 bs)) ∧ w' = w := by
  obtain ⟨h1, h2, h3⟩ := hb
  have H3 := Lib.hid h3; clear h3
  have HB := Lib.hid hB; clear hB
  unfold maxLen at h2
  go_enter Tryd.func50, Tryd.ntmps50
  go_wp2_with fail
  go_loop [8] (fun i => ∃ (k : Nat), k ≤ bs.length ∧ i = .int .i64 k ∧ Hid (firstNot p 0 bs = firstNot p k (bs.drop k))) (fun i => bs.length - (intOf i).toNat)
  case atStart => exact ⟨0, by omega, rfl, rfl⟩
  case round =>
    obtain ⟨k, hk, rfl, HG⟩ := hrel
    by_cases hlt : k < bs.length
    · obtain ⟨b, o, e, _, q0⟩ := H3.out k hlt
      obtain rfl : A = some ⟨b, o, none⟩ := e
      have E : Hid (bs.drop k = bs[k] :: bs.drop (k + 1)) := drop_get bs k hlt
      by_cases hm : p.may bs[k] = true
      · have M := Lib.hid hm; clear hm
        go_wp2_with fail
        refine (not_calls p bs[k] B w HB.out).mono ?_
        rintro e w' ⟨rfl, rfl⟩
        rw [M.out, Bool.not_true]
        go_wp2_with fail
        all_goals
          go_round
          case rel => exact ⟨k + 1, hlt, by go_num, (HG.out.trans (congrArg _ E.out)).trans (if_pos M.out)⟩
          case measure => simp [intOf]; omega
      · have M := Lib.hid hm; clear hm
        go_wp2_with fail
        refine (not_calls p bs[k] B w HB.out).mono ?_
        rintro e w' ⟨rfl, rfl⟩
        rw [Bool.eq_false_iff.2 M.out, Bool.not_false]
        go_wp2_with fail
        go_ret
        exact ⟨ret_int ((HG.out.trans (congrArg _ E.out)).trans (if_neg M.out)).symm, rfl⟩
    · obtain rfl : k = bs.length := by omega
      have HG2 : Hid (firstNot p 0 bs = -1) := by have h := HG.out; rw [List.drop_length] at h; exact h
      clear HG
      go_wp2_with fail
      go_ret
      exact ⟨ret_int HG2.out.symm, rfl⟩

theorem containsNot_calls (p : Each) (B : Nat) (w : World) (S : Nat → Prop) (A : Option Addr) (c : Nat) (bs : List UInt8) (hb : BytesIn w S A c bs) (hB : w.cell? ⟨B, 0, none⟩ = some (.func (.func p.fn) #[] #[])) :
    Calls Tryd.prog 36 #[.slice A bs.length c, .func (.func 37) #[] #[.pointer (some ⟨B, 0, none⟩)]] w fun e w' => e = .returned (.bool (!bs.all p.may)) ∧ w' = w := by
  have h := indexNot_calls p B w S A c bs hb hB
  have H := Lib.hid h; clear h hb hB
  go_enter Tryd.func36, Tryd.ntmps36
  go_wp2_with fail
  refine H.out.mono ?_
  rintro e w' ⟨rfl, rfl⟩
  go_wp2_with fail
  go_ret
  exact ⟨ret_bool (firstNot_ge _ _ _), rfl⟩

theorem only_calls (p : Each) (B : Nat) (w : World) (S : Nat → Prop) (A : Option Addr) (c : Nat) (bs : List UInt8) (hb : BytesIn w S A c bs) (hB : w.cell? ⟨B, 0, none⟩ = some (.func (.func p.fn) #[] #[])) :
    Calls Tryd.prog 35 #[.slice A bs.length c, .pointer (some ⟨B, 0, none⟩)] w fun e w' => e = .returned (.bool (bs.all p.may)) ∧ w' = w := by
  have h := containsNot_calls p B w S A c bs hb hB
  have H := Lib.hid h; clear h hb hB
  go_enter Tryd.func35, Tryd.ntmps35
  go_wp2_with fail
  refine H.out.mono ?_
  rintro e w' ⟨rfl, rfl⟩
  go_wp2_with fail
  go_ret
  exact ⟨ret_bool (by simp), rfl⟩
end Go.Proofs.YtkjmnoaenclleaaDoor
