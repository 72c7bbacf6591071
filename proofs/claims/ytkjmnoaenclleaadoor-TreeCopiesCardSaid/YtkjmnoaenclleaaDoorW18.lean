/- Walks: the reference's Same. -/
import Derived.Test.YtkjmnoaenclleaaDoorW14
import Derived.Test.YtkjmnoaenclleaaDoorW17
set_option linter.unusedVariables false
namespace Go.Proofs.YtkjmnoaenclleaaDoor
open Go.RowKit

/-- string(b). -/
theorem bytes_string {W : World} {S : Nat → Prop} {A : Option Addr} {c : Nat} {bs : List UInt8} (h : BytesIn W S A c bs) :
    (convert 22 9 (.slice A bs.length c)).run Tryd.prog W = .ok (.string ⟨bs.toArray⟩) W := by
  cases A with
  | some a =>
    refine run_convert_bytes_back (P := Tryd.prog) W 22 9 5 a c bs Tryd.underlying22 Tryd.underlying5 Tryd.underlying9 (fun j hj => ?_)
    obtain ⟨g', o', e', _, hc⟩ := h.2.2 j hj
    injection e' with e'
    subst e'
    rw [show (⟨g', o', none⟩ : Addr).add j = ⟨g', o' + j, none⟩ from by unfold Addr.add; split <;> simp_all]
    exact hc
  | none =>
    obtain rfl : bs = [] := by
      cases bs with
      | nil => rfl
      | cons b l => obtain ⟨b, o, e, _⟩ := h.2.2 0 (by simp); cases e
    rw [run_convert_bytes_string W 22 9 5 none ([] : List UInt8).length c Tryd.underlying22 Tryd.underlying5 Tryd.underlying9]
    simp [Conv.bytesToString]
    rfl
theorem str_ne {xs ys : List UInt8} : ((⟨xs.toArray⟩ : ByteArray) != ⟨ys.toArray⟩) = !(xs == ys) := by
  have e : ((⟨xs.toArray⟩ : ByteArray) == ⟨ys.toArray⟩) = (xs.toArray == ys.toArray) := rfl
  rw [bne, e]
  by_cases h : xs = ys
  · subst h; simp
  · have h1 : (xs == ys) = false := by simpa using h
    have h2 : (xs.toArray == ys.toArray) = false := by simpa using h
    rw [h1, h2]
end Go.Proofs.YtkjmnoaenclleaaDoor
