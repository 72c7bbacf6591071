/- Walks: which check a universal tag's bytes have; what a node breaks by itself. -/
import Derived.Test.YtkjmnoaenclleaaDoorW3
set_option linter.unusedVariables false
namespace Go.Proofs.YtkjmnoaenclleaaDoor
open Go.RowKit

/-- What package tree's fits answers: the check of a tag's bytes. -/
def Checks (W : World) (tag : Int) (v : Value) : Prop :=
  (tag = 1 ∧ v = .func (.func 38) #[] #[]) ∨ ((tag = 2 ∨ tag = 10) ∧ v = .func (.func 39) #[] #[]) ∨ (tag = 3 ∧ v = .func (.func 40) #[] #[]) ∨
  (∃ (p : Each) (B : Nat), ((tag = 4 ∧ p = .all) ∨ (tag = 19 ∧ p = .print) ∨ (tag = 22 ∧ p = .ascii)) ∧ v = .func (.func 35) #[] #[.pointer (some ⟨B, 0, none⟩)] ∧ W.cell? ⟨B, 0, none⟩ = some (.func (.func p.fn) #[] #[])) ∨
  (tag = 5 ∧ v = .func (.func 42) #[] #[]) ∨ (tag = 6 ∧ v = .func (.func 43) #[] #[]) ∨ (tag = 12 ∧ v = .func (.func 44) #[] #[]) ∨
  (tag = 23 ∧ v = .func (.func 48) #[] #[]) ∨ (tag = 24 ∧ v = .func (.func 49) #[] #[]) ∨
  (tag ≠ 1 ∧ tag ≠ 2 ∧ tag ≠ 10 ∧ tag ≠ 3 ∧ tag ≠ 4 ∧ tag ≠ 5 ∧ tag ≠ 6 ∧ tag ≠ 12 ∧ tag ≠ 19 ∧ tag ≠ 22 ∧ tag ≠ 23 ∧ tag ≠ 24 ∧ v = .nilFunc)

theorem only1_calls (f : Value) (w : World) (hf : f.oneCell' = true) :
    Calls Tryd.prog 34 #[f] w fun e w' => e = .returned (.func (.func 35) #[] #[.pointer (some ⟨w.heap.size, 0, none⟩)]) ∧ w' = w.alloc (.cells #[f] 65) := by
  cases f <;> simp [Value.oneCell'] at hf
  all_goals
    go_enter Tryd.func34, Tryd.ntmps34
    go_wp2
    go_ret
    exact ⟨rfl, rfl⟩
theorem fits_calls (tag : Int) (w : World) : Calls Tryd.prog 31 #[.int .i64 tag] w fun e w' => (∃ v, e = .returned v ∧ Checks w' tag v) ∧ Below w.heap.size w w' := by
  go_enter Tryd.func31, Tryd.ntmps31
  go_wp2_with (first | (go_at_call 34; refine (only1_calls _ _ rfl).mono ?_; rintro e w' ⟨rfl, rfl⟩))
  all_goals
    go_ret
    refine ⟨⟨_, rfl, ?_⟩, by first | exact Below.refl _ _ | exact (Below.refl _ _).alloc (Nat.le_refl _) _⟩
    simp only [beq_iff_eq, beq_eq_false_iff_ne, ne_eq] at *
    first
      | exact .inl ⟨by assumption, rfl⟩
      | exact .inr (.inl ⟨by first | exact .inl (by assumption) | exact .inr (by assumption), rfl⟩)
      | exact .inr (.inr (.inl ⟨by assumption, rfl⟩))
      | exact .inr (.inr (.inr (.inl ⟨.all, _, .inl ⟨by assumption, rfl⟩, rfl, by simp [go_sem, Each.fn]⟩)))
      | exact .inr (.inr (.inr (.inl ⟨.print, _, .inr (.inl ⟨by assumption, rfl⟩), rfl, by simp [go_sem, Each.fn]⟩)))
      | exact .inr (.inr (.inr (.inl ⟨.ascii, _, .inr (.inr ⟨by assumption, rfl⟩), rfl, by simp [go_sem, Each.fn]⟩)))
      | exact .inr (.inr (.inr (.inr (.inl ⟨by assumption, rfl⟩))))
      | exact .inr (.inr (.inr (.inr (.inr (.inl ⟨by assumption, rfl⟩)))))
      | exact .inr (.inr (.inr (.inr (.inr (.inr (.inl ⟨by assumption, rfl⟩))))))
      | exact .inr (.inr (.inr (.inr (.inr (.inr (.inr (.inl ⟨by assumption, rfl⟩)))))))
      | exact .inr (.inr (.inr (.inr (.inr (.inr (.inr (.inr (.inl ⟨by assumption, rfl⟩))))))))
      | exact .inr (.inr (.inr (.inr (.inr (.inr (.inr (.inr (.inr ⟨by assumption, by assumption, by assumption, by assumption, by assumption, by assumption, by assumption, by assumption, by assumption, by assumption, by assumption, by assumption, rfl⟩))))))))
end Go.Proofs.YtkjmnoaenclleaaDoor
