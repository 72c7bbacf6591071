/- The plain law of numbers, joined. -/
import Derived.Test.YteocelfdfnfgnaaDoorP1
set_option linter.unusedVariables false
namespace Go.Proofs.YteocelfdfnfgnaaDoor
open Go.RowKit

def numT (n : Int) : Tree := .mk 0 2 false (intBytes n) []
theorem lim7 : lim 7 = 9223372036854775808 := by decide
section
variable {n m : Int}
theorem num_len (n : Int) : 1 ≤ (intBytes n).length ∧ (intBytes n).length ≤ 8 := by
  rw [intBytes_eq]
  exact ⟨numB_pos 7 n, numB_le 7 n⟩
theorem num_val (h1 : -9223372036854775808 ≤ n) (h2 : n < 9223372036854775808) : beVal (intBytes n) = n := by
  rw [intBytes_eq]
  exact numB_val 7 n (by rw [lim7]; exact h1) (by rw [lim7]; exact h2)
theorem num_fits (h1 : -9223372036854775808 ≤ n) (h2 : n < 9223372036854775808) : -(cap (intBytes n).length) ≤ n ∧ n < cap (intBytes n).length := by
  rw [intBytes_eq]
  exact numB_fits 7 n (by rw [lim7]; exact h1) (by rw [lim7]; exact h2)
theorem num_less (n : Int) : (intBytes n).length = 1 ∨ cap ((intBytes n).length - 1) ≤ n ∨ n < -(cap ((intBytes n).length - 1)) := by
  rw [intBytes_eq]
  exact numB_less 7 n
theorem num_breaks (X : Texts) (h1 : -9223372036854775808 ≤ n) (h2 : n < 9223372036854775808) : breaksN X (numT n) = 0 := by
  have hs : shortB (intBytes n) = true := by
    rw [intBytes_eq]
    exact numB_short 7 n (by rw [lim7]; exact h1) (by rw [lim7]; exact h2)
  show (if (0 : Int) < 0 ∨ 3 < (0 : Int) ∨ (2 : Int) < 0 ∨ 30 < (2 : Int) then 1 else if false = true ∧ intBytes n ≠ [] ∨ false = false ∧ ([] : List Tree) ≠ [] then 2 else if (0 : Int) ≠ 0 then 0 else
    if (2 : Int) = 16 ∨ (2 : Int) = 17 then (if false = true then 0 else 3) else if false = true ∨ hasContent 2 = false then 3 else if contentB X 2 (intBytes n) then 0 else 4) = 0
  have hc : contentB X 2 (intBytes n) = true := by
    unfold contentB
    rw [if_neg (by decide), if_pos (by decide)]
    exact hs
  rw [hc]
  simp [hasContent]
theorem num_wrong (X : Texts) (h1 : -9223372036854775808 ≤ n) (h2 : n < 9223372036854775808) : wrongN X (numT n) = (0, -1) := by
  have hb := num_breaks X h1 h2
  unfold numT at hb ⊢
  simp [wrongN, Tree.deep_mk, Tree.deepL_nil, Tree.nodes_mk, Tree.nodesL_nil, Tree.list_mk, Tree.listL_nil, wrongGo, hb]
theorem num_asInt (X : Texts) (h1 : -9223372036854775808 ≤ n) (h2 : n < 9223372036854775808) : asIntN X (numT n) = (n, 0) := by
  unfold asIntN
  rw [if_pos ⟨⟨rfl, .inl rfl⟩, num_breaks X h1 h2, (num_len n).2⟩]
  show (beVal (intBytes n), (0 : Int)) = _
  rw [num_val h1 h2]
theorem num_inj (h1 : -9223372036854775808 ≤ n) (h2 : n < 9223372036854775808) (g1 : -9223372036854775808 ≤ m) (g2 : m < 9223372036854775808) : eqB (numT n) (numT m) = (n == m) := by
  by_cases h : n = m
  · rw [eqB_t (by rw [h])]; simp [h]
  · rw [eqB_f]
    · exact (beq_eq_false_iff_ne.2 h).symm
    · intro e
      apply h
      unfold numT at e
      injection e with _ _ _ e
      rw [← num_val h1 h2, e, num_val g1 g2]
theorem cap_vals : cap 1 = 128 ∧ cap 2 = 32768 ∧ cap 3 = 8388608 ∧ cap 4 = 2147483648 ∧ cap 5 = 549755813888 ∧ cap 6 = 140737488355328 ∧ cap 7 = 36028797018963968 ∧ cap 8 = 9223372036854775808 := by decide
theorem cap_mono {a b : Nat} (h1 : 1 ≤ a) (h : a ≤ b) : cap a ≤ cap b := by
  induction b with
  | zero => omega
  | succ b ih =>
    by_cases hb : a = b + 1
    · subst hb; exact Int.le_refl _
    · have := ih (by omega)
      rw [cap_succ b (by omega)]
      have hp : 0 < cap b := by
        have : (0 : Int) < 256 ^ (b - 1) := by exact Int.pow_pos (by decide)
        unfold cap; omega
      omega
theorem num_pos (h1 : -9223372036854775808 ≤ n) (h2 : n < 9223372036854775808) (g1 : -9223372036854775808 ≤ m) (g2 : m < 9223372036854775808) (h : 0 ≤ n) (hm : n ≤ m) : (intBytes n).length ≤ (intBytes m).length := by
  obtain ⟨l1, l2⟩ := num_len n
  obtain ⟨k1, k2⟩ := num_len m
  obtain ⟨f1, f2⟩ := num_fits g1 g2
  rcases num_less n with hl | hl
  · omega
  · by_cases hc : (intBytes n).length ≤ (intBytes m).length
    · exact hc
    · exfalso
      have := cap_mono (a := (intBytes m).length) (b := (intBytes n).length - 1) k1 (by omega)
      have hp : 0 < cap (intBytes m).length := by omega
      omega
theorem num_neg (h1 : -9223372036854775808 ≤ n) (h2 : n < 9223372036854775808) (g1 : -9223372036854775808 ≤ m) (g2 : m < 9223372036854775808) (h : n < 0) (hm : m ≤ n) : (intBytes n).length ≤ (intBytes m).length := by
  obtain ⟨l1, l2⟩ := num_len n
  obtain ⟨k1, k2⟩ := num_len m
  obtain ⟨f1, f2⟩ := num_fits g1 g2
  rcases num_less n with hl | hl
  · omega
  · by_cases hc : (intBytes n).length ≤ (intBytes m).length
    · exact hc
    · exfalso
      have := cap_mono (a := (intBytes m).length) (b := (intBytes n).length - 1) k1 (by omega)
      have hp : 0 < cap ((intBytes n).length - 1) := by
        have : (0 : Int) < 256 ^ ((intBytes n).length - 1 - 1) := Int.pow_pos (by decide)
        unfold cap; omega
      omega
end
end Go.Proofs.YteocelfdfnfgnaaDoor
