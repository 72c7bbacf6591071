/- Walks: copies. -/
import Derived.Test.YtkjmnoaenclleaaDoorOwn
set_option linter.unusedVariables false
namespace Go.Proofs.YtkjmnoaenclleaaDoor
open Go.RowKit

/-- The answer is a row of bytes of the call's own. -/
def GivesB (w : World) (bs : List UInt8) (e : Ending) (w' : World) : Prop :=
  ∃ A c, e = .returned (.slice A bs.length c) ∧ w'.ownsRow w.heap.size 5 1 (.slice A bs.length c) bs.length (bv bs) ∧ Below w.heap.size w w'

theorem info_byte : (Tryd.prog.info? 5).map (fun i => (i.zero, i.size, i.bytes)) = some (some (.int .u8 0), 1, 1) := by kernel_rfl
theorem info_node : (Tryd.prog.info? 25).map (fun i => (i.zero, i.size, i.bytes)) = some (some (.agg #[.int .i64 0, .int .i64 0, .bool false, .slice none 0 0, .slice none 0 0]), 5, 72) := by kernel_rfl

theorem cloneB_calls (A : Option Addr) (c : Nat) (bs : List UInt8) (w : World) (S : Nat → Prop) (hb : BytesIn w S A c bs) (hn : bs.length ≤ 1000000000) :
    Calls Tryd.prog 24 #[.slice A bs.length c] w (GivesB w bs) := by
  obtain ⟨h1, h2, h3⟩ := hb
  have H3 := Lib.hid h3; clear h3
  unfold maxLen at h2
  have hz := fun W => Lib.run_eql_slice_nil (P := Tryd.prog) W 22 5 A bs.length c 0 0 Tryd.underlying22
  cases A with
  | none =>
    obtain rfl : bs = [] := by
      cases bs with
      | nil => rfl
      | cons b l => obtain ⟨b, o, e, _⟩ := H3.out 0 (by simp); cases e
    have hz' : ∀ W : World, (binOp .eql 22 (.slice none 0 c) (.slice none 0 0)).run Tryd.prog W = .ok (.bool true) W := hz
    clear hz
    simp only [List.length_nil] at h1 ⊢
    go_enter Tryd.func24, Tryd.ntmps24
    go_wp2_with fail
    go_ret
    exact ⟨none, 0, rfl, World.ownsRow_nil _ _ _ _, Below.refl _ _⟩
  | some ad =>
    have hz' : ∀ W : World, (binOp .eql 22 (.slice (some ad) bs.length c) (.slice none 0 0)).run Tryd.prog W = .ok (.bool false) W := hz
    clear hz
    obtain ⟨i0, hi, hz0, hz1, hz2⟩ := info_parts info_byte
    have hnews : ∀ j u, (bv bs)[j]? = some u → (w.alloc (.cells #[] 5)).cell? (ad.add j) = some u := by
      intro j u hu
      have hj : j < bs.length := by have := (List.getElem?_eq_some_iff.1 hu).1; rwa [bv_length] at this
      obtain ⟨b, o, e, _, hc⟩ := H3.out j hj
      injection e with e
      subst e
      rw [bv, List.getElem?_map, List.getElem?_eq_getElem hj] at hu
      simp only [Option.map_some, Option.some.injEq] at hu
      rw [show (⟨b, o, none⟩ : Addr).add j = ⟨b, o + j, none⟩ from by unfold Addr.add; split <;> simp_all, World.cell?_alloc_lt w _ _ (World.block_lt_of_cell? w _ hc), hc, hu]
    have HN := Lib.hid hnews; clear hnews
    have hown := World.ownsRow_made (base := w.heap.size) (e := 5) (size := 1) w #[] 0 (Nat.le_refl _) (by simp [maxLen]) rfl
    have HO := Lib.hid hown; clear hown
    have hi' := Lib.hid hi; clear hi
    go_enter Tryd.func24, Tryd.ntmps24
    go_wp2_with (at_builtin; refine wpList_append_own_at _ rfl _ _ 22 rfl w.heap.size 5 i0 (.int .u8 0) 1 1 Tryd.underlying22 hi'.out hz0 hz1 hz2 rfl (by decide) _ 0 [] rfl HO.out ad bs.length c (bv bs) rfl (by rw [bv_length]; omega) HN.out (by intro u hu; obtain ⟨b, _, rfl⟩ := List.mem_map.1 hu; rfl) (by simp only [maxLen]; omega) (by omega) (by simp) ?_; intro v' w1 hown1 hg1 _ hat1)
    have h2 : ∃ A' c', v' = .slice A' bs.length c' := by
      rcases hown1.2 with ⟨h, hn0⟩ | ⟨g, cap, cur, h, _⟩
      · exact ⟨none, 0, by rw [h]; congr 1; omega⟩
      · exact ⟨_, cap, by rw [h]; congr 1; omega⟩
    obtain ⟨A', c', rfl⟩ := h2
    go_wp2_with fail
    go_ret
    refine ⟨A', c', rfl, by simpa using hown1, ((Below.refl _ w).alloc (Nat.le_refl _) _).grown hg1 (by simp) (fun k hk => ?_)⟩
    have : w.heap.size = k := by first | exact Option.some.inj hk | simpa [Value.ownBlock] using hk
    omega
end Go.Proofs.YtkjmnoaenclleaaDoor
