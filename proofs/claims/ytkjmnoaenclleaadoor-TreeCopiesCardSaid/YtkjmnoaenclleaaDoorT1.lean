/- Walks: tree.Count. -/
import Derived.Test.YtkjmnoaenclleaaDoorBase
import Derived.Test.YtkjmnoaenclleaaDoorProg
set_option linter.unusedVariables false
namespace Go.Proofs.YtkjmnoaenclleaaDoor
open Go.RowKit

theorem count_calls : ∀ (n : Nat) (t : Tree) (w : World) (S : Nat → Prop) (p : At), t.nodes ≤ n → n ≤ 4611686018427387904 → TreeIn w S t p →
    Calls Tryd.prog 10 #[nodeV t p] w fun e w' => e = .returned (.tuple #[.int .i64 (t.nodes : Int), .int .i64 (t.deep : Int)]) ∧ Below w.heap.size w w' := by
  intro n
  induction n with
  | zero => intro t w S p h; have := t.nodes_pos; omega
  | succ n ih =>
    intro t w S p hn hbig ht
    obtain ⟨c, tg, b, bs, ks⟩ := t
    have hk := ht.nodes_in
    obtain ⟨hl, hm, f, hkid⟩ := hk
    unfold maxLen at hm
    simp only [nodeV, Tree.cls, Tree.tag, Tree.cons, Tree.bytes, Tree.kids]
    obtain ⟨A1, c1, A2, c2⟩ := p
    have HK := Lib.hid hkid
    have IH := Lib.hid ih
    clear hkid ih ht
    rw [Tree.nodes_mk] at hn
    go_enter Tryd.func10, Tryd.ntmps10
    go_wp2_with fail
    go_loopw [2, 3, 11] (fun a d i wr => ∃ k : Nat, k ≤ ks.length ∧ i = .int .i64 k ∧ a = .int .i64 ((1 + Tree.nodes.nodesL (ks.take k) : Nat) : Int) ∧ d = .int .i64 ((1 + Tree.deep.deepL (ks.take k) : Nat) : Int) ∧ Below w.heap.size w wr) (fun _ _ i _ => ks.length - (intOf i).toNat)
    case atStart => exact ⟨0, by omega, rfl, by simp [Tree.nodesL_nil], by simp [Tree.deepL_nil], (Below.refl _ _).alloc (by omega) _⟩
    case round =>
      obtain ⟨k, hk, rfl, rfl, rfl, hB⟩ := hrel
      by_cases hlt : k < ks.length
      · obtain ⟨g, o, e, _, ⟨h0, h1, h2, h3, h4⟩, ht⟩ := HK.out k hlt
        obtain rfl : A2 = some ⟨g, o, none⟩ := e
        have h0 := (hB.cell (World.block_lt_of_cell? w _ h0)).trans h0
        have h1 := (hB.cell (World.block_lt_of_cell? w _ h1)).trans h1
        have h2 := (hB.cell (World.block_lt_of_cell? w _ h2)).trans h2
        have h3 := (hB.cell (World.block_lt_of_cell? w _ h3)).trans h3
        have h4 := (hB.cell (World.block_lt_of_cell? w _ h4)).trans h4
        have hsub := Tree.nodes_getElem_le ks k hlt
        have htk := (ht.stay hB).stay ((Below.refl _ wr).alloc (Nat.le_refl _) (.cells #[.int .i64 ks[k].cls, .int .i64 ks[k].tag, .bool ks[k].cons, .slice (f k).A1 ks[k].bytes.length (f k).c1, .slice (f k).A2 ks[k].kids.length (f k).c2] 25))
        go_wp2_with fail
        refine (IH.out ks[k] _ S (f k) (by omega) (by omega) htk).mono ?_
        rintro e w2 ⟨rfl, hB2⟩
        have hd := Tree.deep_le_nodes ks[k]
        have e1 := Tree.nodesL_take_le ks k
        have e2 := Tree.deepL_take_le ks k
        go_wp2_with fail
        all_goals
          go_roundw
          case rel =>
            refine ⟨k + 1, hlt, by go_num, ?_, ?_, ?_⟩
            · rw [Tree.nodesL_take_succ ks k hlt]; go_num
            · rw [Tree.deepL_take_succ ks k hlt]
              congr 1; split <;> omega
            · exact (hB.alloc hB.size _).trans (hB2.mono (by simp; have := hB.size; omega))
          case measure => simp [intOf]; omega
      · go_wp2_with fail
        go_ret2
        obtain rfl : k = ks.length := by omega
        rw [List.take_length, ← Tree.nodes_mk c tg b bs, ← Tree.deep_mk c tg b bs]
        exact ⟨rfl, hB⟩
end Go.Proofs.YtkjmnoaenclleaaDoor
