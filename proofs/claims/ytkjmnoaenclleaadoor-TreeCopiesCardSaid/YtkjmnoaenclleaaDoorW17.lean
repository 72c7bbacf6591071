/- Walks: the law's weigh, great. -/
import Derived.Test.YtkjmnoaenclleaaDoorW11
set_option linter.unusedVariables false
namespace Go.Proofs.YtkjmnoaenclleaaDoor
open Go.RowKit

/-- What is left of a room behind a tree; less than 0: it has none. -/
def weigh : Int → Nat → Tree → Int
  | room, d, .mk c t b bs ks => weighL (room - 1 - (bs.length : Int)) d ks
  where weighL : Int → Nat → List Tree → Int
  | room, d, [] => room
  | room, d, t :: l => if room < 0 then room else if d = 0 then -1 else weighL (weigh room (d - 1) t) d l
theorem weigh_mk (room : Int) (d : Nat) (c t : Int) (b : Bool) (bs : List UInt8) (ks : List Tree) : weigh room d (.mk c t b bs ks) = weigh.weighL (room - 1 - (bs.length : Int)) d ks := by rw [weigh]
theorem weighL_nil (room : Int) (d : Nat) : weigh.weighL room d [] = room := by rw [weigh.weighL]
theorem weighL_cons (room : Int) (d : Nat) (t : Tree) (l : List Tree) : weigh.weighL room d (t :: l) = if room < 0 then room else if d = 0 then -1 else weigh.weighL (weigh room (d - 1) t) d l := by rw [weigh.weighL]

theorem weigh_le : ∀ (t : Tree) (room : Int) (d : Nat), weigh room d t ≤ max room (-1)
  | .mk c t b bs ks, room, d => by
    rw [weigh_mk]
    have := go ks (room - 1 - (bs.length : Int)) d
    omega
  where go : ∀ (l : List Tree) (room : Int) (d : Nat), weigh.weighL room d l ≤ max room (-1)
  | [], room, d => by rw [weighL_nil]; omega
  | t :: l, room, d => by
    rw [weighL_cons]
    split
    · omega
    · split
      · omega
      · have h1 := weigh_le t room (d - 1)
        have h2 := go l (weigh room (d - 1) t) d
        omega
theorem weigh_fits : ∀ (t : Tree) (room : Int) (d : Nat), 0 ≤ weigh room d t → weigh room d t = room - (t.nodes : Int) - (t.total : Int)
  | .mk c t b bs ks, room, d => by
    intro h
    rw [weigh_mk] at h ⊢
    rw [go ks _ _ h, Tree.nodes_mk, Tree.total_mk]
    omega
  where go : ∀ (l : List Tree) (room : Int) (d : Nat), 0 ≤ weigh.weighL room d l → weigh.weighL room d l = room - (Tree.nodes.nodesL l : Int) - (Tree.total.totalL l : Int)
  | [], room, d => by intro h; rw [weighL_nil, Tree.nodesL_nil, Tree.totalL_nil]; omega
  | t :: l, room, d => by
    intro h
    rw [weighL_cons] at h ⊢
    rw [Tree.nodesL_cons, Tree.totalL_cons]
    split at h
    · omega
    · split at h
      · omega
      · rename_i h1 h2
        rw [if_neg h1, if_neg h2]
        have h3 := go l (weigh room (d - 1) t) d h
        have h4 : 0 ≤ weigh room (d - 1) t := by omega
        have h5 := weigh_fits t room (d - 1) h4
        rw [h3, h5]
        omega

set_option maxHeartbeats 1000000 in
theorem weigh_calls : ∀ (n : Nat) (t : Tree) (w : World) (S : Nat → Prop) (p : At) (room : Int) (d : Nat), t.nodes ≤ n → TreeIn w S t p → 0 ≤ room → room ≤ 10000 → d ≤ 200 →
    Calls Tryd.prog 23 #[nodeV t p, .int .i64 room, .int .i64 d] w fun e w' => e = .returned (.int .i64 (weigh room d t)) ∧ Below w.heap.size w w' := by
  intro n
  induction n with
  | zero => intro t w S p room d h; have := t.nodes_pos; omega
  | succ n ih =>
    intro t w S p room d hn ht hr1 hr2 hd
    obtain ⟨cl, tg, co, bs, ks⟩ := t
    obtain ⟨hl, hm, f, hkid⟩ := ht.nodes_in
    have hb1 := ht.bytes_in.1
    have hb2 := ht.bytes_in.2.1
    obtain ⟨A1, c1, A2, c2⟩ := p
    simp only at hl hm hkid hb1 hb2
    unfold maxLen at hm hb2
    have HK := Lib.hid hkid
    have IH := Lib.hid ih
    clear hkid ih ht
    rw [Tree.nodes_mk] at hn
    rw [weigh_mk]
    have HX := Lib.hid (BoxN.alloc w (.int .i64 cl) (.int .i64 tg) (.bool co) (.slice A1 bs.length c1) (.slice A2 ks.length c2))
    have HW : Hid (Below w.heap.size w (w.alloc (.cells #[.int .i64 cl, .int .i64 tg, .bool co, .slice A1 bs.length c1, .slice A2 ks.length c2] 25))) := Lib.hid ((Below.refl _ w).alloc (Nat.le_refl _) _)
    simp only [nodeV, Tree.cls, Tree.tag, Tree.cons, Tree.bytes, Tree.kids]
    go_enter Tryd.func23, Tryd.ntmps23
    go_wp2_with fail
    go_loopw [1, 7] (fun r i wr => ∃ (k : Nat) (rm : Int), k ≤ ks.length ∧ i = .int .i64 k ∧ r = .int .i64 rm ∧ rm ≤ 10000 ∧ Hid (weigh.weighL rm d (ks.drop k) = weigh.weighL (room - 1 - (bs.length : Int)) d ks) ∧
      Hid (BoxN wr w.heap.size (.int .i64 cl) (.int .i64 tg) (.bool co) (.slice A1 bs.length c1) (.slice A2 ks.length c2)) ∧ Hid (Below w.heap.size w wr)) (fun _ i _ => ks.length - (intOf i).toNat)
    case atStart => exact ⟨0, room - 1 - (bs.length : Int), by omega, rfl, by go_num, by omega, Lib.hid (by rw [List.drop_zero]), HX, HW⟩
    case round =>
      obtain ⟨k, rm, hk, rfl, rfl, hrm, HG, HX2, HB⟩ := hrel
      obtain ⟨⟨x0, x1, x2, x3, x4⟩, _⟩ := HX2.out.facts
      by_cases hlt : k < ks.length
      · by_cases hneg : rm < 0
        · have q1 : decide (rm ≥ 0) = false := decide_eq_false (by omega)
          have q2 : decide (0 ≤ rm) = false := decide_eq_false (by omega)
          have HE : Hid (rm = weigh.weighL (room - 1 - (bs.length : Int)) d ks) := Lib.hid (by rw [← HG.out, List.drop_eq_getElem_cons hlt, weighL_cons, if_pos hneg])
          go_wp2_with fail
          go_ret
          exact ⟨ret_int HE.out, HB.out⟩
        · have q1 : decide (rm ≥ 0) = true := decide_eq_true (by omega)
          have q2 : decide (0 ≤ rm) = true := decide_eq_true (by omega)
          by_cases hd0 : d = 0
          · have HE : Hid (-1 = weigh.weighL (room - 1 - (bs.length : Int)) d ks) := Lib.hid (by rw [← HG.out, List.drop_eq_getElem_cons hlt, weighL_cons, if_neg hneg, if_pos hd0])
            have q3 : decide ((d : Int) < 1) = true := decide_eq_true (by omega)
            clear hd0
            go_wp2_with fail
            go_ret
            exact ⟨ret_int HE.out, HB.out⟩
          · have hd1 : 1 ≤ d := by omega
            have q3 : decide ((d : Int) < 1) = false := decide_eq_false (by omega)
            have HE : Hid (weigh.weighL (weigh rm (d - 1) ks[k]) d (ks.drop (k + 1)) = weigh.weighL (room - 1 - (bs.length : Int)) d ks) := Lib.hid (by rw [← HG.out, List.drop_eq_getElem_cons hlt, weighL_cons, if_neg hneg, if_neg hd0])
            obtain ⟨g, o, rfl, _, hc, ht⟩ := HK.out k hlt
            have hgw := World.block_lt_of_cell? w _ hc.1
            obtain ⟨n0, n1, n2, n3, n4⟩ := hc.move (HB.out.block _ hgw)
            have HT := Lib.hid (ht.stay HB.out)
            have hsub := Tree.nodes_getElem_le ks k hlt
            have hwl := weigh_le ks[k] rm (d - 1)
            have hih := IH.out ks[k] wr S (f k) rm (d - 1) (by omega) HT.out (by omega) hrm (by omega)
            rw [show ((d - 1 : Nat) : Int) = (d : Int) - 1 by omega] at hih
            have HIH := Lib.hid hih
            clear hc ht HG hd0 hih
            go_wp2_with fail
            refine HIH.out.mono ?_
            rintro e w2 ⟨rfl, hB2⟩
            have HX3 := Lib.hid (HX2.out.stay hB2 (World.block_lt_of_cell? wr _ x0))
            have HB2 : Hid (Below w.heap.size w w2) := Lib.hid (HB.out.trans (hB2.mono HB.out.size))
            clear hB2
            go_wp2_with fail
            go_roundw
            case rel => exact ⟨k + 1, weigh rm (d - 1) ks[k], by omega, by go_num, rfl, by omega, HE, HX3, HB2⟩
            case measure => simp [intOf]; omega
      · have HE : Hid (rm = weigh.weighL (room - 1 - (bs.length : Int)) d ks) := Lib.hid (by rw [← HG.out, List.drop_of_length_le (by omega), weighL_nil])
        go_wp2_with fail
        go_ret
        exact ⟨ret_int HE.out, HB.out⟩

/-- Is a tree too great for the law? -/
theorem great_calls (t : Tree) (w : World) (S : Nat → Prop) (p : At) (ht : TreeIn w S t p) :
    Calls Tryd.prog 7 #[nodeV t p] w fun e w' => e = .returned (.bool (decide (weigh 10000 200 t < 0))) ∧ Below w.heap.size w w' := by
  have HT := Lib.hid ht
  clear ht
  obtain ⟨cl, tg, co, bs, ks⟩ := t
  obtain ⟨A1, c1, A2, c2⟩ := p
  have hcall := weigh_calls (Tree.mk cl tg co bs ks).nodes (.mk cl tg co bs ks) (w.alloc (.cells #[.int .i64 cl, .int .i64 tg, .bool co, .slice A1 bs.length c1, .slice A2 ks.length c2] 25)) S ⟨A1, c1, A2, c2⟩ 10000 200 (Nat.le_refl _)
    (HT.out.stay ((Below.refl _ w).alloc (Nat.le_refl _) _)) (by decide) (by decide) (by decide)
  generalize weigh 10000 200 (.mk cl tg co bs ks) = v at hcall ⊢
  have HC := Lib.hid hcall
  clear hcall
  simp only [nodeV, Tree.cls, Tree.tag, Tree.cons, Tree.bytes, Tree.kids]
  go_enter Tryd.func7, Tryd.ntmps7
  go_wp2_with fail
  refine HC.out.mono ?_
  rintro e w2 ⟨rfl, hB⟩
  have HB : Hid (Below w.heap.size w w2) := Lib.hid (((Below.refl _ w).alloc (Nat.le_refl _) _).trans (hB.mono (by simp)))
  clear hB
  go_wp2_with fail
  go_ret
  exact ⟨rfl, HB.out⟩
end Go.Proofs.YtkjmnoaenclleaaDoor
