/- Walks: the iterator over a tree's nodes. -/
import Derived.Test.YtkjmnoaenclleaaDoorW5
import Derived.RangeFuncNested
import Derived.RangeFuncBound
import Derived.RangeFuncCalls
import Derived.RangeFuncLeaves
import Derived.Shelf.Abstract
import Derived.Shelf.RegionOpen
import Derived.OwnWalkIn
import Derived.TacticsInMore
import Derived.LoopNIn
import Derived.LoopIn
set_option linter.unusedVariables false
namespace Go.Proofs.YtkjmnoaenclleaaDoor
open Go.RowKit Go.Shelf
attribute [local go_sem] Oper.semAt_some

namespace Tree
/-- The nodes, in the order of their numbers. -/
def list : Tree → List Tree | mk c t b s k => mk c t b s k :: listL k
  where listL : List Tree → List Tree | [] => [] | t :: l => list t ++ listL l
theorem list_mk (c t : Int) (b : Bool) (s : List UInt8) (k : List Tree) : list (mk c t b s k) = mk c t b s k :: list.listL k := by rw [list]
theorem listL_nil : list.listL [] = [] := by rw [list.listL]
theorem listL_cons (t : Tree) (l : List Tree) : list.listL (t :: l) = list t ++ list.listL l := by rw [list.listL]
theorem listL_append (l m : List Tree) : list.listL (l ++ m) = list.listL l ++ list.listL m := by
  induction l with
  | nil => simp [listL_nil]
  | cons t l ih => simp [listL_cons, ih]
theorem listL_take_succ (l : List Tree) (i : Nat) (h : i < l.length) : list.listL (l.take (i + 1)) = list.listL (l.take i) ++ list l[i] := by
  rw [List.take_succ_eq_append_getElem h, listL_append, listL_cons, listL_nil, List.append_nil]
theorem list_length : ∀ t : Tree, (list t).length = nodes t
  | mk _ _ _ _ k => by rw [list_mk, nodes_mk, List.length_cons, go k]; omega
  where go : ∀ l : List Tree, (list.listL l).length = nodes.nodesL l
  | [] => by simp [listL_nil, nodesL_nil]
  | t :: l => by rw [listL_cons, nodesL_cons, List.length_append, list_length t, go l]
theorem listL_prefix (l : List Tree) (i : Nat) : list.listL (l.take i) <+: list.listL l := by
  refine ⟨list.listL (l.drop i), ?_⟩
  rw [← listL_append, List.take_append_drop]
end Tree

/-- A node that lies at a place of a world. -/
structure Nd where
  t : Tree
  g : Nat
  o : Nat
  p : At
/-- What holds of each node's tag. -/
def AllTags (q : Int → Prop) (t : Tree) : Prop := ∀ y ∈ t.list, q y.tag
theorem Tree.listL_mem (l : List Tree) (i : Nat) (h : i < l.length) (y : Tree) (hy : y ∈ l[i].list) : y ∈ Tree.list.listL l := by
  have := Tree.listL_take_succ l i h
  exact (Tree.listL_prefix l (i + 1)).subset (by rw [this]; exact List.mem_append_right _ hy)
theorem AllTags.kid {q : Int → Prop} {c t : Int} {b : Bool} {s : List UInt8} {k : List Tree} (h : AllTags q (.mk c t b s k)) (i : Nat) (hi : i < k.length) : AllTags q k[i] :=
  fun y hy => h y (by rw [Tree.list_mk]; exact List.mem_cons_of_mem _ (Tree.listL_mem k i hi y hy))
theorem AllTags.self {q : Int → Prop} {t : Tree} (h : AllTags q t) : q t.tag := h t (by cases t; rw [Tree.list_mk]; simp)
def Nd.Ok (w : World) (q : Int → Prop) (x : Nd) : Prop := NodeAt w x.g x.o x.t x.p ∧ TreeIn w (fun _ => True) x.t x.p ∧ x.g < w.heap.size ∧ AllTags q x.t
abbrev NdAt (w : World) (q : Int → Prop) := { x : Nd // x.Ok w q }
def NdAt.enc {w : World} {q : Int → Prop} (x : NdAt w q) : Array Value := #[.pointer (some ⟨x.1.g, x.1.o, none⟩)]
def NdAt.tree {w : World} {q : Int → Prop} (x : NdAt w q) : Tree := x.1.t

/-- What a walk over a tree leaves: all its nodes have come, or the round has said 'no more'. -/
def Walked {w : World} {q : Int → Prop} (J Jx : List (NdAt w q) → World → Prop) (pre : List (NdAt w q)) (t : Tree) (W : World) (e : Ending) (W' : World) : Prop :=
  (e = .returned (.bool true) ∧ Below w.heap.size W W' ∧ ∃ ys : List (NdAt w q), ys.map NdAt.tree = t.list ∧ J (pre ++ ys) W') ∨
  (e = .returned (.bool false) ∧ ∃ ys : List (NdAt w q), ys.map NdAt.tree <+: t.list ∧ Jx (pre ++ ys) W')

theorem wide_depth (k : Nat) : Fence.wide.depth.isSome = true → 1 ≤ k := fun h => by cases h

set_option maxRecDepth 100000 in
set_option maxHeartbeats 4000000 in
theorem tree_walks (w : World) (q : Int → Prop) (l : Nat) (J Jx : List (NdAt w q) → World → Prop) (N : Nat)
    (hY : ∀ m pre (x : NdAt w q) W, J pre W → pre.length < N → YieldAt Fence.wide m Tryd.prog l x.enc W fun e W' =>
      (e = .returned (.bool true) ∧ J (pre ++ [x]) W' ∧ Below w.heap.size W W') ∨ (e = .returned (.bool false) ∧ Jx (pre ++ [x]) W')) :
    ∀ (d : Nat) (x : NdAt w q) (n : Nat) (pre : List (NdAt w q)) (W : World), x.tree.nodes ≤ d → Below w.heap.size w W → J pre W → pre.length + x.tree.nodes ≤ N →
      CallsIn Fence.wide n Tryd.prog 33 #[.pointer (some ⟨x.1.g, x.1.o, none⟩), .func (.yield l) #[] #[]] W (Walked J Jx pre x.tree W) := by
  intro d
  induction d with
  | zero => intro x n pre W h; have := x.tree.nodes_pos; omega
  | succ d ih =>
    intro x n pre W hd hB hJ hN
    obtain ⟨⟨⟨c, tg, b, bs, ks⟩, g, o, ⟨A1, c1, A2, c2⟩⟩, hok⟩ := x
    have hk0 := hok.1
    obtain ⟨h0, h1, h2, h3, h4⟩ := hk0
    have ht := hok.2.1
    have hlt : g < w.heap.size := hok.2.2.1
    have HQ := Lib.hid hok.2.2.2
    have hkk := ht.nodes_in
    obtain ⟨hl, hm, f, hkid⟩ := hkk
    simp only [NdAt.tree, Tree.nodes_mk] at hd hN
    simp only [Tree.cls, Tree.tag, Tree.cons, Tree.bytes, Tree.kids] at h0 h1 h2 h3 h4
    unfold maxLen at hm
    obtain ⟨x0, hx0⟩ : ∃ x0 : NdAt w q, x0 = ⟨⟨.mk c tg b bs ks, g, o, ⟨A1, c1, A2, c2⟩⟩, hok⟩ := ⟨_, rfl⟩
    have hy0 := hY (n - 1) pre x0 W hJ (by omega)
    rw [hx0, NdAt.enc] at hy0
    have X0 := Lib.hid hx0
    obtain ⟨fn, tmps, assign, body, hy, hR⟩ := hy0
    rw [← hx0] at hR
    clear hx0
    have HK := Lib.hid hkid; clear hkid
    have IH := Lib.hid ih; clear ih
    have HY := Lib.hid hY; clear hY
    have HT := Lib.hid ht; clear ht
    have hfn : Fence.wide.fn 33 := trivial
    have hro : Fence.wide.round = none := rfl
    refine callsIn_of_wp Tryd.func33 rfl hfn ?_ hro
    simp only [Tryd.ntmps33, List.size_toArray, List.length_cons, List.length_nil, Nat.reduceAdd, Nat.reduceSub, Array.replicate_succ, Array.replicate_zero, List.push_toArray, List.append_toArray, List.nil_append, List.cons_append]
    gi_wp2_with ((try refine ⟨wide_depth _, ?_⟩); refine hR.mono ?_; clear hR; rintro e W2 (⟨rfl, hJ2, hb2⟩ | ⟨rfl, hx2⟩); (try have h4' := ((hB.trans hb2).cell (p := ⟨g, o + 4, none⟩) hlt).trans h4))
    · gi_loopw [15] (fun i wr => ∃ (k : Nat) (ys : List (NdAt w q)), k ≤ ks.length ∧ i = .int .i64 k ∧ Hid (ys.map NdAt.tree = .mk c tg b bs ks :: Tree.list.listL (ks.take k)) ∧ J (pre ++ ys) wr ∧ Below w.heap.size W wr) (fun i _ => ks.length - (intOf i).toNat)
      case atStart => exact ⟨0, [x0], by omega, rfl, by show _ = _; rw [X0.out]; simp [NdAt.tree, Tree.listL_nil], hJ2, hb2⟩
      case round =>
        obtain ⟨k, ys, hk, rfl, HS, hJ3, hB3⟩ := hrel
        have h4r := ((hB.trans hB3).cell (p := ⟨g, o + 4, none⟩) hlt).trans h4
        by_cases hk2 : k < ks.length
        · obtain ⟨g1, o1, e, _, hn1, ht1⟩ := HK.out k hk2
          obtain rfl : A2 = some ⟨g1, o1, none⟩ := e
          have hsub := Tree.nodes_getElem_le ks k hk2
          have hpre := Tree.nodesL_take_succ ks k hk2
          have hpre2 := Tree.nodesL_take_le ks (k + 1)
          have hlen : (pre ++ ys).length = pre.length + 1 + Tree.nodes.nodesL (ks.take k) := by
            have h := congrArg List.length HS.out
            rw [List.length_map, List.length_cons, Tree.list_length.go] at h
            rw [List.length_append, h]; omega
          have hc := IH.out ⟨⟨ks[k], g1, o1 + k * 5, f k⟩, hn1, ht1, World.block_lt_of_cell? w _ hn1.1, HQ.out.kid k hk2⟩ (n - 1) (pre ++ ys) wr (by simp only [NdAt.tree]; omega) (hB.trans hB3) hJ3 (by simp only [NdAt.tree]; omega)
          gi_wp2_with ((try refine ⟨wide_depth _, ?_⟩); gi_at_call 33; refine hc.mono ?_; clear hc; rintro e W3 (⟨rfl, hb3, zs, hz, hJ4⟩ | ⟨rfl, zs, hz, hx3⟩))
          · go_roundw
            case rel =>
              refine ⟨k + 1, ys ++ zs, hk2, by go_num, ?_, by rw [← List.append_assoc]; exact hJ4, hB3.trans hb3⟩
              show _ = _
              rw [List.map_append, HS.out, hz, Tree.listL_take_succ ks k hk2]; rfl
            case measure => simp [intOf]; omega
          · go_ret
            refine .inr ⟨rfl, ys ++ zs, ?_, by rw [← List.append_assoc]; exact hx3⟩
            show List.map NdAt.tree (ys ++ zs) <+: Tree.list (.mk c tg b bs ks)
            replace hz : List.map NdAt.tree zs <+: Tree.list ks[k] := hz
            rw [List.map_append, HS.out, Tree.list_mk]
            obtain ⟨r, hr⟩ := hz
            obtain ⟨u, hu⟩ := Tree.listL_prefix ks (k + 1)
            refine ⟨r ++ u, ?_⟩
            rw [← hu, Tree.listL_take_succ ks k hk2, ← hr]; simp
        · obtain rfl : k = ks.length := by omega
          gi_wp2
          go_ret
          refine .inl ⟨rfl, hB3, ys, ?_, hJ3⟩
          rw [HS.out, List.take_length]; show _ = Tree.list (.mk c tg b bs ks); rw [Tree.list_mk]
    · go_ret
      refine .inr ⟨rfl, [x0], ?_, hx2⟩
      rw [X0.out]; show [Tree.mk c tg b bs ks] <+: Tree.list (.mk c tg b bs ks); rw [Tree.list_mk]
      exact ⟨_, rfl⟩
end Go.Proofs.YtkjmnoaenclleaaDoor
