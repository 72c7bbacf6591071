/- The trees of this proof as plain data, and what it means that memory holds one. -/
import Derived.WalkKit
import Derived.Below
import Derived.Deep.Draws
import Derived.Deep.QuietTactic
import Derived.Deep.LoopGhost
import Derived.BigQuiet
import Derived.KernelRfl
import Derived.OwnWalk
import Derived.Laws.Rows
import Derived.Lib.Hide
import Derived.WalkSpells
set_option linter.unusedVariables false
namespace Go.Proofs.YtkjmnoaenclleaaDoor
open Go.RowKit

/-- A value of ASN.1. -/
inductive Tree where
  | mk (cls tag : Int) (cons : Bool) (bytes : List UInt8) (kids : List Tree)

namespace Tree
def cls : Tree → Int | mk c _ _ _ _ => c
def tag : Tree → Int | mk _ t _ _ _ => t
def cons : Tree → Bool | mk _ _ b _ _ => b
def bytes : Tree → List UInt8 | mk _ _ _ b _ => b
def kids : Tree → List Tree | mk _ _ _ _ k => k
/-- How many nodes. -/
def nodes : Tree → Nat | mk _ _ _ _ k => 1 + nodesL k
  where nodesL : List Tree → Nat | [] => 0 | t :: l => nodes t + nodesL l
/-- How deep. -/
def deep : Tree → Nat | mk _ _ _ _ k => 1 + deepL k
  where deepL : List Tree → Nat | [] => 0 | t :: l => max (deep t) (deepL l)
/-- How many bytes in all nodes. -/
def total : Tree → Nat | mk _ _ _ b k => b.length + totalL k
  where totalL : List Tree → Nat | [] => 0 | t :: l => total t + totalL l

theorem nodes_mk (c t : Int) (b : Bool) (s : List UInt8) (k : List Tree) : nodes (mk c t b s k) = 1 + nodes.nodesL k := by rw [nodes]
theorem deep_mk (c t : Int) (b : Bool) (s : List UInt8) (k : List Tree) : deep (mk c t b s k) = 1 + deep.deepL k := by rw [deep]
theorem nodesL_cons (t : Tree) (l : List Tree) : nodes.nodesL (t :: l) = nodes t + nodes.nodesL l := by rw [nodes.nodesL]
theorem deepL_cons (t : Tree) (l : List Tree) : deep.deepL (t :: l) = max (deep t) (deep.deepL l) := by rw [deep.deepL]
theorem nodesL_nil : nodes.nodesL [] = 0 := by rw [nodes.nodesL]
theorem deepL_nil : deep.deepL [] = 0 := by rw [deep.deepL]
theorem nodesL_append (l m : List Tree) : nodes.nodesL (l ++ m) = nodes.nodesL l + nodes.nodesL m := by
  induction l with
  | nil => simp [nodesL_nil]
  | cons t l ih => simp [nodesL_cons, ih, Nat.add_assoc]
theorem deepL_append (l m : List Tree) : deep.deepL (l ++ m) = max (deep.deepL l) (deep.deepL m) := by
  induction l with
  | nil => simp [deepL_nil]
  | cons t l ih => simp [deepL_cons, ih, Nat.max_assoc]
theorem nodes_pos (t : Tree) : 0 < nodes t := by cases t; rw [nodes_mk]; omega
theorem deep_le_nodes : ∀ t : Tree, deep t ≤ nodes t
  | mk _ _ _ _ k => by rw [deep_mk, nodes_mk]; have := go k; omega
  where go : ∀ l : List Tree, deep.deepL l ≤ nodes.nodesL l
  | [] => by simp [deepL_nil]
  | t :: l => by rw [deepL_cons, nodesL_cons]; have := deep_le_nodes t; have := go l; omega
theorem deepL_le_nodesL (l : List Tree) : deep.deepL l ≤ nodes.nodesL l := by
  induction l with
  | nil => simp [deepL_nil]
  | cons t l ih => rw [deepL_cons, nodesL_cons]; have := deep_le_nodes t; omega
theorem nodesL_take_succ (l : List Tree) (i : Nat) (h : i < l.length) : nodes.nodesL (l.take (i + 1)) = nodes.nodesL (l.take i) + nodes l[i] := by
  rw [List.take_succ_eq_append_getElem h, nodesL_append, nodesL_cons, nodesL_nil]; rfl
theorem deepL_take_succ (l : List Tree) (i : Nat) (h : i < l.length) : deep.deepL (l.take (i + 1)) = max (deep.deepL (l.take i)) (deep l[i]) := by
  rw [List.take_succ_eq_append_getElem h, deepL_append, deepL_cons, deepL_nil]; simp
theorem nodesL_take_le (l : List Tree) (i : Nat) : nodes.nodesL (l.take i) ≤ nodes.nodesL l := by
  conv => rhs; rw [← List.take_append_drop i l, nodesL_append]
  omega
theorem deepL_take_le (l : List Tree) (i : Nat) : deep.deepL (l.take i) ≤ deep.deepL l := by
  conv => rhs; rw [← List.take_append_drop i l, deepL_append]
  omega
theorem nodes_getElem_le (l : List Tree) (i : Nat) (h : i < l.length) : nodes l[i] ≤ nodes.nodesL l := by
  have h1 := nodesL_take_succ l i h
  have h2 := nodesL_take_le l (i + 1)
  omega
end Tree

/-! ### Rows that are read. S: which blocks they may lie in. -/
def BytesIn (w : World) (S : Nat → Prop) (A : Option Addr) (c : Nat) (bs : List UInt8) : Prop :=
  bs.length ≤ c ∧ c ≤ maxLen ∧ ∀ i (h : i < bs.length), ∃ b o, A = some ⟨b, o, none⟩ ∧ S b ∧ w.cell? ⟨b, o + i, none⟩ = some (.int .u8 (bs[i].toNat : Int))

/-- Where a node's two slices lie. -/
structure At where
  A1 : Option Addr
  c1 : Nat
  A2 : Option Addr
  c2 : Nat

/-- A node as a value. -/
def nodeV (t : Tree) (p : At) : Value := .agg #[.int .i64 t.cls, .int .i64 t.tag, .bool t.cons, .slice p.A1 t.bytes.length p.c1, .slice p.A2 t.kids.length p.c2]

/-- The five cells of a node at an address. -/
def NodeAt (w : World) (b o : Nat) (t : Tree) (p : At) : Prop :=
  w.cell? ⟨b, o, none⟩ = some (.int .i64 t.cls) ∧ w.cell? ⟨b, o + 1, none⟩ = some (.int .i64 t.tag) ∧ w.cell? ⟨b, o + 2, none⟩ = some (.bool t.cons) ∧
  w.cell? ⟨b, o + 3, none⟩ = some (.slice p.A1 t.bytes.length p.c1) ∧ w.cell? ⟨b, o + 4, none⟩ = some (.slice p.A2 t.kids.length p.c2)

/-- A tree lies in memory; its two slices' values are those of p. -/
inductive TreeIn (w : World) (S : Nat → Prop) : Tree → At → Prop
  | mk {c t : Int} {b : Bool} {bs : List UInt8} {ks : List Tree} {p : At} (hb : BytesIn w S p.A1 p.c1 bs) (hl : ks.length ≤ p.c2) (hm : p.c2 ≤ maxLen) (f : Nat → At)
      (hcell : ∀ i (h : i < ks.length), ∃ g o, p.A2 = some ⟨g, o, none⟩ ∧ S g ∧ NodeAt w g (o + i * 5) ks[i] (f i))
      (hkid : ∀ i (h : i < ks.length), TreeIn w S ks[i] (f i)) : TreeIn w S (.mk c t b bs ks) p

/-- A row of nodes lies in memory. -/
def NodesIn (w : World) (S : Nat → Prop) (A : Option Addr) (c : Nat) (ks : List Tree) : Prop :=
  ks.length ≤ c ∧ c ≤ maxLen ∧ ∃ f : Nat → At, ∀ i (h : i < ks.length), ∃ g o, A = some ⟨g, o, none⟩ ∧ S g ∧ NodeAt w g (o + i * 5) ks[i] (f i) ∧ TreeIn w S ks[i] (f i)

section
variable {w w' : World} {S S' : Nat → Prop}
theorem BytesIn.move {A : Option Addr} {c : Nat} {bs : List UInt8} (h : BytesIn w S A c bs) (hm : ∀ k, S k → w'.heap[k]? = w.heap[k]?) (hs : ∀ k, S k → S' k) : BytesIn w' S' A c bs :=
  ⟨h.1, h.2.1, fun i hi => by
    obtain ⟨b, o, e, hS, hc⟩ := h.2.2 i hi
    exact ⟨b, o, e, hs b hS, (World.cell?_of_block (w := w) (hm b hS)).trans hc⟩⟩
theorem NodeAt.move {b o : Nat} {t : Tree} {p : At} (h : NodeAt w b o t p) (hm : w'.heap[b]? = w.heap[b]?) : NodeAt w' b o t p :=
  ⟨(World.cell?_of_block (w := w) hm).trans h.1, (World.cell?_of_block (w := w) hm).trans h.2.1, (World.cell?_of_block (w := w) hm).trans h.2.2.1,
   (World.cell?_of_block (w := w) hm).trans h.2.2.2.1, (World.cell?_of_block (w := w) hm).trans h.2.2.2.2⟩
theorem TreeIn.move {t : Tree} {p : At} (h : TreeIn w S t p) (hm : ∀ k, S k → w'.heap[k]? = w.heap[k]?) (hs : ∀ k, S k → S' k) : TreeIn w' S' t p := by
  induction h with
  | mk hb hl hx f hcell hkid ih =>
    refine .mk (hb.move hm hs) hl hx f (fun i hi => ?_) ih
    obtain ⟨g, o, e, hS, hc⟩ := hcell i hi
    exact ⟨g, o, e, hs g hS, hc.move (hm g hS)⟩
theorem NodesIn.move {A : Option Addr} {c : Nat} {ks : List Tree} (h : NodesIn w S A c ks) (hm : ∀ k, S k → w'.heap[k]? = w.heap[k]?) (hs : ∀ k, S k → S' k) : NodesIn w' S' A c ks := by
  obtain ⟨h1, h2, f, h3⟩ := h
  refine ⟨h1, h2, f, fun i hi => ?_⟩
  obtain ⟨g, o, e, hS, hc, ht⟩ := h3 i hi
  exact ⟨g, o, e, hs g hS, hc.move (hm g hS), ht.move hm hs⟩
/-- The blocks of a tree are there. -/
theorem BytesIn.lt {A : Option Addr} {c : Nat} {bs : List UInt8} (h : BytesIn w S A c bs) : BytesIn w (fun k => S k ∧ k < w.heap.size) A c bs :=
  ⟨h.1, h.2.1, fun i hi => by
    obtain ⟨b, o, e, hS, hc⟩ := h.2.2 i hi
    exact ⟨b, o, e, ⟨hS, World.block_lt_of_cell? w _ hc⟩, hc⟩⟩
theorem TreeIn.lt {t : Tree} {p : At} (h : TreeIn w S t p) : TreeIn w (fun k => S k ∧ k < w.heap.size) t p := by
  induction h with
  | mk hb hl hx f hcell hkid ih =>
    refine .mk hb.lt hl hx f (fun i hi => ?_) ih
    obtain ⟨g, o, e, hS, hc⟩ := hcell i hi
    exact ⟨g, o, e, ⟨hS, World.block_lt_of_cell? w _ hc.1⟩, hc⟩
theorem BytesIn.stay {A : Option Addr} {c : Nat} {bs : List UInt8} (h : BytesIn w S A c bs) (hb : Below w.heap.size w w') : BytesIn w' S A c bs :=
  h.lt.move (fun k hk => hb.block k hk.2) (fun k hk => hk.1)
theorem TreeIn.stay {t : Tree} {p : At} (h : TreeIn w S t p) (hb : Below w.heap.size w w') : TreeIn w' S t p :=
  h.lt.move (fun k hk => hb.block k hk.2) (fun k hk => hk.1)
theorem TreeIn.nodes_in {c t : Int} {b : Bool} {bs : List UInt8} {ks : List Tree} {p : At} (h : TreeIn w S (.mk c t b bs ks) p) : NodesIn w S p.A2 p.c2 ks := by
  cases h with
  | mk hb hl hx f hcell hkid =>
    refine ⟨hl, hx, f, fun i hi => ?_⟩
    obtain ⟨g, o, e, hS, hc⟩ := hcell i hi
    exact ⟨g, o, e, hS, hc, hkid i hi⟩
theorem TreeIn.bytes_in {c t : Int} {b : Bool} {bs : List UInt8} {ks : List Tree} {p : At} (h : TreeIn w S (.mk c t b bs ks) p) : BytesIn w S p.A1 p.c1 bs := by
  cases h with
  | mk hb hl hx f hcell hkid => exact hb
end
/-! ### Tests, as the walk spells them. -/
theorem ret_bool {a b : Bool} (h : a = b) : Ending.returned (.bool a) = .returned (.bool b) := by rw [h]
theorem ret_int {k : IntKind} {a b : Int} (h : a = b) : Ending.returned (.int k a) = .returned (.int k b) := by rw [h]
theorem ne_f {a b : Int} (h : a = b) : (a != b) = false := by simp [h]
theorem ne_t {a b : Int} (h : ¬ a = b) : (a != b) = true := by simpa using h
theorem eq_f {a b : Int} (h : ¬ a = b) : (a == b) = false := by simpa using h
theorem eq_t {a b : Int} (h : a = b) : (a == b) = true := by simp [h]
end Go.Proofs.YtkjmnoaenclleaaDoor
