/- Trees that a call has made: their blocks are its own, and no two places are one. -/
import Derived.Test.YtkjmnoaenclleaaDoorBase
import Derived.Test.YtkjmnoaenclleaaDoorProg
import Derived.Maps.AppendAt
import Derived.Laws.AppendOwn
import Derived.Laws.OwnMore
set_option linter.unusedVariables false
namespace Go.Proofs.YtkjmnoaenclleaaDoor
open Go.RowKit

def bv (bs : List UInt8) : List Value := bs.map fun b => .int .u8 (b.toNat : Int)
theorem bv_length (bs : List UInt8) : (bv bs).length = bs.length := by simp [bv]
/-- A node's five cells. -/
def nodeC (t : Tree) (p : At) : List Value := [.int .i64 t.cls, .int .i64 t.tag, .bool t.cons, .slice p.A1 t.bytes.length p.c1, .slice p.A2 t.kids.length p.c2]
theorem nodeC_length (t : Tree) (p : At) : (nodeC t p).length = 5 := rfl
def rowC : List Tree → List At → List Value
  | t :: l, p :: ps => nodeC t p ++ rowC l ps
  | _, _ => []
theorem rowC_length : ∀ (l : List Tree) (ps : List At), l.length = ps.length → (rowC l ps).length = l.length * 5
  | [], [], _ => rfl
  | t :: l, p :: ps, h => by rw [rowC, List.length_append, nodeC_length, rowC_length l ps (by simpa using h), List.length_cons]; omega
theorem rowC_append : ∀ (l : List Tree) (ps : List At) (m : List Tree) (qs : List At), l.length = ps.length → rowC (l ++ m) (ps ++ qs) = rowC l ps ++ rowC m qs
  | [], [], m, qs, _ => rfl
  | t :: l, p :: ps, m, qs, h => by rw [List.cons_append, List.cons_append, rowC, rowC, rowC_append l ps m qs (by simpa using h), List.append_assoc]
/-- A cell of a node of a row. -/
theorem rowC_get (l : List Tree) (ps : List At) (h : l.length = ps.length) (i j : Nat) (hi : i < l.length) (hj : j < 5) :
    (rowC l ps)[i * 5 + j]? = (nodeC l[i] (ps[i]'(h ▸ hi)))[j]? := by
  have e1 : l = l.take i ++ l[i] :: l.drop (i + 1) := by rw [← List.drop_eq_getElem_cons hi, List.take_append_drop]
  have e2 : ps = ps.take i ++ ps[i]'(h ▸ hi) :: ps.drop (i + 1) := by rw [← List.drop_eq_getElem_cons (h ▸ hi), List.take_append_drop]
  have hl : (l.take i).length = (ps.take i).length := by simp [h]
  have e3 : rowC l ps = rowC (l.take i) (ps.take i) ++ (nodeC l[i] (ps[i]'(h ▸ hi)) ++ rowC (l.drop (i + 1)) (ps.drop (i + 1))) := by
    conv => lhs; rw [e1, e2, rowC_append _ _ _ _ hl, rowC]
  rw [e3, List.getElem?_append_right (by rw [rowC_length _ _ hl]; simp; omega), rowC_length _ _ hl, List.length_take, Nat.min_eq_left (by omega),
    show i * 5 + j - i * 5 = j by omega, List.getElem?_append_left (by rw [nodeC_length]; omega)]

def blocksOf (p : At) : List Nat := (p.A1.map (·.block)).toList ++ (p.A2.map (·.block)).toList

mutual
/-- A tree of the call's own, from block base on; F: its blocks. -/
def OT (w : World) (base : Nat) : Tree → At → List Nat → Prop
  | .mk _ _ _ bs ks, p, F => ∃ ps Fk, w.ownsRow base 5 1 (.slice p.A1 bs.length p.c1) bs.length (bv bs) ∧
      w.ownsRow base 25 5 (.slice p.A2 ks.length p.c2) ks.length (rowC ks ps) ∧ OTL w base ks ps Fk ∧ F = blocksOf p ++ Fk ∧ F.Nodup
def OTL (w : World) (base : Nat) : List Tree → List At → List Nat → Prop
  | [], ps, F => ps = [] ∧ F = []
  | t :: l, ps, F => ∃ p ps' F1 F2, ps = p :: ps' ∧ F = F1 ++ F2 ∧ OT w base t p F1 ∧ OTL w base l ps' F2
end

theorem own_block {w : World} {base : Nat} {e : TypeId} {size n c : Nat} {A : Option Addr} {xs : List Value} (h : w.ownsRow base e size (.slice A n c) n xs) :
    ∀ k, k ∈ (A.map (·.block)).toList → base ≤ k ∧ k < w.heap.size := by
  intro k hk
  obtain ⟨a, ha, rfl⟩ : ∃ a, A = some a ∧ a.block = k := by
    cases A with
    | none => simp at hk
    | some a => exact ⟨a, rfl, by simpa [eq_comm] using hk⟩
  exact h.lt _ (by rw [ha]; rfl)
theorem own_moved {w w' : World} {base : Nat} {e : TypeId} {size n c : Nat} {A : Option Addr} {xs : List Value} (h : w.ownsRow base e size (.slice A n c) n xs)
    (hm : ∀ k, k ∈ (A.map (·.block)).toList → w'.heap[k]? = w.heap[k]?) : w'.ownsRow base e size (.slice A n c) n xs := by
  obtain ⟨h1, h2⟩ := h
  refine ⟨h1, ?_⟩
  rcases h2 with h2 | ⟨g, cap, cur, he, hg, hh, r⟩
  · exact .inl h2
  · refine .inr ⟨g, cap, cur, he, hg, ?_, r⟩
    injection he with ha
    rw [hm g (by rw [ha]; simp)]; exact hh
theorem own_lower {w : World} {base base' : Nat} {e : TypeId} {size n : Nat} {v : Value} {xs : List Value} (h : w.ownsRow base e size v n xs) (hb : base' ≤ base) : w.ownsRow base' e size v n xs := by
  obtain ⟨h1, h2⟩ := h
  refine ⟨h1, ?_⟩
  rcases h2 with h2 | ⟨g, cap, cur, he, hg, r⟩
  · exact .inl h2
  · exact .inr ⟨g, cap, cur, he, by omega, r⟩

theorem OT.lt {w : World} {base : Nat} : ∀ {t : Tree} {p : At} {F : List Nat}, OT w base t p F → ∀ k ∈ F, base ≤ k ∧ k < w.heap.size
  | .mk _ _ _ bs ks, p, F, h => by
    rw [OT] at h
    obtain ⟨ps, Fk, h1, h2, h3, rfl, h4⟩ := h
    intro k hk
    rcases List.mem_append.1 hk with hk | hk
    · rcases List.mem_append.1 hk with hk | hk
      · exact own_block h1 k hk
      · exact own_block h2 k hk
    · exact go ks h3 k hk
  where go {w : World} {base : Nat} : ∀ (l : List Tree) {ps : List At} {F : List Nat}, OTL w base l ps F → ∀ k ∈ F, base ≤ k ∧ k < w.heap.size
  | [], ps, F, h => by rw [OTL] at h; obtain ⟨rfl, rfl⟩ := h; intro k hk; simp at hk
  | t :: l, ps, F, h => by
    rw [OTL] at h
    obtain ⟨p, ps', F1, F2, rfl, rfl, h1, h2⟩ := h
    intro k hk
    rcases List.mem_append.1 hk with hk | hk
    · exact OT.lt h1 k hk
    · exact go l h2 k hk

theorem OT.move {w w' : World} {base : Nat} : ∀ {t : Tree} {p : At} {F : List Nat}, OT w base t p F → (∀ k ∈ F, w'.heap[k]? = w.heap[k]?) → OT w' base t p F
  | .mk _ _ _ bs ks, p, F, h, hm => by
    rw [OT] at h ⊢
    obtain ⟨ps, Fk, h1, h2, h3, rfl, h4⟩ := h
    exact ⟨ps, Fk, own_moved h1 (fun k hk => hm k (List.mem_append_left _ (List.mem_append_left _ hk))), own_moved h2 (fun k hk => hm k (List.mem_append_left _ (List.mem_append_right _ hk))),
      go ks h3 (fun k hk => hm k (List.mem_append_right _ hk)), rfl, h4⟩
  where go {w w' : World} {base : Nat} : ∀ (l : List Tree) {ps : List At} {F : List Nat}, OTL w base l ps F → (∀ k ∈ F, w'.heap[k]? = w.heap[k]?) → OTL w' base l ps F
  | [], ps, F, h, _ => h
  | t :: l, ps, F, h, hm => by
    rw [OTL] at h ⊢
    obtain ⟨p, ps', F1, F2, rfl, rfl, h1, h2⟩ := h
    exact ⟨p, ps', F1, F2, rfl, rfl, OT.move h1 (fun k hk => hm k (List.mem_append_left _ hk)), go l h2 (fun k hk => hm k (List.mem_append_right _ hk))⟩

theorem OT.lower {w : World} {base base' : Nat} (hb : base' ≤ base) : ∀ {t : Tree} {p : At} {F : List Nat}, OT w base t p F → OT w base' t p F
  | .mk _ _ _ bs ks, p, F, h => by
    rw [OT] at h ⊢
    obtain ⟨ps, Fk, h1, h2, h3, rfl, h4⟩ := h
    exact ⟨ps, Fk, own_lower h1 hb, own_lower h2 hb, go hb ks h3, rfl, h4⟩
  where go {w : World} {base base' : Nat} (hb : base' ≤ base) : ∀ (l : List Tree) {ps : List At} {F : List Nat}, OTL w base l ps F → OTL w base' l ps F
  | [], ps, F, h => h
  | t :: l, ps, F, h => by
    rw [OTL] at h ⊢
    obtain ⟨p, ps', F1, F2, rfl, rfl, h1, h2⟩ := h
    exact ⟨p, ps', F1, F2, rfl, rfl, OT.lower hb h1, go hb l h2⟩

theorem OTL.length {w : World} {base : Nat} : ∀ {l : List Tree} {ps : List At} {F : List Nat}, OTL w base l ps F → l.length = ps.length
  | [], ps, F, h => by rw [OTL] at h; rw [h.1]; rfl
  | t :: l, ps, F, h => by
    rw [OTL] at h
    obtain ⟨p, ps', F1, F2, rfl, rfl, h1, h2⟩ := h
    rw [List.length_cons, List.length_cons, OTL.length h2]
theorem OTL.snoc {w : World} {base : Nat} {t : Tree} {p : At} {F' : List Nat} (ht : OT w base t p F') : ∀ {l : List Tree} {ps : List At} {F : List Nat}, OTL w base l ps F → OTL w base (l ++ [t]) (ps ++ [p]) (F ++ F')
  | [], ps, F, h => by
    rw [OTL] at h
    obtain ⟨rfl, rfl⟩ := h
    rw [List.nil_append, OTL]
    exact ⟨p, [], F', [], rfl, by simp, ht, by rw [OTL]; exact ⟨rfl, rfl⟩⟩
  | a :: l, ps, F, h => by
    rw [OTL] at h
    obtain ⟨q, ps', F1, F2, rfl, rfl, h1, h2⟩ := h
    rw [List.cons_append, OTL]
    exact ⟨q, ps' ++ [p], F1, F2 ++ F', by simp, by simp, h1, OTL.snoc ht h2⟩
theorem OTL.get {w : World} {base : Nat} : ∀ {l : List Tree} {ps : List At} {F : List Nat} (h : OTL w base l ps F) (i : Nat) (hi : i < l.length) (hj : i < ps.length), ∃ Fi, OT w base l[i] ps[i] Fi ∧ ∀ k ∈ Fi, k ∈ F
  | t :: l, ps, F, h, i, hi, hj => by
    rw [OTL] at h
    obtain ⟨p, ps', F1, F2, rfl, rfl, h1, h2⟩ := h
    cases i with
    | zero => exact ⟨F1, h1, fun k hk => List.mem_append_left _ hk⟩
    | succ i =>
      obtain ⟨Fi, g1, g2⟩ := OTL.get h2 i (by simpa using hi) (by simpa using hj)
      exact ⟨Fi, g1, fun k hk => List.mem_append_right _ (g2 k hk)⟩

/-- A row of bytes of the call's own is read. -/
theorem own_bytes {w : World} {base : Nat} {e : TypeId} {A : Option Addr} {c : Nat} {bs : List UInt8} (h : w.ownsRow base e 1 (.slice A bs.length c) bs.length (bv bs)) :
    BytesIn w (fun k => k ∈ (A.map (·.block)).toList) A c bs := by
  rcases h.2 with ⟨he, hn⟩ | ⟨g, cap, cur, he, hg, hh, hc, hm, hs, ht⟩
  · injection he with h1 h2 h3
    subst h1 h3
    exact ⟨by omega, by simp [maxLen], fun i hi => by omega⟩
  · injection he with h1 h2 h3
    subst h1 h3
    refine ⟨hc, hm, fun i hi => ⟨g, 0, rfl, by simp, ?_⟩⟩
    have := h.cells (g := g) rfl i (.int .u8 (bs[i].toNat : Int)) (by rw [bv, List.getElem?_map, List.getElem?_eq_getElem hi]; rfl)
    rw [show (⟨g, 0, none⟩ : Addr).add i = ⟨g, 0 + i, none⟩ from by unfold Addr.add; split <;> simp_all] at this
    exact this
theorem own_node {w : World} {base : Nat} {e : TypeId} {A : Option Addr} {c : Nat} {ks : List Tree} {ps : List At} (h : w.ownsRow base e 5 (.slice A ks.length c) ks.length (rowC ks ps)) (hl : ks.length = ps.length)
    (i : Nat) (hi : i < ks.length) : ∃ g, A = some ⟨g, 0, none⟩ ∧ NodeAt w g (0 + i * 5) ks[i] (ps[i]'(hl ▸ hi)) := by
  obtain ⟨g, cap, he⟩ : ∃ g cap, (Value.slice A ks.length c) = .slice (some ⟨g, 0, none⟩) ks.length cap := by
    rcases h.2 with ⟨_, hn⟩ | ⟨g, cap, cur, he, _⟩
    · omega
    · exact ⟨g, cap, he⟩
  injection he with h1 h2 h3
  subst h1
  refine ⟨g, rfl, ?_⟩
  have hc : ∀ j u, j < 5 → (nodeC ks[i] (ps[i]'(hl ▸ hi)))[j]? = some u → w.cell? ⟨g, 0 + i * 5 + j, none⟩ = some u := by
    intro j u hj hu
    have := h.cells (g := g) rfl (i * 5 + j) u (by rw [rowC_get ks ps hl i j hi hj]; exact hu)
    rw [show (⟨g, 0, none⟩ : Addr).add (i * 5 + j) = ⟨g, 0 + i * 5 + j, none⟩ from by unfold Addr.add; split <;> simp_all <;> omega] at this
    exact this
  exact ⟨hc 0 _ (by omega) rfl, hc 1 _ (by omega) rfl, hc 2 _ (by omega) rfl, hc 3 _ (by omega) rfl, hc 4 _ (by omega) rfl⟩

theorem OT.reads {w : World} {base : Nat} : ∀ {t : Tree} {p : At} {F : List Nat}, OT w base t p F → TreeIn w (fun k => k ∈ F) t p
  | .mk c tg b bs ks, p, F, h => by
    rw [OT] at h
    obtain ⟨ps, Fk, h1, h2, h3, rfl, h4⟩ := h
    have hl := h3.length
    refine .mk ((own_bytes h1).move (fun _ _ => rfl) (fun k hk => List.mem_append_left _ (List.mem_append_left _ hk))) ?_ ?_ (fun i => ps.getD i ⟨none, 0, none, 0⟩) (fun i hi => ?_) (fun i hi => ?_)
    · rcases h2.2 with ⟨he, hn⟩ | ⟨g, cap, cur, he, hg, hh, hc, hm, hs, ht⟩
      · omega
      · injection he with h1 h2 h3; omega
    · rcases h2.2 with ⟨he, hn⟩ | ⟨g, cap, cur, he, hg, hh, hc, hm, hs, ht⟩
      · injection he with h1 h2 h3; rw [h3]; simp [maxLen]
      · injection he with h1 h2 h3; omega
    · obtain ⟨g, e, hn⟩ := own_node h2 hl i hi
      refine ⟨g, 0, e, List.mem_append_left _ (List.mem_append_right _ (by rw [e]; simp)), ?_⟩
      rw [List.getD_eq_getElem?_getD, List.getElem?_eq_getElem (hl ▸ hi)]
      exact hn
    · have := go ks h3 i hi
      exact this.move (fun _ _ => rfl) (fun k hk => List.mem_append_right _ hk)
  where go {w : World} {base : Nat} : ∀ (l : List Tree) {ps : List At} {F : List Nat}, OTL w base l ps F → ∀ i (hi : i < l.length), TreeIn w (fun k => k ∈ F) l[i] (ps.getD i ⟨none, 0, none, 0⟩)
  | t :: l, ps, F, h, i, hi => by
    rw [OTL] at h
    obtain ⟨p, ps', F1, F2, rfl, rfl, h1, h2⟩ := h
    cases i with
    | zero => exact (OT.reads h1).move (fun _ _ => rfl) (fun k hk => List.mem_append_left _ hk)
    | succ i => exact (go l h2 i (by simpa using hi)).move (fun _ _ => rfl) (fun k hk => List.mem_append_right _ hk)
end Go.Proofs.YtkjmnoaenclleaaDoor
