/- A node of a tree of the call's own, by its number; its tag is turned. -/
import Derived.Test.YtkjmnoaenclleaaDoorOwn2
set_option linter.unusedVariables false
namespace Go.Proofs.YtkjmnoaenclleaaDoor
open Go.RowKit

namespace Tree
/-- The tree with another tag at the node of that number. -/
def setTag : Tree → Nat → Int → Tree
  | mk c t b bs ks, 0, x => mk c x b bs ks
  | mk c t b bs ks, k + 1, x => mk c t b bs (setTagL ks k x)
  where setTagL : List Tree → Nat → Int → List Tree
  | [], _, _ => []
  | t :: l, k, x => if k < nodes t then setTag t k x :: l else t :: setTagL l (k - nodes t) x
/-- The tag of the node of that number. -/
def tagAt : Tree → Nat → Int
  | mk _ t _ _ _, 0 => t
  | mk _ _ _ _ ks, k + 1 => tagAtL ks k
  where tagAtL : List Tree → Nat → Int
  | [], _ => 0
  | t :: l, k => if k < nodes t then tagAt t k else tagAtL l (k - nodes t)
theorem setTag_zero (c t : Int) (b : Bool) (bs : List UInt8) (ks : List Tree) (x : Int) : setTag (mk c t b bs ks) 0 x = mk c x b bs ks := by rw [setTag]
theorem setTag_succ (c t : Int) (b : Bool) (bs : List UInt8) (ks : List Tree) (k : Nat) (x : Int) : setTag (mk c t b bs ks) (k + 1) x = mk c t b bs (setTag.setTagL ks k x) := by rw [setTag]
theorem tagAt_zero (c t : Int) (b : Bool) (bs : List UInt8) (ks : List Tree) : tagAt (mk c t b bs ks) 0 = t := by rw [tagAt]
theorem tagAt_succ (c t : Int) (b : Bool) (bs : List UInt8) (ks : List Tree) (k : Nat) : tagAt (mk c t b bs ks) (k + 1) = tagAt.tagAtL ks k := by rw [tagAt]
theorem setTagL_cons (t : Tree) (l : List Tree) (k : Nat) (x : Int) : setTag.setTagL (t :: l) k x = if k < nodes t then setTag t k x :: l else t :: setTag.setTagL l (k - nodes t) x := by rw [setTag.setTagL]
theorem tagAtL_cons (t : Tree) (l : List Tree) (k : Nat) : tagAt.tagAtL (t :: l) k = if k < nodes t then tagAt t k else tagAt.tagAtL l (k - nodes t) := by rw [tagAt.tagAtL]
theorem setTag_ne : ∀ (t : Tree) (k : Nat) (x : Int), k < nodes t → x ≠ tagAt t k → setTag t k x ≠ t
  | mk c t b bs ks, 0, x, _, h => by
    rw [setTag_zero]; rw [tagAt_zero] at h
    intro e; injection e; contradiction
  | mk c t b bs ks, k + 1, x, hk, h => by
    rw [setTag_succ]; rw [tagAt_succ] at h; rw [nodes_mk] at hk
    intro e; injection e with _ _ _ _ e
    exact go ks k x (by omega) h e
  where go : ∀ (l : List Tree) (k : Nat) (x : Int), k < nodes.nodesL l → x ≠ tagAt.tagAtL l k → setTag.setTagL l k x ≠ l
  | [], k, x, hk, _ => by rw [nodesL_nil] at hk; omega
  | t :: l, k, x, hk, h => by
    rw [setTagL_cons]; rw [tagAtL_cons] at h; rw [nodesL_cons] at hk
    by_cases hlt : k < nodes t
    · rw [if_pos hlt] at h ⊢
      intro e; injection e with e _
      exact setTag_ne t k x hlt h e
    · rw [if_neg hlt] at h ⊢
      intro e; injection e with _ e
      exact go l (k - nodes t) x (by omega) h e
theorem setTagL_at : ∀ (l : List Tree) (i k : Nat) (x : Int) (h : i < l.length), k < nodes l[i] → setTag.setTagL l (nodes.nodesL (l.take i) + k) x = l.set i (setTag l[i] k x)
  | t :: l, 0, k, x, h, hk => by
    rw [List.take_zero, nodesL_nil, Nat.zero_add, setTagL_cons, if_pos (by simpa using hk)]; rfl
  | t :: l, i + 1, k, x, h, hk => by
    rw [List.take_succ_cons, nodesL_cons, setTagL_cons, if_neg (by omega), show nodes t + nodes.nodesL (l.take i) + k - nodes t = nodes.nodesL (l.take i) + k by omega,
      setTagL_at l i k x (by simpa using h) (by simpa using hk)]
    rfl
theorem tagAtL_at : ∀ (l : List Tree) (i k : Nat) (h : i < l.length), k < nodes l[i] → tagAt.tagAtL l (nodes.nodesL (l.take i) + k) = tagAt l[i] k
  | t :: l, 0, k, h, hk => by
    rw [List.take_zero, nodesL_nil, Nat.zero_add, tagAtL_cons, if_pos (by simpa using hk)]; rfl
  | t :: l, i + 1, k, h, hk => by
    rw [List.take_succ_cons, nodesL_cons, tagAtL_cons, if_neg (by omega), show nodes t + nodes.nodesL (l.take i) + k - nodes t = nodes.nodesL (l.take i) + k by omega,
      tagAtL_at l i k (by simpa using h) (by simpa using hk)]
    rfl
theorem setTag_root (t : Tree) (k : Nat) (x : Int) (h : 0 < k) : (setTag t k x).cls = t.cls ∧ (setTag t k x).tag = t.tag ∧ (setTag t k x).cons = t.cons ∧ (setTag t k x).bytes = t.bytes := by
  obtain ⟨c, tg, b, bs, ks⟩ := t
  obtain ⟨k, rfl⟩ : ∃ k', k = k' + 1 := ⟨k - 1, by omega⟩
  rw [setTag_succ]; exact ⟨rfl, rfl, rfl, rfl⟩
theorem setTagL_length : ∀ (l : List Tree) (k : Nat) (x : Int), (setTag.setTagL l k x).length = l.length
  | [], k, x => by rw [setTag.setTagL]
  | t :: l, k, x => by
    rw [setTagL_cons]
    split
    · rfl
    · rw [List.length_cons, setTagL_length l, List.length_cons]
theorem setTag_kids (t : Tree) (k : Nat) (x : Int) : (setTag t k x).kids.length = t.kids.length := by
  obtain ⟨c, tg, b, bs, ks⟩ := t
  cases k with
  | zero => rw [setTag_zero]; rfl
  | succ k => rw [setTag_succ]; exact setTagL_length ks k x
theorem setTag_zero' (t : Tree) (x : Int) : (setTag t 0 x).cls = t.cls ∧ (setTag t 0 x).tag = x ∧ (setTag t 0 x).cons = t.cons ∧ (setTag t 0 x).bytes = t.bytes := by
  obtain ⟨c, tg, b, bs, ks⟩ := t
  rw [setTag_zero]; exact ⟨rfl, rfl, rfl, rfl⟩
end Tree

/-- Where the node of a number lies: k the number, b' o' the place. -/
inductive Place (w : World) : Tree → At → Nat → Nat → Nat → Nat → Nat → Prop
  | here {t : Tree} {p : At} {b o : Nat} (h : NodeAt w b o t p) : Place w t p b o 0 b o
  | kid {c tg : Int} {co : Bool} {bs : List UInt8} {ks : List Tree} {p : At} {b o : Nat} (i : Nat) (hi : i < ks.length) {g o2 k b' o' : Nat} {q : At} (hA : p.A2 = some ⟨g, o2, none⟩)
      (hn : NodeAt w g (o2 + i * 5) ks[i] q) (h : Place w ks[i] q g (o2 + i * 5) k b' o') : Place w (.mk c tg co bs ks) p b o (1 + Tree.nodes.nodesL (ks.take i) + k) b' o'

theorem Place.lt {w : World} {t : Tree} {p : At} {b o k b' o' : Nat} (h : Place w t p b o k b' o') : k < t.nodes := by
  induction h with
  | here h => exact Tree.nodes_pos _
  | @kid c tg co bs ks p b o i hi g o2 k b' o' q hA hn h ih =>
    rw [Tree.nodes_mk]
    have h1 := Tree.nodesL_take_succ ks i hi
    have h2 := Tree.nodesL_take_le ks (i + 1)
    omega
theorem Place.tag {w : World} {t : Tree} {p : At} {b o k b' o' : Nat} (h : Place w t p b o k b' o') : w.cell? ⟨b', o' + 1, none⟩ = some (.int .i64 (t.tagAt k)) := by
  induction h with
  | @here t p b o h =>
    obtain ⟨c, tg, co, bs, ks⟩ := t
    rw [Tree.tagAt_zero]; exact h.2.1
  | @kid c tg co bs ks p b o i hi g o2 k b' o' q hA hn h ih =>
    rw [show 1 + Tree.nodes.nodesL (ks.take i) + k = (Tree.nodes.nodesL (ks.take i) + k) + 1 by omega, Tree.tagAt_succ, Tree.tagAtL_at ks i k hi h.lt]
    exact ih
theorem Place.move {w w' : World} {S : Nat → Prop} {t : Tree} {p : At} {b o k b' o' : Nat} (h : Place w t p b o k b' o') (ht : TreeIn w S t p) (hb : w'.heap[b]? = w.heap[b]?) (hm : ∀ k, S k → w'.heap[k]? = w.heap[k]?) : Place w' t p b o k b' o' := by
  induction h with
  | here h => exact .here (h.move hb)
  | @kid c tg co bs ks p b o i hi g o2 k b' o' q hA hn h ih =>
    cases ht with
    | mk hb' hl hx f hcell hkid =>
      obtain ⟨g', o3, e, hS, hc⟩ := hcell i hi
      rw [hA] at e
      injection e with e
      injection e with e1 e2
      subst e1 e2
      have hq : q = f i := by
        have e3 := hn.2.2.2.1.symm.trans hc.2.2.2.1
        have e4 := hn.2.2.2.2.symm.trans hc.2.2.2.2
        injection e3 with e3
        injection e4 with e4
        injection e3 with a1 a2 a3
        injection e4 with b1 b2 b3
        obtain ⟨q1, q2, q3, q4⟩ := q
        generalize f i = fi at *
        obtain ⟨r1, r2, r3, r4⟩ := fi
        simp only at a1 a3 b1 b3
        subst a1 a3 b1 b3
        rfl
      subst hq
      exact .kid i hi hA (hn.move (hm _ hS)) (ih (hkid i hi) (hm _ hS))

theorem own_set1 {w : World} {base : Nat} {e : TypeId} {g n c : Nat} {xs : List Value} (h : w.ownsRow base e 5 (.slice (some ⟨g, 0, none⟩) n c) n xs) (o : Nat) (v : Value) :
    (w.setCell ⟨g, o, none⟩ v).ownsRow base e 5 (.slice (some ⟨g, 0, none⟩) n c) n (xs.set o v) := by
  obtain ⟨h1, h2⟩ := h
  refine ⟨by rw [List.length_set]; exact h1, ?_⟩
  rcases h2 with ⟨h2, _⟩ | ⟨g', cap, cur, he, hg, hh, r1, r2, r3, r4⟩
  · cases h2
  · injection he with e1 e2 e3
    injection e1 with e1
    injection e1 with e1
    subst e1 e3
    refine .inr ⟨g, c, cur.setIfInBounds o v, rfl, hg, ?_, r1, r2, by simpa using r3, ?_⟩
    · simp [World.setCell, Array.getElem?_modify, hh]
    · rw [← r4]
      simp only [Array.toList_setIfInBounds, List.take_set]

theorem rowC_tag : ∀ (ks : List Tree) (ps : List At) (i : Nat) (hl : ks.length = ps.length) (hi : i < ks.length) (x : Int),
    (rowC ks ps).set (i * 5 + 1) (.int .i64 x) = rowC (ks.set i (ks[i].setTag 0 x)) ps
  | t :: l, q :: ps, 0, hl, hi, x => by
    obtain ⟨c, tg, co, bs, ks⟩ := t
    simp only [Nat.zero_mul, Nat.zero_add, rowC, nodeC, List.getElem_cons_zero, List.set_cons_zero, Tree.setTag_zero]
    rfl
  | t :: l, q :: ps, i + 1, hl, hi, x => by
    have h5 : ∀ (r : List Value) (o : Nat) (v : Value), (nodeC t q ++ r).set (o + 5) v = nodeC t q ++ r.set o v := fun r o v => rfl
    have ih := rowC_tag l ps i (by simpa using hl) (by simpa using hi) x
    simp only [List.getElem_cons_succ, List.set_cons_succ]
    rw [rowC, rowC, ← ih, show (i + 1) * 5 + 1 = i * 5 + 1 + 5 by omega, h5]
theorem rowC_same : ∀ (ks : List Tree) (ps : List At) (i : Nat) (hi : i < ks.length) (t : Tree), nodeC t = nodeC ks[i] → rowC (ks.set i t) ps = rowC ks ps
  | [], ps, i, hi, t, h => by simp at hi
  | a :: l, [], i, hi, t, h => by cases i <;> rfl
  | a :: l, p :: ps, 0, hi, t, h => by
    rw [List.set_cons_zero, rowC, rowC, h]; rfl
  | a :: l, p :: ps, i + 1, hi, t, h => by
    rw [List.set_cons_succ, rowC, rowC, rowC_same l ps i (by simpa using hi) t (by simpa using h)]

theorem OTL.at {w : World} {base : Nat} : ∀ {l : List Tree} {ps : List At} {F : List Nat} (h : OTL w base l ps F) (hnd : F.Nodup) (i : Nat) (hi : i < l.length) (hj : i < ps.length),
    ∃ Fi, OT w base l[i] ps[i] Fi ∧ (∀ k ∈ Fi, k ∈ F) ∧ ∀ (w' : World) (t' : Tree), OT w' base t' ps[i] Fi → (∀ k ∈ F, k ∉ Fi → w'.heap[k]? = w.heap[k]?) → OTL w' base (l.set i t') ps F
  | t :: l, ps, F, h, hnd, i, hi, hj => by
    rw [OTL] at h
    obtain ⟨p, ps', F1, F2, rfl, rfl, h1, h2⟩ := h
    obtain ⟨n1, n2, n3⟩ := List.nodup_append.1 hnd
    cases i with
    | zero =>
      refine ⟨F1, h1, fun k hk => List.mem_append_left _ hk, fun w' t' ht' hm => ?_⟩
      rw [List.set_cons_zero, OTL]
      exact ⟨p, ps', F1, F2, rfl, rfl, ht', OT.move.go l h2 (fun k hk => hm k (List.mem_append_right _ hk) (fun hk1 => n3 k hk1 k hk rfl))⟩
    | succ i =>
      obtain ⟨Fi, g1, g2, g3⟩ := OTL.at h2 n2 i (by simpa using hi) (by simpa using hj)
      refine ⟨Fi, g1, fun k hk => List.mem_append_right _ (g2 k hk), fun w' t' ht' hm => ?_⟩
      rw [List.set_cons_succ, OTL]
      exact ⟨p, ps', F1, F2, rfl, rfl, OT.move h1 (fun k hk => hm k (List.mem_append_left _ hk) (fun hki => n3 k hk k (g2 k hki) rfl)),
        g3 w' t' ht' (fun k hk hki => hm k (List.mem_append_right _ hk) hki)⟩

/-- The tag of a node is turned. -/
theorem Place.set_tag {w : World} {base : Nat} (x : Int) {t : Tree} {p : At} {b o k b' o' : Nat} (h : Place w t p b o k b' o') : ∀ {F : List Nat}, OT w base t p F → b ∉ F →
    OT (w.setCell ⟨b', o' + 1, none⟩ (.int .i64 x)) base (t.setTag k x) p F ∧ (k = 0 → b' = b ∧ o' = o) ∧ (0 < k → b' ∈ F) ∧ (∀ c, b' ∈ F → w.frozen? ⟨b', c, none⟩ = false) := by
  induction h with
  | @here t p b o h =>
    intro F ht hb
    obtain ⟨c, tg, co, bs, ks⟩ := t
    refine ⟨?_, fun _ => ⟨rfl, rfl⟩, fun h => absurd h (by omega), fun _ h => absurd h hb⟩
    rw [Tree.setTag_zero]
    have hm : OT (w.setCell ⟨b, o + 1, none⟩ (.int .i64 x)) base (.mk c tg co bs ks) p F := ht.move (fun k hk => Below.heap_setCell _ _ _ k (fun e => by subst e; exact hb hk))
    rw [OT] at hm ⊢
    exact hm
  | @kid c tg co bs ks p b o i hi g o2 k b' o' q hA hn h ih =>
    intro F ht hb
    rw [OT] at ht
    obtain ⟨ps, Fk, h1, h2, h3, rfl, h4⟩ := ht
    have hl := h3.length
    have hj : i < ps.length := hl ▸ hi
    obtain ⟨g', e, hg1, hg2, hn', hfz⟩ := own_cells h2 hl i hi
    rw [hA] at e
    injection e with e
    injection e with e1 e2
    subst e1 e2
    have hq : q = ps[i] := by
      have e3 := hn.2.2.2.1.symm.trans hn'.2.2.2.1
      have e4 := hn.2.2.2.2.symm.trans hn'.2.2.2.2
      injection e3 with e3
      injection e4 with e4
      injection e3 with a1 a2 a3
      injection e4 with b1 b2 b3
      obtain ⟨q1, q2, q3, q4⟩ := q
      generalize ps[i] = fi at *
      obtain ⟨r1, r2, r3, r4⟩ := fi
      simp only at a1 a3 b1 b3
      subst a1 a3 b1 b3
      rfl
    subst hq
    obtain ⟨n1, n2, n3⟩ := List.nodup_append.1 h4
    have hgB : g ∈ blocksOf p := by rw [blocksOf, hA]; simp
    have hgk : g ∉ Fk := fun hm => n3 g hgB g hm rfl
    have hgA : g ∉ (p.A1.map (·.block)).toList := by
      rw [blocksOf, hA] at n1
      rw [List.nodup_append] at n1
      exact fun hm => n1.2.2 g hm g (by simp) rfl
    obtain ⟨Fi, hti, hFi, hback⟩ := OTL.at h3 n2 i hi hj
    obtain ⟨r1, r2, r3, r4⟩ := ih hti (fun hm => hgk (hFi g hm))
    have hb' : b' = g ∨ b' ∈ Fi := by
      rcases Nat.eq_zero_or_pos k with hk | hk
      · exact .inl (r2 hk).1
      · exact .inr (r3 hk)
    have hbF : b' ∈ blocksOf p ++ Fk := by
      rcases hb' with rfl | hb'
      · exact List.mem_append_left _ hgB
      · exact List.mem_append_right _ (hFi _ hb')
    have hset : (Tree.mk c tg co bs ks).setTag (1 + Tree.nodes.nodesL (ks.take i) + k) x = .mk c tg co bs (ks.set i (ks[i].setTag k x)) := by
      rw [show 1 + Tree.nodes.nodesL (ks.take i) + k = (Tree.nodes.nodesL (ks.take i) + k) + 1 by omega, Tree.setTag_succ, Tree.setTagL_at ks i k x hi h.lt]
    refine ⟨?_, fun h => absurd h (by omega), fun _ => hbF, fun c' _ => ?_⟩
    · rw [hset, OT]
      refine ⟨ps, Fk, own_moved h1 (fun k' hk' => Below.heap_setCell _ _ _ k' (fun e => ?_)), ?_, hback _ _ r1 (fun k' hk' hki => Below.heap_setCell _ _ _ k' (fun e => ?_)), rfl, h4⟩
      · subst e
        rcases hb' with rfl | hb'
        · exact hgA hk'
        · exact n3 _ (List.mem_append_left _ hk') _ (hFi _ hb') rfl
      · rw [List.length_set]
        rcases Nat.eq_zero_or_pos k with hk | hk
        · obtain ⟨rfl, rfl⟩ := r2 hk
          subst hk
          rw [hA] at h2 ⊢
          have := own_set1 h2 (i * 5 + 1) (.int .i64 x)
          rw [rowC_tag ks ps i hl hi x] at this
          rwa [show 0 + i * 5 + 1 = i * 5 + 1 by omega]
        · have hbi := r3 hk
          obtain ⟨q1, q2, q3, q4⟩ := Tree.setTag_root ks[i] k x hk
          have hnc : nodeC (ks[i].setTag k x) = nodeC ks[i] := by
            funext q
            rw [nodeC, nodeC, q1, q2, q3, q4, Tree.setTag_kids]
          rw [rowC_same ks ps i hi _ hnc]
          refine own_moved h2 (fun k' hk' => Below.heap_setCell _ _ _ k' (fun e => ?_))
          have hkg : k' = g := by rw [hA] at hk'; simpa using hk'
          have hbk : b' = k' := e.symm
          exact hgk (hkg ▸ hbk ▸ hFi _ hbi)
      · subst e
        rcases hb' with rfl | hb'
        · exact hgk hk'
        · exact hki hb'
    · rcases hb' with rfl | hb'
      · exact hfz c'
      · exact r4 c' hb'
end Go.Proofs.YtkjmnoaenclleaaDoor
