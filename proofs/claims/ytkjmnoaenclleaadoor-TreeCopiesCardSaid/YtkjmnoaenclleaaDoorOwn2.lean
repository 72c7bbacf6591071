/- Rows of nodes that are written. -/
import Derived.Test.YtkjmnoaenclleaaDoorW9
set_option linter.unusedVariables false
namespace Go.Proofs.YtkjmnoaenclleaaDoor
open Go.RowKit

def put5L (xs : List Value) (o : Nat) (a b c d e : Value) : List Value := ((((xs.set o a).set (o + 1) b).set (o + 2) c).set (o + 3) d).set (o + 4) e
theorem put5L_length (xs : List Value) (o : Nat) (a b c d e : Value) : (put5L xs o a b c d e).length = xs.length := by simp [put5L]

theorem own_put5 {w : World} {base : Nat} {e : TypeId} {g n c : Nat} {xs : List Value} (h : w.ownsRow base e 5 (.slice (some ⟨g, 0, none⟩) n c) n xs) (o : Nat) (v0 v1 v2 v3 v4 : Value) :
    (put5 w g o v0 v1 v2 v3 v4).ownsRow base e 5 (.slice (some ⟨g, 0, none⟩) n c) n (put5L xs o v0 v1 v2 v3 v4) := by
  obtain ⟨h1, h2⟩ := h
  refine ⟨by rw [put5L_length]; exact h1, ?_⟩
  rcases h2 with ⟨h2, _⟩ | ⟨g', cap, cur, he, hg, hh, r1, r2, r3, r4⟩
  · cases h2
  · injection he with e1 e2 e3
    injection e1 with e1
    injection e1 with e1
    subst e1 e3
    refine .inr ⟨g, c, _, rfl, hg, put5_heap w g o v0 v1 v2 v3 v4 _ _ _ hh, r1, r2, by simpa using r3, ?_⟩
    rw [← r4]
    simp only [put5L, Array.toList_setIfInBounds, List.take_set]

theorem rowC_put : ∀ (ks : List Tree) (ps : List At) (k : Nat) (hl : ks.length = ps.length) (hk : k < ks.length) (p : At),
    put5L (rowC ks ps) (k * 5) (.int .i64 ks[k].cls) (.int .i64 ks[k].tag) (.bool ks[k].cons) (.slice p.A1 ks[k].bytes.length p.c1) (.slice p.A2 ks[k].kids.length p.c2) = rowC ks (ps.set k p)
  | t :: l, q :: ps, 0, hl, hk, p => by
    simp only [Nat.zero_mul, put5L, rowC, nodeC, List.getElem_cons_zero, List.set_cons_zero]
    rfl
  | t :: l, q :: ps, k + 1, hl, hk, p => by
    have h5 : ∀ (r : List Value) (o : Nat) (v : Value), (nodeC t q ++ r).set (o + 5) v = nodeC t q ++ r.set o v := fun r o v => rfl
    have ih := rowC_put l ps k (by simpa using hl) (by simpa using hk) p
    simp only [List.getElem_cons_succ, List.set_cons_succ]
    rw [rowC, rowC, ← ih]
    simp only [put5L]
    rw [show (k + 1) * 5 = k * 5 + 5 by omega, show k * 5 + 5 + 1 = k * 5 + 1 + 5 by omega, show k * 5 + 5 + 2 = k * 5 + 2 + 5 by omega, show k * 5 + 5 + 3 = k * 5 + 3 + 5 by omega, show k * 5 + 5 + 4 = k * 5 + 4 + 5 by omega]
    simp only [h5]

theorem OT.nodup {w : World} {base : Nat} {t : Tree} {p : At} {F : List Nat} (h : OT w base t p F) : F.Nodup := by
  cases t
  rw [OT] at h
  obtain ⟨ps, Fk, h1, h2, h3, rfl, h4⟩ := h
  exact h4

/-- A row's node, and that it may be written. -/
theorem own_cells {w : World} {base : Nat} {e : TypeId} {A : Option Addr} {c : Nat} {ks : List Tree} {ps : List At} (h : w.ownsRow base e 5 (.slice A ks.length c) ks.length (rowC ks ps)) (hl : ks.length = ps.length)
    (i : Nat) (hi : i < ks.length) : ∃ g, A = some ⟨g, 0, none⟩ ∧ base ≤ g ∧ g < w.heap.size ∧ NodeAt w g (0 + i * 5) ks[i] (ps[i]'(hl ▸ hi)) ∧ ∀ o, w.frozen? ⟨g, o, none⟩ = false := by
  obtain ⟨g, rfl, hn⟩ := own_node h hl i hi
  have hb := own_block h g (by simp)
  refine ⟨g, rfl, hb.1, hb.2, hn, fun o => ?_⟩
  rcases h.2 with ⟨he, _⟩ | ⟨g', cap, cur, he, _, hh, _⟩
  · cases he
  · injection he with e1 _ _
    injection e1 with e1
    injection e1 with e1
    subst e1
    simp [World.frozen?, hh]

/-- Behind the two clones: what lies where. -/
def Cloned (w : World) (b1 b2 : Nat) (cl tg : Int) (co : Bool) (bs : List UInt8) (ks : List Tree) (f : Nat → At) (wx : World) : Prop :=
  ∃ A1 c1 A2 c2, BoxN wx b1 (.int .i64 cl) (.int .i64 tg) (.bool co) (.slice A1 bs.length c1) (.slice A2 ks.length c2) ∧
    BoxN wx b2 (.int .i64 0) (.int .i64 0) (.bool false) (.slice none 0 0) (.slice none 0 0) ∧
    wx.ownsRow (w.heap.size + 2) 5 1 (.slice A1 bs.length c1) bs.length (bv bs) ∧
    wx.ownsRow (w.heap.size + 2) 25 5 (.slice A2 ks.length c2) ks.length (rowC ks (ats f ks.length)) ∧
    (blocksOf ⟨A1, c1, A2, c2⟩).Nodup ∧ Below w.heap.size w wx

/-- The row when k kids are copied. -/
structure CopyAt (w : World) (cl tg : Int) (co : Bool) (bs : List UInt8) (ks : List Tree) (f : Nat → At) (p : At) (k : Nat) (wr : World) : Prop where
  le : k ≤ ks.length
  box1 : BoxN wr w.heap.size (.int .i64 cl) (.int .i64 tg) (.bool co) (.slice p.A1 bs.length p.c1) (.slice p.A2 ks.length p.c2)
  box2 : BoxN wr (w.heap.size + 1) (.int .i64 0) (.int .i64 0) (.bool false) (.slice none 0 0) (.slice none 0 0)
  bytes : wr.ownsRow (w.heap.size + 2) 5 1 (.slice p.A1 bs.length p.c1) bs.length (bv bs)
  kids : ∃ ps Fk, ps.length = k ∧ wr.ownsRow (w.heap.size + 2) 25 5 (.slice p.A2 ks.length p.c2) ks.length (rowC ks (ps ++ (ats f ks.length).drop k)) ∧
    OTL wr (w.heap.size + 2) (ks.take k) ps Fk ∧ (blocksOf p ++ Fk).Nodup
  below : Below w.heap.size w wr

theorem Cloned.start {w : World} {cl tg : Int} {co : Bool} {bs : List UInt8} {ks : List Tree} {f : Nat → At} {wx : World} (h : Cloned w w.heap.size (w.heap.size + 1) cl tg co bs ks f wx) :
    ∃ p, CopyAt w cl tg co bs ks f p 0 wx := by
  obtain ⟨A1, c1, A2, c2, h1, h2, h3, h4, h5, h6⟩ := h
  exact ⟨⟨A1, c1, A2, c2⟩, { le := by omega, box1 := h1, box2 := h2, bytes := h3, kids := ⟨[], [], rfl, by simpa using h4, by simp [OTL], by simpa using h5⟩, below := h6 }⟩

theorem CopyAt.row {w : World} {cl tg : Int} {co : Bool} {bs : List UInt8} {ks : List Tree} {f : Nat → At} {p : At} {k : Nat} {wr : World} (h : CopyAt w cl tg co bs ks f p k wr) (hk : k < ks.length) :
    ∃ g, p.A2 = some ⟨g, 0, none⟩ ∧ w.heap.size + 2 ≤ g ∧ g < wr.heap.size ∧ NodeAt wr g (0 + k * 5) ks[k] (f k) ∧ ∀ o, wr.frozen? ⟨g, o, none⟩ = false := by
  obtain ⟨ps, Fk, hps, hrow, _⟩ := h.kids
  have hl : ks.length = (ps ++ (ats f ks.length).drop k).length := by simp [ats_length, hps]; omega
  obtain ⟨g, e, h1, h2, h3, h4⟩ := own_cells hrow hl k hk
  refine ⟨g, e, h1, h2, ?_, h4⟩
  have : (ps ++ (ats f ks.length).drop k)[k]'(hl ▸ hk) = f k := by
    rw [List.getElem_append_right (by omega)]
    simp [ats, hps]
  rwa [this] at h3

theorem CopyAt.step {w : World} {cl tg : Int} {co : Bool} {bs : List UInt8} {ks : List Tree} {f : Nat → At} {p : At} {k : Nat} {wr w1 w2 : World} (h : CopyAt w cl tg co bs ks f p k wr) (hk : k < ks.length)
    (hB1 : Below wr.heap.size wr w1) (q : At) (F : List Nat) (hq : OT w2 w1.heap.size ks[k] q F) (hB2 : Below w1.heap.size w1 w2) (g : Nat) (hg : p.A2 = some ⟨g, 0, none⟩) (o : Nat) (ho : o = k * 5) :
    CopyAt w cl tg co bs ks f p (k + 1) (put5 w2 g o (.int .i64 ks[k].cls) (.int .i64 ks[k].tag) (.bool ks[k].cons) (.slice q.A1 ks[k].bytes.length q.c1) (.slice q.A2 ks[k].kids.length q.c2)) := by
  subst ho
  obtain ⟨ps, Fk, hps, hrow, hotl, hnd⟩ := h.kids
  have hB : Below wr.heap.size wr w2 := hB1.trans (hB2.mono hB1.size)
  have hl : ks.length = (ps ++ (ats f ks.length).drop k).length := by simp [ats_length, hps]; have := h.le; omega
  have hgb := own_block hrow g (by rw [hg]; simp)
  have hAb := own_block h.bytes
  have hgn : g ∉ (p.A1.map (·.block)).toList ∧ g ∉ Fk := by
    have hnd' := hnd
    rw [blocksOf, hg, List.nodup_append] at hnd'
    obtain ⟨n1, n2, d⟩ := hnd'
    rw [List.nodup_append] at n1
    exact ⟨fun hm => n1.2.2 g hm g (by simp) rfl, fun hm => d g (by simp) g hm rfl⟩
  have hF := hq.lt
  have hFk := OT.lt.go _ hotl
  have hsz := hB1.size
  have hput : ∀ k', k' ≠ g → k' < wr.heap.size → (put5 w2 g (k * 5) (.int .i64 ks[k].cls) (.int .i64 ks[k].tag) (.bool ks[k].cons) (.slice q.A1 ks[k].bytes.length q.c1) (.slice q.A2 ks[k].kids.length q.c2)).heap[k']? = wr.heap[k']? :=
    fun k' h1 h2 => (put5_other _ _ _ _ _ _ _ _ _ h1).trans (hB.block k' h2)
  have hw2 : w.heap.size + 2 ≤ wr.heap.size := by omega
  refine { le := hk, box1 := ?_, box2 := ?_, bytes := ?_, kids := ⟨ps ++ [q], Fk ++ F, by simp [hps], ?_, ?_, ?_⟩, below := ?_ }
  · exact (hput _ (by omega) (by omega)).trans h.box1
  · exact (hput _ (by omega) (by omega)).trans h.box2
  · exact own_moved h.bytes (fun k' hk' => hput k' (fun e => hgn.1 (e ▸ hk')) (hAb k' hk').2)
  · have hrow2 := own_moved hrow (w' := w2) (fun k' hk' => hB.block k' (own_block hrow k' hk').2)
    rw [hg] at hrow2 ⊢
    have := own_put5 hrow2 (k * 5) (.int .i64 ks[k].cls) (.int .i64 ks[k].tag) (.bool ks[k].cons) (.slice q.A1 ks[k].bytes.length q.c1) (.slice q.A2 ks[k].kids.length q.c2)
    rw [rowC_put ks _ k hl hk q] at this
    have e : (ps ++ (ats f ks.length).drop k).set k q = ps ++ [q] ++ (ats f ks.length).drop (k + 1) := by
      rw [List.set_append_right _ _ (by omega), hps, Nat.sub_self, List.drop_eq_getElem_cons (by rw [ats_length]; exact hk), List.set_cons_zero]
      simp
    rwa [e] at this
  · rw [List.take_succ_eq_append_getElem hk]
    refine OTL.snoc (OT.move (OT.lower (by omega) hq) (fun k' hk' => put5_other _ _ _ _ _ _ _ _ _ ?_)) (OT.move.go _ hotl (fun k' hk' => hput k' (fun e => hgn.2 (e ▸ hk')) (hFk k' hk').2))
    have := (hF k' hk').1
    omega
  · rw [← List.append_assoc, List.nodup_append]
    refine ⟨hnd, hq.nodup, fun a ha b hb => ?_⟩
    have h1 := (hF b hb).1
    have h2 : a < wr.heap.size := by
      rcases List.mem_append.1 ha with ha | ha
      · rcases List.mem_append.1 ha with ha | ha
        · exact (hAb a ha).2
        · exact (own_block hrow a ha).2
      · exact (hFk a ha).2
    omega
  · exact (h.below.trans (hB.mono h.below.size)).trans (put5_below _ _ _ _ _ _ _ _ (by omega))

theorem CopyAt.done {w : World} {cl tg : Int} {co : Bool} {bs : List UInt8} {ks : List Tree} {f : Nat → At} {p : At} {wr : World} (h : CopyAt w cl tg co bs ks f p ks.length wr) :
    ∃ F, OT (put5 wr (w.heap.size + 1) 0 (.int .i64 cl) (.int .i64 tg) (.bool co) (.slice p.A1 bs.length p.c1) (.slice p.A2 ks.length p.c2)) w.heap.size (.mk cl tg co bs ks) p F := by
  obtain ⟨ps, Fk, hps, hrow, hotl, hnd⟩ := h.kids
  have hFk := OT.lt.go _ hotl
  rw [List.take_length] at hotl
  have hz : ps ++ (ats f ks.length).drop ks.length = ps := by rw [List.drop_of_length_le (by rw [ats_length]; omega), List.append_nil]
  rw [hz] at hrow
  refine ⟨blocksOf p ++ Fk, ?_⟩
  rw [OT]
  refine ⟨ps, Fk, own_moved (own_lower h.bytes (by omega)) (fun k hk => put5_other _ _ _ _ _ _ _ _ _ ?_), own_moved (own_lower hrow (by omega)) (fun k hk => put5_other _ _ _ _ _ _ _ _ _ ?_),
    OT.move.go _ (OT.lower.go (by omega) _ hotl) (fun k hk => put5_other _ _ _ _ _ _ _ _ _ ?_), rfl, hnd⟩
  · have := (own_block h.bytes k hk).1; omega
  · have := (own_block hrow k hk).1; omega
  · have := (hFk k hk).1; omega
end Go.Proofs.YtkjmnoaenclleaaDoor
