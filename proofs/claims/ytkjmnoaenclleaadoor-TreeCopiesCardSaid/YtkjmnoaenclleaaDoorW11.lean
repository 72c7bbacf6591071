/- Walks: tree.Cons; tree.Same, slices.EqualFunc. -/
import Derived.Test.YtkjmnoaenclleaaDoorW10
set_option linter.unusedVariables false
namespace Go.Proofs.YtkjmnoaenclleaaDoor
open Go.RowKit

theorem cons_calls (cl tg : Int) (A : Option Addr) (c : Nat) (ks : List Tree) (w : World) (S : Nat → Prop) (hk : NodesIn w S A c ks) (hn : 1 + Tree.nodes.nodesL ks ≤ 1000000000) (ht : Tree.total.totalL ks ≤ 1000000000) :
    Calls Tryd.prog 15 #[.int .i64 cl, .int .i64 tg, .slice A ks.length c] w (GivesT w (.mk cl tg true [] ks)) := by
  have ht0 : TreeIn w S (.mk cl tg true [] ks) ⟨none, 0, A, c⟩ := by
    obtain ⟨h1, h2, f, h3⟩ := hk
    refine .mk ⟨by simp, by simp [maxLen], fun i hi => absurd hi (by simp)⟩ h1 h2 f (fun i hi => ?_) (fun i hi => ?_)
    · obtain ⟨g, o, e, hS, hc, _⟩ := h3 i hi; exact ⟨g, o, e, hS, hc⟩
    · obtain ⟨g, o, e, hS, hc, h⟩ := h3 i hi; exact h
  have HT := Lib.hid ht0
  clear ht0 hk
  go_enter Tryd.func15, Tryd.ntmps15
  go_wp2_with fail
  refine (copy_calls 1000000000 (.mk cl tg true [] ks) _ S ⟨none, 0, A, c⟩ (by rw [Tree.nodes_mk]; exact hn) (Nat.le_refl _) (by rw [Tree.total_mk]; simpa using ht) (HT.out.stay ((Below.refl _ w).alloc (Nat.le_refl _) _))).mono ?_
  rintro e w' ⟨q, F, rfl, hO, hB⟩
  have hbox := (BoxN.alloc w _ _ _ _ _).stay hB (by simp)
  obtain ⟨⟨c0, c1, c2, c3, c4⟩, f0, f1, f2, f3, f4⟩ := hbox.facts
  simp only [nodeV, Tree.cls, Tree.tag, Tree.cons, Tree.bytes, Tree.kids]
  have HO := Lib.hid hO
  have HB := Lib.hid hB
  have HX := Lib.hid hbox
  clear hO hB hbox
  go_wp2_with fail
  have hp := BoxN.put (a' := .int .i64 cl) (b' := .int .i64 tg) (c' := .bool true) (d' := .slice q.A1 ([] : List UInt8).length q.c1) (e' := .slice q.A2 ks.length q.c2) HX.out
  refine bodyPost_ret (v := nodeV (.mk cl tg true [] ks) q) (hp.res _ _ _ rfl rfl) rfl ?_
  have hB' : Below w.heap.size w w' := ((Below.refl _ w).alloc (Nat.le_refl _) _).trans (HB.out.mono (by simp))
  refine ⟨q, F, rfl, (OT.lower (by simp) HO.out).move (fun k hk => put5_other _ _ _ _ _ _ _ _ _ ?_), hB'.trans (put5_below _ _ _ _ _ _ _ _ (Nat.le_refl _))⟩
  have := (HO.out.lt k hk).1
  simp at this; omega

theorem alloc_cell {w : World} {a : Addr} {v : Value} (o : Obj) (h : w.cell? a = some v) : (w.alloc o).cell? a = some v :=
  (World.cell?_alloc_lt w _ _ (World.block_lt_of_cell? w _ h)).trans h
/-- Are two the same? -/
noncomputable def eqB (a b : Tree) : Bool := @decide (a = b) (Classical.propDecidable _)
noncomputable def eqL (a b : List Tree) : Bool := @decide (a = b) (Classical.propDecidable _)
theorem eqB_t {a b : Tree} (h : a = b) : eqB a b = true := by unfold eqB; exact @decide_eq_true _ (Classical.propDecidable _) h
theorem eqB_f {a b : Tree} (h : a ≠ b) : eqB a b = false := by unfold eqB; exact @decide_eq_false _ (Classical.propDecidable _) h
theorem eqL_t {a b : List Tree} (h : a = b) : eqL a b = true := by unfold eqL; exact @decide_eq_true _ (Classical.propDecidable _) h
theorem eqL_f {a b : List Tree} (h : a ≠ b) : eqL a b = false := by unfold eqL; exact @decide_eq_false _ (Classical.propDecidable _) h
def SameAt (n : Nat) : Prop := ∀ (t u : Tree) (w : World) (S T : Nat → Prop) (p q : At), t.nodes ≤ n → TreeIn w S t p → TreeIn w T u q →
  Calls Tryd.prog 9 #[nodeV t p, nodeV u q] w fun e w' => e = .returned (.bool (eqB t u)) ∧ Below w.heap.size w w'

set_option maxHeartbeats 1000000 in
theorem equalN_calls (n : Nat) (ih : SameAt n) (ks ls : List Tree) (A B : Option Addr) (c d : Nat) (w : World) (S T : Nat → Prop) (ha : NodesIn w S A c ks) (hb : NodesIn w T B d ls) (hn : Tree.nodes.nodesL ks ≤ n) :
    Calls Tryd.prog 27 #[.slice A ks.length c, .slice B ls.length d, .func (.func 9) #[] #[]] w fun e w' =>
      e = .returned (.bool (eqL ks ls)) ∧ Below w.heap.size w w' := by
  obtain ⟨h1, h2, f, h3⟩ := ha
  obtain ⟨g1, g2, f', g3⟩ := hb
  have HK := Lib.hid h3
  have GK := Lib.hid g3
  have IH := Lib.hid ih
  clear h3 g3 ih
  unfold maxLen at h2 g2
  by_cases hl : ks.length = ls.length
  · have hl' : ((ks.length : Int) != (ls.length : Int)) = false := ne_f (by omega)
    have hlA : ks.length ≤ ls.length := by omega
    have hlB : ls.length ≤ ks.length := by omega
    clear hl
    go_enter Tryd.func27, Tryd.ntmps27
    go_wp2_with fail
    go_loopw [17] (fun i wr => ∃ k : Nat, k ≤ ks.length ∧ i = .int .i64 k ∧ Hid (ks.take k = ls.take k) ∧ Below w.heap.size w wr) (fun i _ => ks.length - (intOf i).toNat)
    case atStart => exact ⟨0, by omega, rfl, Lib.hid (by simp), Below.refl _ _⟩
    case round =>
      obtain ⟨k, hk, rfl, HT, hB⟩ := hrel
      by_cases hlt : k < ks.length
      · have hlt' : k < ls.length := by omega
        obtain ⟨g, o, rfl, _, hc, ht⟩ := HK.out k hlt
        obtain ⟨g', o', rfl, _, hc', ht'⟩ := GK.out k hlt'
        have hs := hB.size
        have hgw := World.block_lt_of_cell? w _ hc.1
        have hgw' := World.block_lt_of_cell? w _ hc'.1
        obtain ⟨n0, n1, n2, n3, n4⟩ := hc.move (hB.block _ hgw)
        obtain ⟨m0, m1, m2, m3, m4⟩ := hc'.move (hB.block _ hgw')
        replace m0 := alloc_cell (.cells #[.int .i64 ks[k].cls, .int .i64 ks[k].tag, .bool ks[k].cons, .slice (f k).A1 ks[k].bytes.length (f k).c1, .slice (f k).A2 ks[k].kids.length (f k).c2] 25) m0
        replace m1 := alloc_cell (.cells #[.int .i64 ks[k].cls, .int .i64 ks[k].tag, .bool ks[k].cons, .slice (f k).A1 ks[k].bytes.length (f k).c1, .slice (f k).A2 ks[k].kids.length (f k).c2] 25) m1
        replace m2 := alloc_cell (.cells #[.int .i64 ks[k].cls, .int .i64 ks[k].tag, .bool ks[k].cons, .slice (f k).A1 ks[k].bytes.length (f k).c1, .slice (f k).A2 ks[k].kids.length (f k).c2] 25) m2
        replace m3 := alloc_cell (.cells #[.int .i64 ks[k].cls, .int .i64 ks[k].tag, .bool ks[k].cons, .slice (f k).A1 ks[k].bytes.length (f k).c1, .slice (f k).A2 ks[k].kids.length (f k).c2] 25) m3
        replace m4 := alloc_cell (.cells #[.int .i64 ks[k].cls, .int .i64 ks[k].tag, .bool ks[k].cons, .slice (f k).A1 ks[k].bytes.length (f k).c1, .slice (f k).A2 ks[k].kids.length (f k).c2] 25) m4
        have htk := Lib.hid ((ht.stay hB).stay (((Below.refl _ wr).alloc (Nat.le_refl _) (.cells #[.int .i64 ks[k].cls, .int .i64 ks[k].tag, .bool ks[k].cons, .slice (f k).A1 ks[k].bytes.length (f k).c1, .slice (f k).A2 ks[k].kids.length (f k).c2] 25)).alloc (by simp) (.cells #[.int .i64 ls[k].cls, .int .i64 ls[k].tag, .bool ls[k].cons, .slice (f' k).A1 ls[k].bytes.length (f' k).c1, .slice (f' k).A2 ls[k].kids.length (f' k).c2] 25)))
        have htk' := Lib.hid ((ht'.stay hB).stay (((Below.refl _ wr).alloc (Nat.le_refl _) (.cells #[.int .i64 ks[k].cls, .int .i64 ks[k].tag, .bool ks[k].cons, .slice (f k).A1 ks[k].bytes.length (f k).c1, .slice (f k).A2 ks[k].kids.length (f k).c2] 25)).alloc (by simp) (.cells #[.int .i64 ls[k].cls, .int .i64 ls[k].tag, .bool ls[k].cons, .slice (f' k).A1 ls[k].bytes.length (f' k).c1, .slice (f' k).A2 ls[k].kids.length (f' k).c2] 25)))
        have HB : Hid (Below w.heap.size w wr) := Lib.hid hB
        clear hc hc' ht ht' hB
        have hsub := Tree.nodes_getElem_le ks k hlt
        go_wp2_with fail
        refine (IH.out ks[k] ls[k] _ S T (f k) (f' k) (by omega) htk.out htk'.out).mono ?_
        rintro e w2 ⟨rfl, hB2⟩
        have hB3 : Below w.heap.size w w2 := HB.out.trans (Below.mono ((((Below.refl _ wr).alloc (Nat.le_refl _) _).alloc (by simp) _).trans (hB2.mono (by simp; omega))) hs)
        by_cases he : ks[k] = ls[k]
        · rw [eqB_t he]
          have HE := Lib.hid he
          have HB3 := Lib.hid hB3
          clear he hB3 hB2
          go_wp2_with fail
          go_roundw
          case rel =>
            refine ⟨k + 1, hlt, by go_num, Lib.hid ?_, HB3.out⟩
            rw [List.take_succ_eq_append_getElem hlt, List.take_succ_eq_append_getElem hlt', HT.out, HE.out]
          case measure => simp [intOf]; omega
        · rw [eqB_f he]
          have HE := Lib.hid he
          have HB3 := Lib.hid hB3
          clear he hB3 hB2
          go_wp2_with fail
          go_ret
          refine ⟨ret_bool (eqL_f ?_).symm, HB3.out⟩
          intro h
          exact HE.out (by simp only [h])
      · have HB : Hid (Below w.heap.size w wr) := Lib.hid hB
        clear hB
        go_wp2_with fail
        go_ret
        refine ⟨ret_bool (eqL_t ?_).symm, HB.out⟩
        have := HT.out
        rwa [List.take_of_length_le (by omega), List.take_of_length_le (by omega)] at this
  · have hl' : ((ks.length : Int) != (ls.length : Int)) = true := ne_t (by omega)
    have HL := Lib.hid hl
    clear hl
    go_enter Tryd.func27, Tryd.ntmps27
    go_wp2_with fail
    go_ret
    exact ⟨ret_bool (eqL_f (fun h => HL.out (by rw [h]))).symm, Below.refl _ _⟩

theorem nodes_in_stay {w w' : World} {S : Nat → Prop} {A : Option Addr} {c : Nat} {ks : List Tree} (h : NodesIn w S A c ks) (hB : Below w.heap.size w w') : NodesIn w' S A c ks := by
  obtain ⟨h1, h2, f, h3⟩ := h
  refine ⟨h1, h2, f, fun i hi => ?_⟩
  obtain ⟨g, o, e, hS, hc, ht⟩ := h3 i hi
  exact ⟨g, o, e, hS, hc.move (hB.block _ (World.block_lt_of_cell? w _ hc.1)), ht.stay hB⟩
set_option maxHeartbeats 1000000 in
theorem same_calls : ∀ n, SameAt n := by
  intro n
  induction n with
  | zero => intro t u w S T p q h; have := t.nodes_pos; omega
  | succ n ih =>
    intro t u w S T p q hn ht hu
    obtain ⟨cl, tg, co, bs, ks⟩ := t
    obtain ⟨dl, dg, do', cs, ls⟩ := u
    have hk := Lib.hid ht.nodes_in
    have hl := Lib.hid hu.nodes_in
    have hb := Lib.hid ht.bytes_in
    have hc := Lib.hid hu.bytes_in
    clear ht hu
    obtain ⟨A1, c1, A2, c2⟩ := p
    obtain ⟨B1, d1, B2, d2⟩ := q
    have IH := Lib.hid ih
    clear ih
    rw [Tree.nodes_mk] at hn
    have hW : Below w.heap.size w ((w.alloc (.cells #[.int .i64 cl, .int .i64 tg, .bool co, .slice A1 bs.length c1, .slice A2 ks.length c2] 25)).alloc (.cells #[.int .i64 dl, .int .i64 dg, .bool do', .slice B1 cs.length d1, .slice B2 ls.length d2] 25)) := ((Below.refl _ w).alloc (Nat.le_refl _) _).alloc (by simp) _
    have HW := Lib.hid hW
    clear hW
    have hbx1 := box_first w (.cells #[.int .i64 dl, .int .i64 dg, .bool do', .slice B1 cs.length d1, .slice B2 ls.length d2] 25) (.int .i64 cl) (.int .i64 tg) (.bool co) (.slice A1 bs.length c1) (.slice A2 ks.length c2)
    have hbx2 := box_second w (.cells #[.int .i64 cl, .int .i64 tg, .bool co, .slice A1 bs.length c1, .slice A2 ks.length c2] 25) (.int .i64 dl) (.int .i64 dg) (.bool do') (.slice B1 cs.length d1) (.slice B2 ls.length d2)
    have HX1 := Lib.hid hbx1
    have HX2 := Lib.hid hbx2
    clear hbx1 hbx2
    simp only [nodeV, Tree.cls, Tree.tag, Tree.cons, Tree.bytes, Tree.kids]
    go_enter Tryd.func9, Tryd.ntmps9
    go_wp2_with fail
    refine (is_calls (.mk cl tg co bs ks) ⟨A1, c1, A2, c2⟩ dl dg _).mono ?_
    rintro e w2 ⟨rfl, hB2⟩
    obtain ⟨⟨a0, a1, a2, a3, a4⟩, _⟩ := (HX1.out.stay hB2 (by simp; omega)).facts
    obtain ⟨⟨b0, b1, b2, b3, b4⟩, _⟩ := (HX2.out.stay hB2 (by simp)).facts
    have HB2 : Hid (Below w.heap.size w w2) := Lib.hid (HW.out.trans (hB2.mono (by simp; omega)))
    have hX1' := HX1.out.stay hB2 (by simp; omega)
    have hX2' := HX2.out.stay hB2 (by simp)
    have HX1' := Lib.hid hX1'
    have HX2' := Lib.hid hX2'
    clear hX1' hX2' hB2
    cases h1 : ((Tree.mk cl tg co bs ks).cls == dl && (Tree.mk cl tg co bs ks).tag == dg) with
    | false =>
      have H1 := Lib.hid h1
      clear h1
      go_wp2_with fail
      go_ret
      refine ⟨ret_bool (eqB_f ?_).symm, HB2.out⟩
      intro h
      injection h with q1 q2
      have := H1.out
      simp [Tree.cls, Tree.tag, q1, q2] at this
    | true =>
      have e1 : cl = dl ∧ tg = dg := by simpa [Tree.cls, Tree.tag] using h1
      clear h1
      by_cases h2 : co = do'
      · have H2 : (co == do') = true := by rw [h2]; simp
        have E2 := Lib.hid h2
        have E1 := Lib.hid e1
        clear h2 e1
        go_wp2_with fail
        have hbw : ∀ {A c bs} {S : Nat → Prop}, BytesIn w S A c bs → BytesIn w2 S A c bs := fun h => h.stay HB2.out
        refine (equalB_calls A1 B1 c1 d1 bs cs _ S T (hb.out.stay HB2.out) (hc.out.stay HB2.out)).mono ?_
        rintro e w3 ⟨rfl, hB3⟩
        have hs2 := HB2.out.size
        have hX13 := HX1'.out.stay hB3 (World.block_lt_of_cell? w2 _ a0)
        have hX23 := HX2'.out.stay hB3 (World.block_lt_of_cell? w2 _ b0)
        obtain ⟨⟨p0, p1, p2, p3, p4⟩, _⟩ := hX13.facts
        obtain ⟨⟨r0, r1, r2, r3, r4⟩, _⟩ := hX23.facts
        have HB3 : Hid (Below w.heap.size w w3) := Lib.hid (HB2.out.trans (hB3.mono hs2))
        clear hX13 hX23 hB3 hbw
        by_cases h3 : bs = cs
        · have H3 : (bs == cs) = true := by rw [h3]; simp
          have E3 := Lib.hid h3
          rw [H3]
          clear h3 H3
          go_wp2_with fail
          refine (equalN_calls n IH.out ks ls A2 B2 c2 d2 _ S T (nodes_in_stay hk.out HB3.out) (nodes_in_stay hl.out HB3.out) (by omega)).mono ?_
          rintro e w4 ⟨rfl, hB4⟩
          have HB4 : Hid (Below w.heap.size w w4) := Lib.hid (HB3.out.trans (hB4.mono HB3.out.size))
          clear hB4
          by_cases h4 : ks = ls
          · rw [eqL_t h4]
            have E4 := Lib.hid h4
            clear h4
            go_wp2_with fail
            go_ret
            exact ⟨ret_bool (eqB_t (by rw [E1.out.1, E1.out.2, E2.out, E3.out, E4.out])).symm, HB4.out⟩
          · rw [eqL_f h4]
            have E4 := Lib.hid h4
            clear h4
            go_wp2_with fail
            go_ret
            refine ⟨ret_bool (eqB_f ?_).symm, HB4.out⟩
            intro h
            injection h with q1 q2 q3 q4 q5
            exact E4.out q5
        · have H3 : (bs == cs) = false := by simpa using h3
          have E3 := Lib.hid h3
          rw [H3]
          clear h3 H3
          go_wp2_with fail
          go_ret
          refine ⟨ret_bool (eqB_f ?_).symm, HB3.out⟩
          intro h
          injection h with q1 q2 q3 q4
          exact E3.out q4
      · have H2 : (co == do') = false := by simpa using h2
        have E2 := Lib.hid h2
        clear h2 e1
        go_wp2_with fail
        go_ret
        refine ⟨ret_bool (eqB_f ?_).symm, HB2.out⟩
        intro h
        injection h with q1 q2 q3
        exact E2.out q3
end Go.Proofs.YtkjmnoaenclleaaDoor
