/- The walk of TreeCopies. -/
import Derived.Test.YtkjmnoaenclleaaDoorW15
import Derived.Test.YtkjmnoaenclleaaDoorW20
set_option linter.unusedVariables false
namespace Go.Proofs.YtkjmnoaenclleaaDoor
open Go.RowKit

theorem tag_turned (x : Int) (b : Nat) (hb : b ≤ 255) : wrap64 (wrap64 (x + 1) + (b : Int)) ≠ x := by unfold wrap64; omega

/-- Behind the store: the copy with a tag turned, and what it was a copy of. -/
def Turned (w : World) (g1 g2 : Nat) (t : Tree) (p q : At) (wx : World) : Prop :=
  Below w.heap.size w wx ∧ BoxN wx g1 (.int .i64 t.cls) (.int .i64 t.tag) (.bool t.cons) (.slice p.A1 t.bytes.length p.c1) (.slice p.A2 t.kids.length p.c2) ∧
    ∃ (u : Tree) (U : Nat → Prop), u ≠ t ∧ TreeIn wx U u q ∧ BoxN wx g2 (.int .i64 u.cls) (.int .i64 u.tag) (.bool u.cons) (.slice q.A1 u.bytes.length q.c1) (.slice q.A2 u.kids.length q.c2)

theorem turned_made {w w1 w2 w9 : World} {t : Tree} {p q : At} {F : List Nat} {g1 b' o' m : Nat} (x : Int) (hB : Below w.heap.size w w9)
    (hO : OT w2 w1.heap.size t q F) (hB2 : Below w1.heap.size w1 w2) (hg1 : g1 < w1.heap.size) (hw1 : w.heap.size ≤ w1.heap.size)
    (hF9 : ∀ k ∈ F, w9.heap[k]? = w2.heap[k]?) (hP : Place w9 t q w2.heap.size 0 m b' o')
    (h1 : BoxN w9 g1 (.int .i64 t.cls) (.int .i64 t.tag) (.bool t.cons) (.slice p.A1 t.bytes.length p.c1) (.slice p.A2 t.kids.length p.c2))
    (h2 : BoxN w9 w2.heap.size (.int .i64 t.cls) (.int .i64 t.tag) (.bool t.cons) (.slice q.A1 t.bytes.length q.c1) (.slice q.A2 t.kids.length q.c2))
    (hx : x ≠ t.tagAt m) : Turned w g1 w2.heap.size t p q (w9.setCell ⟨b', o' + 1, none⟩ (.int .i64 x)) := by
  have hlt := hO.lt
  have hsz := hB2.size
  have hO9 : OT w9 w1.heap.size t q F := hO.move hF9
  have hnot : w2.heap.size ∉ F := fun h => by have := (hlt _ h).2; omega
  obtain ⟨r1, r2, r3, r4⟩ := hP.set_tag x hO9 hnot
  have hb' : b' = w2.heap.size ∨ b' ∈ F := by
    rcases Nat.eq_zero_or_pos m with hk | hk
    · exact .inl (r2 hk).1
    · exact .inr (r3 hk)
  have hb1 : w1.heap.size ≤ b' := by
    rcases hb' with h | h
    · omega
    · exact (hlt _ h).1
  refine ⟨hB.setCell (by show w.heap.size ≤ b'; omega) _, (Below.heap_setCell _ _ _ g1 (by show g1 ≠ b'; omega)).trans h1, t.setTag m x, _, Tree.setTag_ne t m x hP.lt hx, r1.reads, ?_⟩
  rcases Nat.eq_zero_or_pos m with hk | hk
  · obtain ⟨e1, e2⟩ := r2 hk
    subst hk e1 e2
    obtain ⟨q1, q2, q3, q4⟩ := t.setTag_zero' x
    rw [q1, q2, q3, q4, Tree.setTag_kids]
    unfold BoxN at h2 ⊢
    simp [World.setCell, Array.getElem?_modify, h2]
  · obtain ⟨q1, q2, q3, q4⟩ := t.setTag_root m x hk
    rw [q1, q2, q3, q4, Tree.setTag_kids]
    have := r3 hk
    exact (Below.heap_setCell _ _ _ _ (by show w2.heap.size ≠ b'; intro e; exact hnot (e ▸ this))).trans h2

theorem place_free {w1 w2 w9 : World} {t : Tree} {q : At} {F : List Nat} {b' o' m : Nat} (hO : OT w2 w1.heap.size t q F) (hF9 : ∀ k ∈ F, w9.heap[k]? = w2.heap[k]?) (hP : Place w9 t q w2.heap.size 0 m b' o')
    {a b c d e : Value} (h2 : BoxN w9 w2.heap.size a b c d e) : w9.frozen? ⟨b', o' + 1, none⟩ = false := by
  have hlt := hO.lt
  have hnot : w2.heap.size ∉ F := fun h => by have := (hlt _ h).2; omega
  obtain ⟨r1, r2, r3, r4⟩ := hP.set_tag 0 (hO.move hF9) hnot
  rcases Nat.eq_zero_or_pos m with hk | hk
  · obtain ⟨rfl, rfl⟩ := r2 hk
    unfold BoxN at h2
    simp [World.frozen?, h2]
  · exact r4 _ (r3 hk)

def X1 : Texts := ⟨fun _ => false, fun _ => false, fun _ => false⟩
set_option maxRecDepth 100000 in
set_option maxHeartbeats 1000000 in
theorem copies_calls (t : Tree) (p : At) (S : Nat → Prop) (a b : Nat) (w : World) (ha : a ≤ 65535) (hb : b ≤ 255) (ht : TreeIn w S t p) :
    Calls Tryd.prog 3 #[nodeV t p, .int .u16 (a : Int), .int .u8 (b : Int)] w fun e w' => e = .returned (.bool true) ∧ Below w.heap.size w w' := by
  have HT := Lib.hid ht
  clear ht
  obtain ⟨cl, tg, co, bs, ks⟩ := t
  obtain ⟨A1, c1, A2, c2⟩ := p
  have HX := Lib.hid (BoxN.alloc w (.int .i64 cl) (.int .i64 tg) (.bool co) (.slice A1 bs.length c1) (.slice A2 ks.length c2))
  have HW : Hid (Below w.heap.size w (w.alloc (.cells #[.int .i64 cl, .int .i64 tg, .bool co, .slice A1 bs.length c1, .slice A2 ks.length c2] 25))) := Lib.hid ((Below.refl _ w).alloc (Nat.le_refl _) _)
  have hw0 : (w.alloc (.cells #[.int .i64 cl, .int .i64 tg, .bool co, .slice A1 bs.length c1, .slice A2 ks.length c2] 25)).heap.size = w.heap.size + 1 := by simp
  have HW0 := Lib.hid hw0
  clear hw0
  simp only [nodeV, Tree.cls, Tree.tag, Tree.cons, Tree.bytes, Tree.kids]
  go_enter Tryd.func3, Tryd.ntmps3
  go_wp2_with fail
  refine (alive_calls X1 _).mono ?_
  rintro e w1 ⟨rfl, hB1⟩
  have HX1 := Lib.hid (HX.out.stay hB1 (by rw [HW0.out]; omega))
  have hs1 := hB1.size
  rw [HW0.out] at hs1
  have HB1 : Hid (Below w.heap.size w w1) := Lib.hid (HW.out.trans (hB1.mono (by rw [HW0.out]; omega)))
  obtain ⟨⟨x0, x1, x2, x3, x4⟩, _⟩ := HX1.out.facts
  clear HX hB1
  have hgr := great_calls (.mk cl tg co bs ks) w1 S ⟨A1, c1, A2, c2⟩ (HT.out.stay HB1.out)
  have HG := Lib.hid hgr
  clear hgr
  go_wp2_with fail
  refine HG.out.mono ?_
  rintro e w2 ⟨rfl, hB2⟩
  have hs2 := hB2.size
  have HX2 := Lib.hid (HX1.out.stay hB2 (by omega))
  have HB2 : Hid (Below w.heap.size w w2) := Lib.hid (HB1.out.trans (hB2.mono (by omega)))
  clear hB2 x0 x1 x2 x3 x4 HG
  by_cases hbig : weigh 10000 200 (.mk cl tg co bs ks) < 0
  · rw [decide_eq_true hbig]
    clear hbig
    go_wp2_with fail
    go_ret
    exact ⟨rfl, HB2.out⟩
  · have hfit := weigh_fits (.mk cl tg co bs ks) 10000 200 (by omega)
    have hnn : (Tree.mk cl tg co bs ks).nodes ≤ 10000 := by omega
    have htt : (Tree.mk cl tg co bs ks).total ≤ 10000 := by omega
    have hpos := (Tree.mk cl tg co bs ks).nodes_pos
    rw [decide_eq_false hbig]
    clear hbig hfit
    obtain ⟨⟨x0, x1, x2, x3, x4⟩, _⟩ := HX2.out.facts
    have hcp := copy_calls 1000000000 (.mk cl tg co bs ks) w2 S ⟨A1, c1, A2, c2⟩ (by omega) (Nat.le_refl _) (by omega) (HT.out.stay HB2.out)
    have HCP := Lib.hid hcp
    clear hcp
    go_wp2_with fail
    refine HCP.out.mono ?_
    rintro e w3 ⟨q, F, rfl, hO, hB3⟩
    simp only [nodeV, Tree.cls, Tree.tag, Tree.cons, Tree.bytes, Tree.kids]
    have hs3 := hB3.size
    have HX3 := Lib.hid (HX2.out.stay hB3 (by omega))
    have HB3 : Hid (Below w.heap.size w w3) := Lib.hid (HB2.out.trans (hB3.mono (by omega)))
    have HB23 := Lib.hid hB3
    have HO := Lib.hid hO
    clear hB3 x0 x1 x2 x3 x4 HCP hO
    obtain ⟨B1, d1, B2, d2⟩ := q
    -- the copy's variable
    have HY4 := Lib.hid (BoxN.alloc w3 (.int .i64 cl) (.int .i64 tg) (.bool co) (.slice B1 bs.length d1) (.slice B2 ks.length d2))
    have HX4 := Lib.hid (HX3.out.stay ((Below.refl _ w3).alloc (Nat.le_refl _) (.cells #[.int .i64 cl, .int .i64 tg, .bool co, .slice B1 bs.length d1, .slice B2 ks.length d2] 25)) (by omega))
    have HB34 : Hid (Below w3.heap.size w3 (w3.alloc (.cells #[.int .i64 cl, .int .i64 tg, .bool co, .slice B1 bs.length d1, .slice B2 ks.length d2] 25))) := Lib.hid ((Below.refl _ w3).alloc (Nat.le_refl _) _)
    have hw4 : (w3.alloc (.cells #[.int .i64 cl, .int .i64 tg, .bool co, .slice B1 bs.length d1, .slice B2 ks.length d2] 25)).heap.size = w3.heap.size + 1 := by simp
    have HW4 := Lib.hid hw4
    clear hw4
    obtain ⟨⟨x0, x1, x2, x3, x4⟩, _⟩ := HX4.out.facts
    have HT3 := Lib.hid (HT.out.stay (HB3.out.trans (HB34.out.mono (by omega))))
    have HC3 := Lib.hid (HO.out.reads.stay HB34.out)
    have hsm := same_calls 1000000000 (.mk cl tg co bs ks) (.mk cl tg co bs ks) _ _ S ⟨B1, d1, B2, d2⟩ ⟨A1, c1, A2, c2⟩ (by omega) HC3.out HT3.out
    have HSM := Lib.hid hsm
    clear hsm
    go_wp2_with fail
    refine HSM.out.mono ?_
    rintro e w5 ⟨rfl, hB5⟩
    rw [eqB_t rfl]
    have hs5 := hB5.size
    rw [HW4.out] at hs5
    have HB35 : Hid (Below w3.heap.size w3 w5) := Lib.hid (HB34.out.trans (hB5.mono (by rw [HW4.out]; omega)))
    have HX5 := Lib.hid (HX4.out.stay hB5 (by rw [HW4.out]; omega))
    have HY5 := Lib.hid (HY4.out.stay hB5 (by rw [HW4.out]; omega))
    clear x0 x1 x2 x3 x4 hB5 HSM
    obtain ⟨⟨x0, x1, x2, x3, x4⟩, _⟩ := HX5.out.facts
    obtain ⟨⟨y0, y1, y2, y3, y4⟩, _⟩ := HY5.out.facts
    have HT5 := Lib.hid (HT.out.stay (HB3.out.trans (HB35.out.mono (by omega))))
    have HC5 := Lib.hid (HO.out.reads.stay HB35.out)
    have hsm := same_calls 1000000000 (.mk cl tg co bs ks) (.mk cl tg co bs ks) w5 S _ ⟨A1, c1, A2, c2⟩ ⟨B1, d1, B2, d2⟩ (by omega) HT5.out HC5.out
    have HSM := Lib.hid hsm
    clear hsm
    go_wp2_with fail
    refine HSM.out.mono ?_
    rintro e w6 ⟨rfl, hB6⟩
    rw [eqB_t rfl]
    have hs6 := hB6.size
    have HB36 : Hid (Below w3.heap.size w3 w6) := Lib.hid (HB35.out.trans (hB6.mono (by omega)))
    have HX6 := Lib.hid (HX5.out.stay hB6 (by omega))
    have HY6 := Lib.hid (HY5.out.stay hB6 (by omega))
    clear x0 x1 x2 x3 x4 y0 y1 y2 y3 y4 hB6 HSM
    obtain ⟨⟨x0, x1, x2, x3, x4⟩, _⟩ := HX6.out.facts
    obtain ⟨⟨y0, y1, y2, y3, y4⟩, _⟩ := HY6.out.facts
    have HC6 := Lib.hid (HO.out.reads.stay HB36.out)
    have hcn := count_calls 1000000000 (.mk cl tg co bs ks) w6 _ ⟨B1, d1, B2, d2⟩ (by omega) (by omega) HC6.out
    have HCN := Lib.hid hcn
    clear hcn
    generalize hN : (Tree.mk cl tg co bs ks).nodes = N at *
    have HN := Lib.hid hN
    clear hN
    go_wp2_with fail
    refine HCN.out.mono ?_
    rintro e w7 ⟨rfl, hB7⟩
    have hs7 := hB7.size
    have HB37 : Hid (Below w3.heap.size w3 w7) := Lib.hid (HB36.out.trans (hB7.mono (by omega)))
    have HX7 := Lib.hid (HX6.out.stay hB7 (by omega))
    have HY7 := Lib.hid (HY6.out.stay hB7 (by omega))
    clear x0 x1 x2 x3 x4 y0 y1 y2 y3 y4 hB7 HCN
    have HBc : Hid (Below w7.heap.size w7 (w7.alloc (.cells #[.int .i64 0] 3))) := Lib.hid ((Below.refl _ w7).alloc (Nat.le_refl _) _)
    have HX8 := Lib.hid (HX7.out.stay HBc.out (by omega))
    have HY8 := Lib.hid (HY7.out.stay HBc.out (by omega))
    have HB38 : Hid (Below w3.heap.size w3 (w7.alloc (.cells #[.int .i64 0] 3))) := Lib.hid (HB37.out.trans (HBc.out.mono (by omega)))
    have hmod : ((a : Int) % (N : Int)) = ((a % N : Nat) : Int) := by omega
    have hmlt : a % N < N := Nat.mod_lt _ hpos
    have HF : Hid (∀ k ∈ F, k < w3.heap.size) := Lib.hid (fun k hk => (HO.out.lt k hk).2)
    have hpk := pick_calls N (.mk cl tg co bs ks) (w7.alloc (.cells #[.int .i64 0] 3)) (fun k => k ∈ F) ⟨B1, d1, B2, d2⟩ w3.heap.size 0 w7.heap.size 0 (a % N) (Nat.le_of_eq HN.out)
      HY8.out.facts.1 (HO.out.reads.stay HB38.out) (fun h => by have := HF.out _ h; omega) (by omega) (heap_alloc_new w7 _) (Nat.zero_le _) (by omega)
    have HPK := Lib.hid hpk
    have HM := Lib.hid hmod
    clear hpk hmod
    go_wp2_with fail
    rw [HM.out]
    refine HPK.out.mono ?_
    rintro e w9 ⟨hoff, hpick⟩
    rw [HN.out, Nat.sub_zero] at hpick
    rcases hpick with ⟨_, b', o', rfl, hpl⟩ | ⟨hge, _⟩
    · have hpl9 : Place w9 (.mk cl tg co bs ks) ⟨B1, d1, B2, d2⟩ w3.heap.size 0 (a % N) b' o' :=
        hpl.move (HO.out.reads.stay HB38.out) (hoff.block _ (by omega)) (fun k hk => hoff.block k (by have := HF.out k hk; omega))
      have hF9 : ∀ k ∈ F, w9.heap[k]? = w3.heap[k]? := fun k hk => by
        have := HF.out k hk
        exact (hoff.block k (by omega)).trans (HB38.out.block k this)
      have hB9 : Below w.heap.size w w9 := (HB3.out.trans (HB38.out.mono (by omega))).trans (hoff.below (by omega))
      have hx9 := (hoff.block w.heap.size (by omega)).trans HX8.out
      have hy9 := (hoff.block w3.heap.size (by omega)).trans HY8.out
      have hcell := hpl9.tag
      have hfree := place_free (w1 := w2) HO.out hF9 hpl9 hy9
      have hmade := fun x hx => turned_made (g1 := w.heap.size) (p := ⟨A1, c1, A2, c2⟩) x hB9 HO.out HB23.out (by omega) (by omega) hF9 hpl9 hx9 hy9 hx
      generalize (Tree.mk cl tg co bs ks).tagAt (a % N) = T at hcell hmade
      have HMD := Lib.hid hmade
      clear hmade hx9 hy9 hB9 hF9 hpl9 hpl hoff HPK HM HX8 HY8 HX7 HY7 HX6 HY6 HX5 HY5 HX4 HY4 HBc HB38 HB37 HB36 HB35 HB34 HC3 HC5 HC6 HT3 HT5 HO HF
      go_upto_region 12 with fail
      obtain ⟨wt, hwt⟩ : ∃ wt, wt = w9.setCell ⟨b', o' + 1, none⟩ (.int .i64 (wrap64 (wrap64 (T + 1) + (b : Int)))) := ⟨_, rfl⟩
      have htu := HMD.out _ (tag_turned T b hb)
      rw [← hwt] at htu ⊢
      clear hwt hcell hfree HMD
      obtain ⟨hBt, hxt, u, U, hu, hut, hyt⟩ := htu
      obtain ⟨cu, tu, cou, bsu, ksu⟩ := u
      simp only [Tree.cls, Tree.tag, Tree.cons, Tree.bytes, Tree.kids] at hxt hyt
      have hst := hBt.size
      have HBT := Lib.hid hBt
      have HU := Lib.hid hu
      have HXT := Lib.hid hxt
      have HYT := Lib.hid hyt
      have HUT := Lib.hid hut
      obtain ⟨⟨x0, x1, x2, x3, x4⟩, _⟩ := hxt.facts
      obtain ⟨⟨y0, y1, y2, y3, y4⟩, _⟩ := hyt.facts
      have HTT := Lib.hid (HT.out.stay hBt)
      clear hBt hxt hyt hut hu
      go_region_with (first
        | (go_at_call 9
           go_loud (
             refine (same_calls (Tree.mk cu tu cou bsu ksu).nodes (.mk cu tu cou bsu ksu) (.mk cl tg co bs ks) _ U S ⟨B1, d1, B2, d2⟩ ⟨A1, c1, A2, c2⟩ (Nat.le_refl _) (HUT.out.stay (Below.drew (Below.refl _ wt))) (HTT.out.stay (Below.drew (Below.refl _ wt)))).mono ?_
             rintro e w10 ⟨rfl, hB10⟩
             rw [eqB_f HU.out]
             have hB10' : Below wt.heap.size wt w10 := (Below.drew (Below.refl _ wt)).trans hB10
             have HB10 := Lib.hid hB10'
             have hx10 := HXT.out.stay hB10' (World.block_lt_of_cell? wt _ x0)
             have HX10 := Lib.hid hx10
             obtain ⟨⟨x5, x6, x7, x8, x9⟩, _⟩ := hx10.facts
             clear hB10 hB10' hx10))
        | (go_at_call 8
           go_loud (
             refine (copy_calls 1000000000 (.mk cl tg co bs ks) _ S ⟨A1, c1, A2, c2⟩ (by have := HN.out; omega) (Nat.le_refl _) (by omega) (HTT.out.stay HB10.out)).mono ?_
             rintro e w11 ⟨q', F', rfl, hO11, hB11⟩
             simp only [nodeV, Tree.cls, Tree.tag, Tree.cons, Tree.bytes, Tree.kids]
             have HO11 := Lib.hid hO11.reads
             have HB11 := Lib.hid (HB10.out.trans (hB11.mono HB10.out.size))
             have hx11 := HX10.out.stay hB11 (World.block_lt_of_cell? w10 _ x5)
             obtain ⟨⟨x10, x11, x12, x13, x14⟩, _⟩ := hx11.facts
             clear hO11 hB11 hx11))
        | (go_at_call 12
           go_loud (
             refine (rsame_calls 1000000000 (.mk cl tg co bs ks) (.mk cl tg co bs ks) _ _ S q' ⟨A1, c1, A2, c2⟩ (by have := HN.out; omega) HO11.out (HTT.out.stay HB11.out)).mono ?_
             rintro e w12 ⟨rfl, hB12⟩
             rw [eqB_t rfl]
             have HB12 := Lib.hid (HB11.out.trans (hB12.mono HB11.out.size))
             clear hB12)))
      all_goals (try go_wp2_with fail)
      all_goals go_ret
      all_goals exact ⟨rfl, HBT.out.trans (HB12.out.mono HBT.out.size)⟩
    · omega
end Go.Proofs.YtkjmnoaenclleaaDoor
