/- Walks: tree.Copy, tree.Cons. -/
import Derived.Test.YtkjmnoaenclleaaDoorOwn2
import Derived.Deep.CutBlock
import Derived.Deep.DeepCutAuto
set_option linter.unusedVariables false
namespace Go.Proofs.YtkjmnoaenclleaaDoor
open Go.RowKit

namespace Tree
theorem total_mk (c t : Int) (b : Bool) (s : List UInt8) (k : List Tree) : total (mk c t b s k) = s.length + total.totalL k := by rw [total]
theorem totalL_cons (t : Tree) (l : List Tree) : total.totalL (t :: l) = total t + total.totalL l := by rw [total.totalL]
theorem totalL_nil : total.totalL [] = 0 := by rw [total.totalL]
theorem total_getElem_le : ∀ (l : List Tree) (i : Nat) (h : i < l.length), total l[i] ≤ total.totalL l
  | t :: l, 0, _ => by rw [totalL_cons]; simp
  | t :: l, i + 1, h => by have := total_getElem_le l i (by simpa using h); rw [totalL_cons]; simpa using by omega
theorem length_le_nodesL : ∀ (l : List Tree), l.length ≤ nodes.nodesL l
  | [] => by simp
  | t :: l => by have := length_le_nodesL l; have := t.nodes_pos; rw [nodesL_cons, List.length_cons]; omega
end Tree

theorem box_first (w : World) (o : Obj) (a b c d e : Value) : BoxN ((w.alloc (.cells #[a, b, c, d, e] 25)).alloc o) w.heap.size a b c d e := heap_alloc2_old w _ _
theorem box_second (w : World) (o : Obj) (a b c d e : Value) : BoxN ((w.alloc o).alloc (.cells #[a, b, c, d, e] 25)) (w.heap.size + 1) a b c d e := heap_alloc2_new w _ _
theorem nodes_stay {w w' : World} {S : Nat → Prop} {A : Option Addr} {ks : List Tree} {f : Nat → At} (h : ∀ i (h : i < ks.length), ∃ g o, A = some ⟨g, o, none⟩ ∧ S g ∧ NodeAt w g (o + i * 5) ks[i] (f i) ∧ TreeIn w S ks[i] (f i))
    (hB : Below w.heap.size w w') : ∀ i (h : i < ks.length), ∃ g o, A = some ⟨g, o, none⟩ ∧ NodeAt w' g (o + i * 5) ks[i] (f i) := by
  intro i hi
  obtain ⟨g, o, e, _, hc, _⟩ := h i hi
  exact ⟨g, o, e, hc.move (hB.block _ (World.block_lt_of_cell? w _ hc.1))⟩

theorem cloned_met {w w0 w1 w2 : World} {cl tg : Int} {co : Bool} {bs : List UInt8} {ks : List Tree} {f : Nat → At} {A1 A1' A2 A2' : Option Addr} {c1 c1' c2 c2' : Nat}
    (h0 : w0.heap.size = w.heap.size + 2) (hB0 : Below w.heap.size w w0)
    (hO1 : w1.ownsRow w0.heap.size 5 1 (.slice A1' bs.length c1') bs.length (bv bs)) (hB1 : Below w0.heap.size w0 w1)
    (hO2 : w2.ownsRow w1.heap.size 25 5 (.slice A2' ks.length c2') ks.length (rowC ks (ats f ks.length))) (hB2 : Below w1.heap.size w1 w2)
    (b1 : BoxN w2 w.heap.size (.int .i64 cl) (.int .i64 tg) (.bool co) (.slice A1 bs.length c1) (.slice A2 ks.length c2))
    (b2 : BoxN w2 (w.heap.size + 1) (.int .i64 0) (.int .i64 0) (.bool false) (.slice none 0 0) (.slice none 0 0)) :
    Cloned w w.heap.size (w.heap.size + 1) cl tg co bs ks f ((w2.setCell ⟨w.heap.size, 3, none⟩ (.slice A1' bs.length c1')).setCell ⟨w.heap.size, 4, none⟩ (.slice A2' ks.length c2')) := by
  have hs1 := hB1.size
  have hs2 := hB2.size
  have hot : ∀ k, k ≠ w.heap.size → ((w2.setCell ⟨w.heap.size, 3, none⟩ (.slice A1' bs.length c1')).setCell ⟨w.heap.size, 4, none⟩ (.slice A2' ks.length c2')).heap[k]? = w2.heap[k]? := by
    intro k hk
    rw [Below.heap_setCell _ _ _ k hk, Below.heap_setCell _ _ _ k hk]
  have ho1 := own_block hO1
  have ho2 := own_block hO2
  refine ⟨A1', c1', A2', c2', ?_, (hot _ (by omega)).trans b2, ?_, ?_, ?_, ?_⟩
  · unfold BoxN at b1 ⊢
    simp [World.setCell, Array.getElem?_modify, b1]
  · refine own_moved (own_lower hO1 (by omega)) (fun k hk => (hot k ?_).trans (hB2.block k (ho1 k hk).2))
    have := (ho1 k hk).1; omega
  · refine own_moved (own_lower hO2 (by omega)) (fun k hk => hot k ?_)
    have := (ho2 k hk).1; omega
  · rw [blocksOf, List.nodup_append]
    refine ⟨by cases A1' <;> simp, by cases A2' <;> simp, fun a ha b hb => ?_⟩
    have h1 := (ho1 a ha).2
    have h2 := (ho2 b hb).1
    omega
  · exact (((hB0.trans (hB1.mono (by omega))).trans (hB2.mono (by omega))).setCell (Nat.le_refl _) _).setCell (Nat.le_refl _) _

theorem node_facts {wr w2 : World} {g o : Nat} {t : Tree} {p : At} (hB : Below wr.heap.size wr w2) (hn : NodeAt wr g o t p) (hf : ∀ o, wr.frozen? ⟨g, o, none⟩ = false) :
    (w2.cell? ⟨g, o, none⟩ = some (.int .i64 t.cls) ∧ w2.cell? ⟨g, o + 1, none⟩ = some (.int .i64 t.tag) ∧ w2.cell? ⟨g, o + 2, none⟩ = some (.bool t.cons) ∧
      w2.cell? ⟨g, o + 3, none⟩ = some (.slice p.A1 t.bytes.length p.c1) ∧ w2.cell? ⟨g, o + 4, none⟩ = some (.slice p.A2 t.kids.length p.c2)) ∧
    (w2.frozen? ⟨g, o, none⟩ = false ∧ w2.frozen? ⟨g, o + 1, none⟩ = false ∧ w2.frozen? ⟨g, o + 2, none⟩ = false ∧ w2.frozen? ⟨g, o + 3, none⟩ = false ∧ w2.frozen? ⟨g, o + 4, none⟩ = false) := by
  have hg := World.block_lt_of_cell? wr _ hn.1
  exact ⟨hn.move (hB.block _ hg), (hB.frozen (p := ⟨g, o, none⟩) hg).trans (hf _), (hB.frozen (p := ⟨g, o + 1, none⟩) hg).trans (hf _), (hB.frozen (p := ⟨g, o + 2, none⟩) hg).trans (hf _), (hB.frozen (p := ⟨g, o + 3, none⟩) hg).trans (hf _), (hB.frozen (p := ⟨g, o + 4, none⟩) hg).trans (hf _)⟩

set_option maxHeartbeats 1000000 in
theorem copy_calls : ∀ (n : Nat) (t : Tree) (w : World) (S : Nat → Prop) (p : At), t.nodes ≤ n → n ≤ 1000000000 → t.total ≤ 1000000000 → TreeIn w S t p →
    Calls Tryd.prog 8 #[nodeV t p] w (GivesT w t) := by
  intro n
  induction n with
  | zero => intro t w S p h; have := t.nodes_pos; omega
  | succ n ih =>
    intro t w S p hn hbig htot ht
    obtain ⟨cl, tg, co, bs, ks⟩ := t
    have hk := ht.nodes_in
    have hbs := ht.bytes_in
    obtain ⟨hl, hm, f, hkid⟩ := hk
    simp only [nodeV, Tree.cls, Tree.tag, Tree.cons, Tree.bytes, Tree.kids]
    obtain ⟨A1, c1, A2, c2⟩ := p
    simp only at hl hm hkid hbs
    have HK := Lib.hid hkid
    have IH := Lib.hid ih
    have HBS := Lib.hid hbs
    have HL := Lib.hid hl
    have HM := Lib.hid hm
    clear hkid ih ht hbs hl hm
    rw [Tree.nodes_mk] at hn
    rw [Tree.total_mk] at htot
    have hkl := Tree.length_le_nodesL ks
    have hbl : bs.length ≤ 1000000000 := by omega
    have hkl' : ks.length ≤ 1000000000 := by omega
    go_enter Tryd.func8, Tryd.ntmps8
    go_upto_region 1 with fail
    go_cut [7] from 5 to 12 (fun s wx => Cloned w w.heap.size (w.heap.size + 1) cl tg co bs ks f wx)
    case first =>
      go_region_with (first
        | (go_at_call 24
           go_loud (
             refine (cloneB_calls A1 c1 bs _ S (HBS.out.stay (Below.drew (((Below.refl _ w).alloc (Nat.le_refl _) _).alloc (by simp) _))) hbl).mono ?_
             rintro e w1 ⟨A1', c1', rfl, hO1, hB1⟩
             have hbox1 := BoxN.stay (BoxN.drew (box_first w _ _ _ _ _ _)) hB1 (by simp; omega)
             have hbox2 := BoxN.stay (BoxN.drew (box_second w _ _ _ _ _ _)) hB1 (by simp)
             have hbf1 := hbox1.facts
             obtain ⟨⟨bc0, bc1, bc2, bc3, bc4⟩, bf0, bf1, bf2, bf3, bf4⟩ := hbf1))
        | (go_at_call 25
           go_loud (
             refine (cloneN_calls A2 c2 ks f _ HL.out HM.out (nodes_stay HK.out (Below.trans (Below.drew (((Below.refl _ w).alloc (Nat.le_refl _) _).alloc (by simp) _)) (hB1.mono (by simp; omega)))) hkl').mono ?_
             rintro e w2 ⟨A2', c2', rfl, hO2, hB2⟩
             have hs1 := hB1.size
             have hbox1' := hbox1.stay hB2 (by simp at hs1; omega)
             have hbox2' := hbox2.stay hB2 (by simp at hs1; omega)
             obtain ⟨⟨bd0, bd1, bd2, bd3, bd4⟩, be0, be1, be2, be3, be4⟩ := hbox1'.facts)))
      all_goals (try go_wp2_with fail)
      all_goals go_meet
      all_goals exact cloned_met (by simp) (Below.drew (((Below.refl _ w).alloc (Nat.le_refl _) _).alloc (by simp) _)) hO1 hB1 hO2 hB2 hbox1' hbox2'
    case rest =>
      obtain ⟨⟨A1p, c1p, A2p, c2p⟩, hC⟩ := hcut.start
      clear hcut
      obtain ⟨⟨bc0, bc1, bc2, bc3, bc4⟩, bf0, bf1, bf2, bf3, bf4⟩ := hC.box1.facts
      go_wp2_with fail
      go_loopw [16] (fun i wr => ∃ k : Nat, i = .int .i64 k ∧ CopyAt w cl tg co bs ks f ⟨A1p, c1p, A2p, c2p⟩ k wr) (fun i _ => ks.length - (intOf i).toNat)
      case atStart => exact ⟨0, rfl, hC⟩
      case round =>
        obtain ⟨k, rfl, hR⟩ := hrel
        have hkle := hR.le
        by_cases hlt : k < ks.length
        · have hszr := hR.below.size
          obtain ⟨g, hg, hg1, hg2, hnode, hfz⟩ := hR.row hlt
          obtain rfl : A2p = some ⟨g, 0, none⟩ := hg
          have hszs : w.heap.size < wr.heap.size := by omega
          have hsnew : ∀ o, (wr.alloc o).drew.cell? ⟨w.heap.size, 4, none⟩ = wr.cell? ⟨w.heap.size, 4, none⟩ := fun o => World.cell?_alloc_lt wr _ _ hszs
          have HSN := Lib.hid hsnew
          clear hsnew
          obtain ⟨n0, n1, n2, n3, n4⟩ := hnode
          rw [Nat.zero_add] at n0 n1 n2 n3 n4
          have hR0 : BoxN wr w.heap.size (.int .i64 cl) (.int .i64 tg) (.bool co) (.slice A1p bs.length c1p) (.slice (some ⟨g, 0, none⟩) ks.length c2p) := hR.box1
          obtain ⟨⟨bd0, bd1, bd2, bd3, bd4⟩, be0, be1, be2, be3, be4⟩ := hR0.facts
          have HT : Hid (TreeIn wr S ks[k] (f k)) := by
            obtain ⟨g', o', e', hS', hc', ht'⟩ := HK.out k hlt
            exact Lib.hid (ht'.stay hR.below)
          have HR := Lib.hid hR
          have HF := Lib.hid hfz
          clear hR hfz
          have hsub := Tree.nodes_getElem_le ks k hlt
          have hsubt := Tree.total_getElem_le ks k hlt
          have HN : Hid (NodeAt wr g (k * 5) ks[k] (f k)) := Lib.hid ⟨n0, n1, n2, n3, n4⟩
          have HB0 := Lib.hid hR0
          clear hR0
          go_upto_region 5 with fail
          have hl4 := (HSN.out (.cells #[.int .i64 ks[k].cls, .int .i64 ks[k].tag, .bool ks[k].cons, .slice (f k).A1 ks[k].bytes.length (f k).c1, .slice (f k).A2 ks[k].kids.length (f k).c2] 25)).trans bd4
          go_region_with (
            (go_at_call 8
             go_loud (
               refine (IH.out ks[k] _ S (f k) (by omega) (by omega) (by omega) (HT.out.stay (Below.drew ((Below.refl _ wr).alloc (Nat.le_refl _) _)))).mono ?_
               rintro e w2 ⟨q, F, rfl, hO, hB2⟩
               have HB2 : Hid (Below wr.heap.size wr w2) := Lib.hid ((Below.drew ((Below.refl _ wr).alloc (Nat.le_refl _) _)).trans (hB2.mono (by simp)))
               obtain ⟨⟨m0, m1, m2, m3, m4⟩, z0, z1, z2, z3, z4⟩ := node_facts HB2.out HN.out HF.out
               obtain ⟨⟨y0, y1, y2, y3, y4⟩, x0, x1, x2, x3, x4⟩ := (HB0.out.stay HB2.out (by omega)).facts
               have HO := Lib.hid hO
               have HBC := Lib.hid hB2
               simp only [nodeV]
               clear hO hB2)))
          all_goals (try go_wp2_with fail)
          all_goals go_roundw
          all_goals first
            | (case measure => simp [intOf]; omega)
            | skip
          all_goals exact ⟨k + 1, by go_num, HR.out.step hlt (Below.drew ((Below.refl _ wr).alloc (Nat.le_refl _) _)) q F HO.out HBC.out g rfl (k * 5) rfl⟩
        · obtain rfl : k = ks.length := by omega
          obtain ⟨⟨bd0, bd1, bd2, bd3, bd4⟩, be0, be1, be2, be3, be4⟩ := hR.box1.facts
          obtain ⟨⟨bg0, bg1, bg2, bg3, bg4⟩, bh0, bh1, bh2, bh3, bh4⟩ := hR.box2.facts
          go_wp2_with fail
          have hp := BoxN.put (a' := .int .i64 cl) (b' := .int .i64 tg) (c' := .bool co) (d' := .slice A1p bs.length c1p) (e' := .slice A2p ks.length c2p) hR.box2
          refine bodyPost_ret (v := nodeV (.mk cl tg co bs ks) ⟨A1p, c1p, A2p, c2p⟩) (hp.res _ _ _ rfl rfl) rfl ?_
          obtain ⟨F, hF⟩ := hR.done
          exact ⟨_, F, rfl, hF, hR.below.trans (put5_below _ _ _ _ _ _ _ _ (by omega))⟩
end Go.Proofs.YtkjmnoaenclleaaDoor
