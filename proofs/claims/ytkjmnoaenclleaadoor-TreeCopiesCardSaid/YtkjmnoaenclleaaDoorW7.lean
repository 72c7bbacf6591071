/- Walks: the first rule that a tree breaks, and by which node. -/
import Derived.Test.YtkjmnoaenclleaaDoorW6
import Derived.Test.YtkjmnoaenclleaaDoorT1
import Derived.RegionTactic
import Derived.ChangeAlike
import Derived.BigRegion
set_option linter.unusedVariables false
namespace Go.Proofs.YtkjmnoaenclleaaDoor
open Go.RowKit Go.Shelf
attribute [local go_sem] Oper.semAt_some

/-- The first rule broken, and by which node. -/
def wrongGo (X : Texts) : Nat → List Tree → Int × Int
  | _, [] => (0, -1)
  | k, t :: l => if breaksN X t = 0 then wrongGo X (k + 1) l else (((breaksN X t : Nat) : Int), ((k : Nat) : Int))
def wrongN (X : Texts) (t : Tree) : Int × Int :=
  if 24 < t.deep then (5, 0) else if 4000 < t.nodes then (6, 0) else wrongGo X 0 t.list
theorem wrongGo_all (X : Texts) (l : List Tree) : ∀ k, (∀ x ∈ l, breaksN X x = 0) → wrongGo X k l = (0, -1) := by
  induction l with
  | nil => intro k _; rfl
  | cons t l ih => intro k h; rw [wrongGo, if_pos (h t (by simp)), ih _ (fun x hx => h x (by simp [hx]))]
theorem wrongGo_at (X : Texts) (a : List Tree) (x : Tree) (b : List Tree) : ∀ k : Nat, (∀ y ∈ a, breaksN X y = 0) → breaksN X x ≠ 0 → wrongGo X k (a ++ x :: b) = (((breaksN X x : Nat) : Int), ((k + a.length : Nat) : Int)) := by
  induction a with
  | nil => intro k _ hx; rw [List.nil_append, wrongGo, if_neg hx]; rfl
  | cons t l ih => intro k h hx; rw [List.cons_append, wrongGo, if_pos (h t (by simp)), ih _ (fun y hy => h y (by simp [hy])) hx, List.length_cons]; congr 2; omega

theorem nodes1_stops (w : World) (q : Int → Prop) (x : NdAt w q) (Bt : Nat) (w1 : World) (hw : Below w.heap.size w w1) (hlt : Bt < w1.heap.size) (hc : w1.cell? ⟨Bt, 0, none⟩ = some (.pointer (some ⟨x.1.g, x.1.o, none⟩))) (n : Nat) :
    SeqStopsK Fence.wide n Tryd.prog 32 #[.pointer (some ⟨Bt, 0, none⟩)] (NdAt.enc (w := w) (q := q)) (Below w.heap.size) (fun ys => ys.map NdAt.tree = x.tree.list) (fun pre => pre.map NdAt.tree <+: x.tree.list) x.tree.nodes w1 := by
  intro l J Jx W hW _ _ hY h0
  have hp := tree_walks w q l J Jx x.tree.nodes (fun m pre y W' hj hl => by
    obtain ⟨fn, tmps, assign, body, h1, h2⟩ := hY pre y W' hj hl
    exact ⟨fn, tmps, assign, body, h1, h2.1, fun c cs _ => h2.2 c cs (fun d h => by cases h)⟩) x.tree.nodes x (n - 1) [] W (Nat.le_refl _) (hw.trans (hW.mono hw.size)) h0 (by simp)
  have hcell := (hW.cell (p := ⟨Bt, 0, none⟩) hlt).trans hc
  have hfn : Fence.wide.fn 32 := trivial
  have hf2 : Fence.wide.fn 33 := trivial
  have hro : Fence.wide.round = none := rfl
  clear hY
  refine callsIn_of_wp Tryd.func32 rfl hfn ?_ hro
  simp only [Tryd.ntmps32, List.size_toArray, List.length_cons, List.length_nil, Nat.reduceAdd, Nat.reduceSub, Array.replicate_succ, Array.replicate_zero, List.push_toArray, List.append_toArray, List.nil_append, List.cons_append]
  gi_wp2_with ((try refine ⟨wide_depth _, ?_⟩); gi_at_call 33; refine hp.mono ?_; clear hp; rintro e W3 (⟨rfl, hb3, zs, hz, hJ4⟩ | ⟨rfl, zs, hz, hx3⟩))
  · go_end0
    exact ⟨⟨_, rfl⟩, .inl ⟨zs, hz, by simpa using hJ4⟩⟩
  · go_end0
    exact ⟨⟨_, rfl⟩, .inr ⟨zs, hz, by simpa using hx3⟩⟩

theorem nodes_calls (v : Option Addr) (w : World) :
    Calls Tryd.prog 30 #[.pointer v] w fun e w' => e = .returned (.func (.func 32) #[] #[.pointer (some ⟨w.heap.size, 0, none⟩)]) ∧ w' = w.alloc (.cells #[.pointer v] 33) := by
  go_enter Tryd.func30, Tryd.ntmps30
  go_wp2
  go_ret
  exact ⟨rfl, rfl⟩

theorem KeepsOthers.of_below {W W' : World} (h : Below W.heap.size W W') : KeepsOthers W W' :=
  ⟨h.size, fun k o hk _ => (h.block k (Array.getElem?_eq_some_iff.1 hk).1).trans hk⟩

theorem leave0 {F : Fence} {n : Nat} {P : Program} {fn : Func} {R : Ending → World → Prop} {t : Array Value} {w : World} {v : Value} (hr : (results fn t).run P w = .ok v w) (hR : R (.returned v) w) :
    bodyPostM F n P fn R .ret { tmps := t, defers := [] } w := ⟨_, hr, hR⟩

set_option maxRecDepth 100000 in
set_option maxHeartbeats 4000000 in
theorem wrong_calls (X : Texts) (t : Tree) (w : World) (S : Nat → Prop) (p : At) (ht : TreeIn w S t p) (hn : t.nodes ≤ 4611686018427387904) (hs : AllTags (Soft X w) t) :
    Calls Tryd.prog 28 #[nodeV t p] w fun e w' => e = .returned (.tuple #[.int .i64 (wrongN X t).1, .int .i64 (wrongN X t).2]) ∧ Below w.heap.size w w' := by
  refine (callsIn_wide (n := 9)).1 ?_
  have hfn : Fence.wide.fn 28 := trivial
  have hro : Fence.wide.round = none := rfl
  have hcount := count_calls t.nodes t
  obtain ⟨c, tg, b, bs, ks⟩ := t
  simp only [nodeV, Tree.cls, Tree.tag, Tree.cons, Tree.bytes, Tree.kids]
  obtain ⟨A1, c1, A2, c2⟩ := p
  have HT := Lib.hid ht; clear ht
  have HS := Lib.hid hs; clear hs
  refine callsIn_of_wp_marks Tryd.func28 rfl hfn ?_ hro
  simp only [Tryd.ntmps28, List.size_toArray, List.length_cons, List.length_nil, Nat.reduceAdd, Nat.reduceSub, Array.replicate_succ, Array.replicate_zero, List.push_toArray, List.append_toArray, List.nil_append, List.cons_append]
  refine wpIn_wide.2 ?_
  have HC := Lib.hid hcount; clear hcount
  go_wp2_with fail
  refine wp_scope_straight ?_
  go_wp2_with fail
  refine (HC.out _ S ⟨A1, c1, A2, c2⟩ (Nat.le_refl _) hn (HT.out.stay (((Below.refl _ w).alloc (Nat.le_refl _) _).alloc (by simp) _))).mono ?_
  rintro e w1 ⟨rfl, hB1⟩
  simp only [World.size_alloc] at hB1
  have hB0 : Below w.heap.size w w1 := (((Below.refl _ w).alloc (Nat.le_refl _) _).alloc (by simp) _).trans (hB1.mono (by omega))
  have hr1 : w1.cell? ⟨w.heap.size + 1, 0, none⟩ = some (.int .i64 0) := (hB1.cell (p := ⟨w.heap.size + 1, 0, none⟩) (by show w.heap.size + 1 < w.heap.size + 1 + 1; omega)).trans (by simp [go_sem])
  have hr2 : w1.frozen? ⟨w.heap.size + 1, 0, none⟩ = false := (hB1.frozen (p := ⟨w.heap.size + 1, 0, none⟩) (by show w.heap.size + 1 < w.heap.size + 1 + 1; omega)).trans (by simp [go_sem])
  have hd : Hid (Tree.deep (.mk c tg b bs ks) ≤ Tree.nodes (.mk c tg b bs ks)) := Tree.deep_le_nodes _
  obtain ⟨D, hD⟩ : ∃ D, D = Tree.deep (.mk c tg b bs ks) := ⟨_, rfl⟩
  obtain ⟨M, hM⟩ : ∃ M, M = Tree.nodes (.mk c tg b bs ks) := ⟨_, rfl⟩
  rw [← hD, ← hM]
  have HD := Lib.hid hD
  have HM := Lib.hid hM
  clear hD hM
  by_cases d1 : 24 < D
  · go_wp2_with fail
    rw [Exit.noGoto_ret]
    refine leave0 (v := .tuple #[.int .i64 5, .int .i64 0]) (by simp [results, Tryd.f28, go_sem, hr1]) ?_
    exact ⟨by rw [wrongN, ← HD.out, if_pos d1], hB0.setCell (p := ⟨w.heap.size + 1, 0, none⟩) (by show w.heap.size ≤ w.heap.size + 1; omega) _⟩
  · by_cases d2 : 4000 < M
    · go_wp2_with fail
      rw [Exit.noGoto_ret]
      refine leave0 (v := .tuple #[.int .i64 6, .int .i64 0]) (by simp [results, Tryd.f28, go_sem, hr1]) ?_
      exact ⟨by rw [wrongN, ← HD.out, ← HM.out, if_neg d1, if_pos d2], hB0.setCell (p := ⟨w.heap.size + 1, 0, none⟩) (by show w.heap.size ≤ w.heap.size + 1; omega) _⟩
    · obtain ⟨wA, hwA⟩ : ∃ wA, wA = w.alloc (.cells #[.int .i64 c, .int .i64 tg, .bool b, .slice A1 bs.length c1, .slice A2 ks.length c2] 25) := ⟨_, rfl⟩
      have hsA : wA.heap.size = w.heap.size + 1 := by rw [hwA]; simp
      have hBA : Below w.heap.size w wA := by rw [hwA]; exact (Below.refl _ w).alloc (Nat.le_refl _) _
      have hA1 : Below wA.heap.size wA w1 := by
        refine Below.trans ?_ (hB1.mono (by omega))
        rw [hwA]; exact (Below.refl _ _).alloc (Nat.le_refl _) _
      have hok : Nd.Ok wA (Soft X wA) ⟨.mk c tg b bs ks, w.heap.size, 0, ⟨A1, c1, A2, c2⟩⟩ := by
        refine ⟨?_, (HT.out.stay hBA).move (fun k _ => rfl) (fun _ _ => trivial), by show w.heap.size < _; omega, fun y hy hx => (HS.out y hy hx).stay hBA⟩
        rw [hwA]
        refine ⟨?_, ?_, ?_, ?_, ?_⟩ <;> simp [go_sem, Tree.cls, Tree.tag, Tree.cons, Tree.bytes, Tree.kids]
      obtain ⟨x0, hx0⟩ : ∃ x0 : NdAt wA (Soft X wA), x0 = ⟨_, hok⟩ := ⟨_, rfl⟩
      have hxt : x0.tree = .mk c tg b bs ks := by rw [hx0]; rfl
      go_wp2_with fail
      refine wp_label ?_
      go_wp2_with fail
      refine (nodes_calls _ _).mono ?_
      rintro e w2 ⟨rfl, rfl⟩
      go_wp2_with fail
      obtain ⟨W0, hW0⟩ : ∃ W0, W0 = ((w1.alloc (.cells #[.int .i64 0] 3)).alloc (.cells #[.pointer (some ⟨w.heap.size, 0, none⟩)] 33)) := ⟨_, rfl⟩
      have hsz : W0.heap.size = w1.heap.size + 2 := by rw [hW0]; simp
      have hAW : Below wA.heap.size wA W0 := by rw [hW0]; exact (hA1.alloc hA1.size _).alloc (by have := hA1.size; simp; omega) _
      have hw1s := hA1.size
      have hw1r : w.heap.size + 1 < w1.heap.size := World.block_lt_of_cell? w1 _ hr1
      have hbW : Below w1.heap.size w1 W0 := by rw [hW0]; exact ((Below.refl _ _).alloc (Nat.le_refl _) _).alloc (by simp) _
      have q1 : W0.cell? ⟨w.heap.size + 1, 0, none⟩ = some (.int .i64 0) := (hbW.cell (World.block_lt_of_cell? w1 _ hr1)).trans hr1
      have q2 : W0.frozen? ⟨w.heap.size + 1, 0, none⟩ = false := (hbW.frozen (World.block_lt_of_cell? w1 _ hr1)).trans hr2
      have q3 : W0.cell? ⟨w1.heap.size, 0, none⟩ = some (.int .i64 0) := by rw [hW0]; simp [go_sem]
      have q4 : W0.frozen? ⟨w1.heap.size, 0, none⟩ = false := by rw [hW0]; simp [go_sem]
      have q5 : W0.cell? ⟨w1.heap.size + 1, 0, none⟩ = some (.pointer (some ⟨w.heap.size, 0, none⟩)) := by rw [hW0]; simp [go_sem]
      rw [← hW0]
      have hst := nodes1_stops wA (Soft X wA) x0 (w1.heap.size + 1) W0 hAW (by omega) (by rw [q5, hx0]) (9 - 1)
      rw [hxt, ← HM.out] at hst
      refine wpIn_wide.1 (wpIn_rangeFunc_ownF (n := 9) hro (by omega) (gf := 32) (lb := #[.pointer (some ⟨w1.heap.size + 1, 0, none⟩)]) rfl trivial (enters_of Tryd.func32 (by kernel_rfl) rfl) hst
        belowK_t (belowK_b (by omega)) (Below.refl _ _) (fun _ => rfl)
        (fun pre W => ((∀ y ∈ pre, breaksN X y.tree = 0) ∧ W.cell? ⟨w.heap.size + 1, 0, none⟩ = some (.int .i64 0) ∧ W.frozen? ⟨w.heap.size + 1, 0, none⟩ = false ∧ W.cell? ⟨w1.heap.size, 0, none⟩ = some (.int .i64 (pre.length : Int)) ∧ W.frozen? ⟨w1.heap.size, 0, none⟩ = false) ∧ Below wA.heap.size wA W)
        (fun cd pre W => (cd = .exit 1 ∧ ∃ a x, pre = a ++ [x] ∧ (∀ y ∈ a, breaksN X y.tree = 0) ∧ breaksN X x.tree ≠ 0 ∧ W.cell? ⟨w.heap.size + 1, 0, none⟩ = some (.int .i64 (breaksN X x.tree : Int)) ∧ W.frozen? ⟨w.heap.size + 1, 0, none⟩ = false ∧ W.cell? ⟨w1.heap.size, 0, none⟩ = some (.int .i64 (a.length : Int))) ∧ Below wA.heap.size wA W)
        (OwnFrom.and (Own.from (fun s A B row hs hg hr => ⟨hs.1, cell_kept hs.2.1 hg hr, (frozen_kept hs.2.1 hg hr).trans hs.2.2.1, cell_kept hs.2.2.2.1 hg hr, (frozen_kept hs.2.2.2.1 hg hr).trans hs.2.2.2.2⟩) _) (ownFrom_below (Nat.le_refl _) (by omega)))
        (fun cd => OwnFrom.and (Own.from (fun s A B row hs hg hr => by
          obtain ⟨h1, a, x, h2, h3, h4, h5, h6, h7⟩ := hs
          exact ⟨h1, a, x, h2, h3, h4, cell_kept h5 hg hr, (frozen_kept h5 hg hr).trans h6, cell_kept h7 hg hr⟩) _) (ownFrom_below (Nat.le_refl _) (by omega)))
        ⟨⟨by simp, q1, q2, q3, q4⟩, hAW⟩ ?act ?assign ?body ?done ?stop)
      case assign =>
        intro l x W K hK
        simp [NdAt.enc]
        gi_wp2
        exact hK
      case body =>
        rintro l pre x W ⟨⟨hp, g1, g2, g3, g4⟩, hB⟩ hlen
        have hxo := x.2
        have hnl : w.heap.size + 1 < W.heap.size := World.block_lt_of_cell? W _ g1
        have hnk : w1.heap.size < W.heap.size := World.block_lt_of_cell? W _ g3
        have hbr := breaks_calls X x.1.t x.1.g x.1.o x.1.p W (fun _ => True) (hxo.1.move (hB.block _ hxo.2.2.1)) (by
          have h := hxo.2.1
          generalize x.1.t = t at h
          cases t; exact (h.bytes_in).stay hB) (by
          have h := hxo.2.1
          generalize x.1.t = t at h
          cases t; exact ⟨h.nodes_in.1, h.nodes_in.2.1⟩) (fun h => (hxo.2.2.2.self h).stay hB)
        have hf3 : Fence.wide.fn 29 := trivial
        have HP := Lib.hid hp; clear hp
        have hne : w1.heap.size ≠ w.heap.size + 1 := by omega
        gi_wp2_with ((try refine ⟨wide_depth _, ?_⟩); gi_at_call 29; refine (CallsIn.inRound l (callsIn_wide.2 hbr)).mono ?_; clear hbr; rintro e W2 ⟨rfl, hB2⟩; have u1 := (hB2.cell (p := ⟨w.heap.size + 1, 0, none⟩) hnl).trans g1; have u2 := (hB2.frozen (p := ⟨w.heap.size + 1, 0, none⟩) hnl).trans g2; have u3 := (hB2.cell (p := ⟨w1.heap.size, 0, none⟩) hnk).trans g3; have u4 := (hB2.frozen (p := ⟨w1.heap.size, 0, none⟩) hnk).trans g4; have u5 := fun v => (World.cell?_of_block (w := W2) (a := ⟨w1.heap.size, 0, none⟩) (Below.heap_setCell W2 ⟨w.heap.size + 1, 0, none⟩ v w1.heap.size hne)).trans u3; have u6 := fun v => (World.frozen?_of_block (w := W2) (a := ⟨w1.heap.size, 0, none⟩) (Below.heap_setCell W2 ⟨w.heap.size + 1, 0, none⟩ v w1.heap.size hne)).trans u4)
        · -- broken
          have hpos : 0 < breaksN X x.1.t := by assumption
          refine ⟨(KeepsOthers.of_below hB2).trans (KeepsOthers.setCell _ _ _), ⟨⟨rfl, pre, x, rfl, HP.out, Nat.ne_of_gt hpos, World.cell?_setCell_same' _ _ _ (by rw [u1]; rfl), by rw [World.frozen?_setCell]; exact u2, u5 _⟩, ?_⟩⟩
          exact (hB.trans (hB2.mono hB.size)).setCell (p := ⟨w.heap.size + 1, 0, none⟩) (by show wA.heap.size ≤ w.heap.size + 1; omega) _
        · have hz : breaksN X x.1.t = 0 := Nat.eq_zero_of_not_pos (by assumption)
          refine ⟨((KeepsOthers.of_below hB2).trans (KeepsOthers.setCell _ _ _)).trans (KeepsOthers.setCell _ _ _), ?_, ⟨?_, ?_, ?_, ?_, ?_⟩, ?_⟩
          · exact ((hB2.mono hB.size).setCell (p := ⟨w.heap.size + 1, 0, none⟩) (by show wA.heap.size ≤ w.heap.size + 1; omega) _).setCell (p := ⟨w1.heap.size, 0, none⟩) (by show wA.heap.size ≤ w1.heap.size; omega) _
          · intro y hy
            rcases List.mem_append.1 hy with h | h
            · exact HP.out y h
            · rw [List.mem_singleton.1 h]; exact hz
          · refine (World.cell?_of_block (w := W2.setCell _ _) (a := ⟨w.heap.size + 1, 0, none⟩) (Below.heap_setCell _ ⟨w1.heap.size, 0, none⟩ _ _ (Ne.symm hne))).trans ?_
            rw [World.cell?_setCell_same' _ _ _ (by rw [u1]; rfl), hz]; rfl
          · rw [World.frozen?_setCell, World.frozen?_setCell]; exact u2
          · rw [World.cell?_setCell_same' _ _ _ (by rw [u5]; rfl), List.length_append]
            go_num
          · rw [World.frozen?_setCell, World.frozen?_setCell]; exact u4
          · exact ((hB.trans (hB2.mono hB.size)).setCell (p := ⟨w.heap.size + 1, 0, none⟩) (by show wA.heap.size ≤ w.heap.size + 1; omega) _).setCell (p := ⟨w1.heap.size, 0, none⟩) (by show wA.heap.size ≤ w1.heap.size; omega) _
      case done =>
        rintro Dd ys W hDd hys ⟨⟨hp, g1, g2, g3, g4⟩, hB⟩ hK
        have RV : Hid (wrongN X (.mk c tg b bs ks) = (0, -1)) := by
          show _ = _
          rw [wrongN, ← HD.out, ← HM.out, if_neg d1, if_neg d2, ← hys]
          exact wrongGo_all X _ 0 (fun x hx => by obtain ⟨y, hy, rfl⟩ := List.mem_map.1 hx; exact hp y hy)
        clear hp hys
        go_wp2_with fail
        rw [Exit.noGoto_ret]
        have hK' := (KeepsOthers.setCell W ⟨w.heap.size + 1, 0, none⟩ (.int .i64 0)).same Dd _ hK rfl
        refine ⟨by simp, .inl ⟨_, _, rfl, run_takeDeferred hK', ?_⟩⟩
        have hc5 := cell_kept (World.cell?_setCell_same' W ⟨w.heap.size + 1, 0, none⟩ (.int .i64 0) (by rw [g1]; rfl)) (grownBy_putObj' _ Dd (.deferred none)) (fun r e => by cases e; exact ⟨_, hK', rfl⟩)
        refine ⟨.tuple #[.int .i64 0, .int .i64 (-1)], by simp [results, Tryd.f28, go_sem, hc5], by rw [RV.out], ?_⟩
        exact ((hBA.trans (hB.mono hBA.size)).setCell (p := ⟨w.heap.size + 1, 0, none⟩) (by show w.heap.size ≤ w.heap.size + 1; omega) _).trans (belowK_b (w := w) (Nat.le_refl _) _ Dd _ _ (by omega) hK' rfl rfl)
      case stop =>
        rintro Dd cd pre W hDd hpre ⟨⟨rfl, a, x, rfl, g0, gn, g1, g2, g3⟩, hB⟩ hK
        have RV : Hid (wrongN X (.mk c tg b bs ks) = (((breaksN X x.tree : Nat) : Int), ((a.length : Nat) : Int))) := by
          show _ = _
          rw [wrongN, ← HD.out, ← HM.out, if_neg d1, if_neg d2]
          obtain ⟨r, hr⟩ := hpre
          rw [← hr, List.map_append, List.append_assoc]
          have h := wrongGo_at X (a.map NdAt.tree) x.tree r 0 (fun y hy => by obtain ⟨z, hz, rfl⟩ := List.mem_map.1 hy; exact g0 z hz) gn
          simpa using h
        have hne0 : ((breaksN X x.tree : Int) == 0) = false := eq_f (by omega)
        clear g0 gn hpre
        refine wpIn_wide.2 ?_
        go_wp2_with fail
        have hnk : w1.heap.size ≠ w.heap.size + 1 := by omega
        have v5 := fun v => (World.cell?_of_block (w := W) (a := ⟨w1.heap.size, 0, none⟩) (Below.heap_setCell W ⟨w.heap.size + 1, 0, none⟩ v w1.heap.size hnk)).trans g3
        go_region
        go_wp2_with fail
        rw [Exit.noGoto_ret]
        have hK' := (KeepsOthers.setCell W ⟨w.heap.size + 1, 0, none⟩ (.int .i64 (breaksN X x.tree : Int))).same Dd _ hK rfl
        refine ⟨by simp, .inl ⟨_, _, rfl, run_takeDeferred (w := (W.setCell ⟨w.heap.size + 1, 0, none⟩ (.int .i64 (breaksN X x.tree : Int))).drew) hK', ?_⟩⟩
        have hc5 := cell_kept (World.cell?_setCell_same' W ⟨w.heap.size + 1, 0, none⟩ (.int .i64 (breaksN X x.tree : Int)) (by rw [g1]; rfl)) (grownBy_putObj' _ Dd (.deferred none)) (fun r e => by cases e; exact ⟨_, hK', rfl⟩)
        have hc6 : ((W.setCell ⟨w.heap.size + 1, 0, none⟩ (.int .i64 (breaksN X x.tree : Int))).drew.putObj Dd (.deferred none)).cell? ⟨w.heap.size + 1, 0, none⟩ = some (.int .i64 (breaksN X x.tree : Int)) := hc5
        refine ⟨.tuple #[.int .i64 (breaksN X x.tree : Int), .int .i64 (a.length : Int)], by simp [results, Tryd.f28, go_sem, hc6], by rw [RV.out], ?_⟩
        exact ((hBA.trans (hB.mono hBA.size)).setCell (p := ⟨w.heap.size + 1, 0, none⟩) (by show w.heap.size ≤ w.heap.size + 1; omega) _).drew.trans (belowK_b (w := w) (Nat.le_refl _) _ Dd _ _ (by omega) hK' rfl rfl)

/-- Whether a tree may be: no rule is broken. -/
theorem check_calls (X : Texts) (t : Tree) (w : World) (S : Nat → Prop) (p : At) (ht : TreeIn w S t p) (hn : t.nodes ≤ 4611686018427387904) (hs : AllTags (Soft X w) t) :
    Calls Tryd.prog 21 #[nodeV t p] w fun e w' => e = .returned (.int .i64 (if 0 < (wrongN X t).1 then 110 else 0)) ∧ Below w.heap.size w w' := by
  obtain ⟨c, tg, b, bs, ks⟩ := t
  obtain ⟨A1, c1, A2, c2⟩ := p
  have hc := wrong_calls X (.mk c tg b bs ks) (w.alloc (.cells #[.int .i64 c, .int .i64 tg, .bool b, .slice A1 bs.length c1, .slice A2 ks.length c2] 25)) S ⟨A1, c1, A2, c2⟩
    (ht.stay ((Below.refl _ w).alloc (Nat.le_refl _) _)) hn (fun y hy hx => (hs y hy hx).stay ((Below.refl _ w).alloc (Nat.le_refl _) _))
  simp only [nodeV, Tree.cls, Tree.tag, Tree.cons, Tree.bytes, Tree.kids] at hc ⊢
  generalize wrongN X (.mk c tg b bs ks) = r at hc ⊢
  obtain ⟨r1, r2⟩ := r
  have HC := Lib.hid hc; clear hc
  clear ht hs hn
  go_enter Tryd.func21, Tryd.ntmps21
  go_wp2_with fail
  refine HC.out.mono ?_
  rintro e w1 ⟨rfl, hB1⟩
  simp only [World.size_alloc] at hB1
  have hB0 : Below w.heap.size w w1 := ((Below.refl _ w).alloc (Nat.le_refl _) _).trans (hB1.mono (by omega))
  by_cases h : 0 < r1
  · go_wp2_with fail
    go_ret
    exact ⟨rfl, hB0⟩
  · go_wp2_with fail
    go_ret
    exact ⟨rfl, hB0⟩
end Go.Proofs.YtkjmnoaenclleaaDoor
