/- Walks: tree.Is, tree.Prim, slices.Equal, slices.Clone of nodes. -/
import Derived.Test.YtkjmnoaenclleaaDoorW7
import Derived.Test.YtkjmnoaenclleaaDoorW8
import Derived.Deep.RegionWith
set_option linter.unusedVariables false
namespace Go.Proofs.YtkjmnoaenclleaaDoor
open Go.RowKit

theorem is_calls (t : Tree) (p : At) (c g : Int) (w : World) :
    Calls Tryd.prog 22 #[nodeV t p, .int .i64 c, .int .i64 g] w fun e w' => e = .returned (.bool (t.cls == c && t.tag == g)) ∧ Below w.heap.size w w' := by
  obtain ⟨cl, tg, b, bs, ks⟩ := t
  simp only [nodeV, Tree.cls, Tree.tag, Tree.cons, Tree.bytes, Tree.kids]
  cases h1 : (cl == c) <;> cases h2 : (tg == g)
  all_goals
    go_enter Tryd.func22, Tryd.ntmps22
    go_wp2_with fail
    go_ret
    exact ⟨rfl, (Below.refl _ w).alloc (Nat.le_refl _) _⟩

theorem equalB_calls (A B : Option Addr) (c d : Nat) (xs ys : List UInt8) (w : World) (S T : Nat → Prop) (ha : BytesIn w S A c xs) (hb : BytesIn w T B d ys) :
    Calls Tryd.prog 26 #[.slice A xs.length c, .slice B ys.length d] w fun e w' => e = .returned (.bool (xs == ys)) ∧ Below w.heap.size w w' := by
  obtain ⟨h1, h2, h3⟩ := ha
  obtain ⟨g1, g2, g3⟩ := hb
  have H3 := Lib.hid h3; clear h3
  have G3 := Lib.hid g3; clear g3
  unfold maxLen at h2 g2
  by_cases hl : xs.length = ys.length
  · have hl' : ((xs.length : Int) != (ys.length : Int)) = false := by simp [hl]
    go_enter Tryd.func26, Tryd.ntmps26
    go_wp2_with fail
    go_loopw [13] (fun i wr => ∃ k : Nat, k ≤ xs.length ∧ i = .int .i64 k ∧ xs.take k = ys.take k ∧ Below w.heap.size w wr) (fun i _ => xs.length - (intOf i).toNat)
    case atStart => exact ⟨0, by omega, rfl, by simp, Below.refl _ _⟩
    case round =>
      obtain ⟨k, hk, rfl, hT, hB⟩ := hrel
      have HT := Lib.hid hT; clear hT
      by_cases hlt : k < xs.length
      · obtain ⟨b, o, rfl, _, hc⟩ := H3.out k hlt
        obtain ⟨b', o', rfl, _, hc'⟩ := G3.out k (by omega)
        have hc := (hB.cell (World.block_lt_of_cell? w _ hc)).trans hc
        have hc' := (hB.cell (World.block_lt_of_cell? w _ hc')).trans hc'
        by_cases he : (xs[k].toNat : Int) = (ys[k].toNat : Int)
        · have he' := ne_f he
          go_wp2_with fail
          go_quiet (fail)
          all_goals go_wp2_with fail
          go_roundw
          case rel =>
            refine ⟨k + 1, hlt, by go_num, ?_, by first | exact hB | exact hB.drew | exact hB.trans ((below_drewN' _ _).mono hB.size)⟩
            rw [List.take_succ_eq_append_getElem hlt, List.take_succ_eq_append_getElem (by omega), HT.out]
            congr 2
            exact UInt8.toNat_inj.1 (by exact_mod_cast he)
          case measure => simp [intOf]; omega
        · have he' := ne_t he
          go_wp2_with fail
          go_quiet (fail)
          all_goals go_wp2_with fail
          go_ret
          refine ⟨ret_bool ?_, by first | exact hB | exact hB.drew | exact hB.trans ((below_drewN' _ _).mono hB.size)⟩
          symm; rw [beq_eq_false_iff_ne]
          rintro rfl
          exact he rfl
      · go_wp2_with fail
        go_ret
        refine ⟨ret_bool ?_, hB⟩
        symm; rw [beq_iff_eq]
        have := HT.out
        rwa [List.take_of_length_le (by omega), List.take_of_length_le (by omega)] at this
  · have hl' : ((xs.length : Int) != (ys.length : Int)) = true := ne_t (by omega)
    go_enter Tryd.func26, Tryd.ntmps26
    go_wp2_with fail
    go_ret
    refine ⟨ret_bool ?_, Below.refl _ _⟩
    symm; rw [beq_eq_false_iff_ne]
    rintro rfl
    exact hl rfl

/-- A variable that holds a node, in a block of its own. -/
def BoxN (w : World) (g : Nat) (a b c d e : Value) : Prop := w.heap[g]? = some (.cells #[a, b, c, d, e] 25)
theorem BoxN.facts {w : World} {g : Nat} {a b c d e : Value} (h : BoxN w g a b c d e) :
    (w.cell? ⟨g, 0, none⟩ = some a ∧ w.cell? ⟨g, 1, none⟩ = some b ∧ w.cell? ⟨g, 2, none⟩ = some c ∧ w.cell? ⟨g, 3, none⟩ = some d ∧ w.cell? ⟨g, 4, none⟩ = some e) ∧
    (w.frozen? ⟨g, 0, none⟩ = false ∧ w.frozen? ⟨g, 1, none⟩ = false ∧ w.frozen? ⟨g, 2, none⟩ = false ∧ w.frozen? ⟨g, 3, none⟩ = false ∧ w.frozen? ⟨g, 4, none⟩ = false) := by
  unfold BoxN at h
  refine ⟨⟨?_, ?_, ?_, ?_, ?_⟩, ⟨?_, ?_, ?_, ?_, ?_⟩⟩ <;> simp [World.cell?, World.frozen?, h]
theorem BoxN.alloc (w : World) (a b c d e : Value) : BoxN (w.alloc (.cells #[a, b, c, d, e] 25)) w.heap.size a b c d e := heap_alloc_new w _
theorem BoxN.stay {w w' : World} {g k : Nat} {a b c d e : Value} (h : BoxN w g a b c d e) (hB : Below k w w') (hk : g < k) : BoxN w' g a b c d e := (hB.block g hk).trans h
theorem BoxN.drew {w : World} {g : Nat} {a b c d e : Value} (h : BoxN w g a b c d e) : BoxN w.drew g a b c d e := h

/-- A node laid over five cells. -/
abbrev put5 (w : World) (g o : Nat) (a b c d e : Value) : World :=
  ((((w.setCell ⟨g, o, none⟩ a).setCell ⟨g, o + 1, none⟩ b).setCell ⟨g, o + 2, none⟩ c).setCell ⟨g, o + 3, none⟩ d).setCell ⟨g, o + 4, none⟩ e
theorem put5_heap (w : World) (g o : Nat) (a b c d e : Value) (cs : Array Value) (t : TypeId) (fr : Nat × Nat) (h : w.heap[g]? = some (.cells cs t fr)) :
    (put5 w g o a b c d e).heap[g]? = some (.cells (((((cs.setIfInBounds o a).setIfInBounds (o + 1) b).setIfInBounds (o + 2) c).setIfInBounds (o + 3) d).setIfInBounds (o + 4) e) t fr) := by
  simp [put5, World.setCell, Array.getElem?_modify, h]
theorem put5_other (w : World) (g o : Nat) (a b c d e : Value) (k : Nat) (h : k ≠ g) : (put5 w g o a b c d e).heap[k]? = w.heap[k]? := by
  unfold put5
  rw [Below.heap_setCell _ _ _ k h, Below.heap_setCell _ _ _ k h, Below.heap_setCell _ _ _ k h, Below.heap_setCell _ _ _ k h, Below.heap_setCell _ _ _ k h]
theorem put5_size (w : World) (g o : Nat) (a b c d e : Value) : (put5 w g o a b c d e).heap.size = w.heap.size := by simp [put5]
theorem put5_below {B : Nat} (w : World) (g o : Nat) (a b c d e : Value) (h : B ≤ g) : Below B w (put5 w g o a b c d e) :=
  (((((Below.refl B w).setCell h _).setCell h _).setCell h _).setCell h _).setCell h _
theorem BoxN.put {w : World} {g : Nat} {a b c d e a' b' c' d' e' : Value} (h : BoxN w g a b c d e) : BoxN (put5 w g 0 a' b' c' d' e') g a' b' c' d' e' := by
  unfold BoxN at *
  rw [put5_heap w g 0 _ _ _ _ _ _ _ _ h]; rfl
theorem BoxN.res {w : World} {g : Nat} {a b c d e : Value} (h : BoxN w g a b c d e) (fn : Func) (q : Tmp) (tmps : Array Value) (hf : fn.results = #[.cell q 25]) (hq : tmps.getD q undef = .pointer (some ⟨g, 0, none⟩)) :
    (results fn tmps).run Tryd.prog w = .ok (.agg #[a, b, c, d, e]) w :=
  results_cell_row hf tmps w g 25 _ _ _ hq h Tryd.underlying25 rfl (by kernel_rfl)

/-- The answer is a tree of the call's own. -/
def GivesT (w : World) (t : Tree) (e : Ending) (w' : World) : Prop :=
  ∃ p F, e = .returned (nodeV t p) ∧ OT w' w.heap.size t p F ∧ Below w.heap.size w w'

theorem own_nil (w : World) (base : Nat) (e : TypeId) (size : Nat) : w.ownsRow base e size (.slice none 0 0) 0 [] := World.ownsRow_nil _ _ _ _

theorem prim_calls (cl tg : Int) (A : Option Addr) (c : Nat) (bs : List UInt8) (w : World) (S : Nat → Prop) (hb : BytesIn w S A c bs) (hn : bs.length ≤ 1000000000) :
    Calls Tryd.prog 14 #[.int .i64 cl, .int .i64 tg, .slice A bs.length c] w (GivesT w (.mk cl tg false bs [])) := by
  go_enter Tryd.func14, Tryd.ntmps14
  go_wp2_with fail
  refine (cloneB_calls A c bs _ S (hb.stay ((Below.refl _ w).alloc (Nat.le_refl _) _)) hn).mono ?_
  rintro e w' ⟨A', c', rfl, hO, hB⟩
  have hbox := (BoxN.alloc w _ _ _ _ _).stay hB (by simp)
  obtain ⟨⟨c0, c1, c2, c3, c4⟩, f0, f1, f2, f3, f4⟩ := hbox.facts
  go_wp2_with fail
  have hp := BoxN.put (a' := .int .i64 cl) (b' := .int .i64 tg) (c' := .bool false) (d' := .slice A' bs.length c') (e' := .slice none 0 0) hbox
  refine bodyPost_ret (v := nodeV (.mk cl tg false bs []) ⟨A', c', none, 0⟩) (hp.res _ _ _ rfl rfl) rfl ?_
  have hB' : Below w.heap.size w w' := ((Below.refl _ w).alloc (Nat.le_refl _) _).trans (hB.mono (by simp))
  refine ⟨⟨A', c', none, 0⟩, blocksOf ⟨A', c', none, 0⟩ ++ [], rfl, ?_, hB'.trans (put5_below _ _ _ _ _ _ _ _ (Nat.le_refl _))⟩
  have hlo := own_lower hO (base' := w.heap.size) (by simp)
  rw [OT]
  refine ⟨[], [], own_moved hlo (fun k hk => put5_other _ _ _ _ _ _ _ _ _ ?_), own_nil _ _ _ _, by rw [OTL]; exact ⟨rfl, rfl⟩, rfl, by cases A' <;> simp [blocksOf]⟩
  have := (own_block hO k hk).1
  simp at this; omega

def ats (f : Nat → At) (n : Nat) : List At := (List.range n).map f
theorem ats_length (f : Nat → At) (n : Nat) : (ats f n).length = n := by simp [ats]
theorem ats_get (f : Nat → At) (n i : Nat) (h : i < (ats f n).length) : (ats f n)[i] = f i := by simp [ats]
set_option maxRecDepth 100000 in
theorem cloneN_calls (A : Option Addr) (c : Nat) (ks : List Tree) (f : Nat → At) (w : World) (hc : ks.length ≤ c) (hm : c ≤ maxLen)
    (hk : ∀ i (h : i < ks.length), ∃ g o, A = some ⟨g, o, none⟩ ∧ NodeAt w g (o + i * 5) ks[i] (f i)) (hn : ks.length ≤ 1000000000) :
    Calls Tryd.prog 25 #[.slice A ks.length c] w fun e w' =>
      ∃ A' c', e = .returned (.slice A' ks.length c') ∧ w'.ownsRow w.heap.size 25 5 (.slice A' ks.length c') ks.length (rowC ks (ats f ks.length)) ∧ Below w.heap.size w w' := by
  have HK := Lib.hid hk; clear hk
  unfold maxLen at hm
  have hz := fun W => Lib.run_eql_slice_nil (P := Tryd.prog) W 23 25 A ks.length c 0 0 Tryd.underlying23
  have hrl : (rowC ks (ats f ks.length)).length = ks.length * 5 := rowC_length ks _ (ats_length f ks.length).symm
  have hrg : ∀ i r (hi : i < ks.length) (hr : r < 5), (rowC ks (ats f ks.length))[i * 5 + r]? = (nodeC ks[i] (f i))[r]? := by
    intro i r hi hr
    rw [rowC_get ks _ (ats_length f ks.length).symm i r hi hr, ats_get]
  generalize rowC ks (ats f ks.length) = row at hrl hrg ⊢
  cases A with
  | none =>
    obtain rfl : ks = [] := by
      cases ks with
      | nil => rfl
      | cons b l => obtain ⟨b, o, e, _⟩ := HK.out 0 (by simp); cases e
    have hz' : ∀ W : World, (binOp .eql 23 (.slice none 0 c) (.slice none 0 0)).run Tryd.prog W = .ok (.bool true) W := hz
    clear hz
    simp only [List.length_nil] at hc ⊢
    go_enter Tryd.func25, Tryd.ntmps25
    go_wp2_with fail
    go_ret
    have : row = [] := List.eq_nil_of_length_eq_zero (by simpa using hrl)
    rw [this]
    exact ⟨none, 0, rfl, World.ownsRow_nil _ _ _ _, Below.refl _ _⟩
  | some ad =>
    have hz' : ∀ W : World, (binOp .eql 23 (.slice (some ad) ks.length c) (.slice none 0 0)).run Tryd.prog W = .ok (.bool false) W := hz
    clear hz
    obtain ⟨i0, hi, hz0, hz1, hz2⟩ := info_parts info_node
    have hnews : ∀ j u, (row)[j]? = some u → (w.alloc (.cells #[] 25)).cell? (ad.add j) = some u := by
      intro j u hu
      have hj : j < ks.length * 5 := by have := (List.getElem?_eq_some_iff.1 hu).1; rwa [hrl] at this
      obtain ⟨i, r, rfl, hr⟩ : ∃ i r, j = i * 5 + r ∧ r < 5 := ⟨j / 5, j % 5, by omega, by omega⟩
      have hi5 : i < ks.length := by omega
      rw [hrg i r hi5 hr] at hu
      obtain ⟨g, o, e, n0, n1, n2, n3, n4⟩ := HK.out i hi5
      injection e with e
      subst e
      have hcell : w.cell? ⟨g, o + i * 5 + r, none⟩ = some u := by
        match r, hr with
        | 0, _ => rw [← hu]; exact n0
        | 1, _ => rw [← hu]; exact n1
        | 2, _ => rw [← hu]; exact n2
        | 3, _ => rw [← hu]; exact n3
        | 4, _ => rw [← hu]; exact n4
      rw [show (⟨g, o, none⟩ : Addr).add (i * 5 + r) = ⟨g, o + i * 5 + r, none⟩ from by unfold Addr.add; split <;> simp_all <;> omega, World.cell?_alloc_lt w _ _ (World.block_lt_of_cell? w _ hcell), hcell]
    have HN := Lib.hid hnews; clear hnews
    have hown := World.ownsRow_made (base := w.heap.size) (e := 25) (size := 5) w #[] 0 (Nat.le_refl _) (by simp [maxLen]) rfl
    have HO := Lib.hid hown; clear hown
    have hi' := Lib.hid hi; clear hi
    have hone : ∀ u ∈ row, u.oneCell' = true := by
      intro u hu
      obtain ⟨j, hj, rfl⟩ := List.getElem_of_mem hu
      have hj' : j < ks.length * 5 := by rwa [hrl] at hj
      have h5 := hrg (j / 5) (j % 5) (by omega) (by omega)
      rw [show j / 5 * 5 + j % 5 = j by omega, List.getElem?_eq_getElem hj] at h5
      have hr : j % 5 < 5 := by omega
      revert h5
      generalize j % 5 = r at hr
      intro h5
      match r, hr with
      | 0, _ | 1, _ | 2, _ | 3, _ | 4, _ => simp only [nodeC, List.getElem?_cons_zero, List.getElem?_cons_succ, Option.some.injEq] at h5; rw [h5]; rfl
    have HONE := Lib.hid hone; clear hone
    go_enter Tryd.func25, Tryd.ntmps25
    go_wp2_with (at_builtin; refine wpList_append_own_at _ rfl _ _ 23 rfl w.heap.size 25 i0 (.agg #[.int .i64 0, .int .i64 0, .bool false, .slice none 0 0, .slice none 0 0]) 5 72 Tryd.underlying23 hi'.out hz0 hz1 hz2 rfl (by decide) _ 0 [] rfl HO.out ad ks.length c (row) rfl (by rw [hrl]) HN.out HONE.out (by simp only [maxLen]; omega) (by omega) (by simp) ?_; intro v' w1 hown1 hg1 _ hat1)
    have h2 : ∃ A' c', v' = .slice A' ks.length c' := by
      rcases hown1.2 with ⟨h, hn0⟩ | ⟨g, cap, cur, h, _⟩
      · exact ⟨none, 0, by rw [h]; congr 1; omega⟩
      · exact ⟨_, cap, by rw [h]; congr 1; omega⟩
    obtain ⟨A', c', rfl⟩ := h2
    go_wp2_with fail
    go_ret
    refine ⟨A', c', rfl, by simpa using hown1, ((Below.refl _ w).alloc (Nat.le_refl _) _).grown hg1 (by simp) (fun k hk => ?_)⟩
    have : w.heap.size = k := by first | exact Option.some.inj hk | simpa [Value.ownBlock] using hk
    omega
end Go.Proofs.YtkjmnoaenclleaaDoor
