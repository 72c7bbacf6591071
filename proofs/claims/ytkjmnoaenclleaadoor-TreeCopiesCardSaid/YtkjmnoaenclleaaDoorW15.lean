/- Walks: the law's alive. -/
import Derived.Test.YtkjmnoaenclleaaDoorW14
set_option linter.unusedVariables false
namespace Go.Proofs.YtkjmnoaenclleaaDoor
open Go.RowKit

def wantAt : Nat → List UInt8
  | 0 => [0] | 1 => [127] | 2 => [0, 128] | 3 => [128] | _ => [255, 127]
def numAt : Nat → Int
  | 0 => 0 | 1 => 127 | 2 => 128 | 3 => -128 | _ => -129
theorem want_num : ∀ k, k < 5 → intBytes (numAt k) = wantAt k := by decide

/-- What the loop reads. -/
structure Wants (b : Nat) (W : World) : Prop where
  num : ∀ k, k < 5 → W.cell? ⟨b + 1 + 1 + 1 + 1 + 1 + 1, k, none⟩ = some (.int .i64 (numAt k))
  ptr : ∀ k, k < 5 → W.cell? ⟨b + 1 + 1 + 1 + 1 + 1, k, none⟩ = some (.slice (some ⟨b + k, 0, none⟩) (wantAt k).length (wantAt k).length)
  byte : ∀ k, k < 5 → ∀ i (h : i < (wantAt k).length), W.cell? ⟨b + k, i, none⟩ = some (.int .u8 ((wantAt k)[i].toNat : Int))
  size : b + 7 ≤ W.heap.size

abbrev aliveW (w : World) : World :=
  (((((((w.alloc (.cells #[.int .u8 0] 5)).alloc (.cells #[.int .u8 127] 5)).alloc (.cells #[.int .u8 0, .int .u8 128] 5)).alloc (.cells #[.int .u8 128] 5)).alloc
    (.cells #[.int .u8 255, .int .u8 127] 5)).alloc
    (.cells #[.slice (some ⟨w.heap.size, 0, none⟩) 1 1, .slice (some ⟨w.heap.size + 1, 0, none⟩) 1 1, .slice (some ⟨w.heap.size + 1 + 1, 0, none⟩) 2 2, .slice (some ⟨w.heap.size + 1 + 1 + 1, 0, none⟩) 1 1, .slice (some ⟨w.heap.size + 1 + 1 + 1 + 1, 0, none⟩) 2 2] 22)).alloc
    (.cells #[.int .i64 0, .int .i64 127, .int .i64 128, .int .i64 (-128), .int .i64 (-129)] 2))

theorem push7 (h : Array Obj) (a b c d e f g : Obj) :
    (((((((h.push a).push b).push c).push d).push e).push f).push g)[h.size]? = some a ∧ (((((((h.push a).push b).push c).push d).push e).push f).push g)[h.size + 1]? = some b ∧
    (((((((h.push a).push b).push c).push d).push e).push f).push g)[h.size + 2]? = some c ∧ (((((((h.push a).push b).push c).push d).push e).push f).push g)[h.size + 3]? = some d ∧
    (((((((h.push a).push b).push c).push d).push e).push f).push g)[h.size + 4]? = some e ∧ (((((((h.push a).push b).push c).push d).push e).push f).push g)[h.size + 5]? = some f ∧
    (((((((h.push a).push b).push c).push d).push e).push f).push g)[h.size + 6]? = some g := by
  refine ⟨?_, ?_, ?_, ?_, ?_, ?_, ?_⟩ <;> simp only [Array.getElem?_push, Array.size_push] <;> repeat (first | rfl | rw [if_neg (by omega)] | rw [if_pos (by omega)])
theorem alive_wants (w : World) : Wants w.heap.size (aliveW w) := by
  obtain ⟨h0, h1, h2, h3, h4, h5, h6⟩ := push7 w.heap (.cells #[.int .u8 0] 5) (.cells #[.int .u8 127] 5) (.cells #[.int .u8 0, .int .u8 128] 5) (.cells #[.int .u8 128] 5)
    (.cells #[.int .u8 255, .int .u8 127] 5)
    (.cells #[.slice (some ⟨w.heap.size, 0, none⟩) 1 1, .slice (some ⟨w.heap.size + 1, 0, none⟩) 1 1, .slice (some ⟨w.heap.size + 1 + 1, 0, none⟩) 2 2, .slice (some ⟨w.heap.size + 1 + 1 + 1, 0, none⟩) 1 1, .slice (some ⟨w.heap.size + 1 + 1 + 1 + 1, 0, none⟩) 2 2] 22)
    (.cells #[.int .i64 0, .int .i64 127, .int .i64 128, .int .i64 (-128), .int .i64 (-129)] 2)
  refine ⟨?_, ?_, ?_, by simp [aliveW]⟩
  · intro k hk
    refine (cell_of_row (aliveW w) _ k _ _ _ h6).trans ?_
    match k, hk with
    | 0, _ | 1, _ | 2, _ | 3, _ | 4, _ => rfl
  · intro k hk
    refine (cell_of_row (aliveW w) _ k _ _ _ h5).trans ?_
    match k, hk with
    | 0, _ | 1, _ | 2, _ | 3, _ | 4, _ => rfl
  · intro k hk
    match k, hk with
    | 0, _ => intro i h; refine (cell_of_row (aliveW w) _ i _ _ _ h0).trans ?_; match i, h with | 0, _ => rfl
    | 1, _ => intro i h; refine (cell_of_row (aliveW w) _ i _ _ _ h1).trans ?_; match i, h with | 0, _ => rfl
    | 2, _ => intro i h; refine (cell_of_row (aliveW w) _ i _ _ _ h2).trans ?_; match i, h with | 0, _ | 1, _ => rfl
    | 3, _ => intro i h; refine (cell_of_row (aliveW w) _ i _ _ _ h3).trans ?_; match i, h with | 0, _ => rfl
    | 4, _ => intro i h; refine (cell_of_row (aliveW w) _ i _ _ _ h4).trans ?_; match i, h with | 0, _ | 1, _ => rfl
theorem Wants.stay {b : Nat} {W W' : World} (h : Wants b W) (hB : Below W.heap.size W W') : Wants b W' := by
  have hz := h.size
  have hs : ∀ j, j < 7 → b + j < W.heap.size := fun j hj => by omega
  have hz' := hB.size
  exact {
    num := fun k hk => (hB.cell (p := ⟨b + 1 + 1 + 1 + 1 + 1 + 1, k, none⟩) (hs 6 (by omega))).trans (h.num k hk)
    ptr := fun k hk => (hB.cell (p := ⟨b + 1 + 1 + 1 + 1 + 1, k, none⟩) (hs 5 (by omega))).trans (h.ptr k hk)
    byte := fun k hk i hi => (hB.cell (p := ⟨b + k, i, none⟩) (hs k (by omega))).trans (h.byte k hk i hi)
    size := by omega }
theorem num_range : ∀ k, k < 5 → -9223372036854775808 ≤ numAt k ∧ numAt k < 9223372036854775808 := by decide

theorem wrong_one (X : Texts) : ((wrongN X (.mk 0 1 false [1] [])).1 == 4 && (wrongN X (.mk 0 1 false [1] [])).2 == 0) = true := by
  have h : wrongN X (.mk 0 1 false [1] []) = (4, 0) := by
    have hb : breaksN X (.mk 0 1 false [1] []) = 4 := by rfl
    simp [wrongN, Tree.deep_mk, Tree.deepL_nil, Tree.nodes_mk, Tree.nodesL_nil, Tree.list_mk, Tree.listL_nil, wrongGo, hb]
  rw [h]; rfl
theorem wrong_two (X : Texts) : ((wrongN X (.mk 0 16 true [] [.mk 0 2 false [5] [], .mk 0 5 false [0] []])).1 == 4 && (wrongN X (.mk 0 16 true [] [.mk 0 2 false [5] [], .mk 0 5 false [0] []])).2 == 2) = true := by
  have h : wrongN X (.mk 0 16 true [] [.mk 0 2 false [5] [], .mk 0 5 false [0] []]) = (4, 2) := by
    have h1 : breaksN X (.mk 0 16 true [] [.mk 0 2 false [5] [], .mk 0 5 false [0] []]) = 0 := by rfl
    have h2 : breaksN X (.mk 0 2 false [5] []) = 0 := by rfl
    have h3 : breaksN X (.mk 0 5 false [0] []) = 4 := by rfl
    simp [wrongN, Tree.deep_mk, Tree.deepL_nil, Tree.deepL_cons, Tree.nodes_mk, Tree.nodesL_nil, Tree.nodesL_cons, Tree.list_mk, Tree.listL_nil, Tree.listL_cons, wrongGo, h1, h2, h3]
  rw [h]; rfl
theorem two_nodes (w : World) (p q : At) {S T : Nat → Prop} (h1 : TreeIn w S (.mk 0 2 false [5] []) p) (h2 : TreeIn w T (.mk 0 5 false [0] []) q) :
    NodesIn (w.alloc (.cells #[.int .i64 0, .int .i64 2, .bool false, .slice p.A1 1 p.c1, .slice p.A2 0 p.c2, .int .i64 0, .int .i64 5, .bool false, .slice q.A1 1 q.c1, .slice q.A2 0 q.c2] 25)) (fun _ => True) (some ⟨w.heap.size, 0, none⟩) 2
      [.mk 0 2 false [5] [], .mk 0 5 false [0] []] := by
  refine ⟨by simp, by simp [maxLen], fun i => if i = 0 then p else q, fun i hi => ?_⟩
  refine ⟨w.heap.size, 0, rfl, trivial, ?_, ?_⟩
  · match i, hi with
    | 0, _ => exact ⟨(cell_of_row _ _ 0 _ _ _ (heap_alloc_new w _)).trans rfl, (cell_of_row _ _ 1 _ _ _ (heap_alloc_new w _)).trans rfl, (cell_of_row _ _ 2 _ _ _ (heap_alloc_new w _)).trans rfl, (cell_of_row _ _ 3 _ _ _ (heap_alloc_new w _)).trans rfl, (cell_of_row _ _ 4 _ _ _ (heap_alloc_new w _)).trans rfl⟩
    | 1, _ => exact ⟨(cell_of_row _ _ 5 _ _ _ (heap_alloc_new w _)).trans rfl, (cell_of_row _ _ 6 _ _ _ (heap_alloc_new w _)).trans rfl, (cell_of_row _ _ 7 _ _ _ (heap_alloc_new w _)).trans rfl, (cell_of_row _ _ 8 _ _ _ (heap_alloc_new w _)).trans rfl, (cell_of_row _ _ 9 _ _ _ (heap_alloc_new w _)).trans rfl⟩
  · match i, hi with
    | 0, _ => exact (h1.stay ((Below.refl _ w).alloc (Nat.le_refl _) _)).move (fun _ _ => rfl) (fun _ _ => trivial)
    | 1, _ => exact (h2.stay ((Below.refl _ w).alloc (Nat.le_refl _) _)).move (fun _ _ => rfl) (fun _ _ => trivial)
set_option maxRecDepth 100000 in
set_option maxHeartbeats 1000000 in
theorem alive_calls (X : Texts) (w : World) :
    Calls Tryd.prog 6 #[] w fun e w' => e = .returned (.bool true) ∧ Below w.heap.size w w' := by
  have HA : Hid (Wants w.heap.size (aliveW w)) := Lib.hid (alive_wants w)
  have HAW : Hid (Below w.heap.size w (aliveW w)) := Lib.hid ((((((((Below.refl _ w).alloc (by simp) _).alloc (by first | (simp; done) | (simp; omega)) _).alloc (by first | (simp; done) | (simp; omega)) _).alloc (by first | (simp; done) | (simp; omega)) _).alloc (by first | (simp; done) | (simp; omega)) _).alloc (by first | (simp; done) | (simp; omega)) _).alloc (by first | (simp; done) | (simp; omega)) _)
  go_enter Tryd.func6, Tryd.ntmps6
  go_wp2_with fail
  go_loopw [13] (fun i wr => ∃ k : Nat, k ≤ 5 ∧ i = .int .i64 k ∧ Hid (Wants w.heap.size wr) ∧ Hid (Below w.heap.size w wr)) (fun i _ => 5 - (intOf i).toNat)
  case atStart => exact ⟨0, by omega, rfl, HA, HAW⟩
  case round =>
    obtain ⟨k, hk, rfl, HW, HB⟩ := hrel
    by_cases hlt : k < 5
    · have hn := HW.out.num k hlt
      have hp := HW.out.ptr k hlt
      have hr := num_range k hlt
      go_wp2_with fail
      refine (int_calls (numAt k) wr hr.1 hr.2).mono ?_
      rintro e w2 ⟨p, F, rfl, hO, hB2⟩
      rw [want_num k hlt] at hO ⊢
      simp only [nodeV, Tree.cls, Tree.tag, Tree.cons, Tree.bytes, Tree.kids]
      have hsz := hB2.size
      have hwsz := HW.out.size
      have HW2 : Hid (Wants w.heap.size w2) := Lib.hid (HW.out.stay hB2)
      have HB2 : Hid (Below w.heap.size w w2) := Lib.hid (HB.out.trans (hB2.mono HB.out.size))
      have hpos : 0 < (wantAt k).length := by
        match k, hlt with
        | 0, _ | 1, _ | 2, _ | 3, _ | 4, _ => decide
      have hr := hO.reads
      obtain ⟨A1, c1, A2, c2⟩ := p
      have hby := hr.bytes_in
      simp only at hby ⊢
      obtain ⟨g, o, rfl, _, _⟩ := hby.2.2 0 hpos
      have hp2 := HW2.out.ptr k hlt
      generalize hobj : (Obj.cells #[Value.int .i64 0, .int .i64 2, .bool false, .slice (some ⟨g, o, none⟩) (wantAt k).length c1, .slice A2 0 c2] 25) = obj
      have conv1 : (convert 22 9 (.slice (some ⟨g, o, none⟩) (wantAt k).length c1)).run Tryd.prog (w2.alloc obj).drew = .ok (.string ⟨(wantAt k).toArray⟩) (w2.alloc obj).drew := by
        refine run_convert_bytes_back (P := Tryd.prog) _ 22 9 5 ⟨g, o, none⟩ c1 (wantAt k) Tryd.underlying22 Tryd.underlying5 Tryd.underlying9 (fun j hj => ?_)
        obtain ⟨g', o', e', _, hc⟩ := hby.2.2 j hj
        injection e' with e'
        injection e' with e1 e2
        subst e1 e2
        rw [show (⟨g, o, none⟩ : Addr).add j = ⟨g, o + j, none⟩ from by unfold Addr.add; split <;> simp_all]
        exact alloc_cell obj hc
      have conv2 : (convert 22 9 (.slice (some ⟨w.heap.size + k, 0, none⟩) (wantAt k).length (wantAt k).length)).run Tryd.prog (w2.alloc obj).drew = .ok (.string ⟨(wantAt k).toArray⟩) (w2.alloc obj).drew := by
        refine run_convert_bytes_back (P := Tryd.prog) _ 22 9 5 ⟨w.heap.size + k, 0, none⟩ _ (wantAt k) Tryd.underlying22 Tryd.underlying5 Tryd.underlying9 (fun j hj => ?_)
        rw [show (⟨w.heap.size + k, 0, none⟩ : Addr).add j = ⟨w.heap.size + k, j, none⟩ from by unfold Addr.add; split <;> simp_all]
        exact alloc_cell obj (HW2.out.byte k hlt j hj)
      subst hobj
      have HC1 := Lib.hid conv1
      have HC2 := Lib.hid conv2
      have HO := Lib.hid hO
      have HBR := Lib.hid hB2
      clear hO hB2 hp hn conv1 conv2 hby hr
      go_upto_region 6 with fail
      have hp3 := alloc_cell (.cells #[.int .i64 0, .int .i64 2, .bool false, .slice (some ⟨g, o, none⟩) (wantAt k).length c1, .slice A2 0 c2] 25) hp2
      have cv1 := HC1.out
      have cv2 := HC2.out
      have hst : ((⟨(wantAt k).toArray⟩ : ByteArray) != ⟨(wantAt k).toArray⟩) = false := by
        match k, hlt with
        | 0, _ | 1, _ | 2, _ | 3, _ | 4, _ => decide
      generalize (⟨(wantAt k).toArray⟩ : ByteArray) = str at cv1 cv2 hst
      go_region_with (fail)
      all_goals (try go_wp2_with fail)
      all_goals exact ⟨⟨k + 1, by omega, by go_num, Lib.hid (HW2.out.stay (((Below.refl _ w2).alloc (Nat.le_refl _) _).drew)), Lib.hid (HB2.out.trans ((((Below.refl _ w2).alloc (Nat.le_refl _) _).drew).mono HB2.out.size))⟩, by simp [intOf]; omega⟩
    · go_wp2_with fail
      refine (wrong_law X 1 [1] wr (by decide) (fun h => by omega)).mono ?_
      rintro e w2 ⟨rfl, hB2⟩
      rw [wrong_one X]
      have HB2 : Hid (Below w.heap.size w w2) := Lib.hid (HB.out.trans (hB2.mono HB.out.size))
      clear hB2
      go_wp2_with fail
      refine (int_calls 5 w2 (by decide) (by decide)).mono ?_
      rintro e w3 ⟨p, F, rfl, hO, hB3⟩
      have HB3 : Hid (Below w.heap.size w w3) := Lib.hid (HB2.out.trans (hB3.mono HB2.out.size))
      have HO := Lib.hid hO.reads
      rw [show intBytes 5 = [5] from rfl] at HO ⊢
      clear hO hB3
      simp only [nodeV, Tree.cls, Tree.tag, Tree.cons, Tree.bytes, Tree.kids]
      go_wp2_with fail
      refine (prim_calls 0 5 (some ⟨w3.heap.size, 0, none⟩) 1 [0] _ (fun _ => True) ⟨by simp, by simp [maxLen], fun i hi => ⟨w3.heap.size, 0, rfl, trivial, ?_⟩⟩ (by decide)).mono ?_
      · obtain rfl : i = 0 := by simpa using hi
        simp
      rintro e w4 ⟨q, F', rfl, hO', hB4⟩
      have HB4a : Hid (Below w3.heap.size w3 w4) := Lib.hid (((Below.refl _ w3).alloc (Nat.le_refl _) _).trans (hB4.mono (by simp)))
      have HO' := Lib.hid hO'.reads
      have HO4 := Lib.hid (HO.out.stay HB4a.out)
      clear hO' hB4
      simp only [nodeV, Tree.cls, Tree.tag, Tree.cons, Tree.bytes, Tree.kids]
      go_wp2_with fail
      refine (cons_calls 0 16 (some ⟨w4.heap.size, 0, none⟩) 2 [.mk 0 2 false [5] [], .mk 0 5 false [0] []] _ (fun _ => True) (two_nodes w4 p q HO4.out HO'.out) (by simp [Tree.nodes_mk, Tree.nodesL_nil, Tree.nodesL_cons]) (by simp [Tree.total_mk, Tree.totalL_nil, Tree.totalL_cons])).mono ?_
      rintro e w5 ⟨r, F2, rfl, hO5, hB5⟩
      have HB4 : Hid (Below w.heap.size w w4) := Lib.hid (HB3.out.trans (HB4a.out.mono HB3.out.size))
      have HB5 : Hid (Below w.heap.size w w5) := Lib.hid (HB4.out.trans ((((Below.refl _ w4).alloc (Nat.le_refl _) _).trans (hB5.mono (by simp))).mono HB4.out.size))
      have HO5 := Lib.hid hO5.reads
      clear hO5 hB5
      go_wp2_with fail
      refine (lawIs_calls X _ w5 _ r 4 2 HO5.out (by simp [Tree.nodes_mk, Tree.nodesL_nil, Tree.nodesL_cons]) (fun y hy hx => by simp [Tree.list_mk, Tree.listL_nil, Tree.listL_cons] at hy; rcases hy with rfl | rfl | rfl <;> simp [Tree.tag] at hx)).mono ?_
      rintro e w6 ⟨rfl, hB6⟩
      have HB6 : Hid (Below w.heap.size w w6) := Lib.hid (HB5.out.trans (hB6.mono HB5.out.size))
      clear hB6
      rw [wrong_two X]
      go_wp2_with fail
      go_ret
      exact ⟨rfl, HB6.out⟩
end Go.Proofs.YtkjmnoaenclleaaDoor
