/- Walks: the law's is, fits, wrong. -/
import Derived.Test.YtkjmnoaenclleaaDoorW13
import Derived.Laws.IdiomStrings
set_option linter.unusedVariables false
namespace Go.Proofs.YtkjmnoaenclleaaDoor
open Go.RowKit

theorem wrongGo_cases (X : Texts) (l : List Tree) : ∀ k : Nat, ((wrongGo X k l).1 = 0 ∧ (wrongGo X k l).2 = -1) ∨ (0 < (wrongGo X k l).1) := by
  induction l with
  | nil => intro k; left; exact ⟨rfl, rfl⟩
  | cons t l ih =>
    intro k
    rw [wrongGo]
    split
    · exact ih _
    · right; simp only; omega
theorem wrongN_cases (X : Texts) (t : Tree) : ((wrongN X t).1 = 0 ∧ (wrongN X t).2 = -1) ∨ (0 < (wrongN X t).1) := by
  unfold wrongN
  split
  · right; decide
  · split
    · right; decide
    · exact wrongGo_cases X _ _

set_option maxHeartbeats 1000000 in
theorem lawIs_calls (X : Texts) (t : Tree) (w : World) (S : Nat → Prop) (p : At) (rule at_ : Int) (ht : TreeIn w S t p) (hn : t.nodes ≤ 4611686018427387904) (hs : AllTags (Soft X w) t) :
    Calls Tryd.prog 13 #[nodeV t p, .int .i64 rule, .int .i64 at_] w fun e w' => e = .returned (.bool ((wrongN X t).1 == rule && (wrongN X t).2 == at_)) ∧ Below w.heap.size w w' := by
  have hcs := wrongN_cases X t
  have HT := Lib.hid ht
  have HS := Lib.hid hs
  have HN := Lib.hid hn
  clear ht hs hn
  obtain ⟨cl, tg, co, bs, ks⟩ := t
  obtain ⟨A1, c1, A2, c2⟩ := p
  have hwr := wrong_calls X (.mk cl tg co bs ks) (w.alloc (.cells #[.int .i64 cl, .int .i64 tg, .bool co, .slice A1 bs.length c1, .slice A2 ks.length c2] 25)) S ⟨A1, c1, A2, c2⟩
    (HT.out.stay ((Below.refl _ w).alloc (Nat.le_refl _) _)) HN.out (fun y hy hx => (HS.out y hy hx).stay ((Below.refl _ w).alloc (Nat.le_refl _) _))
  have hck := fun (w' : World) (hB : Below w.heap.size w w') => check_calls X (.mk cl tg co bs ks) w' S ⟨A1, c1, A2, c2⟩ (HT.out.stay hB) HN.out (fun y hy hx => (HS.out y hy hx).stay hB)
  generalize (wrongN X (.mk cl tg co bs ks)) = W at hcs hwr hck ⊢
  obtain ⟨r, k⟩ := W
  have HC := Lib.hid hck
  have HWR := Lib.hid hwr
  clear hck hwr HT HS HN
  simp only [nodeV, Tree.cls, Tree.tag, Tree.cons, Tree.bytes, Tree.kids] at hcs ⊢
  have HX := Lib.hid (BoxN.alloc w (.int .i64 cl) (.int .i64 tg) (.bool co) (.slice A1 bs.length c1) (.slice A2 ks.length c2))
  have HW : Hid (Below w.heap.size w (w.alloc (.cells #[.int .i64 cl, .int .i64 tg, .bool co, .slice A1 bs.length c1, .slice A2 ks.length c2] 25))) := Lib.hid ((Below.refl _ w).alloc (Nat.le_refl _) _)
  go_enter Tryd.func13, Tryd.ntmps13
  go_wp2_with fail
  refine HWR.out.mono ?_
  rintro e w2 ⟨rfl, hB2⟩
  obtain ⟨⟨c0, c1', c2', c3, c4⟩, _⟩ := (HX.out.stay hB2 (by simp)).facts
  have HB2 : Hid (Below w.heap.size w w2) := Lib.hid (HW.out.trans (hB2.mono (by simp)))
  clear hB2
  cases h1 : (r == rule) with
  | false =>
    go_wp2_with fail
    go_ret
    exact ⟨ret_bool (by rw [h1]; rfl), HB2.out⟩
  | true =>
    have hr : r = rule := by simpa using h1
    cases h2 : (k == at_) with
    | false =>
      clear hr
      go_wp2_with fail
      go_ret
      exact ⟨ret_bool (by rw [h1, h2]; rfl), HB2.out⟩
    | true =>
      have hk : k = at_ := by simpa using h2
      by_cases h3 : 0 < r
      · have t1 : (rule == 0) = false := eq_f (by omega)
        have hc2 := HC.out w2 HB2.out
        simp only [if_pos h3] at hc2
        have HC2 := Lib.hid hc2
        clear hc2 hr hk h3 hcs
        go_wp2_with fail
        refine HC2.out.mono ?_
        rintro e w3 ⟨rfl, hB3⟩
        have HB3 : Hid (Below w.heap.size w w3) := Lib.hid (HB2.out.trans (hB3.mono HB2.out.size))
        clear hB3
        go_wp2_with fail
        go_ret
        exact ⟨ret_bool (by rw [h1, h2]; rfl), HB3.out⟩
      · have t1 : (rule == 0) = true := eq_t (by omega)
        have hc2 := HC.out w2 HB2.out
        simp only [if_neg h3] at hc2
        have HC2 := Lib.hid hc2
        clear hc2 hr hk h3 hcs
        go_wp2_with fail
        refine HC2.out.mono ?_
        rintro e w3 ⟨rfl, hB3⟩
        have HB3 : Hid (Below w.heap.size w w3) := Lib.hid (HB2.out.trans (hB3.mono HB2.out.size))
        clear hB3
        go_wp2_with fail
        go_ret
        exact ⟨ret_bool (by rw [h1, h2]; rfl), HB3.out⟩

theorem AllTags.leaf {q : Int → Prop} {c t : Int} {b : Bool} {s : List UInt8} (h : q t) : AllTags q (.mk c t b s []) := by
  intro y hy
  rw [Tree.list_mk, Tree.listL_nil] at hy
  simp at hy
  subst hy
  exact h

theorem GivesT.reads {w w' : World} {t : Tree} {p : At} {F : List Nat} (h : OT w' w.heap.size t p F) : TreeIn w' (fun k => k ∈ F) t p := h.reads

theorem string_bytes (bs : List UInt8) (w : World) (hn : bs.length ≤ maxLen) :
    ∃ W c, (convert 9 22 (.string ⟨bs.toArray⟩)).run Tryd.prog w = .ok (.slice (some ⟨w.heap.size, 0, none⟩) bs.length c) W ∧ Below w.heap.size w W ∧ BytesIn W (fun _ => True) (some ⟨w.heap.size, 0, none⟩) c bs := by
  have hsz : (⟨bs.toArray⟩ : ByteArray).size = bs.length := by simp [ByteArray.size]
  have h := run_bytes_of_string (P := Tryd.prog) w 9 22 5 ⟨bs.toArray⟩ Tryd.underlying9 Tryd.underlying22 Tryd.underlying5
  rw [hsz] at h
  generalize hG : grownCap w bs.length 0 5 = G at h
  have g1 : bs.length ≤ G := by rw [← hG]; exact grownCap_ge _ _ _ _
  have g2 : G ≤ maxLen := by rw [← hG]; exact grownCap_le_maxLen _ _ _ _ hn
  refine ⟨_, G, h, (Below.drew (Below.refl _ w)).alloc (Nat.le_refl _) _, g1, g2, fun i hi => ⟨w.heap.size, 0, rfl, trivial, ?_⟩⟩
  have e := World.cell?_alloc_mark w.drew (bytesRow ⟨bs.toArray⟩ G) 5 ((bytesRow ⟨bs.toArray⟩ G).size, (bytesRow ⟨bs.toArray⟩ G).size + 1) (0 + i)
  refine e.trans ?_
  rw [Nat.zero_add, bytesRow, Array.getElem?_append_left (by simpa using hi)]
  simp [hi]

set_option maxHeartbeats 1000000 in
theorem wrong_law (X : Texts) (tag : Int) (bs : List UInt8) (w : World) (hn : bs.length ≤ 1000000000) (h : Soft X w tag) :
    Calls Tryd.prog 17 #[.int .i64 tag, .string ⟨bs.toArray⟩] w fun e w' => e = .returned (.bool ((wrongN X (.mk 0 tag false bs [])).1 == 4 && (wrongN X (.mk 0 tag false bs [])).2 == 0)) ∧ Below w.heap.size w w' := by
  obtain ⟨W, c, hconv, hB, hby⟩ := string_bytes bs w (by simp only [maxLen]; omega)
  have HB := Lib.hid hB
  have HY := Lib.hid hby
  have HS := Lib.hid h
  clear hB hby h
  go_enter Tryd.func17, Tryd.ntmps17
  go_wp2_with fail
  refine (prim_calls 0 tag _ c bs W _ HY.out hn).mono ?_
  rintro e w2 ⟨p, F, rfl, hO, hB2⟩
  have HB2 : Hid (Below w.heap.size w w2) := Lib.hid (HB.out.trans (hB2.mono HB.out.size))
  have HO := Lib.hid hO.reads
  clear hO hB2 hconv
  go_wp2_with fail
  refine (lawIs_calls X (.mk 0 tag false bs []) w2 _ p 4 0 HO.out (by rw [Tree.nodes_mk, Tree.nodesL_nil]; omega) (AllTags.leaf (fun hx => (HS.out hx).stay HB2.out))).mono ?_
  rintro e w3 ⟨rfl, hB3⟩
  have HB3 : Hid (Below w.heap.size w w3) := Lib.hid (HB2.out.trans (hB3.mono HB2.out.size))
  clear hB3
  go_wp2_with fail
  go_ret
  exact ⟨rfl, HB3.out⟩

set_option maxHeartbeats 1000000 in
theorem fits_law (X : Texts) (tag : Int) (bs : List UInt8) (w : World) (hn : bs.length ≤ 1000000000) (h : Soft X w tag) :
    Calls Tryd.prog 16 #[.int .i64 tag, .string ⟨bs.toArray⟩] w fun e w' => e = .returned (.bool ((wrongN X (.mk 0 tag false bs [])).1 == 0 && (wrongN X (.mk 0 tag false bs [])).2 == -1)) ∧ Below w.heap.size w w' := by
  obtain ⟨W, c, hconv, hB, hby⟩ := string_bytes bs w (by simp only [maxLen]; omega)
  have HB := Lib.hid hB
  have HY := Lib.hid hby
  have HS := Lib.hid h
  clear hB hby h
  go_enter Tryd.func16, Tryd.ntmps16
  go_wp2_with fail
  refine (prim_calls 0 tag _ c bs W _ HY.out hn).mono ?_
  rintro e w2 ⟨p, F, rfl, hO, hB2⟩
  have HB2 : Hid (Below w.heap.size w w2) := Lib.hid (HB.out.trans (hB2.mono HB.out.size))
  have HO := Lib.hid hO.reads
  clear hO hB2 hconv
  go_wp2_with fail
  refine (lawIs_calls X (.mk 0 tag false bs []) w2 _ p 0 (-1) HO.out (by rw [Tree.nodes_mk, Tree.nodesL_nil]; omega) (AllTags.leaf (fun hx => (HS.out hx).stay HB2.out))).mono ?_
  rintro e w3 ⟨rfl, hB3⟩
  have HB3 : Hid (Below w.heap.size w w3) := Lib.hid (HB2.out.trans (hB3.mono HB2.out.size))
  clear hB3
  go_wp2_with fail
  go_ret
  exact ⟨rfl, HB3.out⟩
end Go.Proofs.YtkjmnoaenclleaaDoor
