/- Walks: the reference's Same. -/
import Derived.Test.YtkjmnoaenclleaaDoorW18
set_option linter.unusedVariables false
namespace Go.Proofs.YtkjmnoaenclleaaDoor
open Go.RowKit

def RSameAt (n : Nat) : Prop := ∀ (t u : Tree) (w : World) (S T : Nat → Prop) (p q : At), t.nodes ≤ n → TreeIn w S t p → TreeIn w T u q →
  Calls Tryd.prog 12 #[nodeV t p, nodeV u q] w fun e w' => e = .returned (.bool (eqB t u)) ∧ Below w.heap.size w w'

set_option maxRecDepth 100000 in
set_option maxHeartbeats 1000000 in
theorem rsame_calls : ∀ n, RSameAt n := by
  intro n
  induction n with
  | zero => intro t u w S T p q h; have := t.nodes_pos; omega
  | succ n ih =>
    intro t u w S T p q hn ht hu
    obtain ⟨cl, tg, co, bs, ks⟩ := t
    obtain ⟨dl, dg, do', cs, ls⟩ := u
    obtain ⟨hl1, hm1, f, hk⟩ := ht.nodes_in
    obtain ⟨hl2, hm2, f', hk'⟩ := hu.nodes_in
    have HK := Lib.hid hk
    have GK := Lib.hid hk'
    have hb := Lib.hid ht.bytes_in
    have hc := Lib.hid hu.bytes_in
    clear ht hu hk hk'
    obtain ⟨A1, c1, A2, c2⟩ := p
    obtain ⟨B1, d1, B2, d2⟩ := q
    simp only at hl1 hm1 hl2 hm2 HK GK hb hc
    unfold maxLen at hm1 hm2
    have IH := Lib.hid ih
    clear ih
    rw [Tree.nodes_mk] at hn
    have hW : Below w.heap.size w ((w.alloc (.cells #[.int .i64 cl, .int .i64 tg, .bool co, .slice A1 bs.length c1, .slice A2 ks.length c2] 25)).alloc (.cells #[.int .i64 dl, .int .i64 dg, .bool do', .slice B1 cs.length d1, .slice B2 ls.length d2] 25)) := ((Below.refl _ w).alloc (Nat.le_refl _) _).alloc (by simp) _
    have HX1 := Lib.hid (box_first w (.cells #[.int .i64 dl, .int .i64 dg, .bool do', .slice B1 cs.length d1, .slice B2 ls.length d2] 25) (.int .i64 cl) (.int .i64 tg) (.bool co) (.slice A1 bs.length c1) (.slice A2 ks.length c2))
    have HX2 := Lib.hid (box_second w (.cells #[.int .i64 cl, .int .i64 tg, .bool co, .slice A1 bs.length c1, .slice A2 ks.length c2] 25) (.int .i64 dl) (.int .i64 dg) (.bool do') (.slice B1 cs.length d1) (.slice B2 ls.length d2))
    have HC1 := Lib.hid (bytes_string (hb.out.stay hW))
    have HC2 := Lib.hid (bytes_string (hc.out.stay hW))
    have HW := Lib.hid hW
    clear hW
    have hne : (cl ≠ dl ∨ cl = dl ∧ (tg ≠ dg ∨ tg = dg ∧ (co ≠ do' ∨ co = do' ∧ (bs ≠ cs ∨ bs = cs ∧ (ks.length ≠ ls.length ∨ ks.length = ls.length))))) := by
      by_cases a : cl = dl <;> by_cases b : tg = dg <;> by_cases c : co = do' <;> by_cases d : bs = cs <;> by_cases e : ks.length = ls.length <;> simp_all
    simp only [nodeV, Tree.cls, Tree.tag, Tree.cons, Tree.bytes, Tree.kids]
    rcases hne with h1 | ⟨h1, h2 | ⟨h2, h3 | ⟨h3, h4 | ⟨h4, h5 | h5⟩⟩⟩⟩
    · have q1 : (cl != dl) = true := ne_t h1
      have HE : Hid (false = eqB (.mk cl tg co bs ks) (.mk dl dg do' cs ls)) := Lib.hid (eqB_f (fun h => by injection h; contradiction)).symm
      clear h1
      go_enter Tryd.func12, Tryd.ntmps12
      go_wp2_with fail
      go_ret
      exact ⟨ret_bool HE.out, HW.out⟩
    · have q1 : (cl != dl) = false := ne_f h1
      have q2 : (tg != dg) = true := ne_t h2
      have HE : Hid (false = eqB (.mk cl tg co bs ks) (.mk dl dg do' cs ls)) := Lib.hid (eqB_f (fun h => by injection h; contradiction)).symm
      clear h1 h2
      go_enter Tryd.func12, Tryd.ntmps12
      go_wp2_with fail
      go_ret
      exact ⟨ret_bool HE.out, HW.out⟩
    · have q1 : (cl != dl) = false := ne_f h1
      have q2 : (tg != dg) = false := ne_f h2
      have HE : Hid (false = eqB (.mk cl tg co bs ks) (.mk dl dg do' cs ls)) := Lib.hid (eqB_f (fun h => by injection h; contradiction)).symm
      clear h1 h2
      cases co <;> cases do'
      · exact absurd rfl h3
      · clear h3
        go_enter Tryd.func12, Tryd.ntmps12
        go_wp2_with fail
        go_ret
        exact ⟨ret_bool HE.out, HW.out⟩
      · clear h3
        go_enter Tryd.func12, Tryd.ntmps12
        go_wp2_with fail
        go_ret
        exact ⟨ret_bool HE.out, HW.out⟩
      · exact absurd rfl h3
    · have q1 : (cl != dl) = false := ne_f h1
      have q2 : (tg != dg) = false := ne_f h2
      subst h3
      have q4 : ((⟨bs.toArray⟩ : ByteArray).toList == (⟨cs.toArray⟩ : ByteArray).toList) = false := by simp [h4]
      have HE : Hid (false = eqB (.mk cl tg co bs ks) (.mk dl dg co cs ls)) := Lib.hid (eqB_f (fun h => by injection h; contradiction)).symm
      clear h1 h2 h4
      have cv1 := HC1.out
      have cv2 := HC2.out
      clear HC1 HC2
      generalize (⟨bs.toArray⟩ : ByteArray) = str1 at cv1 q4
      generalize (⟨cs.toArray⟩ : ByteArray) = str2 at cv2 q4
      go_enter Tryd.func12, Tryd.ntmps12
      go_wp2_with fail
      go_ret
      exact ⟨ret_bool HE.out, HW.out⟩
    · have q1 : (cl != dl) = false := ne_f h1
      have q2 : (tg != dg) = false := ne_f h2
      subst h3
      have q4 : ((⟨bs.toArray⟩ : ByteArray) != ⟨cs.toArray⟩) = false := by rw [str_ne]; simpa using h4
      have q5 : ((ks.length : Int) != (ls.length : Int)) = true := ne_t (by omega)
      have HE : Hid (false = eqB (.mk cl tg co bs ks) (.mk dl dg co cs ls)) := Lib.hid (eqB_f (fun h => by injection h with _ _ _ _ e; exact h5 (by rw [e]))).symm
      clear h1 h2 h5
      have E4 := Lib.hid h4
      clear h4
      have cv1 := HC1.out
      have cv2 := HC2.out
      clear HC1 HC2
      rw [← E4.out] at q4
      have cv2' := cv2
      clear cv2
      rw [show (⟨cs.toArray⟩ : ByteArray) = ⟨bs.toArray⟩ by rw [E4.out]] at cv2'
      generalize (⟨bs.toArray⟩ : ByteArray) = str1 at cv1 cv2' q4
      go_enter Tryd.func12, Tryd.ntmps12
      go_wp2_with fail
      go_ret
      exact ⟨ret_bool HE.out, HW.out⟩
    · have q1 : (cl != dl) = false := ne_f h1
      have q2 : (tg != dg) = false := ne_f h2
      subst h3
      have q4 : ((⟨bs.toArray⟩ : ByteArray) != ⟨cs.toArray⟩) = false := by rw [str_ne]; simpa using h4
      have q5 : ((ks.length : Int) != (ls.length : Int)) = false := ne_f (by omega)
      have hlA : ks.length ≤ ls.length := by omega
      have hlB : ls.length ≤ ks.length := by omega
      have HE : Hid (cl = dl ∧ tg = dg ∧ co = co ∧ bs = cs) := Lib.hid ⟨h1, h2, rfl, h4⟩
      clear h1 h2 h5
      have E4 := Lib.hid h4
      clear h4
      have cv1 := HC1.out
      have cv2 := HC2.out
      clear HC1 HC2
      rw [← E4.out] at q4
      have cv2' := cv2
      clear cv2
      rw [show (⟨cs.toArray⟩ : ByteArray) = ⟨bs.toArray⟩ by rw [E4.out]] at cv2'
      generalize (⟨bs.toArray⟩ : ByteArray) = str1 at cv1 cv2' q4
      go_enter Tryd.func12, Tryd.ntmps12
      go_wp2_with fail
      clear cv1 cv2'
      go_loopw [5] (fun i wr => ∃ k : Nat, k ≤ ks.length ∧ i = .int .i64 k ∧ Hid (ks.take k = ls.take k) ∧ Hid (Below w.heap.size w wr) ∧ Hid (BoxN wr w.heap.size (.int .i64 cl) (.int .i64 tg) (.bool co) (.slice A1 bs.length c1) (.slice A2 ks.length c2)) ∧
        Hid (BoxN wr (w.heap.size + 1) (.int .i64 dl) (.int .i64 dg) (.bool co) (.slice B1 cs.length d1) (.slice B2 ls.length d2))) (fun i _ => ks.length - (intOf i).toNat)
      case atStart => exact ⟨0, by omega, rfl, Lib.hid (by simp), HW, HX1, HX2⟩
      case round =>
        obtain ⟨k, hk, rfl, HT, HB, HY1, HY2⟩ := hrel
        obtain ⟨⟨x0, x1, x2, x3, x4⟩, _⟩ := HY1.out.facts
        obtain ⟨⟨y0, y1, y2, y3, y4⟩, _⟩ := HY2.out.facts
        by_cases hlt : k < ks.length
        · have hlt' : k < ls.length := by omega
          obtain ⟨g, o, rfl, _, hc, ht⟩ := HK.out k hlt
          obtain ⟨g', o', rfl, _, hc', ht'⟩ := GK.out k hlt'
          obtain ⟨n0, n1, n2, n3, n4⟩ := hc.move (HB.out.block _ (World.block_lt_of_cell? w _ hc.1))
          obtain ⟨m0, m1, m2, m3, m4⟩ := hc'.move (HB.out.block _ (World.block_lt_of_cell? w _ hc'.1))
          have htk := Lib.hid ((ht.stay HB.out).stay (Below.drew (Below.refl _ wr)))
          have htk' := Lib.hid ((ht'.stay HB.out).stay (Below.drew (Below.refl _ wr)))
          have hsub := Tree.nodes_getElem_le ks k hlt
          clear hc hc' ht ht'
          go_upto_region 6 with fail
          go_cut [6] from 51 to 62 (fun v wx => v = .bool (eqB ks[k] ls[k]) ∧ Hid (Below wr.heap.size wr wx))
          case first =>
            go_region_with (
              (go_at_call 12
               go_loud (
                 refine (IH.out ks[k] ls[k] _ S T (f k) (f' k) (by omega) htk.out htk'.out).mono ?_
                 rintro e w2 ⟨rfl, hB2⟩
                 have HB2 : Hid (Below wr.heap.size wr w2) := Lib.hid ((Below.drew (Below.refl _ wr)).trans hB2)
                 clear hB2)))
            all_goals (try go_wp2_with fail)
            all_goals go_meet
            all_goals exact ⟨rfl, HB2⟩
          case rest =>
            obtain ⟨rfl, HB2⟩ := hcut
            have HB3 : Hid (Below w.heap.size w wc) := Lib.hid (HB.out.trans (HB2.out.mono HB.out.size))
            have HZ1 := Lib.hid (HY1.out.stay HB2.out (World.block_lt_of_cell? wr _ x0))
            have HZ2 := Lib.hid (HY2.out.stay HB2.out (World.block_lt_of_cell? wr _ y0))
            by_cases he : ks[k] = ls[k]
            · have hq : eqB ks[k] ls[k] = true := eqB_t he
              have HQ := Lib.hid he
              clear he
              go_wp2_with fail
              go_roundw
              case rel =>
                refine ⟨k + 1, hlt, by go_num, Lib.hid ?_, HB3, HZ1, HZ2⟩
                rw [List.take_succ_eq_append_getElem hlt, List.take_succ_eq_append_getElem hlt', HT.out, HQ.out]
              case measure => simp [intOf]; omega
            · have hq : eqB ks[k] ls[k] = false := eqB_f he
              have HQ := Lib.hid he
              clear he
              go_wp2_with fail
              go_ret
              refine ⟨ret_bool (eqB_f ?_).symm, HB3.out⟩
              intro h
              injection h with _ _ _ _ e
              exact HQ.out (by simp only [e])
        · have HR : Hid (true = eqB (.mk cl tg co bs ks) (.mk dl dg co cs ls)) := by
            refine Lib.hid (eqB_t ?_).symm
            have := HT.out
            rw [List.take_of_length_le (by omega), List.take_of_length_le (by omega)] at this
            rw [HE.out.1, HE.out.2.1, HE.out.2.2.2, this]
          go_wp2_with fail
          go_ret
          exact ⟨ret_bool HR.out, HB.out⟩
end Go.Proofs.YtkjmnoaenclleaaDoor
