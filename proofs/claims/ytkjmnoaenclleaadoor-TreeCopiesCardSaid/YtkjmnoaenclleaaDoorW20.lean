/- Walks: the law's pick. -/
import Derived.Test.YtkjmnoaenclleaaDoorOwn3
import Derived.Test.YtkjmnoaenclleaaDoorW19
set_option linter.unusedVariables false
namespace Go.Proofs.YtkjmnoaenclleaaDoor
open Go.RowKit

/-- Nothing but block g has turned. -/
structure Off (g : Nat) (w w' : World) : Prop where
  size : w'.heap.size = w.heap.size
  block : ∀ k, k ≠ g → w'.heap[k]? = w.heap[k]?
  os : w'.os = w.os
  tape : w'.tape = w.tape
  output : w'.output = w.output
theorem Off.refl (g : Nat) (w : World) : Off g w w := ⟨rfl, fun _ _ => rfl, rfl, rfl, rfl⟩
theorem Off.trans {g : Nat} {w w1 w2 : World} (h : Off g w w1) (h' : Off g w1 w2) : Off g w w2 := ⟨h'.size.trans h.size, fun k hk => (h'.block k hk).trans (h.block k hk), h'.os.trans h.os, h'.tape.trans h.tape, h'.output.trans h.output⟩
theorem Off.set (g o : Nat) (w : World) (v : Value) : Off g w (w.setCell ⟨g, o, none⟩ v) := ⟨by simp, fun k hk => Below.heap_setCell _ _ _ k hk, rfl, rfl, rfl⟩
theorem Off.below {g B : Nat} {w w' : World} (h : Off g w w') (hB : B ≤ g) : Below B w w' := ⟨h.os, h.tape, h.output, Nat.le_of_eq h.size.symm, fun k hk => h.block k (by omega)⟩
theorem Off.tree {g : Nat} {w w' : World} (h : Off g w w') {S : Nat → Prop} {t : Tree} {p : At} (hS : ¬ S g) (ht : TreeIn w S t p) : TreeIn w' S t p :=
  ht.move (fun k hk => h.block k (fun e => hS (e ▸ hk))) (fun _ hk => hk)
/-- A counter's variable. -/
def Cnt (w : World) (g c : Nat) : Prop := w.heap[g]? = some (.cells #[.int .i64 (c : Int)] 3)
theorem Cnt.facts {w : World} {g c : Nat} (h : Cnt w g c) : w.cell? ⟨g, 0, none⟩ = some (.int .i64 (c : Int)) ∧ w.frozen? ⟨g, 0, none⟩ = false := by
  unfold Cnt at h
  refine ⟨?_, ?_⟩ <;> simp [World.cell?, World.frozen?, h]
theorem Cnt.set {w : World} {g c : Nat} (h : Cnt w g c) (c' : Nat) : Cnt (w.setCell ⟨g, 0, none⟩ (.int .i64 (c' : Int))) g c' := by
  unfold Cnt at h ⊢
  simp [World.setCell, Array.getElem?_modify, h]

/-- What pick answers. -/
def Picked (w : World) (t : Tree) (p : At) (b o g c n : Nat) (e : Ending) (w' : World) : Prop :=
  Off g w w' ∧ ((n - c < t.nodes ∧ ∃ b' o', e = .returned (.pointer (some ⟨b', o', none⟩)) ∧ Place w t p b o (n - c) b' o') ∨
    (t.nodes ≤ n - c ∧ e = .returned (.pointer none) ∧ Cnt w' g (c + t.nodes)))

theorem pick_calls : ∀ (N : Nat) (t : Tree) (w : World) (S : Nat → Prop) (p : At) (b o g c n : Nat), t.nodes ≤ N → NodeAt w b o t p → TreeIn w S t p → ¬ S g → b ≠ g → Cnt w g c → c ≤ n → n ≤ 1000000000 →
    Calls Tryd.prog 11 #[.pointer (some ⟨b, o, none⟩), .pointer (some ⟨g, 0, none⟩), .int .i64 (n : Int)] w (Picked w t p b o g c n) := by
  intro N
  induction N with
  | zero => intro t w S p b o g c n h; have := t.nodes_pos; omega
  | succ N ih =>
    intro t w S p b o g c n hN hn ht hS hbg hc hcn hbig
    obtain ⟨cl, tg, co, bs, ks⟩ := t
    obtain ⟨n0, n1, n2, n3, n4⟩ := hn
    obtain ⟨hc0, hf0⟩ := hc.facts
    by_cases hat : c = n
    · have q : ((c : Int) == (n : Int)) = true := eq_t (by omega)
      have HP : Hid (Picked w (.mk cl tg co bs ks) p b o g c n (.returned (.pointer (some ⟨b, o, none⟩))) w) := by
        refine Lib.hid ⟨Off.refl _ _, .inl ⟨by rw [Tree.nodes_mk]; omega, b, o, rfl, ?_⟩⟩
        rw [show n - c = 0 by omega]
        exact .here ⟨n0, n1, n2, n3, n4⟩
      clear hat
      go_enter Tryd.func11, Tryd.ntmps11
      go_wp2_with fail
      go_ret
      exact HP.out
    · have q : ((c : Int) == (n : Int)) = false := eq_f (by omega)
      have hlt1 : c + 1 ≤ n := by omega
      obtain ⟨hl, hm, f, hkid⟩ := ht.nodes_in
      obtain ⟨A1, c1, A2, c2⟩ := p
      simp only [Tree.cls, Tree.tag, Tree.cons, Tree.bytes, Tree.kids] at hl hm hkid n0 n1 n2 n3 n4
      unfold maxLen at hm
      rw [Tree.nodes_mk] at hN
      have HK := Lib.hid hkid
      have IH := Lib.hid ih
      have HT := Lib.hid ht
      have HC : Hid (Cnt (w.setCell ⟨g, 0, none⟩ (.int .i64 ((c : Int) + 1))) g (c + 1)) := Lib.hid (hc.set (c + 1))
      have HO : Hid (Off g w (w.setCell ⟨g, 0, none⟩ (.int .i64 ((c : Int) + 1)))) := Lib.hid (Off.set _ _ _ _)
      have HN : Hid (NodeAt w b o (.mk cl tg co bs ks) ⟨A1, c1, A2, c2⟩) := Lib.hid ⟨n0, n1, n2, n3, n4⟩
      have HS := Lib.hid hS
      have HB := Lib.hid hbg
      clear hkid ih ht hat hc n0 n1 n2 n3 hS
      have n4' : (w.setCell ⟨g, 0, none⟩ (.int .i64 ((c : Int) + 1))).cell? ⟨b, o + 4, none⟩ = some (.slice A2 ks.length c2) := (World.cell?_of_block (HO.out.block b HB.out)).trans n4
      clear n4 hbg
      go_enter Tryd.func11, Tryd.ntmps11
      go_wp2_with fail
      go_loopw [26] (fun i wr => ∃ k : Nat, k ≤ ks.length ∧ i = .int .i64 k ∧ c + 1 + Tree.nodes.nodesL (ks.take k) ≤ n ∧ Hid (Cnt wr g (c + 1 + Tree.nodes.nodesL (ks.take k))) ∧ Hid (Off g w wr)) (fun i _ => ks.length - (intOf i).toNat)
      case atStart => exact ⟨0, by omega, rfl, by simp [Tree.nodesL_nil]; omega, by simpa [Tree.nodesL_nil] using HC, HO⟩
      case round =>
        obtain ⟨k, hk, rfl, hle, HCk, HOk⟩ := hrel
        have m4 : wr.cell? ⟨b, o + 4, none⟩ = some (.slice A2 ks.length c2) := (World.cell?_of_block (HOk.out.block b HB.out)).trans HN.out.2.2.2.2
        by_cases hlt : k < ks.length
        · obtain ⟨g2, o2, rfl, hS2, hc, ht⟩ := HK.out k hlt
          have hg2 : g2 ≠ g := fun e => HS.out (e ▸ hS2)
          have hsub := Tree.nodes_getElem_le ks k hlt
          have htk := Tree.nodesL_take_succ ks k hlt
          have hih := IH.out ks[k] wr S (f k) g2 (o2 + k * 5) g (c + 1 + Tree.nodes.nodesL (ks.take k)) n (by omega) (hc.move (HOk.out.block _ hg2)) (HOk.out.tree HS.out ht) HS.out hg2 HCk.out hle hbig
          have HIH := Lib.hid hih
          have HNK := Lib.hid hc
          have HTK := Lib.hid ht
          clear hc ht hih hg2 hS2
          go_wp2_with fail
          refine HIH.out.mono ?_
          rintro e w2 ⟨hoff, ⟨hlt2, b', o', rfl, hpl⟩ | ⟨hge, rfl, hcnt⟩⟩
          · have HP : Hid (Picked w (.mk cl tg co bs ks) ⟨A1, c1, some ⟨g2, o2, none⟩, c2⟩ b o g c n (.returned (.pointer (some ⟨b', o', none⟩))) w2) := by
              refine Lib.hid ⟨HOk.out.trans hoff, .inl ⟨?_, b', o', rfl, ?_⟩⟩
              · rw [Tree.nodes_mk]
                have := Tree.nodesL_take_le ks (k + 1)
                omega
              · have hback : ∀ j, j ≠ g → w.heap[j]? = wr.heap[j]? := fun j hj => (HOk.out.block j hj).symm
                have hg2 : g2 ≠ g := by
                  obtain ⟨g3, o3, e3, hS3, _, _⟩ := HK.out k hlt
                  injection e3 with e3
                  injection e3 with e3 e4
                  exact fun e => HS.out (e ▸ e3 ▸ hS3)
                have h1 := hpl.move (w' := w) (HOk.out.tree HS.out HTK.out) (hback _ hg2) (fun j hj => hback j (fun e => HS.out (e ▸ hj)))
                have h2 : n - c = 1 + Tree.nodes.nodesL (ks.take k) + (n - (c + 1 + Tree.nodes.nodesL (ks.take k))) := by omega
                rw [h2]
                exact .kid k hlt rfl HNK.out h1
            clear hpl hoff
            go_wp2_with fail
            go_ret
            exact HP.out
          · have HC2 : Hid (Cnt w2 g (c + 1 + Tree.nodes.nodesL (ks.take (k + 1)))) := Lib.hid (by rw [htk, ← Nat.add_assoc]; exact hcnt)
            have HO2 := Lib.hid (HOk.out.trans hoff)
            clear hoff hcnt
            go_wp2_with fail
            go_roundw
            case rel => exact ⟨k + 1, hlt, by go_num, by omega, HC2, HO2⟩
            case measure => simp [intOf]; omega
        · obtain rfl : k = ks.length := by omega
          rw [List.take_length] at hle
          have HP : Hid (Picked w (.mk cl tg co bs ks) ⟨A1, c1, A2, c2⟩ b o g c n (.returned (.pointer none)) wr) := by
            refine Lib.hid ⟨HOk.out, .inr ⟨by rw [Tree.nodes_mk]; omega, rfl, ?_⟩⟩
            have := HCk.out
            rw [List.take_length] at this
            rwa [Tree.nodes_mk, ← Nat.add_assoc]
          go_wp2_with fail
          go_ret
          exact HP.out
end Go.Proofs.YtkjmnoaenclleaaDoor
