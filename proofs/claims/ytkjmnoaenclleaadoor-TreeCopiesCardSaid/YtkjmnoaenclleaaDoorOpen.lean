/- A tree that is handed in as data lies in memory. -/
import Derived.Test.YtkjmnoaenclleaaDoorBase
import Derived.Test.YtkjmnoaenclleaaDoorProg
import Derived.ProofKit
import Derived.ChangeArms
import Derived.Deep.Slices
set_option linter.unusedVariables false
namespace Go.Proofs.YtkjmnoaenclleaaDoor
open Go.ChangeShapes Go.WideShapes Go.ChangeAt Go.RowKit Go.Deep

/-- All numbers of a tree's nodes fit. -/
inductive Fit : Tree → Prop
  | mk {c t : Int} {b : Bool} {bs : List UInt8} {ks : List Tree} (hc : -9223372036854775808 ≤ c ∧ c ≤ 9223372036854775807) (ht : -9223372036854775808 ≤ t ∧ t ≤ 9223372036854775807)
      (hk : ∀ i (h : i < ks.length), Fit ks[i]) : Fit (.mk c t b bs ks)

theorem cells_node : Tryd.prog.cellsOf 25 = 5 := by kernel_rfl
theorem cells_int : Tryd.prog.cellsOf 3 = 1 := by kernel_rfl
theorem cells_bool : Tryd.prog.cellsOf 4 = 1 := by kernel_rfl
theorem cells_bytes : Tryd.prog.cellsOf 22 = 1 := by kernel_rfl
theorem cells_kids : Tryd.prog.cellsOf 23 = 1 := by kernel_rfl
theorem cells_byte : Tryd.prog.cellsOf 5 = 1 := by kernel_rfl

section
variable {H : Type} {enc : TypeId × Value → H} {W : World} {sp : Nat → Bool} {hd : Bool}

theorem wf_i64 {n : Int} (h : (Lit.int .i64 n).wf = true) : -9223372036854775808 ≤ n ∧ n ≤ 9223372036854775807 := by
  simpa [Lit.wf, IntKind.min, IntKind.max, IntKind.signed, IntKind.bits] using h
theorem wf_u8 {n : Int} (h : (Lit.int .u8 n).wf = true) : 0 ≤ n ∧ n ≤ 255 := by
  simpa [Lit.wf, IntKind.min, IntKind.max, IntKind.signed, IntKind.bits] using h

/-- A slice of bytes. -/
theorem open_bytes {fuel : Nat} {v : Value} {x : DataW H × List MemPlace} (h : DataW.trod enc Tryd.prog W 0 sp hd fuel 22 [v] = some x) :
    ∃ A c bs, v = .slice A bs.length c ∧ BytesIn W (fun _ => True) A c bs := by
  rcases DataW.trod_slice Tryd.underlying22 h with ⟨h1, _⟩ | ⟨a, len, cap, elems, rest, n, _, h1, _, _, hl, hm, hlen, hel, _, _⟩
  · simp only [List.cons.injEq, and_true] at h1
    exact ⟨none, 0, [], h1, by simp, by simp [maxLen], fun i hi => absurd hi (by simp)⟩
  · simp only [List.cons.injEq, and_true] at h1
    rw [cells_byte] at hel
    have hone : ∀ i, i < len → ∃ b : UInt8, W.cell? (a.add i) = some (.int .u8 (b.toNat : Int)) := by
      intro i hi
      have := hel i hi
      rw [Nat.mul_one, List.getElem?_eq_getElem (by omega)] at this
      obtain ⟨cs', g1, g2⟩ := Option.bind_eq_some_iff.1 this
      obtain ⟨_, gl, gc⟩ := World.cells?_some g1
      obtain ⟨m, rfl, _, hw⟩ := DataW.trod_int Tryd.underlying5 g2
      have hm := wf_u8 hw
      refine ⟨UInt8.ofNat m.toNat, ?_⟩
      have := gc 0 (by omega)
      simp only [List.getElem?_cons_zero] at this
      rw [show (a.add i).add 0 = a.add i from by unfold Addr.add; simp] at this
      rw [this, UInt8.toNat_ofNat']
      congr 2
      omega
    obtain ⟨f, hf⟩ := choose_lt (α := UInt8) hone
    obtain ⟨b, o, spot⟩ := a
    refine ⟨some ⟨b, o, spot⟩, cap, (List.range len).map f, by rw [h1]; simp, by simpa using hl, hm, fun i hi => ?_⟩
    have hi' : i < len := by simpa using hi
    have hc := hf i hi'
    have hspot : spot = none := by simpa [Addr.add] using World.cell?_spot (hf 0 (by omega))
    subst hspot
    refine ⟨b, o, rfl, trivial, ?_⟩
    rw [show (⟨b, o, none⟩ : Addr).add i = ⟨b, o + i, none⟩ from by unfold Addr.add; split <;> simp_all] at hc
    simpa using hc

theorem open_node : ∀ (N fuel : Nat) (cs : List Value) (x : DataW H × List MemPlace), fuel ≤ N → DataW.trod enc Tryd.prog W 0 sp hd fuel 25 cs = some x →
    ∃ t p, cs = [.int .i64 t.cls, .int .i64 t.tag, .bool t.cons, .slice p.A1 t.bytes.length p.c1, .slice p.A2 t.kids.length p.c2] ∧ TreeIn W (fun _ => True) t p ∧ Fit t := by
  intro N
  induction N with
  | zero =>
    intro fuel cs x hf h
    obtain rfl : fuel = 0 := by omega
    simp [DataW.trod] at h
  | succ N ih =>
    intro fuel cs x hf h
    obtain ⟨xs, n, rfl, _, hcl, hxl, hfs⟩ := DataW.trod_struct Tryd.underlying25 h
    rw [cells_node] at hcl
    match cs, hcl with
    | [v0, v1, v2, v3, v4], _ =>
      have hxl' : xs.length = 5 := hxl
      have g0 : DataW.trod enc Tryd.prog W 0 sp hd n 3 [v0] = xs[0]? := by
        have hh : DataW.trod enc Tryd.prog W 0 sp hd n 3 (([v0, v1, v2, v3, v4].drop 0).take (Tryd.prog.cellsOf 3)) = xs[0]? := hfs 0 _ rfl
        rw [cells_int] at hh
        exact hh
      have g1 : DataW.trod enc Tryd.prog W 0 sp hd n 3 [v1] = xs[1]? := by
        have hh : DataW.trod enc Tryd.prog W 0 sp hd n 3 (([v0, v1, v2, v3, v4].drop 1).take (Tryd.prog.cellsOf 3)) = xs[1]? := hfs 1 _ rfl
        rw [cells_int] at hh
        exact hh
      have g2 : DataW.trod enc Tryd.prog W 0 sp hd n 4 [v2] = xs[2]? := by
        have hh : DataW.trod enc Tryd.prog W 0 sp hd n 4 (([v0, v1, v2, v3, v4].drop 2).take (Tryd.prog.cellsOf 4)) = xs[2]? := hfs 2 _ rfl
        rw [cells_bool] at hh
        exact hh
      have g3 : DataW.trod enc Tryd.prog W 0 sp hd n 22 [v3] = xs[3]? := by
        have hh : DataW.trod enc Tryd.prog W 0 sp hd n 22 (([v0, v1, v2, v3, v4].drop 3).take (Tryd.prog.cellsOf 22)) = xs[3]? := hfs 3 _ rfl
        rw [cells_bytes] at hh
        exact hh
      have g4 : DataW.trod enc Tryd.prog W 0 sp hd n 23 [v4] = xs[4]? := by
        have hh : DataW.trod enc Tryd.prog W 0 sp hd n 23 (([v0, v1, v2, v3, v4].drop 4).take (Tryd.prog.cellsOf 23)) = xs[4]? := hfs 4 _ rfl
        rw [cells_kids] at hh
        exact hh
      rw [List.getElem?_eq_getElem (by omega)] at g0 g1 g2 g3 g4
      obtain ⟨c, e0, _, w0⟩ := DataW.trod_int Tryd.underlying3 g0
      obtain ⟨tg, e1, _, w1⟩ := DataW.trod_int Tryd.underlying3 g1
      obtain ⟨b, e2, _⟩ := DataW.trod_bool Tryd.underlying4 g2
      obtain ⟨A1, c1, bs, e3, hb⟩ := open_bytes g3
      have e0' : v0 = .int .i64 c := by simpa using e0
      have e1' : v1 = .int .i64 tg := by simpa using e1
      have e2' : v2 = .bool b := by simpa using e2
      subst e0' e1' e2' e3
      rcases DataW.trod_slice Tryd.underlying23 g4 with ⟨e4, _⟩ | ⟨a, len, cap, elems, rest, m, hfm, e4, _, _, hl, hm, hlen, hel, _, _⟩
      · simp only [List.cons.injEq, and_true] at e4
        subst e4
        exact ⟨.mk c tg b bs [], ⟨A1, c1, none, 0⟩, rfl, .mk hb (by simp) (by simp [maxLen]) (fun _ => ⟨none, 0, none, 0⟩) (fun i hi => absurd hi (by simp)) (fun i hi => absurd hi (by simp)),
          .mk (wf_i64 w0) (wf_i64 w1) (fun i hi => absurd hi (by simp))⟩
      · simp only [List.cons.injEq, and_true] at e4
        subst e4
        rw [cells_node] at hel
        have hone : ∀ i, i < len → ∃ tp : Tree × At, (∃ b o, a.add (i * 5) = ⟨b, o, none⟩ ∧ NodeAt W b o tp.1 tp.2) ∧ TreeIn W (fun _ => True) tp.1 tp.2 ∧ Fit tp.1 := by
          intro i hi
          have := hel i hi
          rw [List.getElem?_eq_getElem (by omega)] at this
          obtain ⟨cs', q1, q2⟩ := Option.bind_eq_some_iff.1 this
          obtain ⟨_, ql, qc⟩ := World.cells?_some q1
          obtain ⟨t, p, rfl, ht, hfit⟩ := ih m cs' _ (by omega) q2
          refine ⟨(t, p), ?_, ht, hfit⟩
          have hs0 := qc 0 (by omega)
          generalize a.add (i * 5) = ad at qc hs0
          obtain ⟨bb, oo, spot⟩ := ad
          have hspot : spot = none := by simpa [Addr.add] using World.cell?_spot (hs0.trans rfl)
          subst hspot
          refine ⟨bb, oo, rfl, ?_, ?_, ?_, ?_, ?_⟩
          · exact hs0.trans rfl
          · exact (qc 1 (by omega)).trans rfl
          · exact (qc 2 (by omega)).trans rfl
          · exact (qc 3 (by omega)).trans rfl
          · exact (qc 4 (by omega)).trans rfl
        have : Inhabited (Tree × At) := ⟨(.mk 0 0 false [] [], ⟨none, 0, none, 0⟩)⟩
        obtain ⟨f, hf'⟩ := choose_lt (α := Tree × At) hone
        obtain ⟨bb, oo, spot⟩ := a
        refine ⟨.mk c tg b bs ((List.range len).map fun i => (f i).1), ⟨A1, c1, some ⟨bb, oo, spot⟩, cap⟩, by simp [Tree.cls, Tree.tag, Tree.cons, Tree.bytes, Tree.kids],
          .mk hb (by simpa using hl) hm (fun i => (f i).2) (fun i hi => ?_) (fun i hi => ?_), .mk (wf_i64 w0) (wf_i64 w1) (fun i hi => ?_)⟩
        · have hi' : i < len := by simpa using hi
          obtain ⟨⟨b1, o1, e1, hn⟩, _, _⟩ := hf' i hi'
          have hspot : spot = none := by
            obtain ⟨⟨b0, o0, e0, _⟩, _, _⟩ := hf' 0 (by omega)
            have := congrArg Addr.spot e0
            simpa [Addr.add] using this
          subst hspot
          rw [show (⟨bb, oo, none⟩ : Addr).add (i * 5) = ⟨bb, oo + i * 5, none⟩ from by unfold Addr.add; split <;> simp_all] at e1
          injection e1 with e2 e3
          subst e2 e3
          exact ⟨bb, oo, rfl, trivial, by simpa using hn⟩
        · have hi' : i < len := by simpa using hi
          simpa using (hf' i hi').2.1
        · have hi' : i < len := by simpa using hi
          simpa using (hf' i hi').2.2
end
end Go.Proofs.YtkjmnoaenclleaaDoor
