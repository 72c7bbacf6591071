/- Walks: tree.AsInt. -/
import Derived.Test.YtkjmnoaenclleaaDoorW12
import Derived.Test.YtkjmnoaenclleaaDoorW5
import Derived.Laws.BitsAllLaws
set_option linter.unusedVariables false
namespace Go.Proofs.YtkjmnoaenclleaaDoor
open Go.RowKit

def s8 (b : UInt8) : Int := if b.toNat < 128 then b.toNat else (b.toNat : Int) - 256
/-- The number that bytes are. -/
def beVal : List UInt8 → Int
  | [] => 0
  | b :: l => l.foldl (fun n c => n * 256 + (c.toNat : Int)) (s8 b)
theorem s8_eq (b : UInt8) : wrap64 (IntKind.i8.wrap (b.toNat : Int)) = s8 b := by
  have hb := b.toNat_lt
  unfold s8
  have e : IntKind.i8.wrap (b.toNat : Int) = if b.toNat < 128 then (b.toNat : Int) else (b.toNat : Int) - 256 := by
    simp [IntKind.wrap, IntKind.bits, IntKind.signed]
    split <;> split <;> omega
  rw [e, wrap64]
  split <;> omega
theorem beVal_one (bs : List UInt8) (h : 0 < bs.length) : s8 bs[0] = beVal (bs.take 1) := by
  cases bs with
  | nil => simp at h
  | cons b l => rfl
theorem beVal_snoc (l : List UInt8) (c : UInt8) (h : l ≠ []) : beVal (l ++ [c]) = beVal l * 256 + (c.toNat : Int) := by
  cases l with
  | nil => simp at h
  | cons b l => simp [beVal]
theorem beVal_step (bs : List UInt8) (k : Nat) (h : k + 1 < bs.length) : beVal (bs.take (k + 1 + 1)) = beVal (bs.take (k + 1)) * 256 + (bs[k + 1].toNat : Int) := by
  rw [List.take_succ_eq_append_getElem h, beVal_snoc]
  intro e
  have := congrArg List.length e
  rw [List.length_take, Nat.min_eq_left (by omega)] at this
  simp at this
theorem beVal_bound8 : ∀ (j : Nat) (l : List UInt8), l.length = j + 1 → -(128 * 256 ^ j : Int) ≤ beVal l ∧ beVal l < (128 * 256 ^ j : Int) := by
  intro j
  induction j with
  | zero =>
    intro l hl
    match l, hl with
    | [b], _ =>
      have := b.toNat_lt
      simp only [beVal, List.foldl, s8]
      split <;> omega
  | succ j ih =>
    intro l hl
    obtain ⟨m, c, rfl⟩ : ∃ m c, l = m ++ [c] := ⟨l.dropLast, l.getLast (by intro e; simp [e] at hl), (List.dropLast_concat_getLast _).symm⟩
    have hm : m.length = j + 1 := by simpa using hl
    obtain ⟨h1, h2⟩ := ih m hm
    have hc := c.toNat_lt
    rw [beVal_snoc m c (by intro e; simp [e] at hm), Int.pow_succ]
    generalize (256 : Int) ^ j = P at *
    omega
theorem beVal_bound (l : List UInt8) (h : l.length ≤ 7) : -36028797018963968 ≤ beVal l ∧ beVal l < 36028797018963968 := by
  cases hl : l.length with
  | zero => simp [List.eq_nil_of_length_eq_zero hl, beVal]
  | succ j =>
    obtain ⟨h1, h2⟩ := beVal_bound8 j l hl
    have : j ≤ 6 := by omega
    have hp : (256 : Int) ^ j ≤ 256 ^ 6 := by
      match j, this with
      | 0, _ | 1, _ | 2, _ | 3, _ | 4, _ | 5, _ | 6, _ => decide
    have e6 : (256 : Int) ^ 6 = 281474976710656 := by decide
    rw [e6] at hp
    generalize (256 : Int) ^ j = P at *
    omega
theorem or_byte (n c : Int) (h1 : -36028797018963968 ≤ n) (h2 : n < 36028797018963968) (h3 : 0 ≤ c) (h4 : c < 256) : bits .or .i64 (wrap64 (n * 256)) c = n * 256 + c := by
  have e0 : wrap64 (n * 256) = n * 256 := by rw [wrap64]; omega
  rw [e0]
  obtain ⟨u, hu⟩ : ∃ u : Nat, (u : Int) = (n * 256) % 18446744073709551616 := ⟨((n * 256) % 18446744073709551616).toNat, by omega⟩
  obtain ⟨c, rfl⟩ : ∃ c' : Nat, c = (c' : Int) := ⟨c.toNat, by omega⟩
  have hu8 : u % 256 = 0 := by omega
  have hul : u < 18446744073709551616 := by omega
  have g1 : (BitVec.ofInt 64 (n * 256)).toNat = u := by
    rw [BitVec.toNat_ofInt]
    have : ((2 : Nat) ^ 64 : Nat) = 18446744073709551616 := rfl
    rw [this]
    omega
  have g2 : (BitVec.ofInt 64 (c : Int)).toNat = c := by
    rw [BitVec.ofInt_natCast, BitVec.toNat_ofNat]; exact Nat.mod_eq_of_lt (by omega)
  show IntKind.i64.wrap ((BitVec.ofInt 64 (n * 256) ||| BitVec.ofInt 64 (c : Int)).toNat : Int) = _
  rw [BitVec.toNat_or, g1, g2, nat_join8 u c hu8 (by omega), IntKind.wrap_i64]
  omega
def asIntN (X : Texts) (t : Tree) : Int × Int :=
  if (t.cls = 0 ∧ (t.tag = 2 ∨ t.tag = 10)) ∧ breaksN X t = 0 ∧ t.bytes.length ≤ 8 then (beVal t.bytes, 0) else (0, 110)

theorem breaks_short (X : Texts) (tg : Int) (co : Bool) (bs : List UInt8) (ks : List Tree) (h : tg = 2 ∨ tg = 10) (hb : breaksN X (.mk 0 tg co bs ks) = 0) : 0 < bs.length := by
  have hs : (bs = [] → shortB bs = false) := by rintro rfl; rfl
  cases bs with
  | cons b l => simp
  | nil =>
    exfalso
    simp only [breaksN] at hb
    have e : contentB X tg [] = false := by
      unfold contentB
      rw [if_neg (by omega), if_pos h]
      exact hs rfl
    rw [e] at hb
    split at hb
    · omega
    · split at hb
      · omega
      · rw [if_neg (by omega), if_neg (by omega)] at hb
        split at hb
        · omega
        · simp at hb
theorem is_f {cl tg : Int} (h : ¬ (cl = 0 ∧ (tg = 2 ∨ tg = 10))) : (cl == 0 && tg == 2) = false ∧ (cl == 0 && tg == 10) = false := by
  constructor <;> (rw [Bool.and_eq_false_iff, beq_eq_false_iff_ne, beq_eq_false_iff_ne]; omega)

set_option maxHeartbeats 1000000 in
theorem asInt_calls (X : Texts) (t : Tree) (w : World) (S : Nat → Prop) (p : At) (ht : TreeIn w S t p) :
    Calls Tryd.prog 19 #[nodeV t p] w fun e w' => e = .returned (.tuple #[.int .i64 (asIntN X t).1, .int .i64 (asIntN X t).2]) ∧ Below w.heap.size w w' := by
  obtain ⟨cl, tg, co, bs, ks⟩ := t
  have hb := Lib.hid ht.bytes_in
  have hk : Hid (ks.length ≤ p.c2 ∧ p.c2 ≤ maxLen) := Lib.hid (by obtain ⟨h1, h2, _⟩ := ht.nodes_in; exact ⟨h1, h2⟩)
  clear ht
  obtain ⟨A1, c1, A2, c2⟩ := p
  simp only [nodeV, Tree.cls, Tree.tag, Tree.cons, Tree.bytes, Tree.kids]
  have HX := Lib.hid (BoxN.alloc w (.int .i64 cl) (.int .i64 tg) (.bool co) (.slice A1 bs.length c1) (.slice A2 ks.length c2))
  have HW : Hid (Below w.heap.size w (w.alloc (.cells #[.int .i64 cl, .int .i64 tg, .bool co, .slice A1 bs.length c1, .slice A2 ks.length c2] 25))) := Lib.hid ((Below.refl _ w).alloc (Nat.le_refl _) _)
  by_cases h1 : cl = 0 ∧ (tg = 2 ∨ tg = 10)
  · obtain ⟨rfl, h2⟩ := h1
    have HR : Hid (asIntN X (.mk 0 tg co bs ks) = if breaksN X (.mk 0 tg co bs ks) = 0 ∧ bs.length ≤ 8 then (beVal bs, 0) else (0, 110)) := by
      refine Lib.hid ?_
      unfold asIntN
      simp only [Tree.cls, Tree.tag, Tree.bytes]
      by_cases hc : breaksN X (.mk 0 tg co bs ks) = 0 ∧ bs.length ≤ 8
      · rw [if_pos hc, if_pos ⟨⟨trivial, h2⟩, hc⟩]
      · rw [if_neg hc, if_neg (fun h => hc h.2)]
    by_cases h3 : tg = 2
    · subst h3
      go_enter Tryd.func19, Tryd.ntmps19
      go_wp2_with fail
      refine (is_calls (.mk 0 2 co bs ks) ⟨A1, c1, A2, c2⟩ 0 2 _).mono ?_
      rintro e w2 ⟨rfl, hB2⟩
      rw [show ((Tree.mk 0 2 co bs ks).cls == 0 && (Tree.mk 0 2 co bs ks).tag == 2) = true from rfl]
      obtain ⟨⟨c0, c1', c2', c3, c4⟩, _⟩ := (HX.out.stay hB2 (by simp)).facts
      have HX2 := Lib.hid (HX.out.stay hB2 (by simp))
      have HB2 : Hid (Below w.heap.size w w2) := Lib.hid (HW.out.trans (hB2.mono (by simp)))
      clear hB2
      go_wp2_with fail
      refine (breaks_calls X (.mk 0 2 co bs ks) w.heap.size 0 ⟨A1, c1, A2, c2⟩ w2 S ⟨c0, c1', c2', c3, c4⟩ (hb.out.stay HB2.out) hk.out (fun h => by simp only [Tree.tag] at h; omega)).mono ?_
      rintro e w3 ⟨rfl, hB3⟩
      have HB3 : Hid (Below w.heap.size w w3) := Lib.hid (HB2.out.trans (hB3.mono HB2.out.size))
      obtain ⟨⟨d0, d1, d2, d3, d4⟩, _⟩ := (HX2.out.stay hB3 (World.block_lt_of_cell? w2 _ c0)).facts
      clear hB3 c0 c1' c2' c3 c4
      have hbrk : Hid (breaksN X (.mk 0 2 co bs ks) = 0 → 0 < bs.length) := Lib.hid (breaks_short X 2 co bs ks (by omega))
      by_cases hn : breaksN X (.mk 0 2 co bs ks) = 0
      · by_cases hl : bs.length ≤ 8
        · have hn' : Hid (breaksN X (.mk 0 2 co bs ks) = 0) := Lib.hid hn
          have hn'' : ¬ 0 < breaksN X (.mk 0 2 co bs ks) := by omega
          have hpos := hbrk.out hn
          clear hn
          obtain ⟨h1, h2', h3⟩ := hb.out
          obtain ⟨b, o, rfl, _, _⟩ := h3 0 hpos
          have HBW := Lib.hid hb.out
          have HBY := Lib.hid (hb.out.stay HB3.out)
          have first := HBY.out.2.2 0 hpos
          obtain ⟨b', o', e', _, first⟩ := first
          injection e' with e'
          injection e' with e1 e2
          subst e1 e2
          rw [Nat.add_zero] at first
          unfold maxLen at h2'
          have hcap : bs.length ≤ c1 := h1
          clear hb h3 h1
          go_wp2_with fail
          all_goals
            go_loopw [4, 35] (fun a i wr => ∃ k : Nat, k + 1 ≤ bs.length ∧ i = .int .i64 k ∧ a = .int .i64 (beVal (bs.take (k + 1))) ∧ Below w.heap.size w wr) (fun _ i _ => bs.length - (intOf i).toNat)
            case atStart =>
              refine ⟨0, by omega, rfl, ?_, HB3.out⟩
              rw [s8_eq, beVal_one bs hpos]
            case round =>
              obtain ⟨k, hk1, rfl, rfl, hB⟩ := hrel
              have HBr := Lib.hid hB
              clear hB
              by_cases hlt : k + 1 < bs.length
              · obtain ⟨b', o', e', _, hcell⟩ := HBW.out.2.2 (k + 1) hlt
                injection e' with e'
                injection e' with e1 e2
                subst e1 e2
                have hcell' := (HBr.out.cell (World.block_lt_of_cell? w _ hcell)).trans hcell
                rw [show o + (k + 1) = o + 1 + k by omega] at hcell'
                have hbnd := Lib.hid (beVal_bound (bs.take (k + 1)) (by rw [List.length_take]; omega))
                have hstep := Lib.hid (beVal_step bs k hlt)
                generalize beVal (bs.take (k + 1)) = v at hbnd hstep ⊢
                clear hcell
                go_wp2_with fail
                all_goals
                  go_roundw
                  case rel =>
                    refine ⟨k + 1, by omega, by go_num, ?_, HBr.out⟩
                    have hbt := bs[k + 1].toNat_lt
                    rw [hstep.out, show wrap64 (bs[k + 1].toNat : Int) = (bs[k + 1].toNat : Int) by rw [wrap64]; omega, or_byte v _ hbnd.out.1 hbnd.out.2 (by omega) (by omega)]
                  case measure => simp [intOf]; omega
              · go_wp2_with fail
                go_ret2
                have hkl : k + 1 = bs.length := by omega
                rw [HR.out, if_pos ⟨hn'.out, by omega⟩]
                simp only [hkl, List.take_length]
                exact ⟨rfl, HBr.out⟩
        · have hn' : Hid (breaksN X (.mk 0 2 co bs ks) = 0) := Lib.hid hn
          have hl' : decide ((bs.length : Int) > 8) = true := decide_eq_true (by omega)
          have hn'' : ¬ 0 < breaksN X (.mk 0 2 co bs ks) := by omega
          clear hn
          go_wp2_with fail
          go_ret2
          rw [HR.out, if_neg (fun h => hl h.2)]
          exact ⟨rfl, HB3.out⟩
      · have hn' : 0 < breaksN X (.mk 0 2 co bs ks) := by omega
        go_wp2_with fail
        go_ret2
        rw [HR.out, if_neg (fun h => hn h.1)]
        exact ⟨rfl, HB3.out⟩
    · obtain rfl : tg = 10 := by omega
      clear h3
      go_enter Tryd.func19, Tryd.ntmps19
      go_wp2_with fail
      refine (is_calls (.mk 0 10 co bs ks) ⟨A1, c1, A2, c2⟩ 0 2 _).mono ?_
      rintro e w1 ⟨rfl, hB1⟩
      rw [show ((Tree.mk 0 10 co bs ks).cls == 0 && (Tree.mk 0 10 co bs ks).tag == 2) = false from rfl]
      obtain ⟨⟨b0, b1, b2, b3, b4⟩, _⟩ := (HX.out.stay hB1 (by simp)).facts
      go_wp2_with fail
      refine (is_calls (.mk 0 10 co bs ks) ⟨A1, c1, A2, c2⟩ 0 10 _).mono ?_
      rintro e w2 ⟨rfl, hB2⟩
      replace hB2 := hB1.trans (hB2.mono hB1.size)
      clear hB1 b0 b1 b2 b3 b4
      rw [show ((Tree.mk 0 10 co bs ks).cls == 0 && (Tree.mk 0 10 co bs ks).tag == 10) = true from rfl]
      obtain ⟨⟨c0, c1', c2', c3, c4⟩, _⟩ := (HX.out.stay hB2 (by simp)).facts
      have HX2 := Lib.hid (HX.out.stay hB2 (by simp))
      have HB2 : Hid (Below w.heap.size w w2) := Lib.hid (HW.out.trans (hB2.mono (by simp)))
      clear hB2
      go_wp2_with fail
      refine (breaks_calls X (.mk 0 10 co bs ks) w.heap.size 0 ⟨A1, c1, A2, c2⟩ w2 S ⟨c0, c1', c2', c3, c4⟩ (hb.out.stay HB2.out) hk.out (fun h => by simp only [Tree.tag] at h; omega)).mono ?_
      rintro e w3 ⟨rfl, hB3⟩
      have HB3 : Hid (Below w.heap.size w w3) := Lib.hid (HB2.out.trans (hB3.mono HB2.out.size))
      obtain ⟨⟨d0, d1, d2, d3, d4⟩, _⟩ := (HX2.out.stay hB3 (World.block_lt_of_cell? w2 _ c0)).facts
      clear hB3 c0 c1' c2' c3 c4
      have hbrk : Hid (breaksN X (.mk 0 10 co bs ks) = 0 → 0 < bs.length) := Lib.hid (breaks_short X 10 co bs ks (by omega))
      by_cases hn : breaksN X (.mk 0 10 co bs ks) = 0
      · by_cases hl : bs.length ≤ 8
        · have hn' : Hid (breaksN X (.mk 0 10 co bs ks) = 0) := Lib.hid hn
          have hn'' : ¬ 0 < breaksN X (.mk 0 10 co bs ks) := by omega
          have hpos := hbrk.out hn
          clear hn
          obtain ⟨h1, h2', h3⟩ := hb.out
          obtain ⟨b, o, rfl, _, _⟩ := h3 0 hpos
          have HBW := Lib.hid hb.out
          have HBY := Lib.hid (hb.out.stay HB3.out)
          have first := HBY.out.2.2 0 hpos
          obtain ⟨b', o', e', _, first⟩ := first
          injection e' with e'
          injection e' with e1 e2
          subst e1 e2
          rw [Nat.add_zero] at first
          unfold maxLen at h2'
          have hcap : bs.length ≤ c1 := h1
          clear hb h3 h1
          go_wp2_with fail
          all_goals
            go_loopw [4, 35] (fun a i wr => ∃ k : Nat, k + 1 ≤ bs.length ∧ i = .int .i64 k ∧ a = .int .i64 (beVal (bs.take (k + 1))) ∧ Below w.heap.size w wr) (fun _ i _ => bs.length - (intOf i).toNat)
            case atStart =>
              refine ⟨0, by omega, rfl, ?_, HB3.out⟩
              rw [s8_eq, beVal_one bs hpos]
            case round =>
              obtain ⟨k, hk1, rfl, rfl, hB⟩ := hrel
              have HBr := Lib.hid hB
              clear hB
              by_cases hlt : k + 1 < bs.length
              · obtain ⟨b', o', e', _, hcell⟩ := HBW.out.2.2 (k + 1) hlt
                injection e' with e'
                injection e' with e1 e2
                subst e1 e2
                have hcell' := (HBr.out.cell (World.block_lt_of_cell? w _ hcell)).trans hcell
                rw [show o + (k + 1) = o + 1 + k by omega] at hcell'
                have hbnd := Lib.hid (beVal_bound (bs.take (k + 1)) (by rw [List.length_take]; omega))
                have hstep := Lib.hid (beVal_step bs k hlt)
                generalize beVal (bs.take (k + 1)) = v at hbnd hstep ⊢
                clear hcell
                go_wp2_with fail
                all_goals
                  go_roundw
                  case rel =>
                    refine ⟨k + 1, by omega, by go_num, ?_, HBr.out⟩
                    have hbt := bs[k + 1].toNat_lt
                    rw [hstep.out, show wrap64 (bs[k + 1].toNat : Int) = (bs[k + 1].toNat : Int) by rw [wrap64]; omega, or_byte v _ hbnd.out.1 hbnd.out.2 (by omega) (by omega)]
                  case measure => simp [intOf]; omega
              · go_wp2_with fail
                go_ret2
                have hkl : k + 1 = bs.length := by omega
                rw [HR.out, if_pos ⟨hn'.out, by omega⟩]
                simp only [hkl, List.take_length]
                exact ⟨rfl, HBr.out⟩
        · have hn' : Hid (breaksN X (.mk 0 10 co bs ks) = 0) := Lib.hid hn
          have hl' : decide ((bs.length : Int) > 8) = true := decide_eq_true (by omega)
          have hn'' : ¬ 0 < breaksN X (.mk 0 10 co bs ks) := by omega
          clear hn
          go_wp2_with fail
          go_ret2
          rw [HR.out, if_neg (fun h => hl h.2)]
          exact ⟨rfl, HB3.out⟩
      · have hn' : 0 < breaksN X (.mk 0 10 co bs ks) := by omega
        go_wp2_with fail
        go_ret2
        rw [HR.out, if_neg (fun h => hn h.1)]
        exact ⟨rfl, HB3.out⟩
  · have hr : asIntN X (.mk cl tg co bs ks) = (0, 110) := by
      unfold asIntN
      rw [if_neg]
      intro h
      exact h1 h.1
    have HR := Lib.hid hr
    have H1 := Lib.hid (is_f h1)
    clear hr h1
    go_enter Tryd.func19, Tryd.ntmps19
    go_wp2_with fail
    refine (is_calls (.mk cl tg co bs ks) ⟨A1, c1, A2, c2⟩ 0 2 _).mono ?_
    rintro e w2 ⟨rfl, hB2⟩
    rw [show ((Tree.mk cl tg co bs ks).cls == 0 && (Tree.mk cl tg co bs ks).tag == 2) = false from H1.out.1]
    obtain ⟨⟨c0, c1', c2', c3, c4⟩, _⟩ := (HX.out.stay hB2 (by simp)).facts
    have HX2 := Lib.hid (HX.out.stay hB2 (by simp))
    have HB2 : Hid (Below w.heap.size w w2) := Lib.hid (HW.out.trans (hB2.mono (by simp)))
    clear hB2
    go_wp2_with fail
    refine (is_calls (.mk cl tg co bs ks) ⟨A1, c1, A2, c2⟩ 0 10 _).mono ?_
    rintro e w3 ⟨rfl, hB3⟩
    rw [show ((Tree.mk cl tg co bs ks).cls == 0 && (Tree.mk cl tg co bs ks).tag == 10) = false from H1.out.2]
    have HB3 : Hid (Below w.heap.size w w3) := Lib.hid (HB2.out.trans (hB3.mono HB2.out.size))
    clear hB3
    go_wp2_with fail
    go_ret2
    rw [HR.out]
    exact ⟨rfl, HB3.out⟩
end Go.Proofs.YtkjmnoaenclleaaDoor
