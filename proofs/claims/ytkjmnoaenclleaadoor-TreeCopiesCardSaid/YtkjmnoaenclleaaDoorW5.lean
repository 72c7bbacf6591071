/- Walks: what a node breaks by itself. -/
import Derived.Test.YtkjmnoaenclleaaDoorW4
set_option linter.unusedVariables false
namespace Go.Proofs.YtkjmnoaenclleaaDoor
open Go.RowKit

theorem func_nil (f : Fn) (a b : Array Value) (W : World) : (binOp .eql 61 (.func f a b) .nilFunc).run Tryd.prog W = .ok (.bool false) W := by kernel_rfl
theorem nil_nil (W : World) : (binOp .eql 61 .nilFunc .nilFunc).run Tryd.prog W = .ok (.bool true) W := by kernel_rfl

/-- UTF-8's bytes; times: said elsewhere. -/
structure Texts where
  utf8 : List UInt8 → Bool
  utc : List UInt8 → Bool
  time : List UInt8 → Bool

/-- May a universal tag have these bytes? -/
def contentB (X : Texts) (tag : Int) (bs : List UInt8) : Bool :=
  if tag = 1 then boolB bs else if tag = 2 ∨ tag = 10 then shortB bs else if tag = 3 then bitsB bs else if tag = 4 then bs.all (Each.may .all) else
  if tag = 5 then bs.length == 0 else if tag = 6 then oidB bs else if tag = 12 then X.utf8 bs else if tag = 19 then bs.all (Each.may .print) else
  if tag = 22 then bs.all (Each.may .ascii) else if tag = 23 then X.utc bs else X.time bs
/-- Is there such a universal tag with bytes? -/
def hasContent (tag : Int) : Bool :=
  tag = 1 ∨ tag = 2 ∨ tag = 10 ∨ tag = 3 ∨ tag = 4 ∨ tag = 5 ∨ tag = 6 ∨ tag = 12 ∨ tag = 19 ∨ tag = 22 ∨ tag = 23 ∨ tag = 24
/-- The checks of texts, in this world and in all that come behind it. -/
def Hard (X : Texts) (w : World) : Prop :=
  ∀ W, Below w.heap.size w W → ∀ (S : Nat → Prop) (A : Option Addr) (c : Nat) (bs : List UInt8), BytesIn W S A c bs →
    (Calls Tryd.prog 44 #[.slice A bs.length c] W fun e w' => e = .returned (.bool (X.utf8 bs)) ∧ Below W.heap.size W w') ∧
    (Calls Tryd.prog 48 #[.slice A bs.length c] W fun e w' => e = .returned (.bool (X.utc bs)) ∧ Below W.heap.size W w') ∧
    (Calls Tryd.prog 49 #[.slice A bs.length c] W fun e w' => e = .returned (.bool (X.time bs)) ∧ Below W.heap.size W w')
theorem Hard.stay {X : Texts} {w w' : World} (h : Hard X w) (hb : Below w.heap.size w w') : Hard X w' :=
  fun W hW => h W (hb.trans (hW.mono hb.size))
/-- A node whose text is checked: then this is known. -/
def Soft (X : Texts) (w : World) (tag : Int) : Prop := tag = 12 ∨ tag = 23 ∨ tag = 24 → Hard X w

theorem below_drewN' (w : World) (n : Nat) : Below w.heap.size w (w.drewN n) := ⟨rfl, rfl, rfl, Nat.le_refl _, fun _ _ => rfl⟩

/-- The check that fits answers, called. -/
def CheckGives (X : Texts) (tag : Int) (W : World) (v : Value) (A : Option Addr) (c : Nat) (bs : List UInt8) : Prop :=
  ∃ f cap, v = .func (.func f) #[] cap ∧ Calls Tryd.prog f (#[.slice A bs.length c] ++ cap) W fun e w' => e = .returned (.bool (contentB X tag bs)) ∧ Below W.heap.size W w'

/-- The least rule that a node breaks by itself; 0: none. -/
def breaksN (X : Texts) : Tree → Nat
  | .mk cl tg co bs ks =>
    if cl < 0 ∨ 3 < cl ∨ tg < 0 ∨ 30 < tg then 1 else
    if co = true ∧ bs ≠ [] ∨ co = false ∧ ks ≠ [] then 2 else
    if cl ≠ 0 then 0 else
    if tg = 16 ∨ tg = 17 then (if co then 0 else 3) else
    if co = true ∨ hasContent tg = false then 3 else
    if contentB X tg bs then 0 else 4

set_option maxRecDepth 100000 in
set_option maxHeartbeats 4000000 in
theorem breaks_prim (X : Texts) (cl tg : Int) (bs : List UInt8) (ks : List Tree) (g o : Nat) (A1 : Option Addr) (c1 : Nat) (A2 : Option Addr) (c2 : Nat) (w : World) (S : Nat → Prop)
    (r1a : ¬ cl < 0) (r1b : ¬ 3 < cl) (r1c : ¬ tg < 0) (r1d : ¬ 30 < tg)
    (h0 : w.cell? ⟨g, o, none⟩ = some (.int .i64 cl)) (h1 : w.cell? ⟨g, o + 1, none⟩ = some (.int .i64 tg)) (h2 : w.cell? ⟨g, o + 2, none⟩ = some (.bool false))
    (h3 : w.cell? ⟨g, o + 3, none⟩ = some (.slice A1 bs.length c1)) (h4 : w.cell? ⟨g, o + 4, none⟩ = some (.slice A2 ks.length c2))
    (hk1 : ks.length ≤ c2) (hk2 : c2 ≤ 2 ^ 63 - 1) (hb1 : bs.length ≤ c1) (hb2 : c1 ≤ 2 ^ 63 - 1) (HBY : Hid (BytesIn w S A1 c1 bs)) (HS : Hid (Soft X w tg)) (q2 : ¬ 0 < ks.length) (g3 : (cl != 0) = false)
    (E3 : Hid (breaksN X (.mk cl tg false bs ks) = if tg = 16 ∨ tg = 17 then (if false then 0 else 3) else if false = true ∨ hasContent tg = false then 3 else if contentB X tg bs then 0 else 4)) :
    Calls Tryd.prog 29 #[.pointer (some ⟨g, o, none⟩)] w fun e w' => e = .returned (.int .i64 (breaksN X (.mk cl tg false bs ks) : Int)) ∧ Below w.heap.size w w' := by
  by_cases r4 : tg = 16 ∨ tg = 17
  · have RV := Lib.hid (E3.out.trans (if_pos r4))
    clear E3
    rcases r4 with rfl | rfl <;>
    · go_enter Tryd.func29, Tryd.ntmps29
      go_wp2_with fail
      refine (fits_calls _ _).mono ?_
      rintro e w1 ⟨⟨v, rfl, hc⟩, hB⟩
      clear hc
      have h0 := (hB.cell (World.block_lt_of_cell? w _ h0)).trans h0
      have h1 := (hB.cell (World.block_lt_of_cell? w _ h1)).trans h1
      have h2 := (hB.cell (World.block_lt_of_cell? w _ h2)).trans h2
      have h3 := (hB.cell (World.block_lt_of_cell? w _ h3)).trans h3
      go_wp2_with fail
      go_ret
      exact ⟨ret_int (by rw [RV.out]; rfl), hB⟩
  · have g4 := eq_f (fun h => r4 (.inl h))
    have g5 := eq_f (fun h => r4 (.inr h))
    have E4 := Lib.hid (E3.out.trans (if_neg r4))
    clear E3 r4
    have hf1 := func_nil
    have hf2 := nil_nil
    go_enter Tryd.func29, Tryd.ntmps29
    go_wp2_with fail
    refine (fits_calls _ _).mono ?_
    rintro e w1 ⟨⟨v, rfl, hc⟩, hB⟩
    have h0 := (hB.cell (World.block_lt_of_cell? w _ h0)).trans h0
    have h1 := (hB.cell (World.block_lt_of_cell? w _ h1)).trans h1
    have h2 := (hB.cell (World.block_lt_of_cell? w _ h2)).trans h2
    have h3 := (hB.cell (World.block_lt_of_cell? w _ h3)).trans h3
    have hb' := HBY.out.stay hB
    have B' := Lib.hid hb'; clear hb'
    unfold Checks at hc
    have HR := Lib.hid (HS.out); clear HS
    rcases hc with ⟨rfl, rfl⟩ | ⟨rfl | rfl, rfl⟩ | ⟨rfl, rfl⟩ | ⟨q, B, ⟨rfl, rfl⟩ | ⟨rfl, rfl⟩ | ⟨rfl, rfl⟩, rfl, hcl⟩ | ⟨rfl, rfl⟩ | ⟨rfl, rfl⟩ | ⟨rfl, rfl⟩ | ⟨rfl, rfl⟩ | ⟨rfl, rfl⟩ | ⟨n1, n2, n3, n4, n5, n6, n7, n8, n9, n10, n11, n12, rfl⟩
    · go_wp2_with fail
      refine (bool_calls w1 S A1 c1 bs B'.out).mono ?_
      rintro e w2 ⟨rfl, n, rfl⟩
      have RV := Lib.hid (E4.out.trans (if_neg (by decide)))
      have K : Hid (contentB X 1 bs = boolB bs) := by show _ = _; simp [contentB]
      cases hq : boolB bs with
      | true =>
        have Q := Lib.hid hq; clear hq
        go_wp2_with fail
        go_ret
        exact ⟨ret_int (by rw [RV.out, K.out, Q.out]; rfl), hB.trans ((below_drewN' w1 n).mono hB.size)⟩
      | false =>
        have Q := Lib.hid hq; clear hq
        go_wp2_with fail
        go_ret
        exact ⟨ret_int (by rw [RV.out, K.out, Q.out]; rfl), hB.trans ((below_drewN' w1 n).mono hB.size)⟩
    · go_wp2_with fail
      refine (short_calls w1 S A1 c1 bs B'.out).mono ?_
      rintro e w2 ⟨rfl, n, rfl⟩
      have RV := Lib.hid (E4.out.trans (if_neg (by decide)))
      have K : Hid (contentB X 2 bs = shortB bs) := by show _ = _; simp [contentB]
      cases hq : shortB bs with
      | true =>
        have Q := Lib.hid hq; clear hq
        go_wp2_with fail
        go_ret
        exact ⟨ret_int (by rw [RV.out, K.out, Q.out]; rfl), hB.trans ((below_drewN' w1 n).mono hB.size)⟩
      | false =>
        have Q := Lib.hid hq; clear hq
        go_wp2_with fail
        go_ret
        exact ⟨ret_int (by rw [RV.out, K.out, Q.out]; rfl), hB.trans ((below_drewN' w1 n).mono hB.size)⟩
    · go_wp2_with fail
      refine (short_calls w1 S A1 c1 bs B'.out).mono ?_
      rintro e w2 ⟨rfl, n, rfl⟩
      have RV := Lib.hid (E4.out.trans (if_neg (by decide)))
      have K : Hid (contentB X 10 bs = shortB bs) := by show _ = _; simp [contentB]
      cases hq : shortB bs with
      | true =>
        have Q := Lib.hid hq; clear hq
        go_wp2_with fail
        go_ret
        exact ⟨ret_int (by rw [RV.out, K.out, Q.out]; rfl), hB.trans ((below_drewN' w1 n).mono hB.size)⟩
      | false =>
        have Q := Lib.hid hq; clear hq
        go_wp2_with fail
        go_ret
        exact ⟨ret_int (by rw [RV.out, K.out, Q.out]; rfl), hB.trans ((below_drewN' w1 n).mono hB.size)⟩
    · go_wp2_with fail
      refine (bits_calls w1 S A1 c1 bs B'.out).mono ?_
      rintro e w2 ⟨rfl, n, rfl⟩
      have RV := Lib.hid (E4.out.trans (if_neg (by decide)))
      have K : Hid (contentB X 3 bs = bitsB bs) := by show _ = _; simp [contentB]
      cases hq : bitsB bs with
      | true =>
        have Q := Lib.hid hq; clear hq
        go_wp2_with fail
        go_ret
        exact ⟨ret_int (by rw [RV.out, K.out, Q.out]; rfl), hB.trans ((below_drewN' w1 n).mono hB.size)⟩
      | false =>
        have Q := Lib.hid hq; clear hq
        go_wp2_with fail
        go_ret
        exact ⟨ret_int (by rw [RV.out, K.out, Q.out]; rfl), hB.trans ((below_drewN' w1 n).mono hB.size)⟩
    · go_wp2_with fail
      refine (only_calls .all B w1 S A1 c1 bs B'.out hcl).mono ?_
      rintro e w2 ⟨rfl, rfl⟩
      have RV := Lib.hid (E4.out.trans (if_neg (by decide)))
      have K : Hid (contentB X 4 bs = bs.all (Each.may .all)) := by show _ = _; simp [contentB]
      cases hq : bs.all (Each.may .all) with
      | true =>
        have Q := Lib.hid hq; clear hq
        go_wp2_with fail
        go_ret
        exact ⟨ret_int (by rw [RV.out, K.out, Q.out]; rfl), hB⟩
      | false =>
        have Q := Lib.hid hq; clear hq
        go_wp2_with fail
        go_ret
        exact ⟨ret_int (by rw [RV.out, K.out, Q.out]; rfl), hB⟩
    · go_wp2_with fail
      refine (only_calls .print B w1 S A1 c1 bs B'.out hcl).mono ?_
      rintro e w2 ⟨rfl, rfl⟩
      have RV := Lib.hid (E4.out.trans (if_neg (by decide)))
      have K : Hid (contentB X 19 bs = bs.all (Each.may .print)) := by show _ = _; simp [contentB]
      cases hq : bs.all (Each.may .print) with
      | true =>
        have Q := Lib.hid hq; clear hq
        go_wp2_with fail
        go_ret
        exact ⟨ret_int (by rw [RV.out, K.out, Q.out]; rfl), hB⟩
      | false =>
        have Q := Lib.hid hq; clear hq
        go_wp2_with fail
        go_ret
        exact ⟨ret_int (by rw [RV.out, K.out, Q.out]; rfl), hB⟩
    · go_wp2_with fail
      refine (only_calls .ascii B w1 S A1 c1 bs B'.out hcl).mono ?_
      rintro e w2 ⟨rfl, rfl⟩
      have RV := Lib.hid (E4.out.trans (if_neg (by decide)))
      have K : Hid (contentB X 22 bs = bs.all (Each.may .ascii)) := by show _ = _; simp [contentB]
      cases hq : bs.all (Each.may .ascii) with
      | true =>
        have Q := Lib.hid hq; clear hq
        go_wp2_with fail
        go_ret
        exact ⟨ret_int (by rw [RV.out, K.out, Q.out]; rfl), hB⟩
      | false =>
        have Q := Lib.hid hq; clear hq
        go_wp2_with fail
        go_ret
        exact ⟨ret_int (by rw [RV.out, K.out, Q.out]; rfl), hB⟩
    · go_wp2_with fail
      refine (null_calls w1 S A1 c1 bs B'.out).mono ?_
      rintro e w2 ⟨rfl, n, rfl⟩
      have RV := Lib.hid (E4.out.trans (if_neg (by decide)))
      have K : Hid (contentB X 5 bs = (bs.length == 0)) := by show _ = _; simp [contentB]
      cases hq : (bs.length == 0) with
      | true =>
        have Q := Lib.hid hq; clear hq
        go_wp2_with fail
        go_ret
        exact ⟨ret_int (by rw [RV.out, K.out, Q.out]; rfl), hB.trans ((below_drewN' w1 n).mono hB.size)⟩
      | false =>
        have Q := Lib.hid hq; clear hq
        go_wp2_with fail
        go_ret
        exact ⟨ret_int (by rw [RV.out, K.out, Q.out]; rfl), hB.trans ((below_drewN' w1 n).mono hB.size)⟩
    · go_wp2_with fail
      refine (oid_calls w1 S A1 c1 bs B'.out).mono ?_
      rintro e w2 ⟨rfl, n, rfl⟩
      have RV := Lib.hid (E4.out.trans (if_neg (by decide)))
      have K : Hid (contentB X 6 bs = oidB bs) := by show _ = _; simp [contentB]
      cases hq : oidB bs with
      | true =>
        have Q := Lib.hid hq; clear hq
        go_wp2_with fail
        go_ret
        exact ⟨ret_int (by rw [RV.out, K.out, Q.out]; rfl), hB.trans ((below_drewN' w1 n).mono hB.size)⟩
      | false =>
        have Q := Lib.hid hq; clear hq
        go_wp2_with fail
        go_ret
        exact ⟨ret_int (by rw [RV.out, K.out, Q.out]; rfl), hB.trans ((below_drewN' w1 n).mono hB.size)⟩
    · go_wp2_with fail
      refine ((HR.out (.inl rfl) w1 hB S A1 c1 bs B'.out).1).mono ?_
      rintro e w2 ⟨rfl, hB2⟩
      have RV := Lib.hid (E4.out.trans (if_neg (by decide)))
      have K : Hid (contentB X 12 bs = X.utf8 bs) := by show _ = _; simp [contentB]
      cases hq : X.utf8 bs with
      | true =>
        have Q := Lib.hid hq; clear hq
        go_wp2_with fail
        go_ret
        exact ⟨ret_int (by rw [RV.out, K.out, Q.out]; rfl), hB.trans (hB2.mono hB.size)⟩
      | false =>
        have Q := Lib.hid hq; clear hq
        go_wp2_with fail
        go_ret
        exact ⟨ret_int (by rw [RV.out, K.out, Q.out]; rfl), hB.trans (hB2.mono hB.size)⟩
    · go_wp2_with fail
      refine ((HR.out (.inr (.inl rfl)) w1 hB S A1 c1 bs B'.out).2.1).mono ?_
      rintro e w2 ⟨rfl, hB2⟩
      have RV := Lib.hid (E4.out.trans (if_neg (by decide)))
      have K : Hid (contentB X 23 bs = X.utc bs) := by show _ = _; simp [contentB]
      cases hq : X.utc bs with
      | true =>
        have Q := Lib.hid hq; clear hq
        go_wp2_with fail
        go_ret
        exact ⟨ret_int (by rw [RV.out, K.out, Q.out]; rfl), hB.trans (hB2.mono hB.size)⟩
      | false =>
        have Q := Lib.hid hq; clear hq
        go_wp2_with fail
        go_ret
        exact ⟨ret_int (by rw [RV.out, K.out, Q.out]; rfl), hB.trans (hB2.mono hB.size)⟩
    · go_wp2_with fail
      refine ((HR.out (.inr (.inr rfl)) w1 hB S A1 c1 bs B'.out).2.2).mono ?_
      rintro e w2 ⟨rfl, hB2⟩
      have RV := Lib.hid (E4.out.trans (if_neg (by decide)))
      have K : Hid (contentB X 24 bs = X.time bs) := by show _ = _; simp [contentB]
      cases hq : X.time bs with
      | true =>
        have Q := Lib.hid hq; clear hq
        go_wp2_with fail
        go_ret
        exact ⟨ret_int (by rw [RV.out, K.out, Q.out]; rfl), hB.trans (hB2.mono hB.size)⟩
      | false =>
        have Q := Lib.hid hq; clear hq
        go_wp2_with fail
        go_ret
        exact ⟨ret_int (by rw [RV.out, K.out, Q.out]; rfl), hB.trans (hB2.mono hB.size)⟩
    · have RV := Lib.hid (E4.out.trans (if_pos (.inr (by simp [hasContent, *]))))
      clear n1 n2 n3 n4 n5 n6 n7 n8 n9 n10 n11 n12
      go_wp2_with fail
      go_ret
      exact ⟨ret_int (by rw [RV.out]; rfl), hB⟩

set_option maxRecDepth 100000 in
set_option maxHeartbeats 4000000 in
theorem breaks_calls (X : Texts) (t : Tree) (g o : Nat) (p : At) (w : World) (S : Nat → Prop) (hn : NodeAt w g o t p) (hb : BytesIn w S p.A1 p.c1 t.bytes) (hk : t.kids.length ≤ p.c2 ∧ p.c2 ≤ maxLen) (hs : Soft X w t.tag) :
    Calls Tryd.prog 29 #[.pointer (some ⟨g, o, none⟩)] w fun e w' => e = .returned (.int .i64 (breaksN X t : Int)) ∧ Below w.heap.size w w' := by
  obtain ⟨cl, tg, co, bs, ks⟩ := t
  obtain ⟨A1, c1, A2, c2⟩ := p
  obtain ⟨h0, h1, h2, h3, h4⟩ := hn
  simp only [Tree.cls, Tree.tag, Tree.cons, Tree.bytes, Tree.kids] at h0 h1 h2 h3 h4 hb hk hs
  obtain ⟨hk1, hk2⟩ := hk
  have hb1 := hb.1
  have hb2 := hb.2.1
  have HBY := Lib.hid hb; clear hb
  have HS := Lib.hid hs; clear hs
  unfold maxLen at hk2 hb2
  by_cases r1 : cl < 0 ∨ 3 < cl ∨ tg < 0 ∨ 30 < tg
  · have RV : Hid (breaksN X (.mk cl tg co bs ks) = 1) := by show _ = _; rw [breaksN, if_pos r1]
    rcases (by omega : cl < 0 ∨ (¬ cl < 0 ∧ 3 < cl) ∨ (¬ cl < 0 ∧ ¬ 3 < cl ∧ tg < 0) ∨ (¬ cl < 0 ∧ ¬ 3 < cl ∧ ¬ tg < 0 ∧ 30 < tg)) with q | ⟨q1, q⟩ | ⟨q1, q2, q⟩ | ⟨q1, q2, q3, q⟩ <;>
    · clear r1
      go_enter Tryd.func29, Tryd.ntmps29
      go_wp2_with fail
      go_ret
      exact ⟨ret_int (by rw [RV.out]; rfl), Below.refl _ _⟩
  · have E1 : Hid (breaksN X (.mk cl tg co bs ks) = if co = true ∧ bs ≠ [] ∨ co = false ∧ ks ≠ [] then 2 else
      if cl ≠ 0 then 0 else if tg = 16 ∨ tg = 17 then (if co then 0 else 3) else if co = true ∨ hasContent tg = false then 3 else if contentB X tg bs then 0 else 4) := by
      show _ = _; rw [breaksN, if_neg r1]
    obtain ⟨r1a, r1b, r1c, r1d⟩ : ¬ cl < 0 ∧ ¬ 3 < cl ∧ ¬ tg < 0 ∧ ¬ 30 < tg := by omega
    clear r1
    by_cases r2 : co = true ∧ bs ≠ [] ∨ co = false ∧ ks ≠ []
    · have RV : Hid (breaksN X (.mk cl tg co bs ks) = 2) := E1.out.trans (if_pos r2)
      clear E1
      rcases r2 with ⟨rfl, r2⟩ | ⟨rfl, r2⟩
      · have q : 0 < bs.length := List.length_pos_iff.2 r2
        clear r2
        go_enter Tryd.func29, Tryd.ntmps29
        go_wp2_with fail
        go_ret
        exact ⟨ret_int (by rw [RV.out]; rfl), Below.refl _ _⟩
      · have q : 0 < ks.length := List.length_pos_iff.2 r2
        clear r2
        go_enter Tryd.func29, Tryd.ntmps29
        go_wp2_with fail
        go_ret
        exact ⟨ret_int (by rw [RV.out]; rfl), Below.refl _ _⟩
    · have E2 := Lib.hid (E1.out.trans (if_neg r2))
      have q2 : co = true ∧ ¬ 0 < bs.length ∨ co = false ∧ ¬ 0 < ks.length := by
        cases co
        · exact .inr ⟨rfl, fun h => r2 (.inr ⟨rfl, List.length_pos_iff.1 h⟩)⟩
        · exact .inl ⟨rfl, fun h => r2 (.inl ⟨rfl, List.length_pos_iff.1 h⟩)⟩
      clear r2 E1
      by_cases r3 : cl = 0
      · have g3 := ne_f r3
        have E3 := Lib.hid (E2.out.trans (if_neg (fun h => h r3)))
        clear r3 E2
        rcases q2 with ⟨rfl, q2⟩ | ⟨rfl, q2⟩
        · -- constructed
          by_cases r4 : tg = 16 ∨ tg = 17
          · have RV := Lib.hid (E3.out.trans (if_pos r4))
            clear E3
            rcases r4 with rfl | rfl <;>
            · go_enter Tryd.func29, Tryd.ntmps29
              go_wp2_with fail
              refine (fits_calls _ _).mono ?_
              rintro e w1 ⟨⟨v, rfl, hc⟩, hB⟩
              obtain rfl : v = .nilFunc := by simpa [Checks] using hc
              clear hc
              have h0 := (hB.cell (World.block_lt_of_cell? w _ h0)).trans h0
              have h1 := (hB.cell (World.block_lt_of_cell? w _ h1)).trans h1
              have h2 := (hB.cell (World.block_lt_of_cell? w _ h2)).trans h2
              have h3 := (hB.cell (World.block_lt_of_cell? w _ h3)).trans h3
              go_wp2_with fail
              go_ret
              exact ⟨ret_int (by rw [RV.out]; rfl), hB⟩
          · have RV := Lib.hid ((E3.out.trans (if_neg r4)).trans (if_pos (.inl rfl)))
            have g4 := eq_f (fun h => r4 (.inl h))
            have g5 := eq_f (fun h => r4 (.inr h))
            clear E3 r4
            go_enter Tryd.func29, Tryd.ntmps29
            go_wp2_with fail
            refine (fits_calls _ _).mono ?_
            rintro e w1 ⟨⟨v, rfl, hc⟩, hB⟩
            clear hc
            have h0 := (hB.cell (World.block_lt_of_cell? w _ h0)).trans h0
            have h1 := (hB.cell (World.block_lt_of_cell? w _ h1)).trans h1
            have h2 := (hB.cell (World.block_lt_of_cell? w _ h2)).trans h2
            have h3 := (hB.cell (World.block_lt_of_cell? w _ h3)).trans h3
            go_wp2_with fail
            go_ret
            exact ⟨ret_int (by rw [RV.out]; rfl), hB⟩
        · exact breaks_prim X cl tg bs ks g o A1 c1 A2 c2 w S r1a r1b r1c r1d h0 h1 h2 h3 h4 hk1 hk2 hb1 hb2 HBY HS q2 g3 E3
      · have g3 := ne_t r3
        have RV := Lib.hid (E2.out.trans (if_pos r3))
        clear r3 E2
        rcases q2 with ⟨rfl, q2⟩ | ⟨rfl, q2⟩ <;>
        · go_enter Tryd.func29, Tryd.ntmps29
          go_wp2_with fail
          go_ret
          exact ⟨ret_int (by rw [RV.out]; rfl), Below.refl _ _⟩
end Go.Proofs.YtkjmnoaenclleaaDoor
