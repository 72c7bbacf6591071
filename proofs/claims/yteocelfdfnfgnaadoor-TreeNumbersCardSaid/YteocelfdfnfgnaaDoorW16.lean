/- The walk of TreeNumbers. -/
import Derived.Test.YteocelfdfnfgnaaDoorP2
set_option linter.unusedVariables false
namespace Go.Proofs.YteocelfdfnfgnaaDoor
open Go.RowKit

def X0 : Texts := ⟨fun _ => false, fun _ => false, fun _ => false⟩

set_option maxRecDepth 100000 in
set_option maxHeartbeats 1000000 in
theorem numbers_calls (n m : Int) (w : World) (h1 : -9223372036854775808 ≤ n) (h2 : n < 9223372036854775808) (g1 : -9223372036854775808 ≤ m) (g2 : m < 9223372036854775808) :
    Calls Tryd.prog 5 #[.int .i64 n, .int .i64 m] w fun e w' => e = .returned (.bool true) ∧ Below w.heap.size w w' := by
  go_enter Tryd.func5, Tryd.ntmps5
  go_wp2_with fail
  refine (alive_calls X0 w).mono ?_
  rintro e w1 ⟨rfl, hB1⟩
  have HB1 := Lib.hid hB1
  clear hB1
  go_wp2_with fail
  refine (int_calls n w1 h1 h2).mono ?_
  rintro e w2 ⟨p, F, rfl, hO2, hB2⟩
  have HB2 : Hid (Below w.heap.size w w2) := Lib.hid (HB1.out.trans (hB2.mono HB1.out.size))
  have HO2 := Lib.hid hO2.reads
  clear hO2 hB2
  go_wp2_with fail
  refine (int_calls m w2 g1 g2).mono ?_
  rintro e w3 ⟨q, G, rfl, hO3, hB3⟩
  have HB3 : Hid (Below w.heap.size w w3) := Lib.hid (HB2.out.trans (hB3.mono HB2.out.size))
  have HP3 := Lib.hid (HO2.out.stay hB3)
  have HQ3 := Lib.hid hO3.reads
  clear hO3 hB3
  simp only [nodeV, Tree.cls, Tree.tag, Tree.cons, Tree.bytes, Tree.kids]
  go_wp2_with fail
  refine (asInt_calls X0 (numT n) _ _ p (HP3.out.stay (((Below.refl _ w3).alloc (Nat.le_refl _) _).alloc (by simp) _))).mono ?_
  rintro e w4 ⟨rfl, hB4⟩
  rw [num_asInt X0 h1 h2]
  have HW4 : Hid (Below w3.heap.size w3 w4) := Lib.hid ((((Below.refl _ w3).alloc (Nat.le_refl _) _).alloc (by simp) _).trans (hB4.mono (by simp; omega)))
  have HX := Lib.hid ((box_first w3 (.cells #[.int .i64 0, .int .i64 2, .bool false, .slice q.A1 (intBytes m).length q.c1, .slice q.A2 0 q.c2] 25) (.int .i64 0) (.int .i64 2) (.bool false) (.slice p.A1 (intBytes n).length p.c1) (.slice p.A2 0 p.c2)).stay hB4 (by simp; omega))
  have HY := Lib.hid ((box_second w3 (.cells #[.int .i64 0, .int .i64 2, .bool false, .slice p.A1 (intBytes n).length p.c1, .slice p.A2 0 p.c2] 25) (.int .i64 0) (.int .i64 2) (.bool false) (.slice q.A1 (intBytes m).length q.c1) (.slice q.A2 0 q.c2)).stay hB4 (by simp))
  have hsz4 := HW4.out.size
  have HB4 : Hid (Below w.heap.size w w4) := Lib.hid (HB3.out.trans (HW4.out.mono HB3.out.size))
  have HP4 := Lib.hid (HP3.out.stay HW4.out)
  have HQ4 := Lib.hid (HQ3.out.stay HW4.out)
  clear hB4 HP3 HQ3 HW4 HB1 HB2 HO2 HB3
  obtain ⟨⟨x0, x1, x2, x3, x4⟩, _⟩ := HX.out.facts
  go_upto_region 4 with fail
  go_cut [10] from 23 to 26 (fun v wx => ∃ s : Nat, v = .int .i64 s ∧ Hid (s = (intBytes n).length) ∧ wx = w4)
  case first =>
    go_wp2_with fail
    go_meet
    exact ⟨_, rfl, Lib.hid rfl, rfl⟩
  case rest =>
    obtain ⟨s, rfl, HS, rfl⟩ := hcut
    have hs1 : 1 ≤ s := by rw [HS.out]; exact (num_len n).1
    have hs8 : s ≤ 8 := by rw [HS.out]; exact (num_len n).2
    have hnn : (n != n) = false := by simp
    clear x0 x1 x2 x3 x4
    obtain ⟨⟨x0, x1, x2, x3, x4⟩, _⟩ := HX.out.facts
    go_wp2_with fail
    have hleaf : AllTags (Soft X0 wc) (numT n) := AllTags.leaf (fun hx => by omega)
    refine (check_calls X0 (numT n) wc _ p HP4.out (by unfold numT; rw [Tree.nodes_mk, Tree.nodesL_nil]; omega) hleaf).mono ?_
    rintro e w5 ⟨rfl, hB5⟩
    rw [num_wrong X0 h1 h2, show (if 0 < ((0 : Int), (-1 : Int)).1 then (110 : Int) else 0) = 0 from rfl]
    have hx5 := HX.out.stay hB5 (World.block_lt_of_cell? wc _ x0)
    have hy5 := HY.out.stay hB5 (World.block_lt_of_cell? wc _ HY.out.facts.1.1)
    have HX5 := Lib.hid hx5
    have HY5 := Lib.hid hy5
    have HB5 : Hid (Below w.heap.size w w5) := Lib.hid (HB4.out.trans (hB5.mono HB4.out.size))
    have HP5 := Lib.hid (HP4.out.stay hB5)
    have HQ5 := Lib.hid (HQ4.out.stay hB5)
    clear hx5 hy5 hB5 hleaf HX HY HB4 HP4 HQ4 x0 x1 x2 x3 x4
    obtain ⟨⟨x0, x1, x2, x3, x4⟩, _⟩ := HX5.out.facts
    go_wp2_with fail
    refine (is_calls (numT n) p 0 2 w5).mono ?_
    rintro e w6 ⟨rfl, hB6⟩
    rw [show ((numT n).cls == 0 && (numT n).tag == 2) = true from rfl]
    have HX6 := Lib.hid (HX5.out.stay hB6 (World.block_lt_of_cell? w5 _ x0))
    have HY6 := Lib.hid (HY5.out.stay hB6 (World.block_lt_of_cell? w5 _ HY5.out.facts.1.1))
    have HB6 : Hid (Below w.heap.size w w6) := Lib.hid (HB5.out.trans (hB6.mono HB5.out.size))
    have HP6 := Lib.hid (HP5.out.stay hB6)
    have HQ6 := Lib.hid (HQ5.out.stay hB6)
    clear hB6 HX5 HY5 HB5 HP5 HQ5 x0 x1 x2 x3 x4
    go_upto_region 7 with fail
    have hfit : -(cap s) ≤ n ∧ n < cap s := by rw [HS.out]; exact num_fits h1 h2
    have hless : s = 1 ∨ cap (s - 1) ≤ n ∨ n < -(cap (s - 1)) := by rw [HS.out]; exact num_less n
    have HFIT := Lib.hid hfit
    have HLESS := Lib.hid hless
    clear hfit hless
    go_cut [11] from 51 to 71 (fun v wx => v = .bool true ∧ wx = w6)
    case first =>
      obtain ⟨v1, v2, v3, v4, v5, v6, v7, v8⟩ := cap_vals
      have hfit := HFIT.out
      clear HFIT HLESS HS
      have hs : s = 1 ∨ s = 2 ∨ s = 3 ∨ s = 4 ∨ s = 5 ∨ s = 6 ∨ s = 7 ∨ s = 8 := by omega
      rcases hs with rfl | rfl | rfl | rfl | rfl | rfl | rfl | rfl
      · rw [v1] at hfit
        clear v1 v2 v3 v4 v5 v6 v7 v8
        have q1 : decide (n < 128) = true := decide_eq_true hfit.2
        have q2 : decide (n ≥ -128) = true := decide_eq_true hfit.1
        have q3 : decide (-128 ≤ n) = true := decide_eq_true hfit.1
        clear hfit
        go_wp2_with fail
        go_meet
        exact ⟨rfl, rfl⟩
      · rw [v2] at hfit
        clear v1 v2 v3 v4 v5 v6 v7 v8
        have q1 : decide (n < 32768) = true := decide_eq_true hfit.2
        have q2 : decide (n ≥ -32768) = true := decide_eq_true hfit.1
        have q3 : decide (-32768 ≤ n) = true := decide_eq_true hfit.1
        clear hfit
        go_wp2_with fail
        go_meet
        exact ⟨rfl, rfl⟩
      · rw [v3] at hfit
        clear v1 v2 v3 v4 v5 v6 v7 v8
        have q1 : decide (n < 8388608) = true := decide_eq_true hfit.2
        have q2 : decide (n ≥ -8388608) = true := decide_eq_true hfit.1
        have q3 : decide (-8388608 ≤ n) = true := decide_eq_true hfit.1
        clear hfit
        go_wp2_with fail
        go_meet
        exact ⟨rfl, rfl⟩
      · rw [v4] at hfit
        clear v1 v2 v3 v4 v5 v6 v7 v8
        have q1 : decide (n < 2147483648) = true := decide_eq_true hfit.2
        have q2 : decide (n ≥ -2147483648) = true := decide_eq_true hfit.1
        have q3 : decide (-2147483648 ≤ n) = true := decide_eq_true hfit.1
        clear hfit
        go_wp2_with fail
        go_meet
        exact ⟨rfl, rfl⟩
      · rw [v5] at hfit
        clear v1 v2 v3 v4 v5 v6 v7 v8
        have q1 : decide (n < 549755813888) = true := decide_eq_true hfit.2
        have q2 : decide (n ≥ -549755813888) = true := decide_eq_true hfit.1
        have q3 : decide (-549755813888 ≤ n) = true := decide_eq_true hfit.1
        clear hfit
        go_wp2_with fail
        go_meet
        exact ⟨rfl, rfl⟩
      · rw [v6] at hfit
        clear v1 v2 v3 v4 v5 v6 v7 v8
        have q1 : decide (n < 140737488355328) = true := decide_eq_true hfit.2
        have q2 : decide (n ≥ -140737488355328) = true := decide_eq_true hfit.1
        have q3 : decide (-140737488355328 ≤ n) = true := decide_eq_true hfit.1
        clear hfit
        go_wp2_with fail
        go_meet
        exact ⟨rfl, rfl⟩
      · rw [v7] at hfit
        clear v1 v2 v3 v4 v5 v6 v7 v8
        have q1 : decide (n < 36028797018963968) = true := decide_eq_true hfit.2
        have q2 : decide (n ≥ -36028797018963968) = true := decide_eq_true hfit.1
        have q3 : decide (-36028797018963968 ≤ n) = true := decide_eq_true hfit.1
        clear hfit
        go_wp2_with fail
        go_meet
        exact ⟨rfl, rfl⟩
      · clear v1 v2 v3 v4 v5 v6 v7 v8 hfit
        go_wp2_with fail
        go_meet
        exact ⟨rfl, rfl⟩
    case rest =>
      obtain ⟨rfl, rfl⟩ := hcut
      go_upto_region 8 with fail
      go_cut [12] from 71 to 91 (fun v wx => v = .bool true ∧ wx = wc)
      case first =>
        obtain ⟨v1, v2, v3, v4, v5, v6, v7, v8⟩ := cap_vals
        have hless := HLESS.out
        clear HFIT HLESS HS
        have hs : s = 1 ∨ s = 2 ∨ s = 3 ∨ s = 4 ∨ s = 5 ∨ s = 6 ∨ s = 7 ∨ s = 8 := by omega
        rcases hs with rfl | rfl | rfl | rfl | rfl | rfl | rfl | rfl
        · clear v1 v2 v3 v4 v5 v6 v7 v8 hless
          go_wp2_with fail
          go_meet
          exact ⟨rfl, rfl⟩
        · rw [show 2 - 1 = 1 from rfl, v1] at hless
          clear v1 v2 v3 v4 v5 v6 v7 v8
          rcases hless with hl | hl | hl
          · omega
          · have q1 : decide (n ≥ 128) = true := decide_eq_true hl
            have q2 : decide (128 ≤ n) = true := decide_eq_true hl
            clear hl
            go_wp2_with fail
            go_meet
            exact ⟨rfl, rfl⟩
          · have q1 : decide (n ≥ 128) = false := decide_eq_false (by omega)
            have q2 : decide (128 ≤ n) = false := decide_eq_false (by omega)
            have q3 : decide (n < -128) = true := decide_eq_true hl
            clear hl
            go_wp2_with fail
            go_meet
            exact ⟨rfl, rfl⟩
        · rw [show 3 - 1 = 2 from rfl, v2] at hless
          clear v1 v2 v3 v4 v5 v6 v7 v8
          rcases hless with hl | hl | hl
          · omega
          · have q1 : decide (n ≥ 32768) = true := decide_eq_true hl
            have q2 : decide (32768 ≤ n) = true := decide_eq_true hl
            clear hl
            go_wp2_with fail
            go_meet
            exact ⟨rfl, rfl⟩
          · have q1 : decide (n ≥ 32768) = false := decide_eq_false (by omega)
            have q2 : decide (32768 ≤ n) = false := decide_eq_false (by omega)
            have q3 : decide (n < -32768) = true := decide_eq_true hl
            clear hl
            go_wp2_with fail
            go_meet
            exact ⟨rfl, rfl⟩
        · rw [show 4 - 1 = 3 from rfl, v3] at hless
          clear v1 v2 v3 v4 v5 v6 v7 v8
          rcases hless with hl | hl | hl
          · omega
          · have q1 : decide (n ≥ 8388608) = true := decide_eq_true hl
            have q2 : decide (8388608 ≤ n) = true := decide_eq_true hl
            clear hl
            go_wp2_with fail
            go_meet
            exact ⟨rfl, rfl⟩
          · have q1 : decide (n ≥ 8388608) = false := decide_eq_false (by omega)
            have q2 : decide (8388608 ≤ n) = false := decide_eq_false (by omega)
            have q3 : decide (n < -8388608) = true := decide_eq_true hl
            clear hl
            go_wp2_with fail
            go_meet
            exact ⟨rfl, rfl⟩
        · rw [show 5 - 1 = 4 from rfl, v4] at hless
          clear v1 v2 v3 v4 v5 v6 v7 v8
          rcases hless with hl | hl | hl
          · omega
          · have q1 : decide (n ≥ 2147483648) = true := decide_eq_true hl
            have q2 : decide (2147483648 ≤ n) = true := decide_eq_true hl
            clear hl
            go_wp2_with fail
            go_meet
            exact ⟨rfl, rfl⟩
          · have q1 : decide (n ≥ 2147483648) = false := decide_eq_false (by omega)
            have q2 : decide (2147483648 ≤ n) = false := decide_eq_false (by omega)
            have q3 : decide (n < -2147483648) = true := decide_eq_true hl
            clear hl
            go_wp2_with fail
            go_meet
            exact ⟨rfl, rfl⟩
        · rw [show 6 - 1 = 5 from rfl, v5] at hless
          clear v1 v2 v3 v4 v5 v6 v7 v8
          rcases hless with hl | hl | hl
          · omega
          · have q1 : decide (n ≥ 549755813888) = true := decide_eq_true hl
            have q2 : decide (549755813888 ≤ n) = true := decide_eq_true hl
            clear hl
            go_wp2_with fail
            go_meet
            exact ⟨rfl, rfl⟩
          · have q1 : decide (n ≥ 549755813888) = false := decide_eq_false (by omega)
            have q2 : decide (549755813888 ≤ n) = false := decide_eq_false (by omega)
            have q3 : decide (n < -549755813888) = true := decide_eq_true hl
            clear hl
            go_wp2_with fail
            go_meet
            exact ⟨rfl, rfl⟩
        · rw [show 7 - 1 = 6 from rfl, v6] at hless
          clear v1 v2 v3 v4 v5 v6 v7 v8
          rcases hless with hl | hl | hl
          · omega
          · have q1 : decide (n ≥ 140737488355328) = true := decide_eq_true hl
            have q2 : decide (140737488355328 ≤ n) = true := decide_eq_true hl
            clear hl
            go_wp2_with fail
            go_meet
            exact ⟨rfl, rfl⟩
          · have q1 : decide (n ≥ 140737488355328) = false := decide_eq_false (by omega)
            have q2 : decide (140737488355328 ≤ n) = false := decide_eq_false (by omega)
            have q3 : decide (n < -140737488355328) = true := decide_eq_true hl
            clear hl
            go_wp2_with fail
            go_meet
            exact ⟨rfl, rfl⟩
        · rw [show 8 - 1 = 7 from rfl, v7] at hless
          clear v1 v2 v3 v4 v5 v6 v7 v8
          rcases hless with hl | hl | hl
          · omega
          · have q1 : decide (n ≥ 36028797018963968) = true := decide_eq_true hl
            have q2 : decide (36028797018963968 ≤ n) = true := decide_eq_true hl
            clear hl
            go_wp2_with fail
            go_meet
            exact ⟨rfl, rfl⟩
          · have q1 : decide (n ≥ 36028797018963968) = false := decide_eq_false (by omega)
            have q2 : decide (36028797018963968 ≤ n) = false := decide_eq_false (by omega)
            have q3 : decide (n < -36028797018963968) = true := decide_eq_true hl
            clear hl
            go_wp2_with fail
            go_meet
            exact ⟨rfl, rfl⟩
      case rest =>
        obtain ⟨rfl, hw7⟩ := hcut
        obtain rfl := hw7
        clear HFIT HLESS
        obtain ⟨⟨x0, x1, x2, x3, x4⟩, _⟩ := HX6.out.facts
        obtain ⟨⟨y0, y1, y2, y3, y4⟩, _⟩ := HY6.out.facts
        have hlen : (n < 0 → m ≤ n → s ≤ (intBytes m).length) ∧ (0 ≤ n → n ≤ m → s ≤ (intBytes m).length) := by
          rw [HS.out]
          exact ⟨fun a b => num_neg h1 h2 g1 g2 a b, fun a b => num_pos h1 h2 g1 g2 a b⟩
        have HLEN := Lib.hid hlen
        clear hlen
        by_cases c1 : n < 0
        · have d1 : decide (n < 0) = true := decide_eq_true c1
          have d2 : decide (n ≥ 0) = false := decide_eq_false (by omega)
          have d2' : decide (0 ≤ n) = false := decide_eq_false (by omega)
          by_cases c2 : m > n
          · have d3 : decide (m > n) = true := decide_eq_true c2
            have d3' : decide (n < m) = true := decide_eq_true c2
            go_wp2_with fail
            refine (same_calls 1 (numT n) (numT m) _ _ _ p q (by unfold numT; rw [Tree.nodes_mk, Tree.nodesL_nil]; omega) HP6.out HQ6.out).mono ?_
            rintro e w8 ⟨rfl, hB8⟩
            rw [num_inj h1 h2 g1 g2]
            have HB8 : Hid (Below w.heap.size w w8) := Lib.hid (HB6.out.trans (hB8.mono HB6.out.size))
            clear hB8
            cases hnm : (n == m)
            all_goals
              go_wp2_with fail
              go_ret
              exact ⟨rfl, HB8.out⟩
          · have d3 : decide (m > n) = false := decide_eq_false c2
            have d3' : decide (n < m) = false := decide_eq_false c2
            have hl := HLEN.out.1 c1 (by omega)
            have d4 : decide (((intBytes m).length : Int) ≥ (s : Int)) = true := decide_eq_true (by omega)
            have d4' : decide ((s : Int) ≤ ((intBytes m).length : Int)) = true := decide_eq_true (by omega)
            go_wp2_with fail
            refine (same_calls 1 (numT n) (numT m) _ _ _ p q (by unfold numT; rw [Tree.nodes_mk, Tree.nodesL_nil]; omega) HP6.out HQ6.out).mono ?_
            rintro e w8 ⟨rfl, hB8⟩
            rw [num_inj h1 h2 g1 g2]
            have HB8 : Hid (Below w.heap.size w w8) := Lib.hid (HB6.out.trans (hB8.mono HB6.out.size))
            clear hB8
            cases hnm : (n == m)
            all_goals
              go_wp2_with fail
              go_ret
              exact ⟨rfl, HB8.out⟩
        · have d1 : decide (n < 0) = false := decide_eq_false c1
          have d2 : decide (n ≥ 0) = true := decide_eq_true (by omega)
          have d2' : decide (0 ≤ n) = true := decide_eq_true (by omega)
          by_cases c2 : m < n
          · have d3 : decide (m < n) = true := decide_eq_true c2
            go_wp2_with fail
            refine (same_calls 1 (numT n) (numT m) _ _ _ p q (by unfold numT; rw [Tree.nodes_mk, Tree.nodesL_nil]; omega) HP6.out HQ6.out).mono ?_
            rintro e w8 ⟨rfl, hB8⟩
            rw [num_inj h1 h2 g1 g2]
            have HB8 : Hid (Below w.heap.size w w8) := Lib.hid (HB6.out.trans (hB8.mono HB6.out.size))
            clear hB8
            cases hnm : (n == m)
            all_goals
              go_wp2_with fail
              go_ret
              exact ⟨rfl, HB8.out⟩
          · have d3 : decide (m < n) = false := decide_eq_false c2
            have hl := HLEN.out.2 (by omega) (by omega)
            have d4 : decide (((intBytes m).length : Int) ≥ (s : Int)) = true := decide_eq_true (by omega)
            have d4' : decide ((s : Int) ≤ ((intBytes m).length : Int)) = true := decide_eq_true (by omega)
            go_wp2_with fail
            refine (same_calls 1 (numT n) (numT m) _ _ _ p q (by unfold numT; rw [Tree.nodes_mk, Tree.nodesL_nil]; omega) HP6.out HQ6.out).mono ?_
            rintro e w8 ⟨rfl, hB8⟩
            rw [num_inj h1 h2 g1 g2]
            have HB8 : Hid (Below w.heap.size w w8) := Lib.hid (HB6.out.trans (hB8.mono HB6.out.size))
            clear hB8
            cases hnm : (n == m)
            all_goals
              go_wp2_with fail
              go_ret
              exact ⟨rfl, HB8.out⟩
end Go.Proofs.YteocelfdfnfgnaaDoor
