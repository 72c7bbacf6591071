/- Walks: object identifiers and strings of bits. -/
import Derived.Test.YtkjmnoaenclleaaDoorW1
set_option linter.unusedVariables false
namespace Go.Proofs.YtkjmnoaenclleaaDoor
open Go.RowKit

theorem drop_get {α : Type} (l : List α) (k : Nat) (h : k < l.length) : l.drop k = l[k] :: l.drop (k + 1) := by rw [List.drop_eq_getElem_cons h]

theorem oidGo_false (c : UInt8) (l : List UInt8) : oidGo false (c :: l) = oidGo (decide ((c.toNat : Int) < 128)) l := by
  rw [oidGo, if_neg (fun q => by cases q.1)]; exact congrArg (fun b => oidGo b l) (by rw [Bool.eq_iff_iff, decide_eq_true_eq, decide_eq_true_eq]; omega)
theorem oidGo_stop (c : UInt8) (l : List UInt8) (h : (c.toNat : Int) = 128) : oidGo true (c :: l) = false := by
  rw [oidGo, if_pos ⟨rfl, by omega⟩]
theorem oidGo_true (c : UInt8) (l : List UInt8) (h : ¬ (c.toNat : Int) = 128) : oidGo true (c :: l) = oidGo (decide ((c.toNat : Int) < 128)) l := by
  rw [oidGo, if_neg (fun q => h (by omega))]; exact congrArg (fun b => oidGo b l) (by rw [Bool.eq_iff_iff, decide_eq_true_eq, decide_eq_true_eq]; omega)
theorem oid_calls (w : World) (S : Nat → Prop) (A : Option Addr) (c : Nat) (bs : List UInt8) (hb : BytesIn w S A c bs) :
    Calls Tryd.prog 43 #[.slice A bs.length c] w fun e w' => e = .returned (.bool (oidB bs)) ∧ ∃ n, w' = w.drewN n := by
  obtain ⟨h1, h2, h3⟩ := hb
  have H3 := Lib.hid h3; clear h3
  unfold maxLen at h2
  go_enter Tryd.func43, Tryd.ntmps43
  go_wp2
  go_loop [3, 8] (fun b i => ∃ (k : Nat) (x : Bool), k ≤ bs.length ∧ i = .int .i64 k ∧ b = .bool x ∧ Hid (oidGo true bs = oidGo x (bs.drop k))) (fun _ i => bs.length - (intOf i).toNat)
  case atStart => exact ⟨0, true, by omega, rfl, rfl, rfl⟩
  case round =>
    obtain ⟨k, x, hk, rfl, rfl, HG⟩ := hrel
    by_cases hlt : k < bs.length
    · obtain ⟨b, o, e, _, q0⟩ := H3.out k hlt
      obtain rfl : A = some ⟨b, o, none⟩ := e
      have hx := bs[k].toNat_lt
      have hx0 : (0 : Int) ≤ bs[k].toNat := Int.natCast_nonneg _
      have E : Hid (bs.drop k = bs[k] :: bs.drop (k + 1)) := drop_get bs k hlt
      cases x with
      | false =>
        go_wp2
        all_goals
          go_round
          case rel => exact ⟨k + 1, _, hlt, by go_num, rfl, (HG.out.trans (congrArg _ E.out)).trans (oidGo_false _ _)⟩
          case measure => simp [intOf]; omega
      | true =>
        by_cases c0 : (bs[k].toNat : Int) = 128
        · have g0 := eq_t c0
          have C := Lib.hid c0; clear c0
          go_wp2
          go_ret
          exact ⟨ret_bool (by rw [oidB, (HG.out.trans (congrArg _ E.out)).trans (oidGo_stop _ _ C.out)]; rfl), 0, rfl⟩
        · have g0 := eq_f c0
          have C := Lib.hid c0; clear c0
          go_wp2
          all_goals
            go_round
            case rel => exact ⟨k + 1, _, hlt, by go_num, rfl, (HG.out.trans (congrArg _ E.out)).trans (oidGo_true _ _ C.out)⟩
            case measure => simp [intOf]; omega
    · obtain rfl : k = bs.length := by omega
      have HG2 : Hid (oidGo true bs = x) := by have h := HG.out; rw [List.drop_length] at h; simpa [Hid, oidGo] using h
      clear HG
      cases x with
      | false =>
        go_wp2
        go_ret
        exact ⟨ret_bool (by simp [oidB, HG2.out]), 0, rfl⟩
      | true =>
        go_wp2
        go_ret
        exact ⟨ret_bool (by simp [oidB, HG2.out]; rw [Bool.eq_iff_iff]; cases bs <;> simp), 0, rfl⟩

theorem mask_byte (z i : Nat) (hz : z < 256) (hi : i ≤ 8) : bits .and .u8 (z : Int) ((2 ^ i - 1) % 256) = ((z % 2 ^ i : Nat) : Int) := by
  have h2 : (2 : Int) ^ i ≤ 256 := by
    have h := Int.ofNat_le.2 (Nat.le_trans (Nat.pow_le_pow_right (n := 2) (by decide) hi) (show 2 ^ 8 ≤ 256 by decide))
    rw [Int.natCast_pow] at h
    exact h
  have h1 : (1 : Int) ≤ 2 ^ i := by
    have h := Int.ofNat_le.2 (Nat.one_le_two_pow (n := i))
    rw [Int.natCast_pow] at h
    exact h
  rw [show ((2 : Int) ^ i - 1) % 256 = 2 ^ i - 1 from by omega, bits_mask .u8 8 (by decide) wraps_u8 i hi (z : Int) (by omega) (by omega), Int.natCast_emod, Int.natCast_pow]
  rfl

theorem bits_calls (w : World) (S : Nat → Prop) (A : Option Addr) (c : Nat) (bs : List UInt8) (hb : BytesIn w S A c bs) :
    Calls Tryd.prog 40 #[.slice A bs.length c] w fun e w' => e = .returned (.bool (bitsB bs)) ∧ ∃ n, w' = w.drewN n := by
  obtain ⟨h1, h2, h3⟩ := hb
  match bs, h1, h3 with
  | [], _, _ =>
    go_enter Tryd.func40, Tryd.ntmps40
    go_wp2
    go_ret
    exact ⟨rfl, 0, rfl⟩
  | [x], h1, h3 =>
    obtain ⟨b, o, rfl, _, q0⟩ := h3 0 (by simp)
    simp only [List.getElem_cons_zero, Nat.add_zero] at q0
    have hx := x.toNat_lt
    have hx0 : (0 : Int) ≤ x.toNat := Int.natCast_nonneg _
    clear h3 h2
    go_enter Tryd.func40, Tryd.ntmps40
    go_wp2
    go_ret
    exact ⟨ret_bool (by simp only [bitsB]; rw [Bool.eq_iff_iff, beq_iff_eq, beq_iff_eq]; omega), 0, rfl⟩
  | x :: y :: l, h1, h3 =>
    obtain ⟨b, o, rfl, _, q0⟩ := h3 0 (by simp)
    obtain ⟨b', o', e, _, q1⟩ := h3 (l.length + 1) (by simp)
    obtain ⟨rfl, rfl⟩ : b = b' ∧ o = o' := by simpa using e
    have hz : ∃ z, z = (y :: l).getLast (by simp) := ⟨_, rfl⟩
    obtain ⟨z, hz⟩ := hz
    have q2 : w.cell? ⟨b, o + (l.length + 1), none⟩ = some (.int .u8 (z.toNat : Int)) := by
      rw [q1, hz]; congr 3; rw [List.getElem_cons_succ, List.getLast_eq_getElem]; simp
    simp only [List.getElem_cons_zero, Nat.add_zero] at q0
    have hx := x.toNat_lt
    have hx0 : (0 : Int) ≤ x.toNat := Int.natCast_nonneg _
    have hzl := z.toNat_lt
    have hz0 : (0 : Int) ≤ z.toNat := Int.natCast_nonneg _
    simp only [List.length_cons] at h1 ⊢
    have HZ := Lib.hid hz
    unfold maxLen at h2
    clear h3 e q1 hz
    by_cases c0 : (x.toNat : Int) < 8
    · go_enter Tryd.func40, Tryd.ntmps40
      go_wp2
      go_quiet (fail)
      go_wp2
      go_ret
      exact ⟨ret_bool (by
        rw [mask_byte z.toNat x.toNat (by omega) (by omega), bitsB, ← HZ.out, decide_eq_true (by omega), Bool.true_and, Bool.eq_iff_iff, beq_iff_eq, decide_eq_true_eq]
        omega), _, rfl⟩
    · have g0 : decide ((x.toNat : Int) < 8) = false := decide_eq_false c0
      go_enter Tryd.func40, Tryd.ntmps40
      go_wp2
      go_quiet (fail)
      go_wp2
      go_ret
      exact ⟨ret_bool (by rw [bitsB, decide_eq_false (by omega)]; rfl), _, rfl⟩
end Go.Proofs.YtkjmnoaenclleaaDoor
