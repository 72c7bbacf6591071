/- Walks: tree.Int. -/
import Derived.Test.YtkjmnoaenclleaaDoorW11
set_option linter.unusedVariables false
namespace Go.Proofs.YtkjmnoaenclleaaDoor
open Go.RowKit

def byteOf (n : Int) : UInt8 := UInt8.ofNat (n % 256).toNat
theorem byteOf_toNat (n : Int) : ((byteOf n).toNat : Int) = n % 256 := by
  unfold byteOf
  rw [UInt8.toNat_ofNat']
  omega
/-- A number's bytes. -/
def intGo : Nat → Int → List UInt8 → List UInt8
  | 0, _, b => b
  | f + 1, n, b => if n / 128 = 0 ∨ n / 128 = -1 then b else intGo f (n / 256) (byteOf (n / 256) :: b)
def intBytes (n : Int) : List UInt8 := intGo 7 n [byteOf n]
theorem intGo_stop (f : Nat) (n : Int) (b : List UInt8) (h : n / 128 = 0 ∨ n / 128 = -1) : intGo f n b = b := by
  cases f with
  | zero => rfl
  | succ f => rw [intGo, if_pos h]

set_option maxHeartbeats 1000000 in
theorem int_calls (n : Int) (w : World) (h1 : -9223372036854775808 ≤ n) (h2 : n < 9223372036854775808) :
    Calls Tryd.prog 18 #[.int .i64 n] w (GivesT w (.mk 0 2 false (intBytes n) [])) := by
  go_enter Tryd.func18, Tryd.ntmps18
  go_wp2_with fail
  go_loopw [0, 3] (fun a s wr => ∃ (f : Nat) (m : Int) (A : Option Addr) (c : Nat) (bs : List UInt8), a = .int .i64 m ∧ s = .slice A bs.length c ∧ Hid (intGo f m bs = intBytes n) ∧ bs.length + f = 8 ∧ 0 < bs.length ∧ -((2 : Int) ^ (8 * f + 7)) ≤ m ∧ m < (2 : Int) ^ (8 * f + 7) ∧
    wr.ownsRow (w.heap.size + 1) 5 1 (.slice A bs.length c) bs.length (bv bs) ∧ BoxN wr w.heap.size (.int .i64 0) (.int .i64 0) (.bool false) (.slice none 0 0) (.slice none 0 0) ∧ Below w.heap.size w wr) (fun a _ _ => (intOf a).natAbs)
  case atStart =>
    refine ⟨7, n, some ⟨w.heap.size + 1, 0, none⟩, 1, [byteOf n], rfl, rfl, Lib.hid rfl, rfl, by simp, by omega, by omega, ?_, box_first w _ _ _ _ _ _, ((Below.refl _ w).alloc (Nat.le_refl _) _).alloc (by simp) _⟩
    refine ⟨rfl, .inr ⟨w.heap.size + 1, 1, _, rfl, Nat.le_refl _, heap_alloc2_new w _ _, by simp, by simp [maxLen], rfl, ?_⟩⟩
    simp [bv, byteOf_toNat]
  case round =>
    obtain ⟨f, m, A, c, bs, rfl, rfl, HG, hlen, hpos, hm1, hm2, hO, hX, hB⟩ := hrel
    have hsz := hB.size
    have hlt0 : w.heap.size < wr.heap.size := World.block_lt_of_cell? wr _ hX.facts.1.1
    have hbl : bs.length ≤ 8 := by omega
    have HO := Lib.hid hO
    have HX := Lib.hid hX
    have HB := Lib.hid hB
    clear hO hX hB
    by_cases hs : m / 128 = 0 ∨ m / 128 = -1
    · have t12 : (m / 128 != 0) = false ∨ ((m / 128 != 0) = true ∧ (m / 128 != -1) = false) := by
        rcases hs with h | h
        · exact .inl (ne_f h)
        · exact .inr ⟨ne_t (by omega), ne_f h⟩
      have HS : Hid (bs = intBytes n) := Lib.hid (by rw [← HG.out, intGo_stop f m bs hs])
      have HM1 := Lib.hid hm1
      have HM2 := Lib.hid hm2
      have HLN := Lib.hid hlen
      clear HG hs hm1 hm2 hlen
      rcases t12 with t1 | ⟨t1, t2⟩
      all_goals
        go_wp2_with fail
        refine (prim_calls 0 2 A c bs _ (fun k => k ∈ (A.map (·.block)).toList) (own_bytes HO.out) (by omega)).mono ?_
        rintro e w2 ⟨q, F, rfl, hO2, hB2⟩
        have hbx := HX.out.stay hB2 (World.block_lt_of_cell? wr _ HX.out.facts.1.1)
        obtain ⟨⟨c0, c1, c2, c3, c4⟩, f0, f1, f2, f3, f4⟩ := hbx.facts
        simp only [nodeV, Tree.cls, Tree.tag, Tree.cons, Tree.bytes, Tree.kids]
        have HO2 := Lib.hid hO2
        have HB2 := Lib.hid hB2
        have HBX := Lib.hid hbx
        have hlt : w.heap.size < wr.heap.size := World.block_lt_of_cell? wr _ HX.out.facts.1.1
        clear hO2 hB2 hbx
        go_wp2_with fail
        have hp := BoxN.put (a' := .int .i64 0) (b' := .int .i64 2) (c' := .bool false) (d' := .slice q.A1 bs.length q.c1) (e' := .slice q.A2 ([] : List Tree).length q.c2) HBX.out
        refine bodyPost_ret (v := nodeV (.mk 0 2 false bs []) q) (hp.res _ _ _ rfl rfl) rfl ?_
        rw [← HS.out]
        have hB' : Below w.heap.size w w2 := HB.out.trans (HB2.out.mono hsz)
        refine ⟨q, F, rfl, (OT.lower hsz HO2.out).move (fun k hk => put5_other _ _ _ _ _ _ _ _ _ ?_), hB'.trans (put5_below _ _ _ _ _ _ _ _ (Nat.le_refl _))⟩
        have := (HO2.out.lt k hk).1
        omega
    · have t1 : (m / 128 != 0) = true := ne_t (by omega)
      have t2 : (m / 128 != -1) = true := ne_t (by omega)
      obtain ⟨f, rfl⟩ : ∃ f', f = f' + 1 := by
        cases f with
        | zero => simp at hm1 hm2; omega
        | succ f => exact ⟨f, rfl⟩
      have e2 : (2 : Int) ^ (8 * (f + 1) + 7) = (2 : Int) ^ (8 * f + 7) * 256 := by
        rw [show 8 * (f + 1) + 7 = (8 * f + 7) + 8 by omega, Int.pow_add]; rfl
      rw [e2] at hm1 hm2
      have hq1 : -((2 : Int) ^ (8 * f + 7)) ≤ m / 256 := by generalize (2 : Int) ^ (8 * f + 7) = P at *; omega
      have hq2 : m / 256 < (2 : Int) ^ (8 * f + 7) := by generalize (2 : Int) ^ (8 * f + 7) = P at *; omega
      have HG' : Hid (intGo f (m / 256) (byteOf (m / 256) :: bs) = intBytes n) := Lib.hid (by rw [← HG.out, intGo, if_neg hs])
      obtain ⟨g, rfl, hg⟩ : ∃ g, A = some ⟨g, 0, none⟩ ∧ g < wr.heap.size := by
        rcases HO.out.2 with ⟨he, hn0⟩ | ⟨g, cap, cur, he, _, hh, _⟩
        · omega
        · injection he with e1
          exact ⟨g, e1, (own_block HO.out g (by rw [e1]; simp)).2⟩
      have hnews : Hid (∀ j u, (bv bs)[j]? = some u → (wr.alloc (.cells #[.int .u8 (m / 256 % 256)] 5)).cell? ((⟨g, 0, none⟩ : Addr).add j) = some u) := Lib.hid (fun j u hu => alloc_cell _ (HO.out.cells (g := g) rfl j u hu))
      have hown : Hid ((wr.alloc (.cells #[.int .u8 (m / 256 % 256)] 5)).ownsRow (w.heap.size + 1) 5 1 (.slice (some ⟨wr.heap.size, 0, none⟩) 1 1) 1 [.int .u8 (m / 256 % 256)]) :=
        Lib.hid ⟨rfl, .inr ⟨wr.heap.size, 1, _, rfl, by omega, heap_alloc_new wr _, by simp, by simp [maxLen], rfl, rfl⟩⟩
      obtain ⟨i0, hi, hz0, hz1, hz2⟩ := info_parts info_byte
      have hi' := Lib.hid hi
      have HM1 := Lib.hid hq1
      have HM2 := Lib.hid hq2
      have hmm : (m / 256).natAbs < m.natAbs := by omega
      clear hi hm1 hm2 e2 hq1 hq2 HG hs
      go_wp2_with (at_builtin; refine wpList_append_own_at _ rfl _ _ 22 rfl (w.heap.size + 1) 5 i0 (.int .u8 0) 1 1 Tryd.underlying22 hi'.out hz0 hz1 hz2 rfl (by decide) _ 1 [.int .u8 (m / 256 % 256)] rfl hown.out ⟨g, 0, none⟩ bs.length c (bv bs) rfl (by rw [bv_length]; omega) hnews.out (by intro u hu; obtain ⟨b, _, rfl⟩ := List.mem_map.1 hu; rfl) (by simp only [maxLen]; omega) (by omega) (by simp; omega) ?_; intro v' w1 hown1 hg1 _ hat1)
      have h2 : ∃ A' c', v' = .slice A' (byteOf (m / 256) :: bs).length c' := by
        rcases hown1.2 with ⟨h, hn0⟩ | ⟨g, cap, cur, h, _⟩
        · omega
        · exact ⟨_, cap, by rw [h, List.length_cons]; congr 1; omega⟩
      obtain ⟨A', c', rfl⟩ := h2
      have hown2 : w1.ownsRow (w.heap.size + 1) 5 1 (.slice A' (byteOf (m / 256) :: bs).length c') (byteOf (m / 256) :: bs).length (bv (byteOf (m / 256) :: bs)) := by
        have e : bv (byteOf (m / 256) :: bs) = [.int .u8 (m / 256 % 256)] ++ bv bs := by simp [bv, byteOf_toNat]
        rw [e, show (byteOf (m / 256) :: bs).length = 1 + bs.length by rw [List.length_cons]; omega]
        rw [show (byteOf (m / 256) :: bs).length = 1 + bs.length by rw [List.length_cons]; omega] at hown1
        exact hown1
      have hbw : Below (w.heap.size + 1) wr w1 := ((Below.refl _ wr).alloc (by omega) _).grown hg1 (by simp; omega) (fun k hk => by
        have : wr.heap.size = k := by first | exact Option.some.inj hk | simpa [Value.ownBlock] using hk
        omega)
      have HOW := Lib.hid hown2
      have HBW := Lib.hid hbw
      clear hown1 hown2 hg1 hat1 hbw
      go_wp2_with fail
      go_roundw
      case rel =>
        exact ⟨f, m / 256, A', c', byteOf (m / 256) :: bs, rfl, rfl, HG', by rw [List.length_cons]; omega, by simp, HM1.out, HM2.out, HOW.out, HX.out.stay HBW.out (by omega), HB.out.trans (HBW.out.mono (by omega))⟩
      case measure => simpa [intOf] using hmm
end Go.Proofs.YtkjmnoaenclleaaDoor
