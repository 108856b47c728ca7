/-
  The document's High: the lowest bytes of a number.
-/
import Derived.Test.YtmljgkjcoemadaaWr
namespace Go.Proofs.Ytmljgkjcoemadaa
open Go Go.Ev Go.RowKit
set_option maxRecDepth 100000
theorem be_cons (x : Nat) : ∀ k, be x (k + 1) = UInt8.ofNat (x / 256 ^ k) :: be x k
  | 0 => by simp [be]
  | k + 1 => by
    rw [be, be_cons (x / 256) k, be, Nat.div_div_eq_div_mul, ← Nat.pow_succ', List.cons_append]
theorem u8max : IntKind.u8.max = 255 := by decide
theorem u8min : IntKind.u8.min = 0 := by decide
theorem high_loop (x n b : Nat) (hn : n ≤ 4611686018427387904) (hx : x < 18446744073709551616) (K : KT) (w0 : World) (hb0 : w0.heap.size ≤ b) (hK : ∀ w, Keep [] w0 w → Blk w b (bvs (be x n)) 5 → K (.slice (some ⟨b, 0, none⟩) n n) w) :
    ∀ (k j : Nat) (w : World), k + j = n + 1 → 1 ≤ k → Keep [] w0 w → Blk w b (bvs (List.replicate (n - j) 0 ++ be x j)) 5 →
      witnessref2_High.L3 K (witnessref2_High.C2 K) k (.int .u64 ((x / 256 ^ j : Nat) : Int)) (.slice (some ⟨b, 0, none⟩) n n) (.int .i64 ((n : Int) - 1 - (j : Int))) w := by
  intro k
  induction k with
  | zero => intro j _ _ h; omega
  | succ k ih =>
    intro j w hj _ kp hb
    unfold witnessref2_High.L3 witnessref2_High.C3
    have hxj : x / 256 ^ j ≤ x := Nat.div_le_self _ _
    have hnext : x / 256 ^ (j + 1) = x / 256 ^ j / 256 := by rw [Nat.pow_succ, ← Nat.div_div_eq_div_mul]
    have hcons : be x (j + 1) = UInt8.ofNat (x / 256 ^ j) :: be x j := be_cons x j
    have ih' := ih (j + 1)
    rw [hnext] at ih'
    generalize x / 256 ^ j = y at *
    refine s_geq ?_
    refine s_cnd (fun hc => ?_) (fun hc => ?_)
    · refine s_remi (by omega) (by omega) ?_
      refine s_cvi (by rw [u8min, u8max]; omega) ?_
      refine s_ixS (by omega) (by omega) ?_
      refine s_stB hb (by simp [be_len]; omega) rfl ?_
      intro w1 hb1 k1
      refine s_quoi (by omega) (by omega) (by rw [u64max]; omega) ?_
      refine s_subi (by rw [i64min, i64max]; omega) ?_
      have e1 : (y : Int) / 256 = ((y / 256 : Nat) : Int) := by omega
      have e2 : (n : Int) - 1 - (j : Int) - 1 = (n : Int) - 1 - ((j + 1 : Nat) : Int) := by omega
      rw [e1, e2]
      refine ih' w1 (by omega) (by omega) (keep2 kp k1 hb0) ?_
      have e3 : Value.int .u8 ((y : Int) % 256) = bv (UInt8.ofNat y) := by
        have h3 : ((UInt8.ofNat y).toNat : Int) = (y : Int) % 256 := by simp
        unfold bv
        rw [h3]
      have e4 : 0 + ((n : Int) - 1 - (j : Int)).toNat * 1 = n - 1 - j := by omega
      rw [e3, e4] at hb1
      have e5 : (bvs (List.replicate (n - j) 0 ++ be x j)).set (n - 1 - j) (bv (UInt8.ofNat y)) = bvs (List.replicate (n - (j + 1)) 0 ++ be x (j + 1)) := by
        rw [hcons]
        simp only [bvs, ← List.map_set]
        congr 1
        rw [List.set_append_left _ _ (by simp; omega)]
        obtain ⟨m, hm⟩ : ∃ m, n - j = m + 1 := ⟨n - j - 1, by omega⟩
        rw [hm, show n - 1 - j = m by omega, show n - (j + 1) = m by omega, List.replicate_succ']
        rw [List.set_append_right _ _ (by simp)]
        simp
      rw [e5] at hb1
      exact hb1
    · have e : j = n := by omega
      subst e
      simp only [Nat.sub_self, List.replicate_zero, List.nil_append] at hb
      exact hK w kp hb
theorem high_c (x n : Nat) (hn : n ≤ 1099511627776) (hx : x < 18446744073709551616) (w : World) : CallsR Try.prog 20 #[.int .u64 (x : Int), .int .i64 (n : Int)] w fun r w' => r = .slice (some ⟨w.heap.size, 0, none⟩) n n ∧ Keep [] w w' ∧ Blk w' w.heap.size (bvs (be x n)) 5 := by
  apply witnessref2_High.sound
  unfold witnessref2_High.J witnessref2_High.C1
  refine s_makeB eU8 rfl rfl (by omega) ?_
  intro w1 k1 hs1 hb1
  refine s_subi (by rw [i64min, i64max]; omega) ?_
  have := high_loop x n w.heap.size (by omega) hx (fun r w' => r = .slice (some ⟨w.heap.size, 0, none⟩) n n ∧ Keep [] w w' ∧ Blk w' w.heap.size (bvs (be x n)) 5) w (Nat.le_refl _) (fun w' k h => ⟨rfl, k, h⟩) (n + 1) 0 w1 rfl (by omega) k1 (by simpa [be] using hb1)
  refine ⟨n + 1, ?_⟩
  simpa using this
end Go.Proofs.Ytmljgkjcoemadaa
