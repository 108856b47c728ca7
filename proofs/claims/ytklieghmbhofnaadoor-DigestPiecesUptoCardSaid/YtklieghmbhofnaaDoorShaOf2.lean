/-
  SHA-256: the document's Of, whole.
-/
import Derived.Test.YtklieghmbhofnaaDoorShaOf
namespace Go.Proofs.YtklieghmbhofnaaDoor
open Go Go.Ev Go.RowKit
set_option maxRecDepth 100000
/-- Text, mark, zeros. -/
def pre (text : List UInt8) (j : Nat) : List UInt8 := text ++ 0x80 :: List.replicate j 0
theorem pre_len (text : List UInt8) (j : Nat) : (pre text j).length = text.length + 1 + j := by simp [pre]; omega
theorem pre_succ (text : List UInt8) (j : Nat) : pre text j ++ [0] = pre text (j + 1) := by
  unfold pre
  rw [List.append_assoc, List.cons_append, List.replicate_succ']
def padded (text : List UInt8) : List UInt8 := text ++ padOf text.length
theorem padded_eq (text : List UInt8) : pre text (zc text.length) ++ be8 (text.length * 8) = padded text := by
  unfold pre padded padOf
  rw [List.append_assoc, List.cons_append]
theorem padded_len (text : List UInt8) : (padded text).length = 64 * ((text.length + (padOf text.length).length) / 64) := by
  have := pad_mod text.length
  unfold padded
  rw [List.length_append]
  omega
theorem be8_len (n : Nat) : (be8 n).length = 8 := rfl
/-- What the last part of Of asks: the padded text in a row of one's own. -/
theorem rof_tail (text : List UInt8) (hl : text.length ≤ 1073741824) (b2 : Nat) (b3 : Value) (K : KT) (w0 wi : World) (h2 : w0.heap.size ≤ b2) (hK : ∀ w, Keep [] w0 w → K (.agg (bvs (sha text)).toArray) w)
    (w : World) (kp : Keep [] w0 w) (hb2 : Blk w b2 (bvs (List.replicate 32 0)) 43) (ho : w.ownsRow wi.heap.size 5 1 b3 (padded text).length (bvs (padded text))) : witnessref1_Of.C3 K (.pointer (some ⟨b2, 0, none⟩)) b3 w := by
  unfold witnessref1_Of.C3
  have hpl := pad_len text.length
  have hz := (zc_spec text.length).2
  have hbl := hb2.lt
  refine (rounds_c w).mono ?_
  rintro r w1 ⟨rfl, k1⟩
  refine s_newB (l := uvs (List.replicate 64 0)) (by kernel_rfl) ?_
  intro w2 hb6 k2 hs2
  refine s_stNB0 hb6 (by simp [rounds]) (by simp) (uvs_one _) ?_
  intro w3 hb63 k3
  have k13 : Keep [] w w3 := k1.tr (keep2 k2 k3 (Nat.le_refl _))
  refine (first_c w3).mono ?_
  rintro r w4 ⟨rfl, k4⟩
  refine s_newB (l := uvs (List.replicate 8 0)) (by kernel_rfl) ?_
  intro w5 hb7 k5 hs5
  refine s_stNB0 hb7 (by simp [first]) (by simp) (uvs_one _) ?_
  intro w6 hb76 k6
  have k46 : Keep [] w3 w6 := k4.tr (keep2 k5 k6 (Nat.le_refl _))
  have k16 : Keep [] w w6 := k13.tr k46
  have ho6 := owns_kp ho k16 (by simp)
  have hs1 := k1.size
  have hs3 := hb63.lt
  have hs4 := k4.size
  have hlt := fun b hb => (owns_lt ho b hb).2
  refine ⟨(text.length + (padOf text.length).length) / 64 + 1, ?_⟩
  have := rmain_loop (padded text) ((text.length + (padOf text.length).length) / 64) (padded_len text) (by unfold padded; rw [List.length_append]; omega) b3 b2 w1.heap.size w4.heap.size (by omega) (by omega) K w0 h2 hK ((text.length + (padOf text.length).length) / 64 + 1) 0 w6 rfl (by omega) (kp.tr k16) (hb2.kp k16 (by simp)) (owns_Sl ho6) (fun b hb => by have := hlt b hb; omega) (hb63.kp k46 (by simp)) (by rw [← firstSt_l] at hb76; exact hb76)
  exact this
theorem rof_len (text : List UInt8) (hl : text.length ≤ 1073741824) (b2 : Nat) (K : KT) (w0 wi : World) (h2 : w0.heap.size ≤ b2) (hki : Keep [] w0 wi) (hK : ∀ w, Keep [] w0 w → K (.agg (bvs (sha text)).toArray) w) :
    ∀ (k q : Nat) (b3 : Value) (w : World), k + q = 9 → 1 ≤ k → Keep [] wi w → Blk w b2 (bvs (List.replicate 32 0)) 43 → b2 < wi.heap.size → w.ownsRow wi.heap.size 5 1 b3 (pre text (zc text.length) ++ (be8 (text.length * 8)).take q).length (bvs (pre text (zc text.length) ++ (be8 (text.length * 8)).take q)) →
      witnessref1_Of.L8 K (witnessref1_Of.C3 K) k (.pointer (some ⟨b2, 0, none⟩)) b3 (.int .u64 ((text.length * 8 : Nat) : Int)) (.int .i64 (56 - 8 * (q : Int))) w := by
  intro k
  induction k with
  | zero => intro i _ _ _ h; omega
  | succ k ih =>
    intro q b3 w hq _ kp hb2 hlt ho
    unfold witnessref1_Of.L8 witnessref1_Of.C8
    have hz := (zc_spec text.length).2
    refine s_geq ?_
    refine s_cnd (fun hc => ?_) (fun hc => ?_)
    · refine s_shr (by omega) ?_
      refine s_cv ?_
      rw [shr_byte _ q (by omega)]
      refine s_push (w0 := wi) (c := UInt8.ofNat (text.length * 8 / 2 ^ (56 - 8 * q))) eU8 kp ho (by rw [List.length_append, pre_len, List.length_take, be8_len]; omega) ?_
      intro v' w1 ho1 k1
      refine s_subi (by rw [i64min, i64max]; omega) ?_
      rw [show (56 : Int) - 8 * (q : Int) - 8 = 56 - 8 * ((q + 1 : Nat) : Int) by omega]
      rw [List.append_assoc, ← be8_take _ q (by omega)] at ho1
      have hb21 : Blk w1 b2 (bvs (List.replicate 32 0)) 43 := by
        have := k1.block b2 hlt (by simp)
        have h3 := kp.block b2 hlt (by simp)
        unfold Blk at hb2 ⊢
        rw [this, ← h3]
        exact hb2
      exact ih (q + 1) v' w1 (by omega) (by omega) k1 hb21 hlt ho1
    · have e : q = 8 := by omega
      subst e
      rw [List.take_of_length_le (by rw [be8_len]; exact Nat.le_refl _), padded_eq] at ho
      exact rof_tail text hl b2 b3 K w0 wi h2 hK w (hki.tr kp) hb2 ho
theorem rof_zero (text : List UInt8) (hl : text.length ≤ 1073741824) (b2 : Nat) (t0 : Value) (K : KT) (w0 wi : World) (h2 : w0.heap.size ≤ b2) (hki : Keep [] w0 wi) (hb2i : Blk wi b2 (bvs (List.replicate 32 0)) 43) (ht0 : SB wi t0 text) (hK : ∀ w, Keep [] w0 w → K (.agg (bvs (sha text)).toArray) w) :
    ∀ (k j : Nat) (b3 : Value) (w : World), k + j = zc text.length + 1 → 1 ≤ k → Keep [] wi w → w.ownsRow wi.heap.size 5 1 b3 (pre text j).length (bvs (pre text j)) →
      witnessref1_Of.L9 K (witnessref1_Of.C2 K) k t0 (.pointer (some ⟨b2, 0, none⟩)) b3 w := by
  intro k
  induction k with
  | zero => intro i _ _ _ h; omega
  | succ k ih =>
    intro j b3 w hj _ kp ho
    unfold witnessref1_Of.L9 witnessref1_Of.C9
    have hz := (zc_spec text.length)
    have hpl := pre_len text j
    refine (owns_Sl ho).len ?_
    rw [show (bvs (pre text j)).length = (pre text j).length by simp only [bvs, List.length_map], hpl]
    refine s_remi (by omega) (by omega) ?_
    refine s_neq ?_
    refine s_cnd (fun hc => ?_) (fun hc => ?_)
    · have hjz : j < zc text.length := by
        by_cases h : j < zc text.length
        · exact h
        · have : j = zc text.length := by omega
          subst this
          exfalso
          apply hc
          have := hz.1
          omega
      refine s_push (w0 := wi) (c := 0) eU8 kp ho (by omega) ?_
      intro v' w1 ho1 k1
      rw [pre_succ] at ho1
      exact ih (j + 1) v' w1 (by omega) (by omega) k1 ho1
    · have hjz : j = zc text.length := by
        by_cases h : j < zc text.length
        · have := zc_least text.length j h
          exfalso
          apply hc
          intro he
          apply this
          omega
        · omega
      subst hjz
      unfold witnessref1_Of.C2
      refine (Sl.kp0 ht0 kp).len ?_
      rw [show (bvs text).length = text.length by simp only [bvs, List.length_map]]
      have mn : IntKind.u64.min = 0 := by decide
      have mx : IntKind.u64.max = 18446744073709551615 := by decide
      refine s_cvi (by omega) ?_
      refine s_muli (by omega) ?_
      rw [show (text.length : Int) * 8 = ((text.length * 8 : Nat) : Int) by omega]
      have := rof_len text hl b2 K w0 wi h2 hki hK 9 0 b3 w rfl (by omega) kp (hb2i.kp kp (by simp)) hb2i.lt (by simpa using ho)
      exact ⟨9, this⟩
theorem rof_c (text : List UInt8) (hl : text.length ≤ 1073741824) (t0 : Value) (w : World) (ht : SB w t0 text) : CallsR Tryd.prog 22 #[t0] w fun v w' => v = .agg (bvs (sha text)).toArray ∧ Keep [] w w' := by
  apply witnessref1_Of.sound
  unfold witnessref1_Of.J witnessref1_Of.C1
  refine s_newB (l := bvs (List.replicate 32 0)) (by kernel_rfl) ?_
  intro w1 hb1 k1 hs1
  have ht1 := Sl.kp0 ht k1
  refine s_app' (base := w1.heap.size) (n := 0) (xs := []) eU8 (World.ownsRow_nil _ _ _ _) ht1 (bvs_one _) (by simp; unfold maxLen; omega) (by simp; omega) (Nat.le_refl _) ?_
  intro v w2 ho2 k2 _
  have k2' : Keep [] w1 w2 := k2
  refine s_push (w0 := w1) (c := 0x80) eU8 k2' (by simpa using ho2) (by omega) ?_
  intro v' w3 ho3 k3
  refine ⟨zc text.length + 1, rof_zero text hl w.heap.size t0 _ w w1 (Nat.le_refl _) k1 hb1 ht1 (fun w' k => ⟨rfl, k⟩) _ 0 v' w3 rfl (by omega) k3 ?_⟩
  exact ho3
end Go.Proofs.YtklieghmbhofnaaDoor
