/-
  SHA-256: the program's Sum and Of, whole.
-/
import Derived.Test.YtklieghmbhofnaaDoorHash4
namespace Go.Proofs.YtklieghmbhofnaaDoor
open Go Go.Ev Go.RowKit
set_option maxRecDepth 100000
/-- Mark and zeros alone. -/
def mz (j : Nat) : List UInt8 := 0x80 :: List.replicate j 0
theorem mz_len (j : Nat) : (mz j).length = 1 + j := by simp [mz]; omega
theorem mz_succ (j : Nat) : mz j ++ [0] = mz (j + 1) := by
  unfold mz
  rw [List.cons_append, List.replicate_succ']
theorem mz_pad (n : Nat) : mz (zc n) ++ be8 (n * 8) = padOf n := by
  unfold mz padOf
  rw [List.cons_append]
theorem hsum_len (T : List UInt8) (hl : T.length ≤ 1073741824) (b2 c3 : Nat) (h23 : b2 < c3) (hgr : 2 ≠ c3) (hgf : 1 ≠ c3) (K : KT) (w0 wi : World) (h2 : w0.heap.size ≤ b2) (hki : Keep [] w0 wi) (hc3 : c3 < wi.heap.size) (hti : Tabs wi) (hK : ∀ w, Keep [] w0 w → K (.agg (bvs (sha T)).toArray) w) (hb2 : Blk wi b2 (bvs (List.replicate 32 0)) 43) (hs : HS wi c3 T T.length) :
    ∀ (k q : Nat) (v : Value) (w : World), k + q = 9 → 1 ≤ k → Keep [] wi w → w.ownsRow wi.heap.size 5 1 v (mz (zc T.length) ++ (be8 (T.length * 8)).take q).length (bvs (mz (zc T.length) ++ (be8 (T.length * 8)).take q)) →
      digest_Hash_Sum.L6 K (digest_Hash_Sum.C3 K) k (.pointer (some ⟨b2, 0, none⟩)) (.pointer (some ⟨c3, 0, none⟩)) (.int .u64 ((T.length * 8 : Nat) : Int)) v (.int .i64 (56 - 8 * (q : Int))) w := by
  intro k
  induction k with
  | zero => intro i _ _ _ h; omega
  | succ k ih =>
    intro q v w hq _ kp ho
    unfold digest_Hash_Sum.L6 digest_Hash_Sum.C6
    have hz := (zc_spec T.length).2
    refine s_geq ?_
    refine s_cnd (fun hc => ?_) (fun hc => ?_)
    · refine s_shr (by omega) ?_
      refine s_cv ?_
      rw [shr_byte _ q (by omega)]
      refine s_push (w0 := wi) (c := UInt8.ofNat (T.length * 8 / 2 ^ (56 - 8 * q))) eU8 kp ho (by rw [List.length_append, mz_len, List.length_take, be8_len]; omega) ?_
      intro v' w1 ho1 k1
      refine s_subi (by rw [i64min, i64max]; omega) ?_
      rw [show (56 : Int) - 8 * (q : Int) - 8 = 56 - 8 * ((q + 1 : Nat) : Int) by omega]
      rw [List.append_assoc, ← be8_take _ q (by omega)] at ho1
      exact ih (q + 1) v' w1 (by omega) (by omega) k1 ho1
    · have e : q = 8 := by omega
      subst e
      rw [List.take_of_length_le (by rw [be8_len]; exact Nat.le_refl _), mz_pad] at ho
      exact hsum_tail T hl b2 c3 h23 hgr hgf v K w0 h2 hK w (hki.tr kp) (hti.kp kp (by simp) (by simp)) (hb2.kp kp (by simp)) (hs.kp kp (by simp)) (owns_Sl ho) (fun hx => by have := (owns_lt ho c3 hx).1; omega)
theorem hsum_zero (T : List UInt8) (hl : T.length ≤ 1073741824) (h b2 c3 : Nat) (h23 : b2 < c3) (hgr : 2 ≠ c3) (hgf : 1 ≠ c3) (K : KT) (w0 wi : World) (h2 : w0.heap.size ≤ b2) (hki : Keep [] w0 wi) (hc3 : c3 < wi.heap.size) (hti : Tabs wi) (hK : ∀ w, Keep [] w0 w → K (.agg (bvs (sha T)).toArray) w) (hb2 : Blk wi b2 (bvs (List.replicate 32 0)) 43) (hs : HS wi c3 T T.length) (hh : HS wi h T T.length) :
    ∀ (k j : Nat) (v : Value) (w : World), k + j = zc T.length + 1 → 1 ≤ k → Keep [] wi w → w.ownsRow wi.heap.size 5 1 v (mz j).length (bvs (mz j)) →
      digest_Hash_Sum.L7 K (digest_Hash_Sum.C2 K) k (.pointer (some ⟨h, 0, none⟩)) (.pointer (some ⟨b2, 0, none⟩)) (.pointer (some ⟨c3, 0, none⟩)) (.int .u64 ((T.length * 8 : Nat) : Int)) v w := by
  intro k
  induction k with
  | zero => intro i _ _ _ h; omega
  | succ k ih =>
    intro j v w hj _ kp ho
    unfold digest_Hash_Sum.L7 digest_Hash_Sum.C7
    have hz := (zc_spec T.length)
    have hml := mz_len j
    obtain ⟨rest, h64, hb, _⟩ := hh
    refine s_nilP (s_fad ?_)
    refine s_ld (v := .int .u64 (T.length : Int)) (by rw [add_mid, (hb.kp kp (by simp)).cell]; exact hc_size (stl_len _) h64) ?_
    refine (owns_Sl ho).len ?_
    rw [show (bvs (mz j)).length = (mz j).length by simp only [bvs, List.length_map], hml]
    refine s_cvi (by rw [u64min, u64max]; omega) ?_
    refine s_addi (by rw [u64min, u64max]; omega) ?_
    refine s_remi (by omega) (by omega) ?_
    refine s_neq ?_
    refine s_cnd (fun hc => ?_) (fun hc => ?_)
    · have hjz : j < zc T.length := by
        by_cases hx : j < zc T.length
        · exact hx
        · have : j = zc T.length := by omega
          subst this
          exfalso
          apply hc
          have := hz.1
          omega
      refine s_push (w0 := wi) (c := 0) eU8 kp ho (by omega) ?_
      intro v' w1 ho1 k1
      rw [mz_succ] at ho1
      exact ih (j + 1) v' w1 (by omega) (by omega) k1 ho1
    · have hjz : j = zc T.length := by
        by_cases hx : j < zc T.length
        · have := zc_least T.length j hx
          exfalso
          apply hc
          intro he
          apply this
          omega
        · omega
      subst hjz
      unfold digest_Hash_Sum.C2
      have := hsum_len T hl b2 c3 h23 hgr hgf K w0 wi h2 hki hc3 hti hK hb2 hs 9 0 v w rfl (by omega) kp (by simpa using ho)
      exact ⟨9, this⟩
theorem sum_c (h : Nat) (T : List UInt8) (hl : T.length ≤ 1073741824) (w : World) (ht : Tabs w) (hs : HS w h T T.length) : CallsR Tryd.prog 21 #[.pointer (some ⟨h, 0, none⟩)] w fun v w' => v = .agg (bvs (sha T)).toArray ∧ Keep [] w w' := by
  apply digest_Hash_Sum.sound
  unfold digest_Hash_Sum.J digest_Hash_Sum.C1
  have hlr := ht.lr
  have hlf := ht.lf
  refine s_newB (l := bvs (List.replicate 32 0)) (by kernel_rfl) ?_
  intro w1 hb1 k1 hs1
  have hh1 := hs.kp k1 (by simp)
  obtain ⟨rest, h64, hb, hrest⟩ := hh1
  refine s_nilP ?_
  refine s_ldNB (vs := hcells (full T (T.length / 64)).l rest T.length) hb (hc_len (stl_len _) h64) (by simp) ?_
  refine s_newB (l := hcells (List.replicate 8 0) zrest 0) (by kernel_rfl) ?_
  intro w2 hb2 k2 hs2
  refine s_stNB0 hb2 (hc_len (stl_len _) h64) (hc_len (by simp) (by simp [zrest])) hc_one ?_
  intro w3 hb3 k3
  have k13 : Keep [] w1 w3 := keep2 k2 k3 (Nat.le_refl _)
  have hbh := hb.kp k13 (by simp)
  refine s_nilP (s_fad ?_)
  refine s_ld (v := .int .u64 (T.length : Int)) (by rw [add_mid, hbh.cell]; exact hc_size (stl_len _) h64) ?_
  refine s_muli (by rw [u64min, u64max]; omega) ?_
  rw [show (T.length : Int) * 8 = ((T.length * 8 : Nat) : Int) by omega]
  refine s_lit1 eU8 rfl ?_
  intro w4 k4 ho4
  have k14 : Keep [] w1 w4 := k13.tr k4
  have hlt3 := hb3.lt
  have := hsum_zero T hl h w.heap.size w1.heap.size hs1 (by omega) (by omega) (fun v w' => v = .agg (bvs (sha T)).toArray ∧ Keep [] w w') w w3 (Nat.le_refl _) (k1.tr k13) hlt3 ((ht.kp k1 (by simp) (by simp)).kp k13 (by simp) (by simp)) (fun w' k => ⟨rfl, k⟩) (hb1.kp k13 (by simp)) ⟨rest, h64, hb3, hrest⟩ ⟨rest, h64, hbh, hrest⟩ (zc T.length + 1) 0 (.slice (some ⟨w3.heap.size, 0, none⟩) 1 1) w4 rfl (by omega) k4 ho4
  exact ⟨_, this⟩
theorem dof_loop (ls : List (List UInt8)) (p : Value) (K : KT) (w0 : World) (b2 h3 : Nat) (h2 : w0.heap.size ≤ b2) (h23 : b2 < h3) (hgr : 2 ≠ h3) (hgf : 1 ≠ h3) (hsm : Small ls) (hfl : ls.flatten.length ≤ 1073741824) (hp : SS w0 p ls) (ht : Tabs w0) (hK : ∀ w, Keep [] w0 w → K (.agg (bvs (sha ls.flatten)).toArray) w) :
    ∀ (k i : Nat) (w : World), k + i = ls.length + 1 → 1 ≤ k → Keep [] w0 w → Blk w b2 (bvs (List.replicate 32 0)) 43 → HS w h3 (ls.take i).flatten (ls.take i).flatten.length →
      digest_Of.L3 K (digest_Of.C2 K) k (.pointer (some ⟨b2, 0, none⟩)) (.pointer (some ⟨h3, 0, none⟩)) p (.int .i64 ls.length) (.int .i64 i) w := by
  intro k
  induction k with
  | zero => intro i _ _ h; omega
  | succ k ih =>
    intro i w hi _ kp hb2 hs
    have hs1 := hsm.1
    unfold digest_Of.L3 digest_Of.C3
    refine s_lss ?_
    refine s_cnd (fun hc => ?_) (fun hc => ?_)
    · have hi' : i < ls.length := by omega
      have hle : (ls.take (i + 1)).flatten.length ≤ ls.flatten.length := by
        conv => rhs; rw [← List.take_append_drop (i + 1) ls, List.flatten_append, List.length_append]
        omega
      obtain ⟨vs, g1, g2, g3⟩ := hp
      obtain ⟨u, hu, hsu⟩ := g3 i hi'
      refine (g1.kp0 kp).get (u := u) (by omega) (by simpa using hu) ?_
      intro a ha
      refine s_opt ha ?_
      have hnb : ls.getD i [] ≠ [] → h3 ∉ blkOf u := fun hne hx => by
        have := Sl.lt hsu (by simpa using hne) h3 hx
        omega
      refine (write_c h3 _ _ u w hgr hgf (ht.kp kp (by simp) (by simp)) hs (Sl.kp0 hsu kp) hnb (by rw [← take_flat hi']; omega)).mono ?_
      rintro x w1 ⟨rfl, k1, hs1'⟩
      refine s_addi (by rw [i64min, i64max]; omega) ?_
      rw [← take_flat hi'] at hs1'
      exact ih (i + 1) w1 (by omega) (by omega) (keep2 kp k1 (by omega)) (hb2.kp k1 (by simp; omega)) hs1'
    · have e : i = ls.length := by omega
      subst e
      rw [List.take_length] at hs
      unfold digest_Of.C2
      refine (sum_c h3 ls.flatten hfl w (ht.kp kp (by simp) (by simp)) hs).mono ?_
      rintro x w1 ⟨rfl, k1⟩
      refine s_stNB0 (hb2.kp k1 (by simp)) (by simp [sha_len]) (by simp) (bvs_one _) ?_
      intro w2 hb22 k2
      refine s_resA Tryd.underlying43 rfl (n := 32) (by kernel_rfl) (by simp [sha_len]) hb22.has ?_
      exact hK w2 (keep2 (kp.tr k1) k2 h2)
theorem dof_c (ls : List (List UInt8)) (p : Value) (w : World) (hsm : Small ls) (hfl : ls.flatten.length ≤ 1073741824) (hp : SS w p ls) (ht : Tabs w) : CallsR Tryd.prog 26 #[p] w fun v w' => v = .agg (bvs (sha ls.flatten)).toArray ∧ Keep [] w w' := by
  apply digest_Of.sound
  unfold digest_Of.J digest_Of.C1
  have hlr := ht.lr
  have hlf := ht.lf
  refine s_newB (l := bvs (List.replicate 32 0)) (by kernel_rfl) ?_
  intro w1 hb1 k1 hs1
  refine (new_c w1 (ht.kp k1 (by simp) (by simp))).mono ?_
  rintro v w2 ⟨rfl, k2, hs2⟩
  refine (hp.kp0 (k1.tr k2)).len ?_
  exact ⟨ls.length + 1, dof_loop ls p _ w w.heap.size w1.heap.size (Nat.le_refl _) hs1 (by omega) (by omega) hsm hfl hp ht (fun w' k => ⟨rfl, k⟩) _ 0 w2 rfl (by omega) (k1.tr k2) (hb1.kp k2 (by simp)) hs2⟩
end Go.Proofs.YtklieghmbhofnaaDoor
