/-
  SHA-256: Write, New, Size, Fork, Reset, Sum.
-/
import Derived.Test.YtklieghmbhofnaaDoorHash3
namespace Go.Proofs.YtklieghmbhofnaaDoor
open Go Go.Ev Go.RowKit
set_option maxRecDepth 100000
theorem u64min : IntKind.u64.min = 0 := by decide
theorem u64max : IntKind.u64.max = 18446744073709551615 := by decide
theorem hc_setSize {st : List (BitVec 32)} {rest : List UInt8} {size n : Nat} (h8 : st.length = 8) (h64 : rest.length = 64) : (hcells st rest size).set 72 (.int .u64 (n : Int)) = hcells st rest n := by
  unfold hcells
  rw [List.set_append_right _ _ (by simp; omega)]
  simp [h8, h64]
theorem write_c (h : Nat) (T r : List UInt8) (v : Value) (w : World) (hgr : 2 ≠ h) (hgf : 1 ≠ h) (ht : Tabs w) (hs : HS w h T T.length) (hv : SB w v r) (hnb : r ≠ [] → h ∉ blkOf v) (hl : (T ++ r).length ≤ 1099511627776) :
    CallsR Tryd.prog 20 #[.pointer (some ⟨h, 0, none⟩), v] w fun x w' => x = .tuple #[] ∧ Keep [h] w w' ∧ HS w' h (T ++ r) (T ++ r).length := by
  apply digest_Hash_Write.sound
  unfold digest_Hash_Write.J digest_Hash_Write.C1
  obtain ⟨rest, h64, hb, hrest⟩ := hs
  have hl' := hl
  rw [List.length_append] at hl'
  have hsz : w.cell? ((⟨h, 0, none⟩ : Addr).add 72) = some (.int .u64 (T.length : Int)) := by
    rw [add_mid, hb.cell]
    exact hc_size (stl_len _) h64
  refine s_nilP (s_fad ?_)
  refine s_ld hsz ?_
  refine s_remi (by omega) (by omega) ?_
  refine s_cvi (by rw [i64min, i64max]; omega) ?_
  refine s_nilP (s_fad ?_)
  refine s_ld hsz ?_
  refine hv.len ?_
  rw [show (bvs r).length = r.length by simp only [bvs, List.length_map]]
  refine s_cvi (by rw [u64min, u64max]; omega) ?_
  refine s_addi (by rw [u64min, u64max]; omega) ?_
  rw [show (T.length : Int) + (r.length : Int) = (((T ++ r).length : Nat) : Int) by rw [List.length_append]; omega]
  refine s_nilP (s_fad ?_)
  refine s_stB (o := 0) (i := 72) hb (by rw [hc_len (stl_len _) h64]; omega) rfl ?_
  intro w1 hb1 k1
  rw [show 0 + 72 = 72 by rfl, hc_setSize (stl_len _) h64] at hb1
  have hv1 : SB w1 v r := Sl.kp' hv k1 (fun hne b hx => by simp; rintro rfl; exact hnb (by rintro rfl; exact hne rfl) hx)
  refine ⟨r.length + 1, ?_⟩
  have := write_loop h (T ++ r).length (fun w' => (fun x w' => x = Value.tuple #[] ∧ Keep [h] w w' ∧ HS w' h (T ++ r) (T ++ r).length) (.tuple #[]) w') (fun x w' => x = Value.tuple #[] ∧ Keep [h] w w' ∧ HS w' h (T ++ r) (T ++ r).length) w hgr hgf (T ++ r) (fun w' k' hs' => ⟨rfl, k', hs'⟩) (r.length + 1) T r v w1 (by omega) rfl hl k1 (ht.kp k1 (by simpa using hgr) (by simpa using hgf)) ⟨rest, h64, hb1, hrest⟩ hv1 hnb
  rw [show (T.length : Int) % 64 = ((T.length % 64 : Nat) : Int) by omega]
  exact this
theorem full_nil : full [] 0 = firstSt := rfl
def zrest : List UInt8 := List.replicate 64 0
theorem new_hs {w : World} {h : Nat} (hb : Blk w h (hcells first zrest 0) 62) : HS w h [] 0 := ⟨zrest, by simp [zrest], by
  have e : full ([] : List UInt8) (([] : List UInt8).length / 64) = firstSt := rfl
  rw [e, firstSt_l]
  exact hb, rfl⟩
theorem new_c (w : World) (ht : Tabs w) : CallsR Tryd.prog 19 #[] w fun v w' => v = .pointer (some ⟨w.heap.size, 0, none⟩) ∧ Keep [] w w' ∧ HS w' w.heap.size [] 0 := by
  apply digest_New.sound
  unfold digest_New.J digest_New.C1
  refine s_ldN (vs := uvs first) (ht.f.row (by simp [first])) ?_
  refine ⟨.agg (hcells first zrest 0).toArray, w, by kernel_rfl, ?_⟩
  refine s_newB (l := hcells first zrest 0) rfl ?_
  intro w1 hb1 k1 _
  exact ⟨rfl, k1, new_hs hb1⟩
theorem size_c (h : Nat) (T : List UInt8) (w : World) (hs : HS w h T T.length) : CallsR Tryd.prog 23 #[.pointer (some ⟨h, 0, none⟩)] w fun v w' => v = .int .u64 (T.length : Int) ∧ w' = w := by
  apply digest_Hash_Size.sound
  unfold digest_Hash_Size.J digest_Hash_Size.C1
  obtain ⟨rest, h64, hb, hrest⟩ := hs
  refine s_nilP (s_fad ?_)
  refine s_ld (v := .int .u64 (T.length : Int)) (by rw [add_mid, hb.cell]; exact hc_size (stl_len _) h64) ?_
  exact ⟨rfl, rfl⟩
theorem hc_one {st : List (BitVec 32)} {rest : List UInt8} {size : Nat} : ∀ u ∈ hcells st rest size, u.oneCell' = true := by
  intro u hu
  unfold hcells at hu
  rw [List.mem_append, List.mem_append] at hu
  rcases hu with (hu | hu) | hu
  · exact uvs_one _ u hu
  · exact bvs_one _ u hu
  · simp at hu
    subst hu
    rfl
theorem fork_c (h : Nat) (T : List UInt8) (n : Nat) (w : World) (hs : HS w h T n) : CallsR Tryd.prog 24 #[.pointer (some ⟨h, 0, none⟩)] w fun v w' => v = .pointer (some ⟨w.heap.size, 0, none⟩) ∧ Keep [] w w' ∧ HS w' w.heap.size T n := by
  apply digest_Hash_Fork.sound
  unfold digest_Hash_Fork.J digest_Hash_Fork.C1
  obtain ⟨rest, h64, hb, hrest⟩ := hs
  refine s_nilP ?_
  refine s_ldNB (vs := hcells (full T (T.length / 64)).l rest n) hb (hc_len (stl_len _) h64) (by simp) ?_
  refine s_newB (l := hcells (List.replicate 8 0) zrest 0) (by kernel_rfl) ?_
  intro w1 hb1 k1 _
  refine s_stNB0 hb1 (hc_len (stl_len _) h64) (hc_len (by simp) (by simp [zrest])) hc_one ?_
  intro w2 hb2 k2
  exact ⟨rfl, keep2 k1 k2 (Nat.le_refl _), rest, h64, hb2, hrest⟩
theorem reset_c (h : Nat) (T : List UInt8) (n : Nat) (w : World) (ht : Tabs w) (hs : HS w h T n) : CallsR Tryd.prog 25 #[.pointer (some ⟨h, 0, none⟩)] w fun v w' => v = .tuple #[] ∧ Keep [h] w w' ∧ HS w' h [] 0 := by
  apply digest_Hash_Reset.sound
  unfold digest_Hash_Reset.J digest_Hash_Reset.C1
  obtain ⟨rest, h64, hb, hrest⟩ := hs
  refine s_ldN (vs := uvs first) (ht.f.row (by simp [first])) ?_
  refine ⟨.agg (hcells first zrest 0).toArray, w, by kernel_rfl, ?_⟩
  refine s_nilP ?_
  refine s_stNB0 hb (hc_len (by simp [first]) (by simp [zrest])) (hc_len (stl_len _) h64) hc_one ?_
  intro w1 hb1 k1
  exact ⟨rfl, k1, new_hs hb1⟩
/-! ### Sum -/
theorem hsum_out (s : St) (b2 b7 : Nat) (h27 : b2 < b7) (K : KT) (w0 : World) (h2 : w0.heap.size ≤ b2) (hK : ∀ w, Keep [] w0 w → K (.agg (bvs (outOf s)).toArray) w) :
    ∀ (k i : Nat) (w : World), k + i = 9 → 1 ≤ k → Keep [] w0 w → Blk w b2 (bvs (List.replicate 32 0)) 43 → Blk w b7 (bvs (outTo s (4 * i))) 43 →
      digest_Hash_Sum.L5 K (digest_Hash_Sum.C4 K) k (.pointer (some ⟨b2, 0, none⟩)) (.pointer (some ⟨b7, 0, none⟩)) (.agg (uvs s.l).toArray) (.int .i64 i) w := by
  intro k
  induction k with
  | zero => intro i _ _ h; omega
  | succ k ih =>
    intro i w hi _ kp hb2 hb7
    unfold digest_Hash_Sum.L5 digest_Hash_Sum.C5
    refine s_lss ?_
    refine s_cnd (fun hc => ?_) (fun hc => ?_)
    · refine s_idx (v := uv (s.l.getD i 0)) (by omega) (by omega) (by rw [show (i : Int).toNat * 1 = i by simp]; simpa using uvs_at (l := s.l) (i := i) (by rw [stl_len]; omega)) ?_
      refine s_muli (by rw [i64min, i64max]; omega) ?_
      refine s_muli (by rw [i64min, i64max]; omega) ?_
      refine s_addi (by rw [i64min, i64max]; omega) ?_
      refine s_muli (by rw [i64min, i64max]; omega) ?_
      refine s_addi (by rw [i64min, i64max]; omega) ?_
      refine s_muli (by rw [i64min, i64max]; omega) ?_
      refine s_addi (by rw [i64min, i64max]; omega) ?_
      refine s_shr32 (n := 24) (by omega) (s_cv32_8 ?_)
      refine s_shr32 (n := 16) (by omega) (s_cv32_8 ?_)
      refine s_shr32 (n := 8) (by omega) (s_cv32_8 ?_)
      refine s_cv32_8 ?_
      have step : ∀ (j : Nat) (n : Int) (w : World) (L : List UInt8) (c : UInt8) (KK : World → Prop), j < 32 → n = (j : Int) → L = outTo s j → c = UInt8.ofNat (s.l.getD (j / 4) 0 >>> (24 - 8 * (j % 4))).toNat → Blk w b7 (bvs L) 43 → (∀ w', Blk w' b7 (bvs (outTo s (j + 1))) 43 → Keep [b7] w w' → KK w') → optW (ixA 32 1 (.pointer (some ⟨b7, 0, none⟩)) (.int .i64 n)) w fun v w => st1 v (bv c) w KK := by
        intro j n w L c KK hj hn hL hc hb hk
        subst hn hL hc
        have hl := outTo_len s j (by omega)
        refine s_ixA (by omega) (by omega) ?_
        refine s_stB (i := (j : Int).toNat * 1) hb (by simp; omega) rfl ?_
        intro w1 hb1 k1
        rw [show 0 + (j : Int).toNat * 1 = j by simp, outTo_set s j hj] at hb1
        exact hk w1 hb1 k1
      refine step (4 * i) _ w _ _ _ (by omega) (by omega) rfl (by rw [show 4 * i / 4 = i by omega, show 24 - 8 * (4 * i % 4) = 24 by omega]) hb7 ?_
      intro w1 hb1 k1
      refine step (4 * i + 1) _ w1 _ _ _ (by omega) (by omega) rfl (by rw [show (4 * i + 1) / 4 = i by omega, show 24 - 8 * ((4 * i + 1) % 4) = 16 by omega]) hb1 ?_
      intro w2 hb2' k2
      refine step (4 * i + 2) _ w2 _ _ _ (by omega) (by omega) rfl (by rw [show (4 * i + 2) / 4 = i by omega, show 24 - 8 * ((4 * i + 2) % 4) = 8 by omega]) hb2' ?_
      intro w3 hb3 k3
      refine step (4 * i + 3) _ w3 _ _ _ (by omega) (by omega) rfl (by rw [show (4 * i + 3) / 4 = i by omega, show 24 - 8 * ((4 * i + 3) % 4) = 0 by omega, BitVec.ushiftRight_zero]) hb3 ?_
      intro w4 hb4 k4
      have k14 : Keep [b7] w w4 := ((k1.tr k2).tr k3).tr k4
      refine s_addi (by rw [i64min, i64max]; omega) ?_
      exact ih (i + 1) w4 (by omega) (by omega) (keep2 kp k14 (by omega)) (hb2.kp k14 (by simp; omega)) hb4
    · have e : i = 8 := by omega
      subst e
      unfold digest_Hash_Sum.C4
      have he : outTo s (4 * 8) = outOf s := by
        unfold outTo
        rw [List.take_of_length_le (by rw [out_len]; exact Nat.le_refl _)]
        simp
      rw [he] at hb7
      refine s_ldNB (vs := bvs (outOf s)) hb7 (by simp [out_len]) (by simp) ?_
      refine s_stNB0 hb2 (by simp [out_len]) (by simp) (bvs_one _) ?_
      intro w1 hb1 k1
      refine s_resA Tryd.underlying43 rfl (n := 32) (by kernel_rfl) (by simp [out_len]) hb1.has ?_
      exact hK w1 (keep2 kp k1 h2)
theorem hsum_tail (T : List UInt8) (hl : T.length ≤ 1073741824) (b2 c3 : Nat) (h23 : b2 < c3) (hgr : 2 ≠ c3) (hgf : 1 ≠ c3) (v : Value) (K : KT) (w0 : World) (h2 : w0.heap.size ≤ b2) (hK : ∀ w, Keep [] w0 w → K (.agg (bvs (sha T)).toArray) w)
    (w : World) (kp : Keep [] w0 w) (ht : Tabs w) (hb2 : Blk w b2 (bvs (List.replicate 32 0)) 43) (hs : HS w c3 T T.length) (hv : SB w v (padOf T.length)) (hnb : c3 ∉ blkOf v) : digest_Hash_Sum.C3 K (.pointer (some ⟨b2, 0, none⟩)) (.pointer (some ⟨c3, 0, none⟩)) v w := by
  unfold digest_Hash_Sum.C3
  have hpl := pad_len T.length
  have hz := (zc_spec T.length).2
  refine (write_c c3 T (padOf T.length) v w hgr hgf ht hs hv (fun _ => hnb) (by rw [List.length_append]; omega)).mono ?_
  rintro x w1 ⟨rfl, k1, hs1⟩
  refine s_newB (l := bvs (List.replicate 32 0)) (by kernel_rfl) ?_
  intro w2 hb7 k2 _
  obtain ⟨rest, h64, hb, hrest⟩ := hs1
  have hb' := hb.kp k2 (by simp)
  refine s_fad ?_
  rw [add_mid]
  have hpad : (T ++ padOf T.length).length / 64 = (T.length + (padOf T.length).length) / 64 := by rw [List.length_append]
  refine s_ldNB (vs := uvs (full (T ++ padOf T.length) ((T ++ padOf T.length).length / 64)).l) hb' (by simp [stl_len]) (fun j u hj => by
    have hjl : j < 8 := by
      by_cases hx : j < 8
      · exact hx
      · rw [List.getElem?_eq_none (by simp [stl_len]; omega)] at hj; simp at hj
    rw [show 0 + 0 + j = j by omega, hc_st (stl_len _) hjl, ← hj, uvs_at (by rw [stl_len]; omega)]) ?_
  have hc3 := hs.lt
  have k12 : Keep [c3] w w2 := k1.trans k2 (fun _ h _ => h) (by simp)
  have hs1' := k1.size
  rw [hpad]
  exact ⟨9, hsum_out (full (T ++ padOf T.length) ((T.length + (padOf T.length).length) / 64)) b2 w1.heap.size (by omega) K w0 h2 hK 9 0 w2 rfl (by omega) (keep2 kp k12 (by omega)) (hb2.kp k12 (by simp; omega)) hb7⟩
end Go.Proofs.YtklieghmbhofnaaDoor
