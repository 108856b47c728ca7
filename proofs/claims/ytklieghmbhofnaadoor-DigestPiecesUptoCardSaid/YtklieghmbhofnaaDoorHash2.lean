/-
  SHA-256: the program's block, whole.
-/
import Derived.Test.YtklieghmbhofnaaDoorHash
namespace Go.Proofs.YtklieghmbhofnaaDoor
open Go Go.Ev Go.RowKit
set_option maxRecDepth 100000
theorem shl_by {w : World} {K : KT} {b : UInt8} {k : IntKind} {n : Nat} (hn : n ≤ 32) (h : K (uv (by32 b <<< n)) w) : optW (cvO .u32 (bv b)) w fun v w => optW (shO .shl v (.int k (n : Int))) w K :=
  s_cv8_32 (s_shl32 hn h)
theorem hblock_sched (st : St) (rest : List UInt8) (size : Nat) (h64 : rest.length = 64) (h bw : Nat) (hne : h < bw) (Kn : V0) (K : KT) (w0 : World) (hw0 : w0.heap.size ≤ bw) (ht : HasL w0 2 0 (uvs rounds)) (htl : 2 < w0.heap.size) (hK : ∀ w, Keep [h] w0 w → Blk w h (hcells (comp st rest).l rest size) 62 → Kn w) :
    ∀ (k t : Nat) (w : World), k + t = 65 → 1 ≤ k → Keep [] w0 w → Blk w h (hcells st.l rest size) 62 → Blk w bw (uvs (wcells rest t)) 63 →
      digest_Hash_block.L6 K (digest_Hash_block.C2 K Kn) k (.pointer (some ⟨h, 0, none⟩)) (.pointer (some ⟨bw, 0, none⟩)) (.int .i64 t) w := by
  intro k
  induction k with
  | zero => intro i _ _ h; omega
  | succ k ih =>
    intro t w hi _ kp hb hbw
    unfold digest_Hash_block.L6 digest_Hash_block.C6
    have hwl := wcells_len rest t (by omega)
    refine s_lss ?_
    refine s_cnd (fun hc => ?_) (fun hc => ?_)
    · have next : ∀ w', Keep [bw] w w' → Blk w' bw (uvs (wcells rest (t + 1))) 63 → digest_Hash_block.C7 K (digest_Hash_block.L6 K (digest_Hash_block.C2 K Kn) k) (.pointer (some ⟨h, 0, none⟩)) (.pointer (some ⟨bw, 0, none⟩)) (.int .i64 t) w' := by
        intro w' k' hb'
        unfold digest_Hash_block.C7
        refine s_addi (by rw [i64min, i64max]; omega) ?_
        exact ih (t + 1) w' (by omega) (by omega) (keep2 kp k' hw0) (hb.kp k' (by simp; omega)) hb'
      unfold digest_Hash_block.C8
      refine s_lss ?_
      refine s_cnd (fun h16 => ?_) (fun h16 => ?_)
      · refine s_nilP ?_
        refine s_fad ?_
        rw [add_mid]
        refine s_muli (by rw [i64min, i64max]; omega) ?_
        refine s_muli (by rw [i64min, i64max]; omega) ?_
        refine s_addi (by rw [i64min, i64max]; omega) ?_
        refine s_slA64 (lo := 4 * t) (hi := 4 * t + 4) (by omega) (by omega) (by omega) (by omega) (by omega) ?_
        rw [add_mid]
        refine s_drw ?_
        have rd : ∀ (j : Nat) (n : Int), j < 4 → n = (j : Int) → ld1 (.pointer (some ((⟨h, 0 + 8 + 4 * t * 1, none⟩ : Addr).add (n.toNat * 1)))) w.drew = some (bv (rest.getD (4 * t + j) 0)) := by
          intro j n hj hn
          subst hn
          simp only [ld1]
          rw [add_mid]
          have : Blk w.drew h (hcells st.l rest size) 62 := hb
          rw [this.cell, show 0 + 8 + 4 * t * 1 + (j : Int).toNat * 1 = 8 + (4 * t + j) by simp; omega]
          exact hc_rest (stl_len _) h64 (by omega)
        refine s_ixS (by omega) (by omega) ?_
        refine s_opt (rd 0 _ (by omega) (by omega)) ?_
        refine shl_by (n := 24) (by omega) ?_
        refine s_ixS (by omega) (by omega) ?_
        refine s_opt (rd 1 _ (by omega) (by omega)) ?_
        refine shl_by (n := 16) (by omega) ?_
        refine s_or32 ?_
        refine s_ixS (by omega) (by omega) ?_
        refine s_opt (rd 2 _ (by omega) (by omega)) ?_
        refine shl_by (n := 8) (by omega) ?_
        refine s_or32 ?_
        refine s_ixS (by omega) (by omega) ?_
        refine s_opt (rd 3 _ (by omega) (by omega)) ?_
        refine s_cv8_32 ?_
        refine s_or32 ?_
        refine s_ixA (by omega) (by omega) ?_
        refine s_stB (w := w.drew) (i := (t : Int).toNat * 1) (e := 63) hbw (by simp; omega) rfl ?_
        intro w1 hb1 k1
        refine next w1 ((Keep.refl [bw] w).drew.tr k1) ?_
        rw [show 0 + (t : Int).toNat * 1 = t by simp, uvs_set] at hb1
        rw [← wcells_set rest t (by omega)]
        have e : word rest (sched rest t) t = be4 (rest.getD (4 * t) 0) (rest.getD (4 * t + 1) 0) (rest.getD (4 * t + 2) 0) (rest.getD (4 * t + 3) 0) := by
          unfold word
          rw [if_pos (by omega)]
        rw [e, ← be4_or]
        exact hb1
      · have rd : ∀ (j : Nat) (n : Int) (w' : World), w'.heap = w.heap → j < t → n = (j : Int) → ld1 (.pointer (some ((⟨bw, 0, none⟩ : Addr).add (n.toNat * 1)))) w' = some (uv ((sched rest t).getD j 0)) := by
          intro j n w' hw' hj hn
          rw [← wcells_get rest t j hj]
          have : Blk w' bw (uvs (wcells rest t)) 63 := by unfold Blk at hbw ⊢; rw [hw']; exact hbw
          exact ldw this (by omega) hn
        refine s_drw ?_
        refine s_subi (by rw [i64min, i64max]; omega) ?_
        refine s_ixA (by omega) (by omega) ?_
        refine s_opt (rd (t - 15) _ w.drew rfl (by omega) (by omega)) ?_
        refine s_subi (by rw [i64min, i64max]; omega) ?_
        refine s_ixA (by omega) (by omega) ?_
        refine s_opt (rd (t - 2) _ w.drew rfl (by omega) (by omega)) ?_
        refine rl_k 7 (by rfl) (by omega) (by omega) ?_
        refine rl_k 18 (by rfl) (by omega) (by omega) ?_
        refine s_xor32 ?_
        refine s_shr32 (n := 3) (by omega) ?_
        refine s_xor32 ?_
        refine rl_k 17 (by rfl) (by omega) (by omega) ?_
        refine rl_k 19 (by rfl) (by omega) (by omega) ?_
        refine s_xor32 ?_
        refine s_shr32 (n := 10) (by omega) ?_
        refine s_xor32 ?_
        refine s_drw ?_
        refine s_subi (by rw [i64min, i64max]; omega) ?_
        refine s_ixA (by omega) (by omega) ?_
        refine s_opt (rd (t - 16) _ w.drew.drew rfl (by omega) (by omega)) ?_
        refine s_add32 ?_
        refine s_subi (by rw [i64min, i64max]; omega) ?_
        refine s_ixA (by omega) (by omega) ?_
        refine s_opt (rd (t - 7) _ w.drew.drew rfl (by omega) (by omega)) ?_
        refine s_add32 ?_
        refine s_add32 ?_
        refine s_ixA (by omega) (by omega) ?_
        refine s_stB (w := w.drew.drew) (i := (t : Int).toNat * 1) (e := 63) hbw (by simp; omega) rfl ?_
        intro w1 hb1 k1
        refine next w1 ((Keep.refl [bw] w).drew.drew.tr k1) ?_
        rw [show 0 + (t : Int).toNat * 1 = t by simp, uvs_set] at hb1
        rw [← wcells_set rest t (by omega)]
        have e : word rest (sched rest t) t = (sched rest t).getD (t - 16) 0 + ssig0 ((sched rest t).getD (t - 15) 0) + (sched rest t).getD (t - 7) 0 + ssig1 ((sched rest t).getD (t - 2) 0) := by
          unfold word
          rw [if_neg (by omega)]
        rw [e]
        exact hb1
    · have e : t = 64 := by omega
      subst e
      have hw : wcells rest 64 = sched rest 64 := by simp [wcells]
      rw [hw] at hbw
      unfold digest_Hash_block.C2
      have hd : Blk w.drew h (hcells st.l rest size) 62 := hb
      refine s_drw ?_
      have rd : ∀ (j : Nat) (n : Int), j < 8 → n = (j : Int) → ld1 (.pointer (some ((⟨h, 0 + 0, none⟩ : Addr).add (n.toNat * 1)))) w.drew = some (uv (st.l.getD j 0)) := by
        intro j n hj hn
        subst hn
        simp only [ld1]
        rw [add_mid, hd.cell, show 0 + 0 + (j : Int).toNat * 1 = j by simp]
        exact hc_st (stl_len _) hj
      refine s_nilP (s_fad ?_); rw [add_mid]
      refine s_ixA (by omega) (by omega) (s_opt (rd 0 _ (by omega) (by omega)) ?_)
      refine s_nilP (s_fad ?_); rw [add_mid]
      refine s_ixA (by omega) (by omega) (s_opt (rd 1 _ (by omega) (by omega)) ?_)
      refine s_nilP (s_fad ?_); rw [add_mid]
      refine s_ixA (by omega) (by omega) (s_opt (rd 2 _ (by omega) (by omega)) ?_)
      refine s_nilP (s_fad ?_); rw [add_mid]
      refine s_ixA (by omega) (by omega) (s_opt (rd 3 _ (by omega) (by omega)) ?_)
      refine s_nilP (s_fad ?_); rw [add_mid]
      refine s_ixA (by omega) (by omega) (s_opt (rd 4 _ (by omega) (by omega)) ?_)
      refine s_nilP (s_fad ?_); rw [add_mid]
      refine s_ixA (by omega) (by omega) (s_opt (rd 5 _ (by omega) (by omega)) ?_)
      refine s_nilP (s_fad ?_); rw [add_mid]
      refine s_ixA (by omega) (by omega) (s_opt (rd 6 _ (by omega) (by omega)) ?_)
      refine s_nilP (s_fad ?_); rw [add_mid]
      refine s_ixA (by omega) (by omega) (s_opt (rd 7 _ (by omega) (by omega)) ?_)
      refine s_ldN (vs := uvs rounds) ((ht.keep (kp.drew.block _ htl (by simp))).row (by simp [rounds])) ?_
      have := hblock_rounds st rest size (sched rest 64) (sched_len _ _) h bw (by omega) Kn K w0 (fun w' k' hb' => hK w' k' hb') w.drew (kp.drew.mono (by simp)) hd hbw 65 0 rfl (by omega)
      exact ⟨65, this⟩
/-- The tables lie where the row says. -/
structure Tabs (w : World) : Prop where
  r : HasL w 2 0 (uvs rounds)
  f : HasL w 1 0 (uvs first)
theorem Tabs.lr {w : World} (h : Tabs w) : 2 < w.heap.size := HasL.lt (v := uv (rounds.getD 0 0)) (vs := (rounds.drop 1).map uv) h.r
theorem Tabs.lf {w : World} (h : Tabs w) : 1 < w.heap.size := HasL.lt (v := uv (first.getD 0 0)) (vs := (first.drop 1).map uv) h.f
theorem Tabs.kp {w w' : World} {S : List Nat} (h : Tabs w) (k : Keep S w w') (hr : 2 ∉ S) (hf : 1 ∉ S) : Tabs w' := ⟨h.r.keep (k.block _ h.lr hr), h.f.keep (k.block _ h.lf hf)⟩
theorem hblock_c (st : St) (rest : List UInt8) (size : Nat) (h64 : rest.length = 64) (h : Nat) (w : World) (ht : Tabs w) (hb : Blk w h (hcells st.l rest size) 62) :
    CallsR Tryd.prog 30 #[.pointer (some ⟨h, 0, none⟩)] w fun v w' => v = .tuple #[] ∧ Keep [h] w w' ∧ Blk w' h (hcells (comp st rest).l rest size) 62 := by
  apply digest_Hash_block.sound
  unfold digest_Hash_block.J digest_Hash_block.C1
  refine s_newB (l := uvs (List.replicate 64 0)) (by kernel_rfl) ?_
  intro w1 hb1 k1 hs1
  exact ⟨65, hblock_sched st rest size h64 h w.heap.size hb.lt _ _ w (Nat.le_refl _) ht.r ht.lr (fun w' k' hb' => ⟨rfl, k', hb'⟩) 65 0 w1 rfl (by omega) k1 (hb.kp k1 (by simp)) hb1⟩
end Go.Proofs.YtklieghmbhofnaaDoor
