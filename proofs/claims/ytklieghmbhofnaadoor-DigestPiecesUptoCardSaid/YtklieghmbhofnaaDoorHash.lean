/-
  SHA-256: the program's block.
-/
import Derived.Test.YtklieghmbhofnaaDoorShaOf2
namespace Go.Proofs.YtklieghmbhofnaaDoor
open Go Go.Ev Go.RowKit
set_option maxRecDepth 100000
theorem rl_all : ((List.range 32).all fun n => n == 0 || (IntKind.u64.wrap (BitVec.ofInt IntKind.u64.bits (IntKind.u64.wrap (-(n : Int))) &&& BitVec.ofInt IntKind.u64.bits 31).toNat == ((32 - n : Nat) : Int))) = true := by decide +kernel
theorem rl_c (x : BitVec 32) (n : Nat) (m : Int) (hm : m = -(n : Int)) (h0 : 1 ≤ n) (hn : n < 32) (w : World) : CallsR Tryd.prog 36 #[uv x, .int .i64 m] w fun v w' => v = uv (ror x n) ∧ w' = w := by
  subst hm
  apply bits_RotateLeft32.sound
  unfold bits_RotateLeft32.J bits_RotateLeft32.C1
  refine s_cv ?_
  refine s_and ?_
  have h := List.all_eq_true.1 rl_all n (by simpa using hn)
  have e : IntKind.u64.wrap (BitVec.ofInt IntKind.u64.bits (IntKind.u64.wrap (-(n : Int))) &&& BitVec.ofInt IntKind.u64.bits 31).toNat = ((32 - n : Nat) : Int) := by
    rw [Bool.or_eq_true, beq_iff_eq, beq_iff_eq] at h
    rcases h with h | h
    · omega
    · exact h
  rw [e]
  refine s_shl32 (by omega) ?_
  have mn : IntKind.u64.min = 0 := by decide
  have mx : IntKind.u64.max = 18446744073709551615 := by decide
  refine s_subi (by omega) ?_
  rw [show (32 : Int) - ((32 - n : Nat) : Int) = (n : Int) by omega]
  refine s_shr32 (by omega) ?_
  refine s_or32 ?_
  refine ⟨?_, rfl⟩
  unfold ror
  rw [BitVec.or_comm]
theorem rl_k {x : BitVec 32} {w : World} {K : KT} (n : Nat) {m : Int} (hm : m = -(n : Int)) (h0 : 1 ≤ n) (hn : n < 32) (h : K (uv (ror x n)) w) : CallsR Tryd.prog 36 #[uv x, .int .i64 m] w K :=
  (rl_c x n m hm h0 hn w).mono fun v w' ⟨h1, h2⟩ => by subst h1 h2; exact h
/-- x[lo:hi] of an array of 64 bytes. -/
theorem s_slA64 {w : World} {K : KT} {k k' : IntKind} {a : Addr} {lo hi : Nat} {nlo nhi : Int} (h0 : nlo = lo) (h1 : nhi = hi) (h2 : lo ≤ hi) (h3 : hi ≤ 64) (h4 : lo < 64) (h : K (.slice (some (a.add (lo * 1))) (hi - lo) (64 - lo)) w) : optW (slA 64 1 (.pointer (some a)) (some (.int k nlo)) (some (.int k' nhi)) none) w K := by
  subst h0 h1
  refine s_opt (v := .slice (some (a.add (lo * 1))) (hi - lo) (64 - lo)) ?_ h
  have e1 : bndO (.int k' (hi : Int)) 64 = some hi := by simp [bndO]; omega
  have e2 : bndO (.int k (lo : Int)) hi = some lo := by simp [bndO]; omega
  have e3 : bndsO 64 64 (some (.int k (lo : Int))) (some (.int k' (hi : Int))) none = some (lo, hi, 64) := by
    delta bndsO
    simp only [e1, e2]
  simp only [slA, e3]
  rw [if_neg (by omega)]
theorem s_slA64' {w : World} {K : KT} {k : IntKind} {a : Addr} {lo : Nat} {nlo : Int} (h0 : nlo = lo) (h4 : lo < 64) (h : K (.slice (some (a.add (lo * 1))) (64 - lo) (64 - lo)) w) : optW (slA 64 1 (.pointer (some a)) (some (.int k nlo)) none none) w K := by
  subst h0
  refine s_opt (v := .slice (some (a.add (lo * 1))) (64 - lo) (64 - lo)) ?_ h
  have e2 : bndO (.int k (lo : Int)) 64 = some lo := by simp [bndO]; omega
  have e3 : bndsO 64 64 (some (.int k (lo : Int))) none none = some (lo, 64, 64) := by
    delta bndsO
    simp only [e2]
  simp only [slA, e3]
  rw [if_neg (by omega)]
/-- A hash: its state, what lies in its rest, its size. -/
def hcells (st : List (BitVec 32)) (rest : List UInt8) (size : Nat) : List Value := uvs st ++ bvs rest ++ [.int .u64 (size : Int)]
theorem hc_st {st : List (BitVec 32)} {rest : List UInt8} {size j : Nat} (h8 : st.length = 8) (h : j < 8) : (hcells st rest size)[j]? = some (uv (st.getD j 0)) := by
  unfold hcells
  rw [List.append_assoc, List.getElem?_append_left (by simp; omega)]
  exact uvs_at (by omega)
theorem hc_rest {st : List (BitVec 32)} {rest : List UInt8} {size j : Nat} (h8 : st.length = 8) (h64 : rest.length = 64) (h : j < 64) : (hcells st rest size)[8 + j]? = some (bv (rest.getD j 0)) := by
  unfold hcells
  rw [List.append_assoc, List.getElem?_append_right (by simp; omega), List.getElem?_append_left (by simp; omega), List.getElem?_map, show 8 + j - (uvs st).length = j by simp; omega, getD_of (d := 0) (by omega)]
  rfl
theorem hc_size {st : List (BitVec 32)} {rest : List UInt8} {size : Nat} (h8 : st.length = 8) (h64 : rest.length = 64) : (hcells st rest size)[72]? = some (.int .u64 (size : Int)) := by
  unfold hcells
  rw [List.getElem?_append_right (by simp; omega)]
  simp [h8, h64]
theorem hc_len {st : List (BitVec 32)} {rest : List UInt8} {size : Nat} (h8 : st.length = 8) (h64 : rest.length = 64) : (hcells st rest size).length = 73 := by
  simp [hcells, h8, h64]
theorem hc_set {st : List (BitVec 32)} {rest : List UInt8} {size j : Nat} (x : BitVec 32) (h8 : st.length = 8) (h : j < 8) : (hcells st rest size).set j (uv x) = hcells (st.set j x) rest size := by
  unfold hcells
  rw [List.append_assoc, List.set_append_left _ _ (by simp; omega), uvs_set, ← List.append_assoc]
theorem St.add_comm (s v : St) : s.add v = v.add s := by
  unfold St.add
  simp only [BitVec.add_comm]
theorem hblock_fin (st v : St) (rest : List UInt8) (size : Nat) (h : Nat) (Kn : V0) (w0 : World) (hK : ∀ w, Keep [h] w0 w → Blk w h (hcells (st.add v).l rest size) 62 → Kn w) :
    ∀ (k i : Nat) (w : World), k + i = 9 → 1 ≤ k → Keep [h] w0 w → Blk w h (hcells (addTo v st i) rest size) 62 → ∀ K : KT, digest_Hash_block.L4 K Kn k (.pointer (some ⟨h, 0, none⟩)) (.agg (uvs v.l).toArray) (.int .i64 i) w := by
  intro k
  induction k with
  | zero => intro i _ _ h; omega
  | succ k ih =>
    intro i w hi _ kp hb K
    unfold digest_Hash_block.L4 digest_Hash_block.C4
    have hl := addTo_len v st i
    refine s_lss ?_
    refine s_cnd (fun hc => ?_) (fun hc => ?_)
    · refine s_idx (v := uv (v.l.getD i 0)) (by omega) (by omega) (by rw [show (i : Int).toNat * 1 = i by simp]; simpa using uvs_at (l := v.l) (i := i) (by rw [stl_len]; omega)) ?_
      refine s_drw ?_
      refine s_nilP ?_
      refine s_fad ?_
      rw [add_mid]
      refine s_ixA (by omega) (by omega) ?_
      refine s_ldB (w := w.drew) (e := 62) hb (v := uv ((addTo v st i).getD i 0)) (by rw [show 0 + 0 + (i : Int).toNat * 1 = i by simp]; exact hc_st hl (by omega)) ?_
      refine s_add32 ?_
      refine s_nilP ?_
      refine s_fad ?_
      rw [add_mid]
      refine s_ixA (by omega) (by omega) ?_
      refine s_stB (w := w.drew) (i := (i : Int).toNat * 1) (e := 62) hb (by simp [hcells, hl]; omega) rfl ?_
      intro w1 hb1 k1
      refine s_addi (by rw [i64min, i64max]; omega) ?_
      rw [show 0 + 0 + (i : Int).toNat * 1 = i by simp, hc_set _ hl (by omega), addTo_get v st i (by omega), BitVec.add_comm, addTo_set v st i (by omega)] at hb1
      exact ih (i + 1) w1 (by omega) (by omega) (kp.tr ((Keep.refl [h] w).drew.tr k1)) hb1 K
    · have e : i = 8 := by omega
      subst e
      rw [addTo_eight, St.add_comm] at hb
      exact hK w kp hb
theorem hblock_rounds (st : St) (rest : List UInt8) (size : Nat) (ws : List (BitVec 32)) (hws : ws.length = 64) (h bw : Nat) (hne : h ≠ bw) (Kn : V0) (K : KT) (w0 : World) (hK : ∀ w, Keep [h] w0 w → Blk w h (hcells (st.add (rn st ws 64)).l rest size) 62 → Kn w)
    (w : World) (kp : Keep [h] w0 w) (hb : Blk w h (hcells st.l rest size) 62) (hbw : Blk w bw (uvs ws) 63) :
    ∀ (k t : Nat), k + t = 65 → 1 ≤ k →
      digest_Hash_block.L5 K (digest_Hash_block.C3 K Kn) k (.pointer (some ⟨h, 0, none⟩)) (.pointer (some ⟨bw, 0, none⟩)) (uv (rn st ws t).a) (uv (rn st ws t).b) (uv (rn st ws t).c) (uv (rn st ws t).d) (uv (rn st ws t).e) (uv (rn st ws t).f) (uv (rn st ws t).g) (uv (rn st ws t).h) (.agg (uvs rounds).toArray) (.int .i64 t) w := by
  intro k
  induction k with
  | zero => intro i _ h; omega
  | succ k ih =>
    intro t hi _
    unfold digest_Hash_block.L5 digest_Hash_block.C5
    refine s_lss ?_
    refine s_cnd (fun hc => ?_) (fun hc => ?_)
    · have next := ih (t + 1) (by omega) (by omega)
      rw [rn_succ] at next
      generalize rn st ws t = v at *
      refine s_idx (v := uv (rounds.getD t 0)) (by omega) (by omega) (by rw [show (t : Int).toNat * 1 = t by simp]; simpa using uvs_at (l := rounds) (i := t) (by simp [rounds]; omega)) ?_
      refine rl_k 6 (by rfl) (by omega) (by omega) ?_
      refine rl_k 11 (by rfl) (by omega) (by omega) ?_
      refine s_xor32 ?_
      refine rl_k 25 (by rfl) (by omega) (by omega) ?_
      refine s_xor32 ?_
      refine s_add32 ?_
      refine s_xor32 ?_
      refine s_and32 ?_
      refine s_xor32 ?_
      rw [ch_eq]
      refine s_add32 ?_
      refine s_add32 ?_
      refine s_ixA (by omega) (by omega) ?_
      refine s_opt (ldw hbw (j := t) (by omega) rfl) ?_
      refine s_add32 ?_
      refine rl_k 2 (by rfl) (by omega) (by omega) ?_
      refine rl_k 13 (by rfl) (by omega) (by omega) ?_
      refine s_xor32 ?_
      refine rl_k 22 (by rfl) (by omega) (by omega) ?_
      refine s_xor32 ?_
      refine s_and32 ?_
      refine s_or32 ?_
      refine s_and32 ?_
      refine s_or32 ?_
      rw [maj_eq]
      refine s_add32 ?_
      refine s_add32 ?_
      refine s_add32 ?_
      refine s_addi (by rw [i64min, i64max]; omega) ?_
      exact next
    · have e : t = 64 := by omega
      subst e
      unfold digest_Hash_block.C3
      refine ⟨.agg (uvs (rn st ws 64).l).toArray, w, by kernel_rfl, ?_⟩
      exact ⟨9, hblock_fin st (rn st ws 64) rest size h Kn w0 hK 9 0 w rfl (by omega) kp hb K⟩
end Go.Proofs.YtklieghmbhofnaaDoor
