/-
  The check sum of parts is that of the whole.
-/
import Derived.Test.YtklieghmbhofnaaDoorD2
import Derived.Test.YtklieghmbhofnaaDoorOpenSS
namespace Go.Proofs.YtklieghmbhofnaaDoor
open Go Go.Ev Go.RowKit
set_option maxRecDepth 100000
theorem more_append (c : BitVec 32) (a b : List UInt8) : more (more c a) b = more c (a ++ b) := by
  unfold more crc
  rw [BitVec.not_not, List.foldl_append]
theorem take_flat {ls : List (List UInt8)} {i : Nat} (h : i < ls.length) : (ls.take (i + 1)).flatten = (ls.take i).flatten ++ ls.getD i [] := by
  rw [List.take_add_one, List.getElem?_eq_getElem h, List.getD_eq_getElem?_getD, List.getElem?_eq_getElem h, List.flatten_append]
  simp only [Option.toList_some, List.flatten_cons, List.flatten_nil, List.append_nil]
  rfl
theorem check_loop (ls : List (List UInt8)) (p : Value) (K : KT) (w : World) (hsm : Small ls) (hp : SS w p ls) (ht : Tab w) (hK : K (uv (more 0 ls.flatten)) w) :
    ∀ (k i : Nat), k + i = ls.length + 1 → 1 ≤ k → digest_Check.L3 K (digest_Check.C2 K) k (uv (more 0 (ls.take i).flatten)) p (.int .i64 ls.length) (.int .i64 i) w := by
  intro k
  induction k with
  | zero => intro i _ h; omega
  | succ k ih =>
    intro i hi _
    have hs1 := hsm.1
    have hs2 := hsm.2 i
    unfold digest_Check.L3 digest_Check.C3
    refine s_lss ?_
    refine s_cnd (fun hc => ?_) (fun hc => ?_)
    · have hi' : i < ls.length := by omega
      refine hp.get hi' ?_
      intro u hu
      refine (more_c _ _ u w hu (by omega) ht).mono ?_
      rintro r w' ⟨rfl, rfl⟩
      refine s_addi (by rw [i64min, i64max]; omega) ?_
      rw [more_append, ← take_flat hi']
      exact ih (i + 1) (by omega) (by omega)
    · have e : i = ls.length := by omega
      subst e
      rw [List.take_length]
      exact hK
theorem check_c (ls : List (List UInt8)) (p : Value) (w : World) (hsm : Small ls) (hp : SS w p ls) (ht : Tab w) : CallsR Tryd.prog 16 #[p] w fun v w' => v = uv (more 0 ls.flatten) ∧ w' = w := by
  apply digest_Check.sound
  unfold digest_Check.J digest_Check.C1
  refine hp.len ?_
  have e : Value.int .u32 0 = uv (more 0 (ls.take 0).flatten) := by
    rw [List.take_zero, List.flatten_nil, more, crc, List.foldl_nil, BitVec.not_not]
    rfl
  rw [e]
  exact ⟨ls.length + 1, check_loop ls p _ w hsm hp ht ⟨rfl, rfl⟩ _ 0 rfl (by omega)⟩
theorem rcheck_c (l : List UInt8) (v : Value) (w : World) (hv : SB w v l) (hl : l.length ≤ 9223372036854775807) : CallsR Tryd.prog 17 #[v] w fun r w' => r = uv (more 0 l) ∧ w' = w := by
  apply witnessref1_Check.sound
  unfold witnessref1_Check.J witnessref1_Check.C1
  rw [show Value.int .u32 0 = uv 0 from rfl]
  exact rmore_c 0 l v w hv hl
theorem join_loop (ls : List (List UInt8)) (p : Value) (K : KT) (w0 : World) (hsm : Small ls) (hfl : ls.flatten.length ≤ 1073741824) (hp : SS w0 p ls)
    (hK : ∀ v w, w.ownsRow w0.heap.size 5 1 v ls.flatten.length (bvs ls.flatten) → Keep [] w0 w → K v w) :
    ∀ (k i : Nat) (v : Value) (w : World), k + i = ls.length + 1 → 1 ≤ k → Keep [] w0 w → w.ownsRow w0.heap.size 5 1 v (ls.take i).flatten.length (bvs (ls.take i).flatten) → witnessref1_Join.L3 K (witnessref1_Join.C2 K) k p v (.int .i64 i) w := by
  intro k
  induction k with
  | zero => intro i _ _ _ h; omega
  | succ k ih =>
    intro i v w hi _ kp ho
    have hs1 := hsm.1
    unfold witnessref1_Join.L3 witnessref1_Join.C3
    refine (hp.kp0 kp).len ?_
    refine s_lss ?_
    refine s_cnd (fun hc => ?_) (fun hc => ?_)
    · have hi' : i < ls.length := by omega
      have hle : (ls.take (i + 1)).flatten.length ≤ ls.flatten.length := by
        conv => rhs; rw [← List.take_append_drop (i + 1) ls, List.flatten_append, List.length_append]
        omega
      rw [take_flat hi', List.length_append] at hle
      refine (hp.kp0 kp).get hi' ?_
      intro u hu
      refine s_app' (base := w0.heap.size) eU8 ho hu (bvs_one _) (by simp only [bvs, List.length_map]; unfold maxLen; omega) (by simp only [bvs, List.length_map]; omega) kp.size ?_
      intro v' w1 ho1 k1 hb1
      refine s_addi (by rw [i64min, i64max]; omega) ?_
      refine ih (i + 1) v' w1 (by omega) (by omega) (keepNew kp k1 (fun b hb => (owns_lt ho b hb).1)) ?_
      rw [take_flat hi', List.length_append]
      have e : bvs ((ls.take i).flatten ++ ls.getD i []) = bvs (ls.take i).flatten ++ bvs (ls.getD i []) := by simp only [bvs, List.map_append]
      rw [e]
      simpa only [bvs, List.length_map] using ho1
    · have e : i = ls.length := by omega
      subst e
      rw [List.take_length] at ho
      exact hK v w ho kp
theorem join_c (ls : List (List UInt8)) (p : Value) (w : World) (hsm : Small ls) (hfl : ls.flatten.length ≤ 1073741824) (hp : SS w p ls) : CallsR Tryd.prog 18 #[p] w fun v w' => w'.ownsRow w.heap.size 5 1 v ls.flatten.length (bvs ls.flatten) ∧ Keep [] w w' := by
  apply witnessref1_Join.sound
  unfold witnessref1_Join.J witnessref1_Join.C1
  exact ⟨ls.length + 1, join_loop ls p _ w hsm hfl hp (fun v w' h k => ⟨h, k⟩) _ 0 _ w rfl (by omega) (Keep.refl _ _) (World.ownsRow_nil _ _ _ _)⟩
theorem checks_c {w : World} (ls : List (List UInt8)) (p : Value) (hp : SS w p ls) (hn : ls.length ≤ 1048576 ∧ ls.flatten.length ≤ 1048576) (ht : Tab w) (hg : 0 < w.heap.size) : CallsR Tryd.prog 4 #[p] w fun r w' => r = .bool true ∧ Keep [] w w' := by
  have hsm : Small ls := small_of (n := 1048576) (by omega) hn.1 hn.2
  apply witnesslaw1_DigestChecks.sound
  unfold witnesslaw1_DigestChecks.J witnesslaw1_DigestChecks.C1
  refine (handed_c ls p w hsm hp).mono ?_
  rintro r w1 ⟨g, f, gs, fs, rfl, hh, k1⟩
  refine s_ext rfl ?_
  refine s_ext rfl ?_
  refine (check_c ls g w1 hsm hh.ss (ht.keep (k1.block _ hg (by simp)))).mono ?_
  rintro r w2 ⟨rfl, rfl⟩
  refine (join_c ls p w2 hsm (by omega) (hp.kp0 k1)).mono ?_
  rintro r w3 ⟨ho, k3⟩
  refine (rcheck_c _ r w3 (owns_Sl ho) (by omega)).mono ?_
  rintro r w4 ⟨rfl, rfl⟩
  refine s_eql32 ?_
  simp only [decide_true]
  refine s_gRun rfl ?_
  refine s_gRun rfl ?_
  refine s_gRun rfl ?_
  refine (kept_c ls p f g gs fs _ w4 hsm (hp.kp0 (k1.tr k3)) (hh.kp k3)).mono ?_
  rintro r w5 ⟨rfl, k5⟩
  refine s_opt (v := .bool true) rfl ?_
  exact ⟨rfl, (k1.tr k3).tr k5⟩
end Go.Proofs.YtklieghmbhofnaaDoor
