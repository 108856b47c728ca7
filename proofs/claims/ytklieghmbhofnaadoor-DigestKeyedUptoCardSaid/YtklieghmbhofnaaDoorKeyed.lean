/-
  The keyed digest is two digests; a long key is its digest; zeros behind a short key are not seen.
-/
import Derived.Test.YtklieghmbhofnaaDoorLinear
import Derived.Test.YtklieghmbhofnaaDoorAppZ
namespace Go.Proofs.YtklieghmbhofnaaDoor
open Go Go.Ev Go.RowKit
set_option maxRecDepth 100000
theorem mac_sha (key text : List UInt8) (h : 64 < key.length) : mac (sha key) text = mac key text := by
  have e1 : keyOf key = sha key := by unfold keyOf; rw [if_pos h]
  have e2 : keyOf (sha key) = sha key := by unfold keyOf; rw [if_neg (by rw [sha_len]; omega)]
  unfold mac
  rw [e1, e2]
theorem mac_zeros (key text : List UInt8) (z : Nat) (h : key.length + z ≤ 64) : mac (key ++ List.replicate z 0) text = mac key text := by
  have e1 : keyOf key = key := by unfold keyOf; rw [if_neg (by omega)]
  have e2 : keyOf (key ++ List.replicate z 0) = key ++ List.replicate z 0 := by unfold keyOf; rw [if_neg (by simp; omega)]
  have e3 : pad64 (key ++ List.replicate z 0) = pad64 key := by
    unfold pad64
    rw [List.append_assoc, List.replicate_append_replicate]
    congr 2
    simp
    omega
  unfold mac
  rw [e1, e2, e3]
/-- What is laid down of 'k' xor, up to 'i'; behind it zeros. -/
def xorZ (c : UInt8) (k : List UInt8) (i : Nat) : List UInt8 := xorAll c (k.take i) ++ List.replicate (64 - i) 0
theorem xorZ_len (c : UInt8) (k : List UInt8) (i : Nat) (hk : k.length = 64) (hi : i ≤ 64) : (xorZ c k i).length = 64 := by simp [xorZ, xorAll]; omega
theorem xorZ_set (c : UInt8) (k : List UInt8) (i : Nat) (hk : k.length = 64) (hi : i < 64) : (bvs (xorZ c k i)).set i (bv (k.getD i 0 ^^^ c)) = bvs (xorZ c k (i + 1)) := by
  have e : (xorZ c k i).set i (k.getD i 0 ^^^ c) = xorZ c k (i + 1) := by
    unfold xorZ
    have hl : (xorAll c (k.take i)).length = i := by simp [xorAll]; omega
    rw [List.set_append_right _ _ (by omega), hl, Nat.sub_self, ← xorAll_succ c k i (by omega)]
    obtain ⟨m, hm⟩ : ∃ m, 64 - i = m + 1 := ⟨64 - i - 1, by omega⟩
    rw [hm, List.replicate_succ, List.set_cons_zero, show 64 - (i + 1) = m by omega, List.append_assoc]
    rfl
  simp only [bvs, ← e, List.map_set]
theorem xorZ_all (c : UInt8) (k : List UInt8) (hk : k.length = 64) : xorZ c k 64 = xorAll c k := by simp [xorZ, ← hk]
theorem u64_nn (a : Int) : 0 ≤ IntKind.u64.wrap a := by
  simp [IntKind.wrap, IntKind.bits, IntKind.signed]
  omega
structure KeyCtx (w0 : World) (key0 text1 outer11 s13 : Value) (b13 : Nat) (key text k : List UInt8) : Prop where
  hk : SB w0 key0 key
  ht : SB w0 text1 text
  ho : SB w0 outer11 (xorAll 92 k)
  e13 : s13 = .pointer (some ⟨b13, 0, none⟩)
  h13 : Blk w0 b13 (bvs (sha (xorAll 54 k ++ text))) 43
  ek : k = pad64 (keyOf key)
  n1 : key.length ≤ 1048576
  n2 : text.length ≤ 1048576
  htab : Tabs w0
  htb : Tab w0
  hg : 0 < w0.heap.size
def keyQ (key0 text1 outer11 : Value) (b13 : Nat) (key text k : List UInt8) : QTab := [
  (80, fun v _ => v = .bool true), (81, fun v _ => v = .bool true), (82, fun v _ => v = key0), (83, fun v _ => v = text1), (84, fun v _ => v = .agg (bvs (mac key text)).toArray),
  (85, fun v _ => v = outer11), (86, fun v _ => v = .slice (some ⟨b13, 0, none⟩) 32 32), (87, fun v w => SS w v [xorAll 92 k, sha (xorAll 54 k ++ text)]), (88, fun v _ => v = .agg (bvs (mac key text)).toArray),
  (89, fun v _ => v = .bool true), (90, fun v _ => v = .bool true), (6, fun v _ => v = .bool true)]
theorem keyed_end {K : KT} {w0 : World} {key0 text1 outer11 s13 : Value} {b13 : Nat} {key text k : List UInt8} (C : KeyCtx w0 key0 text1 outer11 s13 b13 key text k) (hK : ∀ w, Keep [] w0 w → K (.bool true) w) : witnesslaw1_DigestKeyed.D5 (witnesslaw1_DigestKeyed.C4 K) key0 text1 outer11 s13 w0 := by
  obtain ⟨hk, ht, ho, rfl, h13, ek, n1, n2, htab, htb, hg⟩ := C
  have hk64 : k.length = 64 := by rw [ek]; exact pad64_len _ (keyOf_le _)
  have hx : ∀ c, (xorAll c k).length = 64 := fun c => by simp [xorAll, hk64]
  unfold witnesslaw1_DigestKeyed.D5
  refine ⟨fun w' => Keep [] w0 w', fun x y => Keep [] x y, qt (keyQ key0 text1 outer11 b13 key text k), (Keep.refl _ _).drew, fun _ _ k h => h.tr k, qt_stab, ?_⟩
  refine ⟨?_, ?_, ?_, ?_, ?_, ?_, ?_, ?_, ?_, ?_, ?_, ?_, ?_⟩
  · intro f w' hI _
    exact (known_c w' (htab.kp hI (by simp) (by simp)) (htb.keep (hI.block _ hg (by simp))) (by have := hI.size; omega)).mono fun v w'' ⟨e, k⟩ => qt_mk k e
  · intro f w' hI ⟨h80, _⟩
    exact qt_mk (Keep.refl _ _) (qt_eq h80 rfl)
  · intro f w' hI ⟨h81, _⟩
    exact rg_run h81 rfl (qt_mk (Keep.refl _ _) rfl)
  · intro f w' hI ⟨h81, _⟩
    exact rg_run h81 rfl (qt_mk (Keep.refl _ _) rfl)
  · intro f w' hI ⟨h81, h82, h83, _⟩
    refine rg_run h81 rfl ?_
    rw [qt_eq h82 rfl, qt_eq h83 rfl]
    exact (dmac_c key text n1 n2 key0 text1 w' (hk.kp0 hI) (ht.kp0 hI) (htab.kp hI (by simp) (by simp))).mono fun v w'' ⟨e, k⟩ => qt_mk k e
  · intro f w' hI ⟨h81, _⟩
    exact rg_run h81 rfl (qt_mk (Keep.refl _ _) rfl)
  · intro f w' hI ⟨h81, _⟩
    exact rg_run h81 rfl (s_slAll (by omega) (qt_mk (Keep.refl _ _) rfl))
  · intro f w' hI ⟨h81, h85, h86, _⟩
    refine rg_run h81 rfl ?_
    rw [qt_eq h85 rfl, qt_eq h86 rfl]
    refine s_bs2' eBs (slice_cells ho) rfl ?_
    intro w1 k1 ho1
    have h131 : SB w1 (.slice (some ⟨b13, 0, none⟩) 32 32) (sha (xorAll 54 k ++ text)) := (h13.kp (hI.tr k1) (by simp)).sb (sha_len _)
    exact qt_mk k1 (SS.two ho1 (ho.kp0 (hI.tr k1)) h131)
  · intro f w' hI ⟨h81, h87, _⟩
    refine rg_run h81 rfl ?_
    obtain ⟨w1, k1, hss⟩ := qt_get h87 rfl
    refine (dof_c _ _ w' (small_two (by rw [hx]; omega) (by rw [sha_len]; omega)) (by rw [flat_two, List.length_append, hx, sha_len]; omega) (SS.kp0 hss k1) (htab.kp hI (by simp) (by simp))).mono fun v w'' ⟨e, k'⟩ => qt_mk k' ?_
    show v = .agg (bvs (mac key text)).toArray
    rw [e, flat_two]
    unfold mac
    rw [← ek]
  · intro f w' hI ⟨h81, h84, h88, _⟩
    refine rg_run h81 rfl ?_
    rw [qt_eq h84 rfl, qt_eq h88 rfl]
    exact s_eqSum (sha_len _) (sha_len _) (qt_mk (Keep.refl _ _) (by simp; rfl))
  · intro f w' hI ⟨h81, h89, _⟩
    rw [qt_eq h81 rfl, qt_eq h89 rfl]
    exact s_opt (v := .bool true) rfl (qt_mk (Keep.refl _ _) rfl)
  · intro f w' hI ⟨h90, _⟩
    exact qt_mk (Keep.refl _ _) (qt_eq h90 rfl)
  · intro f w' hI ⟨_, _, _, _, _, _, _, _, _, _, _, h6, _⟩
    rw [qt_eq h6 rfl]
    exact hK w' hI
theorem keyed_mid {K : KT} {w0 : World} {key0 text1 : Value} {key text k : List UInt8} (hkey : SB w0 key0 key) (htext : SB w0 text1 text) (ek : k = pad64 (keyOf key)) (n1 : key.length ≤ 1048576) (n2 : text.length ≤ 1048576) (htab : Tabs w0) (htb : Tab w0) (hg : 0 < w0.heap.size)
    (hK : ∀ w, Keep [] w0 w → K (.bool true) w) {b7 : Nat} (h7 : w0.heap.size ≤ b7) (w : World) (kp : Keep [] w0 w) (hb7 : Blk w b7 (bvs k) 5) : witnesslaw1_DigestKeyed.C2 K key0 text1 (.slice (some ⟨b7, 0, none⟩) 64 64) w := by
  have hk64 : k.length = 64 := by rw [ek]; exact pad64_len _ (keyOf_le _)
  have hx : ∀ c, (xorAll c k).length = 64 := fun c => by simp [xorAll, hk64]
  unfold witnesslaw1_DigestKeyed.C2
  have hl7 := hb7.lt
  refine s_makeB (n := 64) eU8 rfl rfl (by omega) ?_
  intro w1 k1 hs1 hb1
  refine s_makeB (n := 64) eU8 rfl rfl (by omega) ?_
  intro w2 k2 hs2 hb2
  have k02 := (kp.tr k1).tr k2
  have loop : ∀ (q i : Nat) (w' : World), q + i = 65 → 1 ≤ q → Keep [] w0 w' → Blk w' b7 (bvs k) 5 → Blk w' w.heap.size (bvs (xorZ 54 k i)) 5 → Blk w' w1.heap.size (bvs (xorZ 92 k i)) 5 →
      witnesslaw1_DigestKeyed.L6 K (witnesslaw1_DigestKeyed.C3 K) q key0 text1 (.slice (some ⟨b7, 0, none⟩) 64 64) (.slice (some ⟨w.heap.size, 0, none⟩) 64 64) (.slice (some ⟨w1.heap.size, 0, none⟩) 64 64) (.int .i64 i) w' := by
    intro q
    induction q with
    | zero => intro i _ _ h; omega
    | succ q ih =>
      intro i w' hi _ kp' hb7' hbi hbo
      have hsz := kp.size
      unfold witnesslaw1_DigestKeyed.L6 witnesslaw1_DigestKeyed.C6
      refine s_lss ?_
      refine s_cnd (fun hc => ?_) (fun hc => ?_)
      · have hi' : i < 64 := by omega
        have hat : (bvs k)[0 + (i : Int).toNat * 1]? = some (bv (k.getD i 0)) := by
          rw [show 0 + (i : Int).toNat * 1 = i by simp, List.getElem?_map, getD_of (d := 0) (by omega)]
          rfl
        refine s_ixS (by omega) (by omega) ?_
        refine s_ldB hb7' hat ?_
        refine s_xor8 (b := 54) ?_
        refine s_ixS (by omega) (by omega) ?_
        refine s_stB hbi (by simp [xorZ_len 54 k i hk64 (by omega)]; omega) rfl ?_
        intro w3 hb3 k3
        rw [show 0 + (i : Int).toNat * 1 = i by simp, xorZ_set _ _ _ hk64 hi'] at hb3
        have hb73 := hb7'.kp k3 (by simp; omega)
        refine s_ixS (by omega) (by omega) ?_
        refine s_ldB hb73 hat ?_
        refine s_xor8 (b := 92) ?_
        refine s_ixS (by omega) (by omega) ?_
        refine s_stB (hbo.kp k3 (by simp; omega)) (by simp [xorZ_len 92 k i hk64 (by omega)]; omega) rfl ?_
        intro w4 hb4 k4
        rw [show 0 + (i : Int).toNat * 1 = i by simp, xorZ_set _ _ _ hk64 hi'] at hb4
        refine s_addi (by rw [i64min, i64max]; omega) ?_
        exact ih (i + 1) w4 (by omega) (by omega) (keep2 (keep2 kp' k3 (by omega)) k4 (by omega)) (hb73.kp k4 (by simp; omega)) (hb3.kp k4 (by simp; omega)) hb4
      · have e : i = 64 := by omega
        subst e
        rw [xorZ_all _ _ hk64] at hbi hbo
        unfold witnesslaw1_DigestKeyed.C3
        refine s_bs2' eBs rfl (slice_cells htext) ?_
        intro w3 k3 ho3
        have hss := SS.two ho3 ((hbi.kp k3 (by simp)).sb (hx _)) (htext.kp0 (kp'.tr k3))
        refine (dof_c _ _ w3 (small_two (by rw [hx]; omega) (by omega)) (by rw [flat_two, List.length_append, hx]; omega) hss (htab.kp (kp'.tr k3) (by simp) (by simp))).mono ?_
        rintro r w4 ⟨rfl, k4⟩
        rw [flat_two]
        refine s_newB (l := bvs (List.replicate 32 0)) (by kernel_rfl) ?_
        intro w5 hb5 k5 hs5
        refine s_stNB0 hb5 (by simp [sha_len]) (by simp) (bvs_one _) ?_
        intro w6 hb6 k6
        have k36 : Keep [] w' w6 := (k3.tr k4).tr (keep2 k5 k6 (Nat.le_refl _))
        have k06 := kp'.tr k36
        exact keyed_end ⟨hkey.kp0 k06, htext.kp0 k06, (hbo.kp k36 (by simp)).sb (hx _), rfl, hb6, ek, n1, n2, htab.kp k06 (by simp) (by simp), htb.keep (k06.block _ hg (by simp)), by have := k06.size; omega⟩ (fun w'' k'' => hK w'' (k06.tr k''))
  refine ⟨65, loop 65 0 w2 rfl (by omega) k02 (hb7.kp (k1.tr k2) (by simp)) ?_ ?_⟩
  · have e : xorZ 54 k 0 = List.replicate 64 0 := by simp [xorZ, xorAll]
    rw [e]; exact hb1.kp k2 (by simp)
  · have e : xorZ 92 k 0 = List.replicate 64 0 := by simp [xorZ, xorAll]
    rw [e]; exact hb2
theorem keyed_c {w : World} (key : List UInt8) (key0 : Value) (hkey : SB w key0 key) (n1 : key.length ≤ 1048576) (text : List UInt8) (text1 : Value) (htext : SB w text1 text) (n2 : text.length ≤ 1048576) (z : Int) (_ : (Lit.int .i64 z).wf = true)
    (hr : HasL w 2 0 (uvs rounds)) (_ : 2 < w.heap.size) (hf : HasL w 1 0 (uvs first)) (_ : 1 < w.heap.size) (htb : Tab w) (hg : 0 < w.heap.size) :
    CallsR Tryd.prog 11 #[key0, text1, .int .i64 z] w fun r w' => r = .bool true ∧ Keep [] w w' := by
  have htab : Tabs w := ⟨hr, hf⟩
  apply witnesslaw1_DigestKeyed.sound
  unfold witnesslaw1_DigestKeyed.J witnesslaw1_DigestKeyed.C1
  refine s_makeB (n := 64) eU8 rfl rfl (by omega) ?_
  intro w1 k1 hs1 hb1
  refine (hkey.kp0 k1).len ?_
  rw [show (bvs key).length = key.length by simp only [bvs, List.length_map]]
  have tk : ∀ {w' : World}, Keep [] w w' → Tabs w' := fun k => htab.kp k (by simp) (by simp)
  refine s_gtr ?_
  refine s_cnd (fun hc => ?_) (fun hc => ?_)
  · have h64 : 64 < key.length := by omega
    have ek : keyOf key = sha key := by unfold keyOf; rw [if_pos h64]
    refine s_lit1 eBs (slice_cells hkey) ?_
    intro w2 k2 ho2
    have hss := SS.one ho2 ((hkey.kp0 k1).kp0 k2)
    refine (dof_c [key] _ w2 (small_one (by omega)) (by simp; omega) hss (tk (k1.tr k2))).mono ?_
    rintro r w3 ⟨rfl, k3⟩
    rw [show [key].flatten = key by simp]
    refine s_newB (l := bvs (List.replicate 32 0)) (by kernel_rfl) ?_
    intro w4 hb4 k4 hs4
    refine s_stNB0 hb4 (by simp [sha_len]) (by simp) (bvs_one _) ?_
    intro w5 hb5 k5
    have k15 : Keep [] w1 w5 := keep2 ((k2.tr k3).tr k4) k5 (by have := (k2.tr k3).size; omega)
    refine s_slAll (by omega) ?_
    refine s_copyB eU8 (hb1.kp k15 (by simp)) (by simp) (hb5.sb (sha_len _)) ?_
    intro w6 hb6 k6
    rw [copy64 _ (by rw [sha_len]; omega)] at hb6
    have k06 : Keep [] w w6 := keep2 (k1.tr k15) k6 (Nat.le_refl _)
    have hb56 := hb5.kp k6 (by simp; have := (k2.tr k3).size; omega)
    refine s_slAll (by omega) ?_
    refine (dmac_c (sha key) text (by rw [sha_len]; omega) n2 _ text1 w6 (hb56.sb (sha_len _)) (htext.kp0 k06) (tk k06)).mono ?_
    rintro r w7 ⟨rfl, k7⟩
    refine (dmac_c key text n1 n2 key0 text1 w7 (hkey.kp0 (k06.tr k7)) (htext.kp0 (k06.tr k7)) (tk (k06.tr k7))).mono ?_
    rintro r w8 ⟨rfl, k8⟩
    have k08 := (k06.tr k7).tr k8
    refine s_neSum (sha_len _) (sha_len _) ?_
    refine s_cndF (fun hne => hne (mac_sha key text h64)) ?_
    exact keyed_mid (w0 := w) hkey htext (by rw [ek]) n1 n2 htab htb hg (fun w' k' => ⟨rfl, k'⟩) (Nat.le_refl _) w8 k08 (hb6.kp (k7.tr k8) (by simp))
  · have h64 : key.length ≤ 64 := by omega
    have ek : keyOf key = key := by unfold keyOf; rw [if_neg (by omega)]
    refine s_copyB eU8 hb1 (by simp) (hkey.kp0 k1) ?_
    intro w2 hb2 k2
    rw [copy64 _ h64] at hb2
    have k02 : Keep [] w w2 := keep2 k1 k2 (Nat.le_refl _)
    refine s_app' (base := w2.heap.size) (n := 0) (xs := []) eU8 (World.ownsRow_nil _ _ _ _) (hkey.kp0 k02) (bvs_one _) (by simp only [bvs, List.length_map]; unfold maxLen; omega) (by simp only [bvs, List.length_map]; omega) (Nat.le_refl _) ?_
    intro v w3 ho3 k3 _
    have k23 : Keep [] w2 w3 := k3
    rw [List.nil_append, Nat.zero_add, show (bvs key).length = key.length by simp only [bvs, List.length_map]] at ho3
    refine s_cv ?_
    refine (hkey.kp0 (k02.tr k23)).len ?_
    rw [show (bvs key).length = key.length by simp only [bvs, List.length_map]]
    refine s_subi (by rw [i64min, i64max]; omega) ?_
    refine s_cvi (by rw [u64min, u64max]; omega) ?_
    rw [show (65 : Int) - (key.length : Int) = ((65 - key.length : Nat) : Int) by omega]
    refine s_remi (u64_nn z) (by omega) ?_
    obtain ⟨q, hq, e⟩ : ∃ q : Nat, q < 65 - key.length ∧ IntKind.u64.wrap z % ((65 - key.length : Nat) : Int) = (q : Int) := by
      have h1 := Int.emod_nonneg (IntKind.u64.wrap z) (by omega : ((65 - key.length : Nat) : Int) ≠ 0)
      have h2 := Int.emod_lt_of_pos (IntKind.u64.wrap z) (by omega : 0 < ((65 - key.length : Nat) : Int))
      exact ⟨(IntKind.u64.wrap z % ((65 - key.length : Nat) : Int)).toNat, by omega, by omega⟩
    rw [e]
    refine s_cvi (by rw [i64min, i64max]; omega) ?_
    refine s_appZ (kn := .i64) eU8 Tryd.underlying3 ho3 (by omega) ?_
    intro v' w4 hs4 k4
    have k24 : Keep [] w2 w4 := k23.trans k4 (by simp) (fun x hx hlt => by have := (owns_lt ho3 x hx).1; omega)
    have k04 := k02.tr k24
    refine (dmac_c (key ++ List.replicate q 0) text (by simp; omega) n2 v' text1 w4 hs4 (htext.kp0 k04) (tk k04)).mono ?_
    rintro r w5 ⟨rfl, k5⟩
    have k05 := k04.tr k5
    refine (dmac_c key text n1 n2 key0 text1 w5 (hkey.kp0 k05) (htext.kp0 k05) (tk k05)).mono ?_
    rintro r w6 ⟨rfl, k6⟩
    refine s_neSum (sha_len _) (sha_len _) ?_
    refine s_cndF (fun hne => hne (mac_zeros key text q (by omega))) ?_
    exact keyed_mid (w0 := w) hkey htext (by rw [ek]) n1 n2 htab htb hg (fun w' k' => ⟨rfl, k'⟩) (Nat.le_refl _) w6 (k05.tr k6) (hb2.kp ((k24.tr k5).tr k6) (by simp))
end Go.Proofs.YtklieghmbhofnaaDoor
