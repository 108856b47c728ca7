/-
  The keyed digest: both sides compute the same.
-/
import Derived.Test.YtklieghmbhofnaaDoorTexts
import Derived.Test.YtklieghmbhofnaaDoorArr
namespace Go.Proofs.YtklieghmbhofnaaDoor
open Go Go.Ev Go.RowKit
set_option maxRecDepth 100000
def keyOf (key : List UInt8) : List UInt8 := if 64 < key.length then sha key else key
def pad64 (k : List UInt8) : List UInt8 := k ++ List.replicate (64 - k.length) 0
def xorAll (c : UInt8) (l : List UInt8) : List UInt8 := l.map (· ^^^ c)
/-- The keyed digest of a text. -/
def mac (key text : List UInt8) : List UInt8 :=
  sha (xorAll 92 (pad64 (keyOf key)) ++ sha (xorAll 54 (pad64 (keyOf key)) ++ text))
theorem keyOf_le (key : List UInt8) : (keyOf key).length ≤ 64 := by
  unfold keyOf
  split
  · rw [sha_len]; omega
  · omega
theorem pad64_len (k : List UInt8) (h : k.length ≤ 64) : (pad64 k).length = 64 := by simp [pad64]; omega
theorem copy64 (k : List UInt8) (h : k.length ≤ 64) : k.take 64 ++ (List.replicate 64 0).drop k.length = pad64 k := by
  unfold pad64
  rw [List.take_of_length_le h, List.drop_replicate]
/-- The first 'i' bytes xor. -/
def xorTo (c : UInt8) (l : List UInt8) (i : Nat) : List UInt8 := xorAll c (l.take i) ++ l.drop i
theorem xorTo_zero (c : UInt8) (l : List UInt8) : xorTo c l 0 = l := by simp [xorTo, xorAll]
theorem xorTo_all (c : UInt8) (l : List UInt8) {n : Nat} (h : l.length = n) : xorTo c l n = xorAll c l := by
  subst h
  simp [xorTo]
theorem xorTo_len (c : UInt8) (l : List UInt8) (i : Nat) : (xorTo c l i).length = l.length := by
  simp [xorTo, xorAll]
  omega
theorem xorTo_at (c : UInt8) (l : List UInt8) (i : Nat) (h : i < l.length) : (bvs (xorTo c l i))[i]? = some (bv (l.getD i 0)) := by
  unfold xorTo xorAll
  rw [List.getElem?_map, List.getElem?_append_right (by simp; omega)]
  simp only [List.length_map, List.length_take, List.getElem?_drop]
  rw [show i + (i - min i l.length) = i by omega, getD_of (d := 0) h]
  rfl
theorem xorTo_set (c : UInt8) (l : List UInt8) (i : Nat) (h : i < l.length) : (bvs (xorTo c l i)).set i (bv (l.getD i 0 ^^^ c)) = bvs (xorTo c l (i + 1)) := by
  have e : (xorTo c l i).set i (l.getD i 0 ^^^ c) = xorTo c l (i + 1) := by
    unfold xorTo xorAll
    rw [List.set_append_right _ _ (by simp; omega)]
    have h1 : i - (List.map (fun x => x ^^^ c) (List.take i l)).length = 0 := by simp; omega
    rw [h1, List.drop_eq_getElem_cons h, List.set_cons_zero, List.take_add_one, List.getElem?_eq_getElem h, List.map_append, List.append_assoc]
    congr 1
    rw [List.getD_eq_getElem?_getD, List.getElem?_eq_getElem h]
    rfl
  simp only [bvs, ← e, List.map_set]
theorem SS.two {w : World} {B : Nat} {v u x : Value} {l m : List UInt8} (h : w.ownsRow B 23 1 v 2 [u, x]) (hu : SB w u l) (hx : SB w x m) : SS w v [l, m] :=
  ⟨[u, x], owns_Sl h, rfl, fun i hi => by
    match i, hi with
    | 0, _ => exact ⟨u, rfl, hu⟩
    | 1, _ => exact ⟨x, rfl, hx⟩⟩
theorem small_two {l m : List UInt8} (h : l.length ≤ 1073741824) (h' : m.length ≤ 1073741824) : Small [l, m] := ⟨by simp, fun i => by
  match i with
  | 0 => exact h
  | 1 => exact h'
  | i + 2 => simp⟩
theorem flat_two (l m : List UInt8) : [l, m].flatten = l ++ m := by simp
/-- What the end of Mac does with the two blocks. -/
theorem dmac_tail (k text : List UInt8) (hk : k.length = 64) (ht : text.length ≤ 1048576) (text1 : Value) (b4 b6 b7 : Nat) (_ : b4 < b6) (_ : b4 < b7) (K : KT) (w0 : World) (h4 : w0.heap.size ≤ b4) (hK : ∀ w, Keep [] w0 w → K (.agg (bvs (sha (xorAll 92 k ++ sha (xorAll 54 k ++ text)))).toArray) w)
    (w : World) (kp : Keep [] w0 w) (htab : Tabs w) (hb4 : Blk w b4 (bvs (List.replicate 32 0)) 43) (hb6 : Blk w b6 (bvs (xorAll 54 k)) 60) (hb7 : Blk w b7 (bvs (xorAll 92 k)) 60) (hv : SB w text1 text) :
    digest_Mac.C3 K text1 (.pointer (some ⟨b4, 0, none⟩)) (.pointer (some ⟨b6, 0, none⟩)) (.pointer (some ⟨b7, 0, none⟩)) w := by
  unfold digest_Mac.C3
  have hx : ∀ c, (xorAll c k).length = 64 := fun c => by simp [xorAll, hk]
  refine s_slAll (by omega) ?_
  refine s_bs2' eBs rfl (slice_cells hv) ?_
  intro w1 k1 ho1
  have hss := SS.two ho1 ((hb6.kp k1 (by simp)).sb (hx _)) (hv.kp0 k1)
  refine (dof_c _ _ w1 (small_two (by rw [hx]; omega) (by omega)) (by rw [flat_two, List.length_append, hx]; omega) hss (htab.kp k1 (by simp) (by simp))).mono ?_
  rintro r w2 ⟨rfl, k2⟩
  rw [flat_two]
  refine s_newB (l := bvs (List.replicate 32 0)) (by kernel_rfl) ?_
  intro w3 hb9 k3 hs3
  refine s_stNB0 hb9 (by simp [sha_len]) (by simp) (bvs_one _) ?_
  intro w4 hb94 k4
  have k14 : Keep [] w w4 := (k1.tr k2).tr (keep2 k3 k4 (Nat.le_refl _))
  refine s_drw ?_
  refine s_slAll (by omega) ?_
  refine s_slAll (by omega) ?_
  refine s_bs2' eBs rfl rfl ?_
  intro w5 k5 ho5
  have k45 : Keep [] w4 w5 := (Keep.refl [] w4).drew.tr k5
  have hss5 := SS.two ho5 ((hb7.kp (k14.tr k45) (by simp)).sb (hx _)) ((hb94.kp k45 (by simp)).sb (sha_len _))
  refine (dof_c _ _ w5 (small_two (by rw [hx]; omega) (by rw [sha_len]; omega)) (by rw [flat_two, List.length_append, hx, sha_len]; omega) hss5 (htab.kp (k14.tr k45) (by simp) (by simp))).mono ?_
  rintro r w6 ⟨rfl, k6⟩
  rw [flat_two]
  have k16 := (k14.tr k45).tr k6
  refine s_stNB0 (hb4.kp k16 (by simp)) (by simp [sha_len]) (by simp) (bvs_one _) ?_
  intro w7 hb47 k7
  refine s_resA Tryd.underlying43 rfl (n := 32) (by kernel_rfl) (by simp [sha_len]) hb47.has ?_
  exact hK w7 (keep2 (kp.tr k16) k7 h4)
theorem dmac_loop (k text : List UInt8) (hk : k.length = 64) (ht : text.length ≤ 1048576) (text1 : Value) (b4 b6 b7 : Nat) (h46 : b4 < b6) (h67 : b6 < b7) (K : KT) (w0 : World) (h4 : w0.heap.size ≤ b4) (hK : ∀ w, Keep [] w0 w → K (.agg (bvs (sha (xorAll 92 k ++ sha (xorAll 54 k ++ text)))).toArray) w) (htab : Tabs w0) (hv : SB w0 text1 text) :
    ∀ (q i : Nat) (w : World), q + i = 65 → 1 ≤ q → Keep [] w0 w → Blk w b4 (bvs (List.replicate 32 0)) 43 → Blk w b6 (bvs (xorTo 54 k i)) 60 → Blk w b7 (bvs (xorTo 92 k i)) 60 →
      digest_Mac.L4 K (digest_Mac.C3 K) q text1 (.pointer (some ⟨b4, 0, none⟩)) (.pointer (some ⟨b6, 0, none⟩)) (.pointer (some ⟨b7, 0, none⟩)) (.int .i64 i) w := by
  intro q
  induction q with
  | zero => intro i _ h; omega
  | succ q ih =>
    intro i w hi _ kp hb4 hb6 hb7
    unfold digest_Mac.L4 digest_Mac.C4
    refine s_lss ?_
    refine s_cnd (fun hc => ?_) (fun hc => ?_)
    · have hi' : i < k.length := by omega
      have hl6 := xorTo_len 54 k i
      have hl7 := xorTo_len 92 k i
      refine s_ixA (by omega) (by omega) ?_
      refine s_ldB hb6 (v := bv (k.getD i 0)) (by rw [show 0 + (i : Int).toNat * 1 = i by simp]; exact xorTo_at _ _ _ hi') ?_
      refine s_xor8 (b := 54) ?_
      refine s_ixA (by omega) (by omega) ?_
      refine s_stB hb6 (by simp; omega) rfl ?_
      intro w1 hb61 k1
      rw [show 0 + (i : Int).toNat * 1 = i by simp, xorTo_set _ _ _ hi'] at hb61
      have hb71 := hb7.kp k1 (by simp; omega)
      refine s_ixA (by omega) (by omega) ?_
      refine s_ldB hb71 (v := bv (k.getD i 0)) (by rw [show 0 + (i : Int).toNat * 1 = i by simp]; exact xorTo_at _ _ _ hi') ?_
      refine s_xor8 (b := 92) ?_
      refine s_ixA (by omega) (by omega) ?_
      refine s_stB hb71 (by simp; omega) rfl ?_
      intro w2 hb72 k2
      rw [show 0 + (i : Int).toNat * 1 = i by simp, xorTo_set _ _ _ hi'] at hb72
      refine s_addi (by rw [i64min, i64max]; omega) ?_
      exact ih (i + 1) w2 (by omega) (by omega) (keep2 (keep2 kp k1 (by omega)) k2 (by omega)) ((hb4.kp k1 (by simp; omega)).kp k2 (by simp; omega)) (hb61.kp k2 (by simp; omega)) hb72
    · have e : i = 64 := by omega
      subst e
      rw [xorTo_all _ _ hk] at hb6 hb7
      exact dmac_tail k text hk ht text1 b4 b6 b7 h46 (by omega) K w0 h4 hK w kp (htab.kp kp (by simp) (by simp)) hb4 hb6 hb7 (hv.kp0 kp)
theorem dmac_mid (k text : List UInt8) (hk : k.length ≤ 64) (ht : text.length ≤ 1048576) (key0 text1 : Value) (b4 : Nat) (K : KT) (w0 : World) (h4 : w0.heap.size ≤ b4) (hK : ∀ w, Keep [] w0 w → K (.agg (bvs (sha (xorAll 92 (pad64 k) ++ sha (xorAll 54 (pad64 k) ++ text)))).toArray) w) (htab : Tabs w0) (hv : SB w0 text1 text)
    (w : World) (kp : Keep [] w0 w) (hb4 : Blk w b4 (bvs (List.replicate 32 0)) 43) (hkey : SB w key0 k) : digest_Mac.C2 K key0 text1 (.pointer (some ⟨b4, 0, none⟩)) w := by
  unfold digest_Mac.C2
  have hl4 := hb4.lt
  refine s_newB (l := bvs (List.replicate 64 0)) (by kernel_rfl) ?_
  intro w1 hb6 k1 hs1
  refine s_newB (l := bvs (List.replicate 64 0)) (by kernel_rfl) ?_
  intro w2 hb7 k2 hs2
  refine s_slAll (by omega) ?_
  refine s_copyB eU8 (hb6.kp k2 (by simp)) (by simp) (hkey.kp0 (k1.tr k2)) ?_
  intro w3 hb63 k3
  rw [copy64 k hk] at hb63
  have hs3 := k3.size
  refine s_ldNB (vs := bvs (pad64 k)) hb63 (by simp [pad64_len k hk]) (by simp) ?_
  refine s_stNB0 (hb7.kp k3 (by simp; omega)) (by simp [pad64_len k hk]) (by simp) (bvs_one _) ?_
  intro w4 hb74 k4
  have kk : Keep [] w w4 := keep2 (keep2 (k1.tr k2) k3 (Nat.le_refl _)) k4 (by omega)
  refine ⟨65, dmac_loop (pad64 k) text (pad64_len k hk) ht text1 b4 w.heap.size w1.heap.size hl4 hs1 K w0 h4 hK htab hv 65 0 w4 rfl (by omega) (kp.tr kk) (hb4.kp kk (by simp)) ?_ ?_⟩
  · rw [xorTo_zero]; exact hb63.kp k4 (by simp; omega)
  · rw [xorTo_zero]; exact hb74
theorem dmac_c (key text : List UInt8) (hk : key.length ≤ 1048576) (ht : text.length ≤ 1048576) (key0 text1 : Value) (w : World) (hkey : SB w key0 key) (hv : SB w text1 text) (htab : Tabs w) : CallsR Tryd.prog 27 #[key0, text1] w fun v w' => v = .agg (bvs (mac key text)).toArray ∧ Keep [] w w' := by
  apply digest_Mac.sound
  unfold digest_Mac.J digest_Mac.C1
  refine s_newB (l := bvs (List.replicate 32 0)) (by kernel_rfl) ?_
  intro w1 hb1 k1 hs1
  refine (hkey.kp0 k1).len ?_
  rw [show (bvs key).length = key.length by simp only [bvs, List.length_map]]
  refine s_gtr ?_
  refine s_cnd (fun hc => ?_) (fun hc => ?_)
  · have ek : keyOf key = sha key := by unfold keyOf; rw [if_pos (by omega)]
    refine s_lit1 eBs (slice_cells hkey) ?_
    intro w2 k2 ho2
    have hss := SS.one ho2 ((hkey.kp0 k1).kp0 k2)
    refine (dof_c [key] _ w2 (small_one (by omega)) (by simp; omega) hss ((htab.kp k1 (by simp) (by simp)).kp k2 (by simp) (by simp))).mono ?_
    rintro r w3 ⟨rfl, k3⟩
    rw [show [key].flatten = key by simp]
    refine s_newB (l := bvs (List.replicate 32 0)) (by kernel_rfl) ?_
    intro w4 hb4 k4 hs4
    refine s_stNB0 hb4 (by simp [sha_len]) (by simp) (bvs_one _) ?_
    intro w5 hb5 k5
    refine s_slAll (by omega) ?_
    have k15 : Keep [] w1 w5 := keep2 ((k2.tr k3).tr k4) k5 (by have := (k2.tr k3).size; omega)
    refine dmac_mid (sha key) text (by rw [sha_len]; omega) ht _ text1 w.heap.size _ w (Nat.le_refl _) (fun w' k' => ⟨?_, k'⟩) htab hv w5 (k1.tr k15) (hb1.kp k15 (by simp)) (hb5.sb (sha_len _))
    unfold mac
    rw [ek]
  · have ek : keyOf key = key := by unfold keyOf; rw [if_neg (by omega)]
    refine dmac_mid key text (by omega) ht _ text1 w.heap.size _ w (Nat.le_refl _) (fun w' k' => ⟨?_, k'⟩) htab hv w1 k1 hb1 (hkey.kp0 k1)
    unfold mac
    rw [ek]
/-! ### the document's -/
theorem rmac_tail (k text : List UInt8) (hk : k.length = 64) (ht : text.length ≤ 1048576) (text1 : Value) (b4 : Nat) (v7 v8 : Value) (K : KT) (w0 wi : World) (h4 : w0.heap.size ≤ b4) (h4i : b4 < wi.heap.size) (hK : ∀ w, Keep [] w0 w → K (.agg (bvs (sha (xorAll 92 k ++ sha (xorAll 54 k ++ text)))).toArray) w) (hki : Keep [] w0 wi)
    (w : World) (kp : Keep [] wi w) (hb4 : Blk w b4 (bvs (List.replicate 32 0)) 43) (hv : SB w text1 text)
    (ho7 : w.ownsRow wi.heap.size 5 1 v7 (xorAll 54 k).length (bvs (xorAll 54 k))) (ho8 : w.ownsRow wi.heap.size 5 1 v8 (xorAll 92 k).length (bvs (xorAll 92 k))) (hap : ∀ b ∈ blkOf v8, b ∉ blkOf v7) :
    witnessref1_Mac.C3 K text1 (.pointer (some ⟨b4, 0, none⟩)) v7 v8 w := by
  unfold witnessref1_Mac.C3
  have hx : ∀ c, (xorAll c k).length = 64 := fun c => by simp [xorAll, hk]
  rw [hx] at ho7 ho8
  have hs0 := kp.size
  refine s_app' (base := wi.heap.size) eU8 ho7 hv (bvs_one _) (by simp only [bvs, List.length_map]; unfold maxLen; omega) (by simp only [bvs, List.length_map]; omega) hs0 ?_
  intro v w1 ho1 k1 _
  have k01 : Keep [] wi w1 := keepNew kp k1 (fun b hb => (owns_lt ho7 b hb).1)
  rw [show bvs (xorAll 54 k) ++ bvs text = bvs (xorAll 54 k ++ text) by simp only [bvs, List.map_append]] at ho1
  refine (rof_c (xorAll 54 k ++ text) (by rw [List.length_append, hx]; omega) v w1 (owns_Sl ho1)).mono ?_
  rintro r w2 ⟨rfl, k2⟩
  refine s_newB (l := bvs (List.replicate 32 0)) (by kernel_rfl) ?_
  intro w3 hb10 k3 hs3
  refine s_stNB0 hb10 (by simp [sha_len]) (by simp) (bvs_one _) ?_
  intro w4 hb104 k4
  refine s_slAll (by omega) ?_
  have k14 : Keep [] w1 w4 := k2.tr (keep2 k3 k4 (Nat.le_refl _))
  have ho84 := owns_kp (owns_kp ho8 k1 hap) k14 (by simp)
  have hs4 : wi.heap.size ≤ w4.heap.size := (k01.tr k14).size
  refine s_app' (base := wi.heap.size) eU8 ho84 (hb104.sb (sha_len _)) (bvs_one _) (by simp only [bvs, List.length_map, sha_len]; unfold maxLen; omega) (by simp only [bvs, List.length_map, sha_len]; omega) hs4 ?_
  intro v' w5 ho5 k5 _
  have k05 : Keep [] wi w5 := keepNew (k01.tr k14) k5 (fun b hb => (owns_lt ho84 b hb).1)
  rw [← List.map_append] at ho5
  refine (rof_c (xorAll 92 k ++ sha (xorAll 54 k ++ text)) (by rw [List.length_append, hx, sha_len]; omega) v' w5 (owns_Sl ho5)).mono ?_
  rintro r w6 ⟨rfl, k6⟩
  have hb46 : Blk w6 b4 (bvs (List.replicate 32 0)) 43 := by
    have h1 := (k05.tr k6).block b4 h4i (by simp)
    have h2 := kp.block b4 h4i (by simp)
    unfold Blk at hb4 ⊢
    rw [h1, ← h2]
    exact hb4
  refine s_stNB0 hb46 (by simp [sha_len]) (by simp) (bvs_one _) ?_
  intro w7 hb47 k7
  refine s_resA Tryd.underlying43 rfl (n := 32) (by kernel_rfl) (by simp [sha_len]) hb47.has ?_
  exact hK w7 (keep2 (hki.tr (k05.tr k6)) k7 h4)
theorem xorAll_succ (c : UInt8) (k : List UInt8) (i : Nat) (h : i < k.length) : xorAll c (k.take i) ++ [k.getD i 0 ^^^ c] = xorAll c (k.take (i + 1)) := by
  unfold xorAll
  rw [List.take_add_one, List.getElem?_eq_getElem h, List.map_append, List.getD_eq_getElem?_getD, List.getElem?_eq_getElem h]
  rfl
theorem rmac_loop (k text : List UInt8) (hk : k.length = 64) (ht : text.length ≤ 1048576) (text1 : Value) (b4 b5 : Nat) (K : KT) (w0 wi : World) (h4 : w0.heap.size ≤ b4) (h4i : b4 < wi.heap.size) (_ : b5 < wi.heap.size) (hK : ∀ w, Keep [] w0 w → K (.agg (bvs (sha (xorAll 92 k ++ sha (xorAll 54 k ++ text)))).toArray) w) (hki : Keep [] w0 wi) (hb4 : Blk wi b4 (bvs (List.replicate 32 0)) 43) (hb5 : Blk wi b5 (bvs k) 60) (hv : SB wi text1 text) :
    ∀ (q i : Nat) (v7 v8 : Value) (w : World), q + i = 65 → 1 ≤ q → Keep [] wi w → w.ownsRow wi.heap.size 5 1 v7 (xorAll 54 (k.take i)).length (bvs (xorAll 54 (k.take i))) → w.ownsRow wi.heap.size 5 1 v8 (xorAll 92 (k.take i)).length (bvs (xorAll 92 (k.take i))) → (∀ b ∈ blkOf v8, b ∉ blkOf v7) →
      witnessref1_Mac.L4 K (witnessref1_Mac.C3 K) q text1 (.pointer (some ⟨b4, 0, none⟩)) (.pointer (some ⟨b5, 0, none⟩)) v7 v8 (.int .i64 i) w := by
  intro q
  induction q with
  | zero => intro i _ _ _ h; omega
  | succ q ih =>
    intro i v7 v8 w hi _ kp ho7 ho8 hap
    unfold witnessref1_Mac.L4 witnessref1_Mac.C4
    refine s_lss ?_
    refine s_cnd (fun hc => ?_) (fun hc => ?_)
    · have hi' : i < k.length := by omega
      have hx : ∀ c, (xorAll c (k.take i)).length = i := fun c => by simp [xorAll]; omega
      have hat : (bvs k)[0 + (i : Int).toNat * 1]? = some (bv (k.getD i 0)) := by
        rw [show 0 + (i : Int).toNat * 1 = i by simp, List.getElem?_map, getD_of (d := 0) hi']
        rfl
      refine s_ixA (by omega) (by omega) ?_
      refine s_ldB (hb5.kp kp (by simp)) hat ?_
      refine s_xor8 (b := 54) ?_
      refine s_push2 (c := k.getD i 0 ^^^ 54) eU8 kp.size ho7 (by rw [hx]; omega) ?_
      intro v7' w1 ho71 k1 hbl1
      rw [xorAll_succ _ _ _ hi'] at ho71
      have hlt8 := owns_lt ho8
      have kp1 : Keep [] wi w1 := keepNew kp k1 (fun b hb => (owns_lt ho7 b hb).1)
      have ho81 := owns_kp ho8 k1 hap
      have hap1 : ∀ b ∈ blkOf v8, b ∉ blkOf v7' := by
        intro b hb hb'
        rcases hbl1 with e | hg
        · rw [e] at hb'; exact hap b hb hb'
        · have := hg b hb'; have := (hlt8 b hb).2; omega
      refine s_ixA (by omega) (by omega) ?_
      refine s_ldB (hb5.kp kp1 (by simp)) hat ?_
      refine s_xor8 (b := 92) ?_
      refine s_push2 (c := k.getD i 0 ^^^ 92) eU8 kp1.size ho81 (by rw [hx]; omega) ?_
      intro v8' w2 ho82 k2 hbl2
      rw [xorAll_succ _ _ _ hi'] at ho82
      have hlt7 := owns_lt ho71
      have kp2 : Keep [] wi w2 := keepNew kp1 k2 (fun b hb => (owns_lt ho81 b hb).1)
      have ho72 := owns_kp ho71 k2 (fun b hb hb' => hap1 b hb' hb)
      refine s_addi (by rw [i64min, i64max]; omega) ?_
      refine ih (i + 1) v7' v8' w2 (by omega) (by omega) kp2 ho72 ho82 ?_
      intro b hb hb'
      rcases hbl2 with e | hg
      · rw [e] at hb; exact hap1 b hb hb'
      · have := hg b hb; have := (hlt7 b hb').2; omega
    · have e : i = 64 := by omega
      subst e
      rw [List.take_of_length_le (by omega)] at ho7 ho8
      exact rmac_tail k text hk ht text1 b4 v7 v8 K w0 wi h4 h4i hK hki w kp (hb4.kp kp (by simp)) (hv.kp0 kp) ho7 ho8 hap
theorem rmac_c (key text : List UInt8) (hk : key.length ≤ 1048576) (ht : text.length ≤ 1048576) (key0 text1 : Value) (w : World) (hkey : SB w key0 key) (hv : SB w text1 text) : CallsR Tryd.prog 28 #[key0, text1] w fun v w' => v = .agg (bvs (mac key text)).toArray ∧ Keep [] w w' := by
  apply witnessref1_Mac.sound
  unfold witnessref1_Mac.J witnessref1_Mac.C1
  refine s_newB (l := bvs (List.replicate 32 0)) (by kernel_rfl) ?_
  intro w1 hb4 k1 hs1
  refine s_newB (l := bvs (List.replicate 64 0)) (by kernel_rfl) ?_
  intro w2 hb5 k2 hs2
  have k12 := k1.tr k2
  have fin : ∀ (k : List UInt8) (wi : World), k.length ≤ 64 → k = keyOf key → Keep [w1.heap.size] w2 wi → Blk wi w1.heap.size (bvs (pad64 k)) 60 → witnessref1_Mac.C2 (fun v w' => v = .agg (bvs (mac key text)).toArray ∧ Keep [] w w') text1 (.pointer (some ⟨w.heap.size, 0, none⟩)) (.pointer (some ⟨w1.heap.size, 0, none⟩)) wi := by
    intro k wi hk64 he kk hb
    unfold witnessref1_Mac.C2
    have hsi := kk.size
    have hki : Keep [] w wi := keep2 k12 kk (by omega)
    refine ⟨65, rmac_loop (pad64 k) text (pad64_len k hk64) ht text1 w.heap.size w1.heap.size _ w wi (Nat.le_refl _) (by omega) (by omega) (fun w' k' => ⟨?_, k'⟩) hki ((hb4.kp k2 (by simp)).kp kk (by simp; omega)) hb (hv.kp0 hki) 65 0 _ _ wi rfl (by omega) (Keep.refl _ _) ?_ ?_ ?_⟩
    · simpa [xorAll] using World.ownsRow_nil wi wi.heap.size 5 1
    · simpa [xorAll] using World.ownsRow_nil wi wi.heap.size 5 1
    · intro b hb'
      simp [blkOf] at hb'
    · unfold mac
      rw [he]
  have hkey2 := hkey.kp0 k12
  refine hkey2.len ?_
  rw [show (bvs key).length = key.length by simp only [bvs, List.length_map]]
  refine s_gtr ?_
  refine s_cnd (fun hc => ?_) (fun hc => ?_)
  · refine (rof_c key (by omega) key0 w2 hkey2).mono ?_
    rintro r w3 ⟨rfl, k3⟩
    refine s_newB (l := bvs (List.replicate 32 0)) (by kernel_rfl) ?_
    intro w4 hb6 k4 hs4
    refine s_stNB0 hb6 (by simp [sha_len]) (by simp) (bvs_one _) ?_
    intro w5 hb65 k5
    refine s_drw ?_
    refine s_slAll (by omega) ?_
    refine s_slAll (by omega) ?_
    have k25 : Keep [] w2 w5 := keep2 (k3.tr k4) k5 (k3.size)
    have k25' : Keep [] w2 w5.drew := k25.drew
    refine s_copyB eU8 (w := w5.drew) (hb5.kp k25' (by simp)) (by simp) (show SB w5.drew _ (sha key) from (hb65.kp (Keep.refl [] w5).drew (by simp)).sb (sha_len _)) ?_
    intro w6 hb6' k6
    rw [copy64 _ (by rw [sha_len]; omega)] at hb6'
    exact fin (sha key) w6 (by rw [sha_len]; omega) (by unfold keyOf; rw [if_pos (by omega)]) (k25'.trans k6 (by simp) (fun x hx _ => hx)) hb6'
  · refine s_slAll (by omega) ?_
    refine s_copyB eU8 hb5 (by simp) hkey2 ?_
    intro w3 hb3 k3
    rw [copy64 _ (by omega)] at hb3
    exact fin key w3 (by omega) (by unfold keyOf; rw [if_neg (by omega)]) k3 hb3
theorem macs_c {w : World} (key : List UInt8) (v0 : Value) (h0 : SB w v0 key) (hk : key.length ≤ 1048576) (text : List UInt8) (v1 : Value) (h1 : SB w v1 text) (ht : text.length ≤ 1048576) (hr : HasL w 2 0 (uvs rounds)) (_ : 2 < w.heap.size) (hf : HasL w 1 0 (uvs first)) (_ : 1 < w.heap.size) :
    CallsR Tryd.prog 7 #[v0, v1] w fun r w' => r = .bool true ∧ Keep [] w w' := by
  have htab : Tabs w := ⟨hr, hf⟩
  apply witnesslaw1_DigestMacs.sound
  unfold witnesslaw1_DigestMacs.J witnesslaw1_DigestMacs.C1
  refine s_bs2' eBs (slice_cells h0) (slice_cells h1) ?_
  intro w1 k1 ho
  have hss := SS.two ho (h0.kp0 k1) (h1.kp0 k1)
  have hsm := small_two (l := key) (m := text) (by omega) (by omega)
  refine (handed_c [key, text] _ w1 hsm hss).mono ?_
  rintro r w2 ⟨g, f, gs, fs, rfl, hh, k2⟩
  have k12 := k1.tr k2
  refine s_ext rfl ?_
  refine s_ext rfl ?_
  refine s_drw ?_
  have kd : Keep [] w2 w2.drew := (Keep.refl [] w2).drew
  have hhd := hh.kp kd
  refine hhd.ss.get (i := 0) (by simp) ?_
  intro u hu
  refine hhd.ss.get (i := 1) (by simp) ?_
  intro u' hu'
  refine (dmac_c key text hk ht u u' w2.drew hu hu' (htab.kp (k12.tr kd) (by simp) (by simp))).mono ?_
  rintro r w3 ⟨rfl, k3⟩
  have k13 := (k12.tr kd).tr k3
  refine (rmac_c key text hk ht v0 v1 w3 (h0.kp0 k13) (h1.kp0 k13)).mono ?_
  rintro r w4 ⟨rfl, k4⟩
  have k14 := k13.tr k4
  refine s_eqSum (sha_len _) (sha_len _) ?_
  simp only [decide_true]
  refine s_gRun rfl ?_
  refine s_gRun rfl ?_
  refine s_gRun rfl ?_
  refine (kept_c [key, text] _ f g gs fs _ w4 hsm (hss.kp0 (k2.tr ((kd.tr k3).tr k4))) (hhd.kp (k3.tr k4))).mono ?_
  rintro r w5 ⟨rfl, k5⟩
  refine s_opt (v := .bool true) rfl ?_
  exact ⟨rfl, k14.tr k5⟩
end Go.Proofs.YtklieghmbhofnaaDoor
