/-
  The check sum is linear: of three texts of one length, the check sum of their bytes xor is their check sums xor.
-/
import Derived.Test.YtklieghmbhofnaaDoorKnown
import Derived.Test.YtklieghmbhofnaaDoorRgK
namespace Go.Proofs.YtklieghmbhofnaaDoor
open Go Go.Ev Go.RowKit
set_option maxRecDepth 100000
theorem u8_xor (a b : UInt8) : BitVec.ofNat 32 (a ^^^ b).toNat = BitVec.ofNat 32 a.toNat ^^^ BitVec.ofNat 32 b.toNat := by
  apply BitVec.eq_of_toNat_eq
  have ha := a.toNat_lt
  have hb := b.toNat_lt
  have hx : a.toNat ^^^ b.toNat < 2 ^ 8 := Nat.xor_lt_two_pow ha hb
  rw [UInt8.toNat_xor, BitVec.toNat_xor, BitVec.toNat_ofNat, BitVec.toNat_ofNat, BitVec.toNat_ofNat, Nat.mod_eq_of_lt (by omega), Nat.mod_eq_of_lt (by omega), Nat.mod_eq_of_lt (by omega)]
theorem byteSt_xor (r s : BitVec 32) (a b : UInt8) : byteSt (r ^^^ s) (a ^^^ b) = byteSt r a ^^^ byteSt s b := by
  unfold byteSt
  rw [u8_xor, ← sN_xor]
  congr 1
  ac_rfl
theorem crc_xor : ∀ (l m : List UInt8) (r s : BitVec 32), l.length = m.length → crc (r ^^^ s) (List.zipWith (· ^^^ ·) l m) = crc r l ^^^ crc s m
  | [], [], r, s, _ => rfl
  | a :: l, b :: m, r, s, h => by
    show crc (byteSt (r ^^^ s) (a ^^^ b)) (List.zipWith (· ^^^ ·) l m) = crc (byteSt r a) l ^^^ crc (byteSt s b) m
    rw [byteSt_xor]
    exact crc_xor l m _ _ (by simpa using h)
/-- The bytes xor, from 'i' on still zeros. -/
def x3 (a b c : List UInt8) (n : Nat) : List UInt8 := (List.range n).map fun i => a.getD i 0 ^^^ b.getD i 0 ^^^ c.getD i 0
theorem x3_zip (a b c : List UInt8) (n : Nat) (ha : n ≤ a.length) (hb : n ≤ b.length) (hc : n ≤ c.length) : x3 a b c n = List.zipWith (· ^^^ ·) (List.zipWith (· ^^^ ·) (a.take n) (b.take n)) (c.take n) := by
  apply List.ext_getElem?
  intro i
  unfold x3
  by_cases hi : i < n
  · simp only [List.getElem?_map, List.getElem?_range hi, Option.map_some, List.getElem?_zipWith, List.getElem?_take, hi, if_true]
    rw [getD_of (l := a) (d := 0) (by omega), getD_of (l := b) (d := 0) (by omega), getD_of (l := c) (d := 0) (by omega)]
  · rw [List.getElem?_eq_none (by simp; omega), List.getElem?_eq_none (by simp; omega)]
theorem linear_law (a b c : List UInt8) (n : Nat) (ha : n ≤ a.length) (hb : n ≤ b.length) (hc : n ≤ c.length) : more 0 (x3 a b c n) = more 0 (a.take n) ^^^ more 0 (b.take n) ^^^ more 0 (c.take n) := by
  rw [x3_zip a b c n ha hb hc]
  unfold more
  have e : (~~~ (0 : BitVec 32)) = ~~~ 0 ^^^ ~~~ 0 ^^^ ~~~ 0 := by decide +kernel
  have h1 := crc_xor (List.zipWith (· ^^^ ·) (a.take n) (b.take n)) (c.take n) (~~~ 0 ^^^ ~~~ 0) (~~~ 0) (by simp; omega)
  have h2 := crc_xor (a.take n) (b.take n) (~~~ 0) (~~~ 0) (by simp; omega)
  rw [h2, ← e] at h1
  rw [h1]
  apply BitVec.eq_of_getLsbD_eq
  intro i hi
  simp only [BitVec.getLsbD_xor, BitVec.getLsbD_not, hi, decide_true, Bool.true_and]
  cases (crc (~~~ 0) (a.take n)).getLsbD i <;> cases (crc (~~~ 0) (b.take n)).getLsbD i <;> cases (crc (~~~ 0) (c.take n)).getLsbD i <;> rfl
theorem s_slToB {w : World} {K : KT} {v : Value} {l : List UInt8} {n : Nat} {k : IntKind} {m : Int} (hm : m = (n : Int)) (hv : SB w v l) (hn : n ≤ l.length) (h : ∀ v', SB w v' (l.take n) → (∀ b ∈ blkOf v', b ∈ blkOf v) → K v' w) : optW (slS 1 v none (some (.int k m)) none) w K := by
  subst hm
  rcases hv with ⟨rfl, hx⟩ | ⟨a, c, rfl, hc, hh⟩
  · have hl : l = [] := by simpa using hx
    subst hl
    have : n = 0 := by simpa using hn
    subst this
    refine s_opt (v := .slice none 0 0) rfl (h _ (.inl ⟨rfl, rfl⟩) (fun b hb => hb))
  · simp only [List.length_map] at hc
    refine s_slTo (by omega) (by simp; omega) (h _ (.inr ⟨a, c, by simp; omega, by simp; omega, fun j u hj => ?_⟩) (fun b hb => hb))
    rw [bvs, List.map_take, List.getElem?_take] at hj
    split at hj
    · exact hh j u hj
    · cases hj
structure LinCtx (w0 : World) (a0 b1 c2 x8 : Value) (a b c : List UInt8) (n : Nat) : Prop where
  ha : SB w0 a0 a
  hb : SB w0 b1 b
  hc : SB w0 c2 c
  hx : SB w0 x8 (x3 a b c n)
  na : n ≤ a.length
  nb : n ≤ b.length
  nc : n ≤ c.length
  n1 : n ≤ 1048576
  htab : Tabs w0
  ht : Tab w0
  hg : 0 < w0.heap.size
def linQ (a0 b1 c2 n7 x8 : Value) (a b c x : List UInt8) (n : Nat) : QTab := [
  (41, fun v _ => v = .bool true), (42, fun v _ => v = .bool true), (43, fun v _ => v = x8), (44, fun v w => SS w v [x]), (45, fun v _ => v = uv (more 0 x)),
  (46, fun v _ => v = a0), (47, fun v _ => v = n7), (48, fun v w => SB w v (a.take n)), (49, fun v w => SS w v [a.take n]), (50, fun v _ => v = uv (more 0 (a.take n))),
  (51, fun v _ => v = b1), (52, fun v _ => v = n7), (53, fun v w => SB w v (b.take n)), (54, fun v w => SS w v [b.take n]), (55, fun v _ => v = uv (more 0 (b.take n))),
  (56, fun v _ => v = uv (more 0 (a.take n) ^^^ more 0 (b.take n))),
  (57, fun v _ => v = c2), (58, fun v _ => v = n7), (59, fun v w => SB w v (c.take n)), (60, fun v w => SS w v [c.take n]), (61, fun v _ => v = uv (more 0 (c.take n))),
  (62, fun v _ => v = uv (more 0 (a.take n) ^^^ more 0 (b.take n) ^^^ more 0 (c.take n))), (63, fun v _ => v = .bool true), (64, fun v _ => v = .bool true), (6, fun v _ => v = .bool true)]
theorem check1 {l : List UInt8} {v : Value} {w w1 : World} {K : KT} (hk : Keep [] w1 w) (hs : SS w1 v [l]) (hl : l.length ≤ 1073741824) (ht : Tab w) (h : K (uv (more 0 l)) w) : CallsR Tryd.prog 16 #[v] w K :=
  (check_c [l] v w (small_one hl) (hs.kp0 hk) ht).mono fun r w' ⟨h1, h2⟩ => by subst h1 h2; rw [show [l].flatten = l by simp]; exact h
theorem lin_end {K : KT} {w0 : World} {a0 b1 c2 x8 : Value} {a b c : List UInt8} {n : Nat} (C : LinCtx w0 a0 b1 c2 x8 a b c n) (hK : ∀ w, Keep [] w0 w → K (.bool true) w) {w : World} (kp : Keep [] w0 w) : witnesslaw1_DigestLinear.C2 K a0 b1 c2 (.int .i64 n) x8 w := by
  obtain ⟨ha, hb, hc, hx, na, nb, nc, n1, htab, ht, hg⟩ := C
  have kd : ∀ {w' : World}, Keep [] w w' → Keep [] w0 w' := fun k => kp.tr k
  have tb : ∀ {w' : World}, Keep [] w w' → Tab w' := fun k => ht.keep ((kd k).block _ hg (by simp))
  unfold witnesslaw1_DigestLinear.C2 witnesslaw1_DigestLinear.D4
  refine ⟨fun w' => Keep [] w w', fun x y => Keep [] x y, qt (linQ a0 b1 c2 (.int .i64 n) x8 a b c (x3 a b c n) n), (Keep.refl _ _).drew, fun _ _ k h => h.tr k, qt_stab, ?_⟩
  have mk : ∀ {v : Value} {l : List UInt8} {s t : Nat} {w' : World}, Keep [] w w' → SB w' v l → (((linQ a0 b1 c2 (.int .i64 n) x8 a b c (x3 a b c n) n).lookup t).getD fun _ _ => True) = (fun v w => SS w v [l]) → semW Tryd.prog (Instr.buildSlice 24 1 #[(0, v)]) w' fun u w'' => Keep [] w' w'' ∧ qt (linQ a0 b1 c2 (.int .i64 n) x8 a b c (x3 a b c n) n) t u w'' := by
    intro v l s t w' k hv ht
    refine s_lit1 eBs (slice_cells hv) ?_
    intro w1 k1 ho
    exact qt_mk k1 (by rw [ht]; exact SS.one ho (hv.kp0 k1))
  have ck : ∀ {v : Value} {l : List UInt8} {s t : Nat} {w' : World}, Keep [] w w' → qt (linQ a0 b1 c2 (.int .i64 n) x8 a b c (x3 a b c n) n) s v w' → (((linQ a0 b1 c2 (.int .i64 n) x8 a b c (x3 a b c n) n).lookup s).getD fun _ _ => True) = (fun v w => SS w v [l]) →
      (((linQ a0 b1 c2 (.int .i64 n) x8 a b c (x3 a b c n) n).lookup t).getD fun _ _ => True) = (fun v _ => v = uv (more 0 l)) → l.length ≤ 1048576 → CallsR Tryd.prog 16 #[v] w' fun u w'' => Keep [] w' w'' ∧ qt (linQ a0 b1 c2 (.int .i64 n) x8 a b c (x3 a b c n) n) t u w'' := by
    intro v l s t w' k hq hs ht hl
    obtain ⟨w1, k1, hss⟩ := qt_get hq hs
    exact check1 k1 hss (by omega) (tb k) (qt_mk (Keep.refl _ _) (by rw [ht]))
  have ltk : ∀ (l : List UInt8), (l.take n).length ≤ 1048576 := fun l => by rw [List.length_take]; omega
  refine ⟨?_, ?_, ?_, ?_, ?_, ?_, ?_, ?_, ?_, ?_, ?_, ?_, ?_, ?_, ?_, ?_, ?_, ?_, ?_, ?_, ?_, ?_, ?_, ?_, ?_, ?_⟩
  · intro f w' hI _
    exact (known_c w' (htab.kp (kd hI) (by simp) (by simp)) (tb hI) (by have := (kd hI).size; omega)).mono fun v w'' ⟨e, k⟩ => qt_mk k e
  · intro f w' hI ⟨h41, _⟩
    exact qt_mk (Keep.refl _ _) (qt_eq h41 rfl)
  · intro f w' hI ⟨h42, _⟩
    exact rg_run h42 rfl (qt_mk (Keep.refl _ _) rfl)
  · intro f w' hI ⟨h42, h43, _⟩
    refine rg_run h42 rfl ?_
    rw [qt_eq h43 rfl]
    exact mk (s := 0) hI (hx.kp0 (kd hI)) rfl
  · intro f w' hI ⟨h42, h44, _⟩
    refine rg_run h42 rfl (ck hI h44 rfl rfl ?_)
    simp [x3]; omega
  · intro f w' hI ⟨h42, _⟩
    exact rg_run h42 rfl (qt_mk (Keep.refl _ _) rfl)
  · intro f w' hI ⟨h42, _⟩
    exact rg_run h42 rfl (qt_mk (Keep.refl _ _) rfl)
  · intro f w' hI ⟨h42, h46, h47, _⟩
    refine rg_run h42 rfl ?_
    rw [qt_eq h46 rfl, qt_eq h47 rfl]
    exact s_slToB rfl (ha.kp0 (kd hI)) na fun v hv _ => qt_mk (Keep.refl _ _) hv
  · intro f w' hI ⟨h42, h48, _⟩
    obtain ⟨w1, k1, hv⟩ := qt_get h48 rfl
    exact rg_run h42 rfl (mk (s := 0) hI (Sl.kp0 hv k1) rfl)
  · intro f w' hI ⟨h42, h49, _⟩
    exact rg_run h42 rfl (ck hI h49 rfl rfl (ltk _))
  · intro f w' hI ⟨h42, _⟩
    exact rg_run h42 rfl (qt_mk (Keep.refl _ _) rfl)
  · intro f w' hI ⟨h42, _⟩
    exact rg_run h42 rfl (qt_mk (Keep.refl _ _) rfl)
  · intro f w' hI ⟨h42, h51, h52, _⟩
    refine rg_run h42 rfl ?_
    rw [qt_eq h51 rfl, qt_eq h52 rfl]
    exact s_slToB rfl (hb.kp0 (kd hI)) nb fun v hv _ => qt_mk (Keep.refl _ _) hv
  · intro f w' hI ⟨h42, h53, _⟩
    obtain ⟨w1, k1, hv⟩ := qt_get h53 rfl
    exact rg_run h42 rfl (mk (s := 0) hI (Sl.kp0 hv k1) rfl)
  · intro f w' hI ⟨h42, h54, _⟩
    exact rg_run h42 rfl (ck hI h54 rfl rfl (ltk _))
  · intro f w' hI ⟨h42, h50, h55, _⟩
    refine rg_run h42 rfl ?_
    rw [qt_eq h50 rfl, qt_eq h55 rfl]
    exact s_xor32 (qt_mk (Keep.refl _ _) rfl)
  · intro f w' hI ⟨h42, _⟩
    exact rg_run h42 rfl (qt_mk (Keep.refl _ _) rfl)
  · intro f w' hI ⟨h42, _⟩
    exact rg_run h42 rfl (qt_mk (Keep.refl _ _) rfl)
  · intro f w' hI ⟨h42, h57, h58, _⟩
    refine rg_run h42 rfl ?_
    rw [qt_eq h57 rfl, qt_eq h58 rfl]
    exact s_slToB rfl (hc.kp0 (kd hI)) nc fun v hv _ => qt_mk (Keep.refl _ _) hv
  · intro f w' hI ⟨h42, h59, _⟩
    obtain ⟨w1, k1, hv⟩ := qt_get h59 rfl
    exact rg_run h42 rfl (mk (s := 0) hI (Sl.kp0 hv k1) rfl)
  · intro f w' hI ⟨h42, h60, _⟩
    exact rg_run h42 rfl (ck hI h60 rfl rfl (ltk _))
  · intro f w' hI ⟨h42, h56, h61, _⟩
    refine rg_run h42 rfl ?_
    rw [qt_eq h56 rfl, qt_eq h61 rfl]
    exact s_xor32 (qt_mk (Keep.refl _ _) rfl)
  · intro f w' hI ⟨h42, h45, h62, _⟩
    refine rg_run h42 rfl ?_
    rw [qt_eq h45 rfl, qt_eq h62 rfl, linear_law a b c n na nb nc]
    exact s_eql32 (qt_mk (Keep.refl _ _) (by simp; rfl))
  · intro f w' hI ⟨h42, h63, _⟩
    rw [qt_eq h42 rfl, qt_eq h63 rfl]
    exact s_opt (v := .bool true) rfl (qt_mk (Keep.refl _ _) rfl)
  · intro f w' hI ⟨h64, _⟩
    exact qt_mk (Keep.refl _ _) (qt_eq h64 rfl)
  · intro f w' hI ⟨_, _, _, _, _, _, _, _, _, _, _, _, _, _, _, _, _, _, _, _, _, _, _, _, h6, _⟩
    rw [qt_eq h6 rfl]
    exact hK w' (kd hI)
theorem SB.get {w : World} {v : Value} {l : List UInt8} {K : KT} {i : Nat} {n : Int} (hn : n = (i : Int)) (h : SB w v l) (hi : i < l.length) (hk : ∀ a, ld1 a w = some (bv (l.getD i 0)) → K a w) : optW (ixS 1 v (.int .i64 n)) w K := by
  subst hn
  refine Sl.get h (by omega) (u := bv (l.getD i 0)) ?_ hk
  rw [Int.toNat_natCast, List.getElem?_map, getD_of (d := 0) hi]
  rfl
def x3to (a b c : List UInt8) (n i : Nat) : List UInt8 := x3 a b c i ++ List.replicate (n - i) 0
theorem x3_len (a b c : List UInt8) (n : Nat) : (x3 a b c n).length = n := by simp [x3]
theorem x3to_len (a b c : List UInt8) (n i : Nat) (h : i ≤ n) : (x3to a b c n i).length = n := by simp [x3to, x3_len]; omega
theorem x3to_set (a b c : List UInt8) (n i : Nat) (h : i < n) : (bvs (x3to a b c n i)).set i (bv (a.getD i 0 ^^^ b.getD i 0 ^^^ c.getD i 0)) = bvs (x3to a b c n (i + 1)) := by
  have e : (x3to a b c n i).set i (a.getD i 0 ^^^ b.getD i 0 ^^^ c.getD i 0) = x3to a b c n (i + 1) := by
    unfold x3to
    rw [List.set_append_right _ _ (by rw [x3_len]; exact Nat.le_refl _), x3_len, Nat.sub_self]
    obtain ⟨m, hm⟩ : ∃ m, n - i = m + 1 := ⟨n - i - 1, by omega⟩
    rw [hm, List.replicate_succ, List.set_cons_zero, show n - (i + 1) = m by omega]
    unfold x3
    rw [List.range_succ, List.map_append, List.append_assoc]
    rfl
  simp only [bvs, ← e, List.map_set]
theorem lin_loop {K : KT} {w0 : World} {a0 b1 c2 : Value} {a b c : List UInt8} {n bx : Nat} (hbx : w0.heap.size ≤ bx) (ha : SB w0 a0 a) (hb : SB w0 b1 b) (hc : SB w0 c2 c) (na : n ≤ a.length) (nb : n ≤ b.length) (nc : n ≤ c.length) (n1 : n ≤ 1048576) (htab : Tabs w0) (ht : Tab w0) (hg : 0 < w0.heap.size) (hK : ∀ w, Keep [] w0 w → K (.bool true) w) :
    ∀ (k i : Nat) (w : World), k + i = n + 1 → 1 ≤ k → Keep [] w0 w → Blk w bx (bvs (x3to a b c n i)) 5 →
      witnesslaw1_DigestLinear.L5 K (witnesslaw1_DigestLinear.C2 K) k a0 b1 c2 (.int .i64 n) (.slice (some ⟨bx, 0, none⟩) n n) (.int .i64 i) w := by
  intro k
  induction k with
  | zero => intro i _ _ h; omega
  | succ k ih =>
    intro i w hi _ kp hbk
    unfold witnesslaw1_DigestLinear.L5 witnesslaw1_DigestLinear.C5
    have hl := x3to_len a b c n i (by omega)
    refine s_lss ?_
    refine s_cnd (fun hc' => ?_) (fun hc' => ?_)
    · have hi' : i < n := by omega
      refine s_drw ?_
      have kd : Keep [] w0 w.drew := kp.drew
      refine SB.get rfl (ha.kp0 kd) (by omega) ?_
      intro p1 h1
      refine s_opt h1 ?_
      refine SB.get rfl (hb.kp0 kd) (by omega) ?_
      intro p2 h2
      refine s_opt h2 ?_
      refine s_xor8 ?_
      refine SB.get rfl (hc.kp0 kd) (by omega) ?_
      intro p3 h3
      refine s_opt h3 ?_
      refine s_xor8 ?_
      refine s_ixS (by omega) (by omega) ?_
      refine s_stB (w := w.drew) (e := 5) hbk (by simp; omega) rfl ?_
      intro w1 hb1 k1
      rw [show 0 + (i : Int).toNat * 1 = i by simp, x3to_set _ _ _ _ _ hi'] at hb1
      refine s_addi (by rw [i64min, i64max]; omega) ?_
      exact ih (i + 1) w1 (by omega) (by omega) (keep2 kd k1 hbx) hb1
    · have e : i = n := by omega
      subst e
      have e2 : x3to a b c i i = x3 a b c i := by simp [x3to]
      rw [e2] at hbk
      refine lin_end (w0 := w) ⟨ha.kp0 kp, hb.kp0 kp, hc.kp0 kp, hbk.sb (x3_len _ _ _ _), na, nb, nc, n1, htab.kp kp (by simp) (by simp), ht.keep (kp.block _ hg (by simp)), by have := kp.size; omega⟩ (fun w' k' => hK w' (kp.tr k')) (Keep.refl _ _)
theorem linear_c {w : World} (a : List UInt8) (a0 : Value) (ha : SB w a0 a) (hla : a.length ≤ 1048576) (b : List UInt8) (b1 : Value) (hb : SB w b1 b) (_ : b.length ≤ 1048576) (c : List UInt8) (c2 : Value) (hc : SB w c2 c) (_ : c.length ≤ 1048576)
    (hr : HasL w 2 0 (uvs rounds)) (_ : 2 < w.heap.size) (hf : HasL w 1 0 (uvs first)) (_ : 1 < w.heap.size) (ht : Tab w) (hg : 0 < w.heap.size) :
    CallsR Tryd.prog 9 #[a0, b1, c2] w fun r w' => r = .bool true ∧ Keep [] w w' := by
  apply witnesslaw1_DigestLinear.sound
  unfold witnesslaw1_DigestLinear.J witnesslaw1_DigestLinear.C1
  refine ha.len ?_
  refine hb.len ?_
  refine hc.len ?_
  rw [show (bvs a).length = a.length by simp only [bvs, List.length_map], show (bvs b).length = b.length by simp only [bvs, List.length_map], show (bvs c).length = c.length by simp only [bvs, List.length_map]]
  refine s_min3 ?_
  generalize hn : min (min a.length b.length) c.length = n
  refine s_makeB eU8 rfl rfl (by omega) ?_
  intro w1 k1 hs1 hb1
  refine ⟨n + 1, lin_loop (w0 := w) (Nat.le_refl _) ha hb hc (by omega) (by omega) (by omega) (by omega) ⟨hr, hf⟩ ht hg (fun w' k' => ⟨rfl, k'⟩) (n + 1) 0 w1 rfl (by omega) k1 ?_⟩
  have e : x3to a b c n 0 = List.replicate n 0 := by simp [x3to, x3]
  rw [e]
  exact hb1
end Go.Proofs.YtklieghmbhofnaaDoor
