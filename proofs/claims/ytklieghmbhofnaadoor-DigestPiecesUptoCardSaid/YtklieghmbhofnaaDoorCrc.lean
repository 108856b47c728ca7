/-
  The check sum: bit by bit and by four bits at a time: the plain law, and what both sides' functions compute.
-/
import Derived.Test.YtklieghmbhofnaaDoorD1
import Derived.Test.YtklieghmbhofnaaDoorSl
namespace Go.Proofs.YtklieghmbhofnaaDoor
open Go Go.Ev Go.RowKit
set_option maxRecDepth 100000
theorem i64min : IntKind.i64.min = -9223372036854775808 := by decide
theorem i64max : IntKind.i64.max = 9223372036854775807 := by decide
def poly : BitVec 32 := 0x82f63b78
/-- One bit's step. -/
def st (r : BitVec 32) : BitVec 32 := (r >>> 1) ^^^ (if r.getLsbD 0 then poly else 0)
theorem st_xor (a b : BitVec 32) : st (a ^^^ b) = st a ^^^ st b := by
  unfold st
  rw [BitVec.ushiftRight_xor_distrib, BitVec.getLsbD_xor]
  apply BitVec.eq_of_getLsbD_eq
  intro i hi
  cases a.getLsbD 0 <;> cases b.getLsbD 0 <;> simp only [Bool.xor_false, Bool.xor_true, Bool.not_true, Bool.not_false, Bool.false_eq_true, if_true, if_false, BitVec.getLsbD_xor] <;> cases (a >>> 1).getLsbD i <;> cases (b >>> 1).getLsbD i <;> cases poly.getLsbD i <;> simp
def sN (n : Nat) (r : BitVec 32) : BitVec 32 := n.rec r fun _ x => st x
theorem sN_succ (n : Nat) (r : BitVec 32) : sN (n + 1) r = st (sN n r) := rfl
theorem sN_xor (n : Nat) (a b : BitVec 32) : sN n (a ^^^ b) = sN n a ^^^ sN n b := by
  induction n with
  | zero => rfl
  | succ n ih => rw [sN_succ, sN_succ, sN_succ, ih, st_xor]
theorem sN_add (m n : Nat) (r : BitVec 32) : sN (m + n) r = sN n (sN m r) := by
  induction n with
  | zero => rfl
  | succ n ih => rw [← Nat.add_assoc, sN_succ, sN_succ, ih]
/-- One byte's. -/
def byteSt (r : BitVec 32) (b : UInt8) : BitVec 32 := sN 8 (r ^^^ BitVec.ofNat 32 b.toNat)
def crc (r : BitVec 32) (l : List UInt8) : BitVec 32 := l.foldl byteSt r
def more (c : BitVec 32) (l : List UInt8) : BitVec 32 := ~~~ (crc (~~~ c) l)
theorem crc_take {c : BitVec 32} {l : List UInt8} {i : Nat} (h : i < l.length) : crc c (l.take (i + 1)) = byteSt (crc c (l.take i)) l[i] := by
  rw [List.take_add_one, List.getElem?_eq_getElem h]
  unfold crc
  rw [List.foldl_append]
  rfl
/-! ### by four bits -/
def halves : List (BitVec 32) := [0x00000000, 0x105ec76f, 0x20bd8ede, 0x30e349b1, 0x417b1dbc, 0x5125dad3, 0x61c69362, 0x7198540d, 0x82f63b78, 0x92a8fc17, 0xa24bb5a6, 0xb21572c9, 0xc38d26c4, 0xd3d3e1ab, 0xe330a81a, 0xf36e6f75]
theorem halves_ok : ((List.range 16).all fun n => sN 4 (BitVec.ofNat 32 n) == halves.getD n 0) = true := by decide +kernel
theorem sN_hi (x : BitVec 32) : ∀ n, (∀ j, j < n → x.getLsbD j = false) → sN n x = x >>> n := by
  intro n
  induction n with
  | zero => intro _; show x = x >>> 0; simp
  | succ n ih =>
    intro h
    rw [sN_succ, ih (fun j hj => h j (by omega))]
    unfold st
    have : (x >>> n).getLsbD 0 = false := by
      rw [BitVec.getLsbD_ushiftRight]
      simpa using h n (by omega)
    rw [this, BitVec.shiftRight_add]
    simp
theorem nib (x : BitVec 32) : sN 4 x = (x >>> 4) ^^^ halves.getD (x &&& 15#32).toNat 0 := by
  have hsplit : x = (x &&& ~~~ 15#32) ^^^ (x &&& 15#32) := by
    apply BitVec.eq_of_getLsbD_eq
    intro i hi
    simp only [BitVec.getLsbD_xor, BitVec.getLsbD_and, BitVec.getLsbD_not, hi]
    cases x.getLsbD i <;> cases (15#32 : BitVec 32).getLsbD i <;> simp
  have hlow : (x &&& 15#32).toNat < 16 := by
    rw [BitVec.toNat_and]
    exact Nat.lt_of_le_of_lt Nat.and_le_right (by decide)
  have h2 : sN 4 (x &&& 15#32) = halves.getD (x &&& 15#32).toNat 0 := by
    have := List.all_eq_true.1 halves_ok (x &&& 15#32).toNat (by simpa using hlow)
    rw [beq_iff_eq] at this
    rw [← this]
    congr 1
    apply BitVec.eq_of_toNat_eq
    rw [BitVec.toNat_ofNat]
    omega
  have hlb : ∀ i, (15#32 : BitVec 32).getLsbD i = decide (i < 4) := by
    intro i
    by_cases hi : i < 32
    · have := List.all_eq_true.1 (show ((List.range 32).all fun i => (15#32 : BitVec 32).getLsbD i == decide (i < 4)) = true by decide +kernel) i (by simpa using hi)
      simpa using this
    · rw [BitVec.getLsbD_of_ge _ _ (by omega)]
      simp
      omega
  have h1 : sN 4 (x &&& ~~~ 15#32) = x >>> 4 := by
    rw [sN_hi]
    · apply BitVec.eq_of_getLsbD_eq
      intro i hi
      simp only [BitVec.getLsbD_ushiftRight, BitVec.getLsbD_and, BitVec.getLsbD_not, hlb]
      by_cases h4 : 4 + i < 32
      · simp [h4]
      · rw [BitVec.getLsbD_of_ge x _ (by omega)]
        simp
    · intro j hj
      simp only [BitVec.getLsbD_and, BitVec.getLsbD_not, hlb]
      simp [hj]
  conv => lhs; rw [hsplit]
  rw [sN_xor, h1, h2]
theorem byte_nib (r : BitVec 32) (b : UInt8) : byteSt r b = sN 4 (sN 4 (r ^^^ BitVec.ofNat 32 b.toNat)) := sN_add 4 4 _
/-! ### bit by bit -/
def rbit (b : UInt8) (k : Nat) : Bool := (BitVec.ofNat 32 b.toNat).getLsbD k
def rst (b : UInt8) (r : BitVec 32) (k : Nat) : BitVec 32 := (r >>> 1) ^^^ (if (rbit b k ^^ r.getLsbD 0) then poly else 0)
def rstN (b : UInt8) (r : BitVec 32) (n : Nat) : BitVec 32 := n.rec r fun k x => rst b x k
theorem rst_eq (b : UInt8) (r : BitVec 32) : ∀ n, sN n (r ^^^ BitVec.ofNat 32 b.toNat) = rstN b r n ^^^ (BitVec.ofNat 32 b.toNat >>> n)
  | 0 => by rw [BitVec.ushiftRight_zero]; rfl
  | n + 1 => by
    rw [sN_succ, rst_eq b r n]
    show st _ = rst b (rstN b r n) n ^^^ _
    unfold st rst rbit
    rw [BitVec.ushiftRight_xor_distrib, BitVec.getLsbD_xor, BitVec.getLsbD_ushiftRight, ← BitVec.shiftRight_add, Bool.xor_comm]
    rw [BitVec.xor_assoc, BitVec.xor_assoc, BitVec.xor_comm (BitVec.ofNat 32 b.toNat >>> (n + 1)), show n + 0 = n from rfl]
theorem byte_bits (r : BitVec 32) (b : UInt8) : byteSt r b = rstN b r 8 := by
  unfold byteSt
  rw [rst_eq]
  have : (BitVec.ofNat 32 b.toNat) >>> 8 = 0#32 := by
    apply BitVec.eq_of_toNat_eq
    have := b.toNat_lt
    rw [BitVec.toNat_ushiftRight, BitVec.toNat_ofNat, Nat.shiftRight_eq_div_pow]
    simp
    omega
  rw [this, BitVec.xor_zero]
/-! ### what the functions compute -/
/-- The table lies where the row says. -/
def Tab (w : World) : Prop := HasL w 0 0 (halves.map uv)
theorem Tab.at {w : World} (h : Tab w) (x : BitVec 32) : w.cell? ((⟨0, 0, none⟩ : Addr).add ((x &&& 15#32).toNat * 1)) = some (uv (halves.getD (x &&& 15#32).toNat 0)) := by
  have hlow : (x &&& 15#32).toNat < 16 := by
    rw [BitVec.toNat_and]
    exact Nat.lt_of_le_of_lt Nat.and_le_right (by decide)
  rw [Nat.mul_one]
  refine h.cell ?_
  rw [List.getElem?_map, List.getElem?_eq_getElem (by simpa [halves] using hlow), List.getD_eq_getElem?_getD, List.getElem?_eq_getElem (by simpa [halves] using hlow)]
  rfl
theorem nib_step {K : KT} {w : World} {x : BitVec 32} (h : Tab w) (hk : K (uv (sN 4 x)) w) : optW (shO .shr (uv x) (.int .u64 4)) w fun v20 w =>
    optW (arO .and (uv x) (.int .u32 15)) w fun v22 w =>
    optW (ixA 16 1 (.pointer (some ⟨0, 0, none⟩)) v22) w fun v23 w =>
    optW (ld1 v23 w) w fun v24 w =>
    optW (arO .xor v20 v24) w fun v25 w => K v25 w := by
  refine s_shr32 (n := 4) (by omega) ?_
  rw [show Value.int .u32 15 = uv 15#32 from rfl]
  refine s_and32 ?_
  have hlow : (x &&& 15#32).toNat < 16 := by
    rw [BitVec.toNat_and]
    exact Nat.lt_of_le_of_lt Nat.and_le_right (by decide)
  refine s_ixA (by omega) (by show ((x &&& 15#32).toNat : Int) < _; omega) ?_
  refine s_ld (v := uv (halves.getD (x &&& 15#32).toNat 0)) (by simpa using h.at x) ?_
  refine s_xor32 ?_
  rw [nib] at hk
  exact hk
theorem more_loop (l : List UInt8) (v : Value) (K : KT) (w : World) (hv : SB w v l) (hl : l.length ≤ 9223372036854775807) (ht : Tab w) (c : BitVec 32) (hK : K (uv (~~~ crc c l)) w) :
    ∀ (k i : Nat), k + i = l.length + 1 → 1 ≤ k → digest_More.L3 K (digest_More.C2 K) k (uv (crc c (l.take i))) v (.int .i64 l.length) (.int .i64 i) w := by
  intro k
  induction k with
  | zero => intro i _ h; omega
  | succ k ih =>
    intro i hi _
    unfold digest_More.L3 digest_More.C3
    refine s_lss ?_
    refine s_cnd (fun hc => ?_) (fun hc => ?_)
    · have hi' : i < l.length := by omega
      refine hv.get (u := bv l[i]) (by omega) (by simp [hi']) ?_
      intro a ha
      refine s_opt ha ?_
      refine s_cv8_32 ?_
      refine s_xor32 ?_
      refine nib_step ht ?_
      refine nib_step ht ?_
      refine s_addi (by rw [i64min, i64max]; omega) ?_
      have e : sN 4 (sN 4 (crc c (l.take i) ^^^ BitVec.ofNat 32 l[i].toNat)) = crc c (l.take (i + 1)) := by
        rw [← byte_nib, crc_take hi']
      rw [e]
      exact ih (i + 1) (by omega) (by omega)
    · have e : i = l.length := by omega
      subst e
      unfold digest_More.C2
      refine s_not32 ?_
      rw [List.take_length]
      exact hK
theorem more_c (c : BitVec 32) (l : List UInt8) (v : Value) (w : World) (hv : SB w v l) (hl : l.length ≤ 9223372036854775807) (ht : Tab w) : CallsR Tryd.prog 13 #[uv c, v] w fun r w' => r = uv (more c l) ∧ w' = w := by
  apply digest_More.sound
  unfold digest_More.J digest_More.C1
  refine s_not32 ?_
  refine hv.len ?_
  rw [show (bvs l).length = l.length by simp]
  exact ⟨l.length + 1, more_loop l v _ w hv hl ht (~~~ c) ⟨rfl, rfl⟩ _ 0 rfl (by omega)⟩
theorem rbit_val (b : UInt8) (k : Nat) (hk : k ≤ 8) : (BitVec.ofNat 32 (b.toNat / 2 ^ k)) &&& 1#32 = if rbit b k then 1#32 else 0#32 := by
  apply BitVec.eq_of_toNat_eq
  have hb := b.toNat_lt
  have : b.toNat / 2 ^ k ≤ b.toNat := Nat.div_le_self _ _
  rw [BitVec.toNat_and, BitVec.toNat_ofNat, Nat.mod_eq_of_lt (by omega), show (1#32 : BitVec 32).toNat = 1 by rfl, Nat.and_one_is_mod]
  unfold rbit
  rw [BitVec.getLsbD_ofNat, Nat.testBit_eq_decide_div_mod_eq]
  have h2 : b.toNat / 2 ^ k % 2 < 2 := Nat.mod_lt _ (by omega)
  by_cases h : b.toNat / 2 ^ k % 2 = 1
  · simp [h, show k < 32 by omega]
  · have : b.toNat / 2 ^ k % 2 = 0 := by omega
    simp [this]
theorem and1_val (r : BitVec 32) : r &&& 1#32 = if r.getLsbD 0 then 1#32 else 0#32 := by
  apply BitVec.eq_of_getLsbD_eq
  intro i hi
  rw [BitVec.getLsbD_and]
  by_cases h : i = 0
  · subst h
    cases r.getLsbD 0 <;> simp
  · have : (1#32 : BitVec 32).getLsbD i = false := by simp [BitVec.getLsbD_one, h]
    rw [this]
    cases r.getLsbD 0 <;> simp [BitVec.getLsbD_one, h]
theorem rmore_inner (b : UInt8) (bv0 : Value) (l : List UInt8) (i : Nat) (hi : l[i]? = some b) (K : KT) (Q : V3) (w : World) (hv : SB w bv0 l) (r : BitVec 32) (hQ : Q bv0 (uv (rstN b r 8)) (.int .i64 i) w) :
    ∀ (k j : Nat), k + j = 9 → 1 ≤ k → witnessref1_More.L6 K Q k bv0 (uv (rstN b r j)) (.int .i64 i) (.int .i64 j) w := by
  intro k
  induction k with
  | zero => intro i _ h; omega
  | succ k ih =>
    intro j hj _
    unfold witnessref1_More.L6 witnessref1_More.C6
    refine s_lss ?_
    refine s_cnd (fun hc => ?_) (fun hc => ?_)
    · unfold witnessref1_More.C8 witnessref1_More.C7
      refine hv.get (u := bv b) (by omega) (by simp [hi]) ?_
      intro a ha
      refine s_opt ha ?_
      refine s_shr (by omega) ?_
      have e1 : (b.toNat : Int).fdiv (2 ^ min (j : Int).toNat IntKind.u8.bits) = ((UInt8.ofNat (b.toNat / 2 ^ j)).toNat : Int) := by
        rw [Int.fdiv_eq_ediv_of_nonneg _ (by exact Int.pow_nonneg (by omega)), show min ((j : Int)).toNat IntKind.u8.bits = j by simp [show IntKind.u8.bits = 8 by rfl]; omega]
        have hb := b.toNat_lt
        have : b.toNat / 2 ^ j ≤ b.toNat := Nat.div_le_self _ _
        rw [UInt8.toNat_ofNat_of_lt' (by show _ < 256; omega)]
        simp
      rw [e1]
      refine s_cv8_32 ?_
      rw [show Value.int .u32 1 = uv 1#32 from rfl]
      refine s_and32 ?_
      refine s_and32 ?_
      refine s_xor32 ?_
      refine s_shr32 (n := 1) (by omega) ?_
      refine s_eql32 ?_
      have hb := b.toNat_lt
      have e2 : (UInt8.ofNat (b.toNat / 2 ^ j)).toNat = b.toNat / 2 ^ j := by
        have : b.toNat / 2 ^ j ≤ b.toNat := Nat.div_le_self _ _
        rw [UInt8.toNat_ofNat_of_lt' (by show _ < 256; omega)]
      rw [e2, rbit_val b j (by omega), and1_val]
      have e3 : rstN b r (j + 1) = rst b (rstN b r j) j := rfl
      have next := ih (j + 1) (by omega) (by omega)
      rw [e3] at next
      unfold rst at next
      cases h1 : rbit b j <;> cases h2 : (rstN b r j).getLsbD 0 <;> rw [h1, h2] at next <;> simp only [Bool.false_eq_true, if_true, if_false, Bool.xor_false, Bool.xor_true, Bool.not_true, Bool.not_false, BitVec.xor_zero, BitVec.zero_xor, BitVec.xor_self] at next ⊢
      · refine s_cndF (by decide) ?_
        refine s_addi (by rw [i64min, i64max]; omega) ?_
        simpa using next
      · refine s_cndT trivial ?_
        rw [show Value.int .u32 2197175160 = uv poly from rfl]
        refine s_xor32 ?_
        refine s_addi (by rw [i64min, i64max]; omega) ?_
        exact next
      · refine s_cndT trivial ?_
        rw [show Value.int .u32 2197175160 = uv poly from rfl]
        refine s_xor32 ?_
        refine s_addi (by rw [i64min, i64max]; omega) ?_
        exact next
      · refine s_cndF (by decide) ?_
        refine s_addi (by rw [i64min, i64max]; omega) ?_
        simpa using next
    · have e : j = 8 := by omega
      subst e
      exact hQ
theorem rmore_loop (l : List UInt8) (v : Value) (K : KT) (w : World) (hv : SB w v l) (hl : l.length ≤ 9223372036854775807) (c : BitVec 32) (hK : K (uv (~~~ crc c l)) w) :
    ∀ (k i : Nat), k + i = l.length + 1 → 1 ≤ k → witnessref1_More.L3 K (witnessref1_More.C2 K) k v (uv (crc c (l.take i))) (.int .i64 i) w := by
  intro k
  induction k with
  | zero => intro i _ h; omega
  | succ k ih =>
    intro i hi _
    unfold witnessref1_More.L3 witnessref1_More.C3
    refine hv.len ?_
    rw [show (bvs l).length = l.length by simp]
    refine s_lss ?_
    refine s_cnd (fun hc => ?_) (fun hc => ?_)
    · have hi' : i < l.length := by omega
      unfold witnessref1_More.C5
      refine ⟨9, rmore_inner l[i] v l i (by simp [hi']) K _ w hv _ ?_ 9 0 rfl (by omega)⟩
      unfold witnessref1_More.C4
      refine s_addi (by rw [i64min, i64max]; omega) ?_
      have e : rstN l[i] (crc c (l.take i)) 8 = crc c (l.take (i + 1)) := by
        rw [← byte_bits, crc_take hi']
      have := ih (i + 1) (by omega) (by omega)
      rw [← e] at this
      exact this
    · have e : i = l.length := by omega
      subst e
      unfold witnessref1_More.C2
      refine s_not32 ?_
      rw [List.take_length]
      exact hK
theorem rmore_c (c : BitVec 32) (l : List UInt8) (v : Value) (w : World) (hv : SB w v l) (hl : l.length ≤ 9223372036854775807) : CallsR Tryd.prog 14 #[uv c, v] w fun r w' => r = uv (more c l) ∧ w' = w := by
  apply witnessref1_More.sound
  unfold witnessref1_More.J witnessref1_More.C1
  refine s_not32 ?_
  exact ⟨l.length + 1, rmore_loop l v _ w hv hl (~~~ c) ⟨rfl, rfl⟩ _ 0 rfl (by omega)⟩
end Go.Proofs.YtklieghmbhofnaaDoor
