/-
  Numbers by seven bits a byte, texts: the writer's and the document's.
-/
import Derived.Test.YtmljgkjcoemadaaHigh
namespace Go.Proofs.Ytmljgkjcoemadaa
open Go Go.Ev Go.RowKit
set_option maxRecDepth 100000
/-- A number's bytes. -/
def num (n : Nat) : List UInt8 := if n < 128 then [UInt8.ofNat n] else UInt8.ofNat (n % 128 + 128) :: num (n / 128)
termination_by n
decreasing_by omega
theorem num_lo {n : Nat} (h : n < 128) : num n = [UInt8.ofNat n] := by rw [num, if_pos h]
theorem num_hi {n : Nat} (h : 128 ≤ n) : num n = UInt8.ofNat (n % 128 + 128) :: num (n / 128) := by rw [num, if_neg (by omega)]
theorem num_len : ∀ (k n : Nat), n < 128 ^ (k + 1) → (num n).length ≤ k + 1
  | 0, n, h => by rw [num_lo (by simpa using h)]; simp
  | k + 1, n, h => by
    by_cases h1 : n < 128
    · rw [num_lo h1]; simp
    · rw [num_hi (by omega), List.length_cons]
      have : n / 128 < 128 ^ (k + 1) := by
        rw [Nat.pow_succ] at h
        exact Nat.div_lt_of_lt_mul (by omega)
      have := num_len k (n / 128) this
      omega
theorem p128 : 18446744073709551616 ≤ 128 ^ (9 + 1) := by decide
theorem num_len10 {n : Nat} (h : n < 18446744073709551616) : (num n).length ≤ 10 := num_len 9 n (Nat.lt_of_lt_of_le h p128)
def text (t : List UInt8) : List UInt8 := num t.length ++ t
theorem text_len {t : List UInt8} (h : t.length < 18446744073709551616) : (text t).length ≤ t.length + 10 := by
  have := num_len10 h
  unfold text
  rw [List.length_append]
  omega
theorem own_of_blk {w : World} {B b n : Nat} {l : List UInt8} (h : Blk w b (bvs l) 5) (hn : l.length = n) (hB : B ≤ b) (hm : n ≤ 1099511627776) : w.ownsRow B 5 1 (.slice (some ⟨b, 0, none⟩) n n) n (bvs l) := by
  subst hn
  refine ⟨by simp, .inr ⟨b, l.length, (bvs l).toArray, rfl, hB, h, Nat.le_refl _, by unfold maxLen; omega, by simp, ?_⟩⟩
  rw [List.take_of_length_le (by simp)]
theorem or128 (n : Nat) : IntKind.u8.wrap (BitVec.ofInt IntKind.u8.bits (IntKind.u8.wrap (n : Int)) ||| BitVec.ofInt IntKind.u8.bits 128).toNat = ((UInt8.ofNat (n % 128 + 128)).toNat : Int) := by
  have h1 : IntKind.u8.wrap (n : Int) = ((n % 256 : Nat) : Int) := by simp [IntKind.wrap, IntKind.bits, IntKind.signed]
  rw [h1]
  have h2 : ∀ x, x < 256 → IntKind.u8.wrap (BitVec.ofInt IntKind.u8.bits ((x : Nat) : Int) ||| BitVec.ofInt IntKind.u8.bits 128).toNat = ((x % 128 + 128 : Nat) : Int) := by
    intro x hx
    have := List.all_eq_true.1 (show ((List.range 256).all fun x => IntKind.u8.wrap (BitVec.ofInt IntKind.u8.bits ((x : Nat) : Int) ||| BitVec.ofInt IntKind.u8.bits 128).toNat == ((x % 128 + 128 : Nat) : Int)) = true by decide +kernel) x (by simpa using hx)
    simpa using this
  rw [h2 (n % 256) (by omega)]
  have h3 : (UInt8.ofNat (n % 128 + 128)).toNat = (n % 128 + 128) % 256 := by simp
  rw [h3]
  omega
theorem u8_cv (n : Nat) : Value.int .u8 (IntKind.u8.wrap (n : Int)) = bv (UInt8.ofNat n) := by
  have : IntKind.u8.wrap (n : Int) = ((UInt8.ofNat n).toNat : Int) := by simp [IntKind.wrap, IntKind.bits, IntKind.signed]
  unfold bv
  rw [this]
theorem wuint_c {B b o : Nat} {e : TypeId} : ∀ (n : Nat) {w : World} {cs : List Value} {v : Value} {l : List UInt8}, WS w B b o e cs v l → n < 18446744073709551616 → l.length + 10 ≤ 1099511627776 →
    CallsR Try.prog 15 #[.pointer (some ⟨b, o, none⟩), .int .u64 (n : Int)] w fun q w' => q = .tuple #[] ∧ ∃ v', WS w' B b o e (cs.set o v') v' (l ++ num n) ∧ WT w w' b v v' := by
  have loop : ∀ (k n : Nat) {w0 w : World} {v0 : Value} {cs : List Value} {v : Value} {l l0 : List UInt8} {K : KT} {kn : V0}, n < 128 ^ (k + 1) → n < 18446744073709551616 → WS w B b o e cs v l → WT w0 w b v0 v → l.length + (num n).length ≤ 1099511627776 →
      (∀ v' w', WS w' B b o e (cs.set o v') v' (l ++ num n) → WT w0 w' b v0 v' → kn w') → codec_Writer_Uint.L3 K (codec_Writer_Uint.C2 K kn) (k + 1) (.pointer (some ⟨b, o, none⟩)) (.int .u64 (n : Int)) w := by
    intro k
    induction k with
    | zero =>
      intro n w0 w v0 cs v l l0 K kn hk hn h t hl hK
      have h128 : n < 128 := by simpa using hk
      rw [num_lo h128] at hl hK
      unfold codec_Writer_Uint.L3 codec_Writer_Uint.C3
      refine s_geq ?_
      refine s_cndF (by omega) ?_
      unfold codec_Writer_Uint.C2
      refine s_cv ?_
      rw [u8_cv]
      refine (wbyte_c h (by simp at hl; omega) _).mono ?_
      rintro r w1 ⟨rfl, v1, h1, t1⟩
      exact hK v1 w1 h1 (t.tr t1)
    | succ k ih =>
      intro n w0 w v0 cs v l l0 K kn hk hn h t hl hK
      unfold codec_Writer_Uint.L3 codec_Writer_Uint.C3
      refine s_geq ?_
      refine s_cnd (fun hc => ?_) (fun hc => ?_)
      · rw [num_hi (by omega)] at hl hK
        refine s_cv ?_
        refine s_or ?_
        rw [or128]
        refine (wbyte_c h (by simp at hl; omega) _).mono ?_
        rintro r w1 ⟨rfl, v1, h1, t1⟩
        refine s_shr (by omega) ?_
        have e1 : (n : Int).fdiv (2 ^ min (7 : Int).toNat IntKind.u64.bits) = ((n / 128 : Nat) : Int) := by
          rw [show (2 : Int) ^ min (7 : Int).toNat IntKind.u64.bits = 128 by decide, Int.fdiv_eq_ediv_of_nonneg _ (by omega)]
          rfl
        rw [e1]
        have hk' : n / 128 < 128 ^ (k + 1) := by
          rw [Nat.pow_succ] at hk
          exact Nat.div_lt_of_lt_mul (by omega)
        refine ih (n / 128) (l0 := l) hk' (by omega) h1 (t.tr t1) (by simp at hl ⊢; omega) ?_
        intro v' w' h' t'
        refine hK v' w' ?_ t'
        simpa using h'
      · rw [num_lo (by omega)] at hl hK
        unfold codec_Writer_Uint.C2
        refine s_cv ?_
        rw [u8_cv]
        refine (wbyte_c h (by simp at hl; omega) _).mono ?_
        rintro r w1 ⟨rfl, v1, h1, t1⟩
        exact hK v1 w1 h1 (t.tr t1)
  intro n w cs v l h hn hl
  apply codec_Writer_Uint.sound
  unfold codec_Writer_Uint.J codec_Writer_Uint.C1
  have := num_len10 hn
  refine ⟨9 + 1, loop 9 n (l0 := l) (Nat.lt_of_lt_of_le hn p128) hn h (WT.refl _ _ _) (by omega) ?_⟩
  intro v' w' h' t'
  exact ⟨rfl, v', h', t'⟩
theorem wtext_c {B b o : Nat} {e : TypeId} {w : World} {cs : List Value} {v x : Value} {l t : List UInt8} (h : WS w B b o e cs v l) (hx : SB w x t) (hxn : ∀ y ∈ blkOf x, y ≠ b ∧ y ∉ blkOf v) (hl : l.length + t.length + 10 ≤ 1099511627776) :
    CallsR Try.prog 17 #[.pointer (some ⟨b, o, none⟩), x] w fun q w' => q = .tuple #[] ∧ ∃ v', WS w' B b o e (cs.set o v') v' (l ++ text t) ∧ WT w w' b v v' := by
  apply codec_Writer_Text.sound
  unfold codec_Writer_Text.J codec_Writer_Text.C1
  refine SB.len hx ?_
  refine s_cvi (by rw [u64min, u64max]; omega) ?_
  refine (wuint_c t.length h (by omega) (by omega)).mono ?_
  rintro r w1 ⟨rfl, v1, h1, t1⟩
  have hx1 : SB w1 x t := Sl.kp hx t1.kp (fun y hy hys => by
    rcases List.mem_cons.1 hys with e | hys
    · exact (hxn y hy).1 e
    · exact (hxn y hy).2 hys)
  have := num_len10 (n := t.length) (by omega)
  refine (wraw_c h1 hx1 (Keep.refl _ _) (by rw [List.length_append]; omega)).mono ?_
  rintro r w2 ⟨rfl, v2, h2, t2⟩
  refine ⟨rfl, v2, ?_, t1.tr t2⟩
  unfold text
  simpa using h2
/-! ### the document's -/
theorem rnum_c : ∀ (k n : Nat) (w : World), n < 128 ^ (k + 1) → n < 18446744073709551616 → CallsR Try.prog 21 #[.int .u64 (n : Int)] w fun r w' => w'.ownsRow w.heap.size 5 1 r (num n).length (bvs (num n)) ∧ Keep [] w w' := by
  intro k
  have lo : ∀ (n : Nat) (w : World), n < 128 → CallsR Try.prog 21 #[.int .u64 (n : Int)] w fun r w' => w'.ownsRow w.heap.size 5 1 r (num n).length (bvs (num n)) ∧ Keep [] w w' := by
    intro n w h
    apply witnessref2_Num.sound
    unfold witnessref2_Num.J witnessref2_Num.C1
    refine s_lss ?_
    refine s_cndT (by omega) ?_
    refine s_cv ?_
    rw [u8_cv]
    refine s_lit1 eU8 rfl ?_
    intro w1 k1 ho
    rw [num_lo h]
    exact ⟨ho, k1⟩
  induction k with
  | zero =>
    intro n w hk _
    exact lo n w (by simpa using hk)
  | succ k ih =>
    intro n w hk hn
    by_cases h128 : n < 128
    · exact lo n w h128
    apply witnessref2_Num.sound
    unfold witnessref2_Num.J witnessref2_Num.C1
    refine s_lss ?_
    refine s_cndF (by omega) ?_
    refine s_remi (by omega) (by omega) ?_
    refine s_addi (by rw [u64min, u64max]; omega) ?_
    refine s_cv ?_
    rw [show (n : Int) % 128 + 128 = ((n % 128 + 128 : Nat) : Int) by omega, u8_cv]
    refine s_lit1 eU8 rfl ?_
    intro w1 k1 ho1
    refine s_quoi (by omega) (by omega) (by rw [u64max]; omega) ?_
    rw [show (n : Int) / 128 = ((n / 128 : Nat) : Int) by omega]
    have hk' : n / 128 < 128 ^ (k + 1) := by
      rw [Nat.pow_succ] at hk
      exact Nat.div_lt_of_lt_mul (by omega)
    have := num_len10 (n := n / 128) (by omega)
    refine (ih (n / 128) w1 hk' (by omega)).mono ?_
    rintro r w2 ⟨ho2, k2⟩
    refine s_appB (l := [UInt8.ofNat (n % 128 + 128)]) (owns_kp ho1 k2 (by simp)) (owns_Sl ho2) (Keep.refl _ _) (by simp; omega) (k1.tr k2).size ?_
    intro v w3 ho3 k3 _
    rw [num_hi (by omega)]
    exact ⟨ho3, keepNew (k1.tr k2) k3 (fun b hb => (owns_lt (owns_kp ho1 k2 (by simp)) b hb).1)⟩
theorem rnum_k (n : Nat) (w : World) (hn : n < 18446744073709551616) : CallsR Try.prog 21 #[.int .u64 (n : Int)] w fun r w' => w'.ownsRow w.heap.size 5 1 r (num n).length (bvs (num n)) ∧ Keep [] w w' :=
  rnum_c 9 n w (Nat.lt_of_lt_of_le hn p128) hn
theorem rtext_c (t : List UInt8) (x : Value) (w : World) (hx : SB w x t) (hl : t.length ≤ 1099511627776) : CallsR Try.prog 22 #[x] w fun r w' => w'.ownsRow w.heap.size 5 1 r (text t).length (bvs (text t)) ∧ Keep [] w w' := by
  apply witnessref2_Text.sound
  unfold witnessref2_Text.J witnessref2_Text.C1
  refine SB.len hx ?_
  refine s_cvi (by rw [u64min, u64max]; omega) ?_
  refine (rnum_k t.length w (by omega)).mono ?_
  rintro r w1 ⟨ho1, k1⟩
  have := num_len10 (n := t.length) (by omega)
  refine s_appB ho1 hx k1 (by omega) k1.size ?_
  intro v w2 ho2 k2 _
  exact ⟨ho2, keepNew k1 k2 (fun b hb => (owns_lt ho1 b hb).1)⟩
end Go.Proofs.Ytmljgkjcoemadaa
