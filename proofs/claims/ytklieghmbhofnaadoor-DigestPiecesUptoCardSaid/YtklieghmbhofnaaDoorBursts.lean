/-
  A burst is always told: within 32 bits side by side the check sum is another one just if something is changed.
-/
import Derived.Test.YtklieghmbhofnaaDoorLinear
namespace Go.Proofs.YtklieghmbhofnaaDoor
open Go Go.Ev Go.RowKit
set_option maxRecDepth 100000
/-! ### one bit at a time -/
def bst (r : BitVec 32) (c : Bool) : BitVec 32 := (r >>> 1) ^^^ (if (c ^^ r.getLsbD 0) then poly else 0)
def zs (b : Nat → Bool) (n : Nat) (r : BitVec 32) : BitVec 32 := n.rec r fun k x => bst x (b k)
theorem zs_succ (b : Nat → Bool) (n : Nat) (r : BitVec 32) : zs b (n + 1) r = bst (zs b n r) (b n) := rfl
theorem zs_add (b : Nat → Bool) (m : Nat) (r : BitVec 32) : ∀ n, zs b (m + n) r = zs (fun k => b (m + k)) n (zs b m r)
  | 0 => rfl
  | n + 1 => by rw [← Nat.add_assoc, zs_succ, zs_add b m r n, zs_succ]
theorem zs_congr {b c : Nat → Bool} {r : BitVec 32} : ∀ n, (∀ k, k < n → b k = c k) → zs b n r = zs c n r
  | 0, _ => rfl
  | n + 1, h => by rw [zs_succ, zs_succ, zs_congr n (fun k hk => h k (by omega)), h n (by omega)]
theorem bst_false (r : BitVec 32) : bst r false = st r := by
  unfold bst st
  rw [Bool.false_xor]
theorem zs_false {b : Nat → Bool} {r : BitVec 32} : ∀ n, (∀ k, k < n → b k = false) → zs b n r = sN n r
  | 0, _ => rfl
  | n + 1, h => by rw [zs_succ, zs_false n (fun k hk => h k (by omega)), h n (by omega), bst_false, sN_succ]
theorem st_zero : st 0 = 0 := by decide +kernel
theorem sN_zero : ∀ n, sN n 0 = 0
  | 0 => rfl
  | n + 1 => by rw [sN_succ, sN_zero n, st_zero]
theorem zs_word (r W : BitVec 32) : ∀ n, sN n (r ^^^ W) = zs (fun k => W.getLsbD k) n r ^^^ (W >>> n)
  | 0 => by rw [BitVec.ushiftRight_zero]; rfl
  | n + 1 => by
    rw [sN_succ, zs_word r W n]
    show st _ = bst (zs (fun k => W.getLsbD k) n r) (W.getLsbD n) ^^^ _
    unfold st bst
    rw [BitVec.ushiftRight_xor_distrib, BitVec.getLsbD_xor, BitVec.getLsbD_ushiftRight, ← BitVec.shiftRight_add, Bool.xor_comm]
    rw [BitVec.xor_assoc, BitVec.xor_assoc, BitVec.xor_comm (W >>> (n + 1)), show n + 0 = n from rfl]
theorem st_inj {r : BitVec 32} (h : st r = 0) : r = 0 := by
  have h0 : r.getLsbD 0 = false := by
    cases hr : r.getLsbD 0 with
    | false => rfl
    | true =>
      have := congrArg (fun x => x.getLsbD 31) h
      simp only [st, hr, if_true, BitVec.getLsbD_xor, BitVec.getLsbD_ushiftRight] at this
      rw [BitVec.getLsbD_of_ge r (1 + 31) (by omega), show poly.getLsbD 31 = true by decide +kernel] at this
      simp at this
  unfold st at h
  rw [h0] at h
  simp only [Bool.false_eq_true, if_false, BitVec.xor_zero] at h
  apply BitVec.eq_of_getLsbD_eq
  intro i hi
  cases i with
  | zero => rw [h0]; simp
  | succ i =>
    have := congrArg (fun x => x.getLsbD i) h
    simpa [BitVec.getLsbD_xor, BitVec.getLsbD_ushiftRight, Nat.add_comm] using this
theorem sN_inj {r : BitVec 32} : ∀ n, sN n r = 0 → r = 0
  | 0, h => h
  | n + 1, h => sN_inj n (st_inj h)
/-- Bit 'p' of a text, in the order in which they are taken. -/
def tb (l : List UInt8) (p : Nat) : Bool := (l.getD (p / 8) 0).toNat.testBit (p % 8)
theorem rst_bst (b : UInt8) (r : BitVec 32) (k : Nat) : rst b r k = bst r (rbit b k) := rfl
theorem rbit_tb {l : List UInt8} {j k : Nat} (hk : k < 8) : rbit (l.getD j 0) k = tb l (8 * j + k) := by
  unfold rbit tb
  rw [show (8 * j + k) / 8 = j by omega, show (8 * j + k) % 8 = k by omega, BitVec.getLsbD_ofNat]
  have : k < 32 := by omega
  simp [this]
theorem rstN_zs {l : List UInt8} {j : Nat} (r : BitVec 32) : ∀ n, n ≤ 8 → rstN (l.getD j 0) r n = zs (fun k => tb l (8 * j + k)) n r
  | 0, _ => rfl
  | n + 1, h => by
    show rst _ (rstN (l.getD j 0) r n) n = bst (zs (fun k => tb l (8 * j + k)) n r) (tb l (8 * j + n))
    rw [rst_bst, rstN_zs r n (by omega), rbit_tb (by omega)]
theorem crc_zs (l : List UInt8) (r : BitVec 32) : ∀ j, j ≤ l.length → crc r (l.take j) = zs (tb l) (8 * j) r
  | 0, _ => rfl
  | j + 1, h => by
    rw [crc_take (by omega), crc_zs l r j (by omega), byte_bits, show 8 * (j + 1) = 8 * j + 8 by omega, zs_add]
    have e : l[j] = l.getD j 0 := by rw [List.getD_eq_getElem?_getD, List.getElem?_eq_getElem (by omega)]; rfl
    rw [e, rstN_zs _ 8 (Nat.le_refl _)]
/-- A text all zeros but for a window of 'm' bits, which are those of 'W'. -/
theorem window (b : Nat → Bool) (a m n : Nat) (W : BitVec 32) (h : a + m ≤ n) (hm : m ≤ 32) (hW : ∀ k, W.getLsbD k = (decide (k < m) && W.getLsbD k)) (hb : ∀ p, p < n → b p = (decide (a ≤ p) && (decide (p < a + m) && W.getLsbD (p - a)))) : zs b n 0 = sN (n - a) W := by
  have e : n = a + (m + (n - a - m)) := by omega
  rw [e, zs_add, zs_add]
  rw [zs_false (b := b) a (fun k hk => by rw [hb k (by omega)]; simp; omega), sN_zero]
  have h1 : zs (fun k => b (a + k)) m 0 = sN m W := by
    rw [zs_congr (c := fun k => W.getLsbD k) m (fun k hk => by rw [hb (a + k) (by omega), show a + k - a = k by omega]; simp [hk])]
    have := zs_word 0 W m
    have h0 : (0 : BitVec 32) ^^^ W = W := by simp
    rw [h0] at this
    rw [this]
    have hz : W >>> m = 0 := by
      apply BitVec.eq_of_getLsbD_eq
      intro i hi
      rw [BitVec.getLsbD_ushiftRight, hW]
      simp
      intros
      omega
    rw [hz]
    simp
  rw [h1, zs_false (b := fun k => b (a + (m + k))) (n - a - m) (fun k hk => by rw [hb _ (by omega)]; simp; omega), ← sN_add]
  congr 1
  omega
/-! ### the bits that are turned -/
def oth (text : List UInt8) (a : Nat) (bits : BitVec 32) (i : Nat) : List UInt8 := i.rec text fun i l => if bits.getLsbD i then l.set ((a + i) / 8) (l.getD ((a + i) / 8) 0 ^^^ UInt8.ofNat (2 ^ ((a + i) % 8))) else l
theorem oth_succ (text : List UInt8) (a : Nat) (bits : BitVec 32) (i : Nat) : oth text a bits (i + 1) = if bits.getLsbD i then (oth text a bits i).set ((a + i) / 8) ((oth text a bits i).getD ((a + i) / 8) 0 ^^^ UInt8.ofNat (2 ^ ((a + i) % 8))) else oth text a bits i := rfl
theorem oth_len (text : List UInt8) (a : Nat) (bits : BitVec 32) : ∀ i, (oth text a bits i).length = text.length
  | 0 => rfl
  | i + 1 => by
    rw [oth_succ]
    split
    · rw [List.length_set, oth_len text a bits i]
    · exact oth_len text a bits i
theorem bit_set {x : UInt8} {s k : Nat} (hs : s < 8) (_ : k < 8) : (x ^^^ UInt8.ofNat (2 ^ s)).toNat.testBit k = (x.toNat.testBit k ^^ decide (s = k)) := by
  have h2 : 2 ^ s < 256 := by
    have : 2 ^ s < 2 ^ 8 := Nat.pow_lt_pow_right (by omega) hs
    omega
  have e : (UInt8.ofNat (2 ^ s)).toNat = 2 ^ s := by simp; omega
  rw [UInt8.toNat_xor, Nat.testBit_xor, e, Nat.testBit_two_pow]
theorem oth_bit (text : List UInt8) (a : Nat) (bits : BitVec 32) : ∀ i, a + i ≤ 8 * text.length → ∀ p, p < 8 * text.length → tb (oth text a bits i) p = (tb text p ^^ (decide (a ≤ p) && (decide (p < a + i) && bits.getLsbD (p - a))))
  | 0, _, p, _ => by
    have : (decide (a ≤ p) && (decide (p < a + 0) && bits.getLsbD (p - a))) = false := by
      by_cases h : a ≤ p
      · simp
        intros
        omega
      · simp [h]
    rw [this, Bool.xor_false]
    rfl
  | i + 1, h, p, hp => by
    have ih := oth_bit text a bits i (by omega) p hp
    rw [oth_succ]
    have hl := oth_len text a bits i
    by_cases hb : bits.getLsbD i = true
    · rw [if_pos hb]
      by_cases hq : p / 8 = (a + i) / 8
      · unfold tb at ih ⊢
        rw [hq] at ih ⊢
        rw [List.getD_eq_getElem?_getD, List.getElem?_set_self (by omega), Option.getD_some, bit_set (by omega) (by omega), ih, Bool.xor_assoc]
        congr 1
        by_cases hp2 : p = a + i
        · subst hp2
          simp [hb]
        · have h1 : ¬ (a + i) % 8 = p % 8 := by omega
          have h2 : (p < a + (i + 1)) = (p < a + i) := by simp; omega
          simp [h1, h2]
      · unfold tb at ih ⊢
        rw [List.getD_eq_getElem?_getD, List.getElem?_set_ne (by omega), ← List.getD_eq_getElem?_getD, ih]
        have h2 : (p < a + (i + 1)) = (p < a + i) := by simp; omega
        simp [h2]
    · rw [if_neg hb, ih]
      congr 1
      by_cases hp2 : p = a + i
      · subst hp2
        simp at hb
        simp [hb]
      · have h2 : (p < a + (i + 1)) = (p < a + i) := by simp; omega
        simp [h2]
/-- Is any of the first 'i' bits set? -/
def chg (bits : BitVec 32) (i : Nat) : Bool := (List.range i).any fun j => bits.getLsbD j
theorem chg_succ (bits : BitVec 32) (i : Nat) : chg bits (i + 1) = (chg bits i || bits.getLsbD i) := by
  unfold chg
  rw [List.range_succ, List.any_append]
  simp
theorem tb_zip (l m : List UInt8) (h : l.length = m.length) (p : Nat) (hp : p < 8 * l.length) : tb (List.zipWith (· ^^^ ·) l m) p = (tb l p ^^ tb m p) := by
  unfold tb
  have h1 : p / 8 < l.length := by omega
  have e : (List.zipWith (· ^^^ ·) l m).getD (p / 8) 0 = l.getD (p / 8) 0 ^^^ m.getD (p / 8) 0 := by
    simp only [List.getD_eq_getElem?_getD, List.getElem?_zipWith, List.getElem?_eq_getElem h1, List.getElem?_eq_getElem (show p / 8 < m.length by omega)]
    rfl
  rw [e, UInt8.toNat_xor, Nat.testBit_xor]
theorem burst_law (text : List UInt8) (a : Nat) (bits : BitVec 32) (m : Nat) (hm : m ≤ 32) (h : a + m ≤ 8 * text.length) : (decide (more 0 text ≠ more 0 (oth text a bits m)) == chg bits m) = true := by
  have hl := oth_len text a bits m
  let W : BitVec 32 := (bits.setWidth m).setWidth 32
  have hWb : ∀ k, W.getLsbD k = (decide (k < m) && bits.getLsbD k) := by
    intro k
    simp only [W, BitVec.getLsbD_setWidth]
    by_cases hk : k < m
    · have : k < 32 := by omega
      simp [hk, this]
    · simp [hk]
  have key : crc (~~~ 0) text ^^^ crc (~~~ 0) (oth text a bits m) = sN (8 * text.length - a) W := by
    rw [← crc_xor _ _ _ _ hl.symm, BitVec.xor_self]
    have hz := crc_zs (List.zipWith (· ^^^ ·) text (oth text a bits m)) 0 text.length (by simp; omega)
    rw [List.take_of_length_le (by simp; omega)] at hz
    have e0 : (0#32 : BitVec 32) = 0 := rfl
    rw [e0, hz]
    refine window _ a m (8 * text.length) W h hm (fun k => by rw [hWb]; by_cases hk : k < m <;> simp [hk]) (fun p hp => ?_)
    rw [tb_zip _ _ hl.symm p hp, oth_bit text a bits m h p hp, ← Bool.xor_assoc, Bool.xor_self, Bool.false_xor]
    by_cases h1 : a ≤ p
    · by_cases h2 : p < a + m
      · have : p - a < m := by omega
        simp [h1, h2, hWb, this]
      · simp [h2]
    · simp [h1]
  have iff1 : more 0 text = more 0 (oth text a bits m) ↔ W = 0 := by
    constructor
    · intro he
      unfold more at he
      have he2 : crc (~~~ 0) text = crc (~~~ 0) (oth text a bits m) := by
        have := congrArg (fun x => ~~~ x) he
        simpa using this
      rw [he2, BitVec.xor_self] at key
      exact sN_inj _ key.symm
    · intro hw
      rw [hw, sN_zero] at key
      have : crc (~~~ 0) text = crc (~~~ 0) (oth text a bits m) := by
        apply BitVec.eq_of_getLsbD_eq
        intro i hi
        have := congrArg (fun x => x.getLsbD i) key
        simp only [BitVec.getLsbD_xor] at this
        revert this
        cases (crc (~~~ 0) text).getLsbD i <;> cases (crc (~~~ 0) (oth text a bits m)).getLsbD i <;> simp
      unfold more
      rw [this]
  have iff2 : chg bits m = true ↔ W ≠ 0 := by
    unfold chg
    rw [List.any_eq_true]
    constructor
    · rintro ⟨j, hj, hb⟩ hw
      have := hWb j
      rw [hw, hb] at this
      simp at hj
      simp [hj] at this
    · intro hw
      apply Classical.byContradiction
      intro hn
      apply hw
      apply BitVec.eq_of_getLsbD_eq
      intro i hi
      rw [hWb]
      by_cases him : i < m
      · cases hb : bits.getLsbD i with
        | false => simp
        | true => exact absurd ⟨i, by simpa using him, hb⟩ hn
      · simp [him]
  rw [beq_iff_eq, Bool.eq_iff_iff, decide_eq_true_eq, iff2]
  exact not_congr iff1
/-! ### the law -/
theorem owns_blk {w : World} {base n : Nat} {e : TypeId} {v : Value} {xs : List Value} (h : w.ownsRow base e 1 v n xs) (hn : xs ≠ []) : ∃ g cap rest, v = .slice (some ⟨g, 0, none⟩) n cap ∧ n ≤ cap ∧ base ≤ g ∧ Blk w g (xs ++ rest) e := by
  have hl := h.1
  rcases h.2 with ⟨rfl, rfl⟩ | ⟨g, cap, cur, rfl, hb, hg, h1, h2, h3, h4⟩
  · exact absurd (List.eq_nil_of_length_eq_zero (by simpa using hl)) hn
  · refine ⟨g, cap, cur.toList.drop (n * 1), rfl, h1, hb, ?_⟩
    unfold Blk
    rw [hg]
    congr 2
    apply Array.ext'
    simp only
    rw [← h4, List.take_append_drop]
theorem s_shl1 {w : World} {K : KT} {k : IntKind} {s : Nat} (hs : s < 8) (h : K (bv (UInt8.ofNat (2 ^ s))) w) : optW (shO .shl (.int .u8 1) (.int k (s : Int))) w K := by
  refine s_shl (by omega) ?_
  have h2 : 2 ^ s < 256 := by
    have : 2 ^ s < 2 ^ 8 := Nat.pow_lt_pow_right (by omega) hs
    omega
  have e : IntKind.u8.wrap ((1 : Int) * 2 ^ min (s : Int).toNat IntKind.u8.bits) = ((UInt8.ofNat (2 ^ s)).toNat : Int) := by
    rw [show min (s : Int).toNat IntKind.u8.bits = s by simp [show IntKind.u8.bits = 8 by rfl]; omega]
    have h3 : (1 : Int) * 2 ^ s = ((2 ^ s : Nat) : Int) := by simp
    have e2 : (UInt8.ofNat (2 ^ s)).toNat = 2 ^ s := by simp; omega
    rw [h3, Go.Ev.u8wrap _ h2, e2]
  rw [e]
  exact h
theorem bit_and (bits : BitVec 32) (i : Nat) : ((bits >>> i) &&& 1#32 = 1#32) ↔ bits.getLsbD i = true := by
  constructor
  · intro h
    have := congrArg (fun x => x.getLsbD 0) h
    simpa [BitVec.getLsbD_and, BitVec.getLsbD_ushiftRight] using this
  · intro h
    apply BitVec.eq_of_getLsbD_eq
    intro j hj
    rw [BitVec.getLsbD_and, BitVec.getLsbD_ushiftRight]
    cases j with
    | zero => simpa using h
    | succ j => simp
theorem burst_end {K : KT} {w0 : World} {text0 v8 : Value} {text : List UInt8} (a : Nat) (bits : BitVec 32) (m : Nat) (hm : m ≤ 32) (h : a + m ≤ 8 * text.length) (ht0 : SB w0 text0 text) (hl : text.length ≤ 1048576) (htab : Tabs w0) (ht : Tab w0) (hg : 0 < w0.heap.size) (hK : ∀ w, Keep [] w0 w → K (.bool true) w)
    {w : World} (kp : Keep [] w0 w) (hv8 : SB w v8 (oth text a bits m)) : witnesslaw1_DigestBursts.C2 K text0 v8 (.bool (chg bits m)) w := by
  unfold witnesslaw1_DigestBursts.C2
  have tb : ∀ {w' : World}, Keep [] w0 w' → Tab w' := fun k => ht.keep (k.block _ hg (by simp))
  refine (known_c w (htab.kp kp (by simp) (by simp)) (tb kp) (by have := kp.size; omega)).mono ?_
  rintro r w1 ⟨rfl, k1⟩
  refine s_gRun rfl ?_
  refine s_gRun rfl ?_
  refine s_lit1 eBs (slice_cells ht0) ?_
  intro w2 k2 ho2
  refine s_gRun rfl ?_
  refine check1 (Keep.refl _ _) (SS.one ho2 (ht0.kp0 ((kp.tr k1).tr k2))) (by omega) (tb ((kp.tr k1).tr k2)) ?_
  refine s_gRun rfl ?_
  refine s_gRun rfl ?_
  have hv82 := hv8.kp0 (k1.tr k2)
  refine s_lit1 eBs (slice_cells hv82) ?_
  intro w3 k3 ho3
  have k03 := ((kp.tr k1).tr k2).tr k3
  refine s_gRun rfl ?_
  refine check1 (Keep.refl _ _) (SS.one ho3 (hv82.kp0 k3)) (by rw [oth_len]; omega) (tb k03) ?_
  refine s_gRun rfl ?_
  refine s_neq32 ?_
  refine s_gRun rfl ?_
  refine s_gRun rfl ?_
  refine s_eqb ?_
  rw [burst_law text a bits m hm h]
  refine s_opt (v := .bool true) rfl ?_
  exact hK w3 k03
theorem burst_loop {K : KT} {w0 : World} {text0 : Value} {text : List UInt8} (a : Nat) (bits : BitVec 32) (_ : text ≠ []) (ha : a < 8 * text.length) (ht0 : SB w0 text0 text) (hl : text.length ≤ 1048576) (htab : Tabs w0) (ht : Tab w0) (hg : 0 < w0.heap.size) (hK : ∀ w, Keep [] w0 w → K (.bool true) w) (g cap : Nat) (rest : List Value) (hgw : w0.heap.size ≤ g) (hcap : text.length ≤ cap) :
    ∀ (k i : Nat) (w : World), k + i = min 32 (8 * text.length - a) + 1 → 1 ≤ k → Keep [] w0 w → Blk w g (bvs (oth text a bits i) ++ rest) 5 →
      witnesslaw1_DigestBursts.L3 K (witnesslaw1_DigestBursts.C2 K) k text0 (.int .i64 a) (uv bits) (.int .i64 ((8 * text.length : Nat) : Int)) (.slice (some ⟨g, 0, none⟩) text.length cap) (.bool (chg bits i)) (.int .i64 i) w := by
  intro k
  induction k with
  | zero => intro i _ _ h; omega
  | succ k ih =>
    intro i w hi _ kp hb
    unfold witnesslaw1_DigestBursts.L3 witnesslaw1_DigestBursts.C3
    have hol := oth_len text a bits i
    have stop : ¬ (i < 32 ∧ a + i < 8 * text.length) → witnesslaw1_DigestBursts.C2 K text0 (.slice (some ⟨g, 0, none⟩) text.length cap) (.bool (chg bits i)) w := by
      intro hn
      refine burst_end a bits i (by omega) (by omega) ht0 hl htab ht hg hK kp ?_
      refine .inr ⟨⟨g, 0, none⟩, cap, by simp [hol], by simp [hol, hcap], fun j u hj => ?_⟩
      rw [add_mid, hb.cell, Nat.zero_add, List.getElem?_append_left (by
        by_cases hx : j < (bvs (oth text a bits i)).length
        · exact hx
        · rw [List.getElem?_eq_none (by omega)] at hj; cases hj)]
      exact hj
    refine s_lss ?_
    by_cases h32 : i < 32
    · rw [show decide ((i : Int) < 32) = true from decide_eq_true (by omega)]
      refine s_gRun rfl ?_
      refine s_gRun rfl ?_
      refine s_gRun rfl ?_
      refine s_addi (by rw [i64min, i64max]; omega) ?_
      refine s_gRun rfl ?_
      refine s_gRun rfl ?_
      refine s_lss ?_
      refine s_opt (v := .bool (decide ((a : Int) + (i : Int) < ((8 * text.length : Nat) : Int)))) rfl ?_
      refine s_cnd (fun hc => ?_) (fun hc => stop (by omega))
      have next : ∀ w', Keep [] w0 w' → Blk w' g (bvs (oth text a bits (i + 1)) ++ rest) 5 → witnesslaw1_DigestBursts.C4 K (witnesslaw1_DigestBursts.L3 K (witnesslaw1_DigestBursts.C2 K) k) text0 (.int .i64 a) (uv bits) (.int .i64 ((8 * text.length : Nat) : Int)) (.slice (some ⟨g, 0, none⟩) text.length cap) (.bool (chg bits (i + 1))) (.int .i64 i) w' := by
        intro w' k' hb'
        unfold witnesslaw1_DigestBursts.C4
        refine s_addi (by rw [i64min, i64max]; omega) ?_
        exact ih (i + 1) w' (by omega) (by omega) k' hb'
      unfold witnesslaw1_DigestBursts.C5
      refine s_shr32 (by omega) ?_
      refine s_and32 (y := 1#32) ?_
      refine s_eql32 (y := 1#32) ?_
      refine s_cnd (fun hbit => ?_) (fun hbit => ?_)
      · rw [bit_and] at hbit
        refine s_drw ?_
        refine s_addi (by rw [i64min, i64max]; omega) ?_
        refine s_quoi (by omega) (by omega) (by rw [i64max]; omega) ?_
        refine s_addi (by rw [i64min, i64max]; omega) ?_
        refine s_quoi (by omega) (by omega) (by rw [i64max]; omega) ?_
        have hq : ((a : Int) + (i : Int)) / 8 = (((a + i) / 8 : Nat) : Int) := by omega
        have hr : ((a : Int) + (i : Int)) % 8 = (((a + i) % 8 : Nat) : Int) := by omega
        rw [hq]
        have hlt : (a + i) / 8 < text.length := by omega
        refine s_ixS (by omega) (by omega) ?_
        refine s_ldB (w := w.drew) (e := 5) hb (v := bv ((oth text a bits i).getD ((a + i) / 8) 0)) (by
          rw [show 0 + (((a + i) / 8 : Nat) : Int).toNat * 1 = (a + i) / 8 by omega, List.getElem?_append_left (by simp only [bvs, List.length_map]; omega), List.getElem?_map, getD_of (d := 0) (by omega)]
          rfl) ?_
        refine s_addi (by rw [i64min, i64max]; omega) ?_
        refine s_remi (by omega) (by omega) ?_
        rw [hr]
        refine s_shl1 (by omega) ?_
        refine s_xor8 ?_
        refine s_ixS (by omega) (by omega) ?_
        refine s_stB (w := w.drew) (e := 5) hb (by simp only [List.length_append, bvs, List.length_map]; rw [show 0 + (((a + i) / 8 : Nat) : Int).toNat * 1 = (a + i) / 8 by omega]; omega) rfl ?_
        intro w1 hb1 k1
        rw [show 0 + (((a + i) / 8 : Nat) : Int).toNat * 1 = (a + i) / 8 by omega, List.set_append_left _ _ (by simp only [bvs, List.length_map]; omega)] at hb1
        have e1 : (bvs (oth text a bits i)).set ((a + i) / 8) (bv ((oth text a bits i).getD ((a + i) / 8) 0 ^^^ UInt8.ofNat (2 ^ ((a + i) % 8)))) = bvs (oth text a bits (i + 1)) := by
          rw [oth_succ, if_pos hbit]
          simp only [bvs, List.map_set]
        rw [e1] at hb1
        have := next w1 (keep2 kp.drew k1 hgw) hb1
        rw [chg_succ, hbit, Bool.or_true] at this
        exact this
      · rw [bit_and] at hbit
        have hbf : bits.getLsbD i = false := by simpa using hbit
        have e1 : oth text a bits (i + 1) = oth text a bits i := by rw [oth_succ, if_neg hbit]
        have := next w kp (by rw [e1]; exact hb)
        rw [chg_succ, hbf, Bool.or_false] at this
        exact this
    · rw [show decide ((i : Int) < 32) = false from decide_eq_false (by omega)]
      refine s_gSkip (y := false) rfl (by decide) ?_
      refine s_gSkip (y := false) rfl (by decide) ?_
      refine s_gSkip (y := false) rfl (by decide) ?_
      refine s_gSkip (y := false) rfl (by decide) ?_
      refine s_gSkip (y := false) rfl (by decide) ?_
      refine s_opt (v := .bool false) rfl ?_
      exact s_false (stop (by omega))
theorem u64_rem (a : Int) {n : Nat} (hn : 0 < n) : ∃ q : Nat, q < n ∧ (IntKind.u64.wrap a) % (n : Int) = (q : Int) := by
  have h1 := Int.emod_nonneg (IntKind.u64.wrap a) (by omega : (n : Int) ≠ 0)
  have h2 := Int.emod_lt_of_pos (IntKind.u64.wrap a) (by omega : 0 < (n : Int))
  exact ⟨(IntKind.u64.wrap a % (n : Int)).toNat, by omega, by omega⟩
theorem u64_nonneg (a : Int) : 0 ≤ IntKind.u64.wrap a := by
  simp [IntKind.wrap, IntKind.bits, IntKind.signed]
  omega
theorem bursts_c {w : World} (text : List UInt8) (text0 : Value) (ht0 : SB w text0 text) (hl : text.length ≤ 1048576) (a : Int) (_ : (Lit.int .i64 a).wf = true) (bits : BitVec 32)
    (hr : HasL w 2 0 (uvs rounds)) (_ : 2 < w.heap.size) (hf : HasL w 1 0 (uvs first)) (_ : 1 < w.heap.size) (ht : Tab w) (hg : 0 < w.heap.size) :
    CallsR Tryd.prog 8 #[text0, .int .i64 a, uv bits] w fun r w' => r = .bool true ∧ Keep [] w w' := by
  apply witnesslaw1_DigestBursts.sound
  unfold witnesslaw1_DigestBursts.J witnesslaw1_DigestBursts.C1
  refine ht0.len ?_
  rw [show (bvs text).length = text.length by simp only [bvs, List.length_map]]
  refine s_muli (by rw [i64min, i64max]; omega) ?_
  rw [show (8 : Int) * (text.length : Int) = ((8 * text.length : Nat) : Int) by omega]
  refine s_eql ?_
  refine s_cnd (fun hc => ?_) (fun hc => ?_)
  · refine (known_c w ⟨hr, hf⟩ ht hg).mono ?_
    rintro r w1 ⟨rfl, k1⟩
    exact ⟨rfl, k1⟩
  · have hne : text ≠ [] := by
      rintro rfl
      simp at hc
    refine s_cv ?_
    refine s_cvi (by rw [u64min, u64max]; omega) ?_
    refine s_remi (u64_nonneg a) (by omega) ?_
    obtain ⟨q, hq, e⟩ := u64_rem a (n := 8 * text.length) (by omega)
    rw [e]
    refine s_cvi (by rw [i64min, i64max]; omega) ?_
    refine s_app' (base := w.heap.size) (n := 0) (xs := []) eU8 (World.ownsRow_nil _ _ _ _) ht0 (bvs_one _) (by simp only [bvs, List.length_map]; unfold maxLen; omega) (by simp only [bvs, List.length_map]; omega) (Nat.le_refl _) ?_
    intro v w1 ho k1 _
    have k1' : Keep [] w w1 := k1
    rw [List.nil_append, Nat.zero_add, show (bvs text).length = text.length by simp only [bvs, List.length_map]] at ho
    obtain ⟨g, cap, rest, rfl, hcap, hgw, hb⟩ := owns_blk ho (by intro h0; apply hne; simpa using h0)
    exact ⟨_, burst_loop q bits hne hq ht0 hl ⟨hr, hf⟩ ht hg (fun w' k' => ⟨rfl, k'⟩) g cap rest hgw hcap (min 32 (8 * text.length - q) + 1) 0 w1 rfl (by omega) k1' hb⟩
end Go.Proofs.YtklieghmbhofnaaDoor
