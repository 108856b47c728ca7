/-
  Zeros ahead of the first one, by bytes and by bits: the plain law, and what the functions compute.
-/
import Derived.Test.YtklieghmbhofnaaDZ
import Derived.Test.YtklieghmbhofnaaMem
namespace Go.Proofs.Ytklieghmbhofnaa
open Go Go.Ev Go.RowKit
set_option maxRecDepth 100000
/-- Bit i of a byte, the highest first. -/
def bitAt (b : UInt8) (i : Nat) : Nat := b.toNat / 2 ^ (7 - i) % 2
def bitOf (l : List UInt8) (i : Nat) : Nat := bitAt (l.getD (i / 8) 0) (i % 8)
def IsZ (l : List UInt8) (n : Nat) : Prop := n ≤ 8 * l.length ∧ (∀ j, j < n → bitOf l j = 0) ∧ (n < 8 * l.length → bitOf l n = 1)
theorem IsZ.uniq {l : List UInt8} {m n : Nat} (h : IsZ l m) (k : IsZ l n) : m = n := by
  obtain ⟨h1, h2, h3⟩ := h
  obtain ⟨k1, k2, k3⟩ := k
  rcases Nat.lt_trichotomy m n with e | e | e
  · have := k2 m e; have := h3 (by omega); omega
  · exact e
  · have := h2 n e; have := k3 (by omega); omega
def lens : ByteArray := { data := #[0, 1, 2, 2, 3, 3, 3, 3, 4, 4, 4, 4, 4, 4, 4, 4, 5, 5, 5, 5, 5, 5, 5, 5, 5, 5, 5, 5, 5, 5, 5, 5, 6, 6, 6, 6, 6, 6, 6, 6, 6, 6, 6, 6, 6, 6, 6, 6, 6, 6, 6, 6, 6, 6, 6, 6, 6, 6, 6, 6, 6, 6, 6, 6, 7, 7, 7, 7, 7, 7, 7, 7, 7, 7, 7, 7, 7, 7, 7, 7, 7, 7, 7, 7, 7, 7, 7, 7, 7, 7, 7, 7, 7, 7, 7, 7, 7, 7, 7, 7, 7, 7, 7, 7, 7, 7, 7, 7, 7, 7, 7, 7, 7, 7, 7, 7, 7, 7, 7, 7, 7, 7, 7, 7, 7, 7, 7, 7, 8, 8, 8, 8, 8, 8, 8, 8, 8, 8, 8, 8, 8, 8, 8, 8, 8, 8, 8, 8, 8, 8, 8, 8, 8, 8, 8, 8, 8, 8, 8, 8, 8, 8, 8, 8, 8, 8, 8, 8, 8, 8, 8, 8, 8, 8, 8, 8, 8, 8, 8, 8, 8, 8, 8, 8, 8, 8, 8, 8, 8, 8, 8, 8, 8, 8, 8, 8, 8, 8, 8, 8, 8, 8, 8, 8, 8, 8, 8, 8, 8, 8, 8, 8, 8, 8, 8, 8, 8, 8, 8, 8, 8, 8, 8, 8, 8, 8, 8, 8, 8, 8, 8, 8, 8, 8, 8, 8, 8, 8, 8, 8, 8, 8, 8, 8, 8, 8, 8, 8, 8, 8, 8, 8, 8, 8, 8, 8] }
def okLen (b : Nat) (c : Nat) : Bool := decide (c ≤ 8) && (List.range (8 - c)).all (fun j => b / 2 ^ (7 - j) % 2 == 0) && (b == 0 || (decide (1 ≤ c) && b / 2 ^ (7 - (8 - c)) % 2 == 1))
theorem lens_all : (List.range 256).all (fun b => match lens.data.toList[b]? with | some c => okLen b c.toNat | none => false) = true := by decide +kernel
theorem lens_at (b : Nat) (hb : b < 256) : ∃ c : UInt8, lens[b]? = some c ∧ okLen b c.toNat = true := by
  have h := List.all_eq_true.1 lens_all b (by simpa using hb)
  split at h
  · rename_i c hc
    refine ⟨c, ?_, h⟩
    rw [show lens[b]? = lens.data[b]? from by simp only [getElem?_def]; rfl]
    rw [← Array.getElem?_toList]
    exact hc
  · cases h
theorem len8_c (b : UInt8) (w : World) : CallsR Try.prog 16 #[bv b] w fun v w' => (∃ c : Nat, v = .int .i64 c ∧ okLen b.toNat c = true) ∧ w' = w := by
  apply bits_Len8.sound
  unfold bits_Len8.J bits_Len8.C1
  obtain ⟨c, h1, h2⟩ := lens_at b.toNat b.toNat_lt
  refine s_idxT (n := (b.toNat : Int)) (u := c) (by omega) h1 ?_
  refine s_cvi ?_ ?_
  · have := c.toNat_lt
    simp only [show IntKind.i64.min = -9223372036854775808 by decide, show IntKind.i64.max = 9223372036854775807 by decide]
    omega
  · exact ⟨⟨c.toNat, rfl, h2⟩, rfl⟩
theorem lz8_c (b : UInt8) (w : World) : CallsR Try.prog 12 #[bv b] w fun v w' => (∃ c : Nat, v = .int .i64 (8 - c : Nat) ∧ okLen b.toNat c = true) ∧ w' = w := by
  apply bits_LeadingZeros8.sound
  unfold bits_LeadingZeros8.J bits_LeadingZeros8.C1
  refine (len8_c b w).mono ?_
  rintro v w' ⟨⟨c, rfl, h⟩, rfl⟩
  have hc : c ≤ 8 := by
    unfold okLen at h
    simp at h
    exact h.1.1
  refine s_subi ?_ ?_
  · simp only [show IntKind.i64.min = -9223372036854775808 by decide, show IntKind.i64.max = 9223372036854775807 by decide]
    omega
  · exact ⟨⟨c, by congr 1; omega, h⟩, rfl⟩
theorem i64min : IntKind.i64.min = -9223372036854775808 := by decide
theorem i64max : IntKind.i64.max = 9223372036854775807 := by decide
theorem bitOf_ge {l : List UInt8} {i : Nat} (h : ∀ j, j < i → l.getD j 0 = 0) {j : Nat} (hj : j < 8 * i) : bitOf l j = 0 := by
  unfold bitOf
  rw [h (j / 8) (by omega)]
  simp [bitAt]
theorem zeros_loop (l : List UInt8) (hl : l.length = 32) (K : KT) (w : World) (hK : ∀ n : Nat, IsZ l n → K (.int .i64 n) w) :
    ∀ (k i : Nat), k + i = 33 → 1 ≤ k → (∀ j, j < i → l.getD j 0 = 0) → digest_Zeros.L3 K (digest_Zeros.C2 K) k (.agg (bvs l).toArray) (.int .i64 i) w := by
  intro k
  induction k with
  | zero => intro i _ h; omega
  | succ k ih =>
    intro i hi _ hz
    unfold digest_Zeros.L3 digest_Zeros.C3
    refine s_lss ?_
    refine s_cnd (fun hlt => ?_) (fun hge => ?_)
    · have hi' : i < l.length := by omega
      refine s_idx (v := bv l[i]) (by omega) hlt (by simp [hi']) ?_
      refine s_neq ?_
      refine s_cnd (fun hne => ?_) (fun he => ?_)
      · refine s_muli ?_ ?_
        · rw [i64min, i64max]; omega
        refine (lz8_c l[i] w).mono ?_
        rintro v w' ⟨⟨c, rfl, h⟩, rfl⟩
        unfold okLen at h
        simp at h
        obtain ⟨⟨h1, h2⟩, h3⟩ := h
        refine s_addi ?_ ?_
        · rw [i64min, i64max]; omega
        rw [show (8 * (i : Int) + ((8 - c : Nat) : Int)) = ((8 * i + (8 - c) : Nat) : Int) by omega]
        have hx : l.getD i 0 = l[i] := by simp [hi']
        have h1c : 1 ≤ c := by
          rcases h3 with h3 | h3
          · exfalso; apply hne; simp [h3]
          · exact h3.1
        refine hK _ ⟨by omega, fun j hj => ?_, fun _ => ?_⟩
        · by_cases hj' : j < 8 * i
          · exact bitOf_ge hz hj'
          · have e : j / 8 = i := by omega
            unfold bitOf bitAt
            rw [e, hx]
            exact h2 (j % 8) (by omega)
        · unfold bitOf bitAt
          rw [show (8 * i + (8 - c)) / 8 = i by omega, show (8 * i + (8 - c)) % 8 = 8 - c by omega, hx]
          rcases h3 with h3 | h3
          · exfalso; apply hne; simp [h3]
          · exact h3.2
      · refine s_addi ?_ ?_
        · rw [i64min, i64max]; omega
        refine ih (i + 1) (by omega) (by omega) ?_
        intro j hj
        by_cases e : j = i
        · subst e
          have hx : l.getD j 0 = l[j] := by simp [hi']
          rw [hx]
          have : ((l[j].toNat : Int)) = 0 := by simpa using he
          exact UInt8.toNat_inj.1 (by simpa using this)
        · exact hz j (by omega)
    · have e : i = 32 := by omega
      subst e
      exact hK 256 ⟨by omega, fun j hj => bitOf_ge hz (by omega), fun h => by omega⟩
theorem zeros_c (l : List UInt8) (hl : l.length = 32) (w : World) : CallsR Try.prog 6 #[.agg (bvs l).toArray] w fun v w' => (∃ n : Nat, v = .int .i64 n ∧ IsZ l n) ∧ Keep [] w w' := by
  apply digest_Zeros.sound
  unfold digest_Zeros.J digest_Zeros.C1
  refine s_new ?_
  refine s_ldN (vs := bvs l) ((HasL.alloc w _ _).row (by simp [Value.cells, hl])) ?_
  refine ⟨33, zeros_loop l hl _ _ (fun n hn => ⟨⟨n, rfl, hn⟩, (Keep.refl _ _).alloc _⟩) 33 0 rfl (by omega) (by simp)⟩
theorem bits_one (b n : Nat) (hb : b < 256) (hn : n ≤ 7) : (((IntKind.u8.wrap (BitVec.ofInt 8 ((b : Int).fdiv (2 ^ n)) &&& BitVec.ofInt 8 1).toNat))) = ((b / 2 ^ n % 2 : Nat) : Int) := by
  have e : ((b : Int).fdiv (2 ^ n)) = ((b / 2 ^ n : Nat) : Int) := by
    rw [Int.fdiv_eq_ediv_of_nonneg _ (by exact Int.pow_nonneg (by omega))]
    simp
  rw [e]
  have h1 : b / 2 ^ n < 256 := Nat.lt_of_le_of_lt (Nat.div_le_self _ _) hb
  generalize b / 2 ^ n = m at h1
  have : (BitVec.ofInt 8 (m : Int) &&& BitVec.ofInt 8 1).toNat = m % 2 := by
    simp only [BitVec.toNat_and, BitVec.toNat_ofInt]
    rw [show ((m : Int) % ((2 ^ 8 : Nat) : Int)).toNat = m by omega, show ((1 : Int) % ((2 ^ 8 : Nat) : Int)).toNat = 1 by decide]
    exact Nat.and_one_is_mod m
  rw [this]
  rw [wrap_in]
  simp only [show IntKind.u8.min = 0 by decide, show IntKind.u8.max = 255 by decide]
  omega
theorem rzeros_loop (l : List UInt8) (hl : l.length = 32) (K : KT) (w : World) (b : Nat) (hb : HasL w b 0 (bvs l)) (hK : ∀ n : Nat, IsZ l n → K (.int .i64 n) w) :
    ∀ (k i : Nat), k + i = 257 → 1 ≤ k → (∀ j, j < i → bitOf l j = 0) → witnessref1_Zeros.L3 K (witnessref1_Zeros.C2 K) k (.pointer (some ⟨b, 0, none⟩)) (.int .i64 i) w := by
  intro k
  induction k with
  | zero => intro i _ h; omega
  | succ k ih =>
    intro i hi _ hz
    unfold witnessref1_Zeros.L3 witnessref1_Zeros.C3
    refine s_lss ?_
    refine s_cnd (fun hlt => ?_) (fun hge => ?_)
    · have hi' : i / 8 < l.length := by omega
      refine s_quoi (by omega) (by omega) (by rw [i64max]; omega) ?_
      refine s_ixA (by omega) (by omega) ?_
      refine s_ld (v := bv l[i / 8]) (hb.cell (by rw [show ((i : Int) / 8).toNat * 1 = i / 8 by omega]; simp [hi'])) ?_
      refine s_remi (by omega) (by omega) ?_
      refine s_subi ?_ ?_
      · rw [i64min, i64max]; omega
      refine s_shr (by omega) ?_
      refine s_and ?_
      refine s_eql ?_
      have hx : l.getD (i / 8) 0 = l[i / 8] := by simp [hi']
      rw [show min (7 - (i : Int) % 8).toNat IntKind.u8.bits = 7 - i % 8 by simp only [show IntKind.u8.bits = 8 by rfl]; omega]
      rw [show IntKind.u8.bits = 8 by rfl, bits_one _ _ (l[i / 8]).toNat_lt (by omega)]
      have hbit : bitOf l i = l[i / 8].toNat / 2 ^ (7 - i % 8) % 2 := by unfold bitOf bitAt; rw [hx]
      rw [← hbit]
      refine s_cnd (fun h1 => ?_) (fun h0 => ?_)
      · exact hK i ⟨by omega, hz, fun _ => by omega⟩
      · refine s_addi ?_ ?_
        · rw [i64min, i64max]; omega
        refine ih (i + 1) (by omega) (by omega) ?_
        intro j hj
        by_cases e : j = i
        · subst e
          have : bitOf l j < 2 := by rw [hbit]; omega
          omega
        · exact hz j (by omega)
    · have e : i = 256 := by omega
      subst e
      exact hK 256 ⟨by omega, hz, fun h => by omega⟩
theorem rzeros_c (l : List UInt8) (hl : l.length = 32) (w : World) : CallsR Try.prog 7 #[.agg (bvs l).toArray] w fun v w' => (∃ n : Nat, v = .int .i64 n ∧ IsZ l n) ∧ Keep [] w w' := by
  apply witnessref1_Zeros.sound
  unfold witnessref1_Zeros.J witnessref1_Zeros.C1
  refine s_new ?_
  refine ⟨257, rzeros_loop l hl _ _ _ (HasL.alloc w _ _) (fun n hn => ⟨⟨n, rfl, hn⟩, (Keep.refl _ _).alloc _⟩) 257 0 rfl (by omega) (by simp)⟩
theorem law_c (l : List UInt8) (hl : l.length = 32) (w : World) : CallsR Try.prog 3 #[.agg (bvs l).toArray] w fun v w' => v = .bool true ∧ Keep [] w w' := by
  apply witnesslaw1_DigestZeros.sound
  unfold witnesslaw1_DigestZeros.J witnesslaw1_DigestZeros.C1
  refine s_new ?_
  generalize hw1 : w.alloc (.cells (Value.cells (.agg (bvs l).toArray)) _) = w1
  have k1 : Keep [] w w1 := by subst hw1; exact (Keep.refl _ _).alloc _
  have hs : w.heap.size < w1.heap.size := by subst hw1; simp
  have hr : HasL w1 w.heap.size 0 (bvs l) := by subst hw1; exact HasL.alloc w _ _
  have hrd : ∀ w', Keep [] w1 w' → ldN 32 (.pointer (some ⟨w.heap.size, 0, none⟩)) w' = some (.agg (bvs l).toArray) := by
    intro w' k
    have e : rowO w' ⟨w.heap.size, 0, none⟩ 0 32 = some (bvs l) := (k.row hr hs (by simp)).row (by simp [hl])
    simp only [ldN, e]
  refine ⟨fun w' => Keep [] w1 w', (Keep.refl _ _).drew, ?_⟩
  refine s_drw ?_
  refine s_rdI hrd ?_
  refine (zeros_c l hl _).mono ?_
  rintro v w2 ⟨⟨n, rfl, hn⟩, k2⟩
  have k2' : Keep [] w1 w2 := (Keep.refl [] w1).drew.tr k2
  refine ⟨k2', ?_⟩
  refine s_rdI hrd ?_
  refine (rzeros_c l hl _).mono ?_
  rintro v w3 ⟨⟨m, rfl, hm⟩, k3⟩
  refine ⟨k2'.tr k3, ?_⟩
  refine s_eql ?_
  refine ⟨?_, k1.tr (k2'.tr k3)⟩
  rw [hn.uniq hm]
  simp
end Go.Proofs.Ytklieghmbhofnaa
