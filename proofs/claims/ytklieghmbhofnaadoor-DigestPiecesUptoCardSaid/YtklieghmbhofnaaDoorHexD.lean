/-
  Hexadecimal: what both sides' functions compute.
-/
import Derived.Test.YtklieghmbhofnaaDoorD5
import Derived.Test.YtklieghmbhofnaaDoorBlk
import Derived.Test.YtklieghmbhofnaaDoorShelf
import Derived.Deep.MidRow
namespace Go.Proofs.YtklieghmbhofnaaDoor
open Go Go.Ev Go.RowKit
set_option maxRecDepth 100000
theorem i64min' : IntKind.i64.min = -9223372036854775808 := by decide
theorem i64max' : IntKind.i64.max = 9223372036854775807 := by decide
def digs : ByteArray := { data := #[48, 49, 50, 51, 52, 53, 54, 55, 56, 57, 97, 98, 99, 100, 101, 102] }
def dg (n : Nat) : UInt8 := digs.data.toList.getD n 0
def hexAt (l : List UInt8) (k : Nat) : UInt8 := if k % 2 = 0 then dg ((l.getD (k / 2) 0).toNat / 16) else dg ((l.getD (k / 2) 0).toNat % 16)
def hexs (l : List UInt8) (n : Nat) : List UInt8 := (List.range n).map (hexAt l)
theorem digs_at {n : Nat} (h : n < 16) : digs[n]? = some (dg n) := by
  rw [show digs[n]? = digs.data[n]? from by simp only [getElem?_def]; rfl, ← Array.getElem?_toList]
  unfold dg
  rw [List.getD_eq_getElem?_getD]
  have : n < digs.data.toList.length := h
  rw [List.getElem?_eq_getElem this]
  rfl
theorem hexs_two (l : List UInt8) (i : Nat) : hexs l (2 * i) ++ [dg ((l.getD i 0).toNat / 16), dg ((l.getD i 0).toNat % 16)] = hexs l (2 * (i + 1)) := by
  unfold hexs
  rw [show 2 * (i + 1) = 2 * i + 1 + 1 by omega, List.range_succ, List.range_succ]
  simp [hexAt, show (2 * i + 1) / 2 = i by omega]
theorem bvs_append (a b : List UInt8) : bvs (a ++ b) = bvs a ++ bvs b := by simp
theorem tU8 : ElT Tryd.prog 23 5 1 1 (.int .u8 0) := ⟨Tryd.underlying23, by kernel_rfl, rfl, by omega⟩
theorem shr4 (b : UInt8) : (b.toNat : Int).fdiv (2 ^ min (4 : Int).toNat IntKind.u8.bits) = ((b.toNat / 16 : Nat) : Int) := by
  rw [show (2 : Int) ^ min (4 : Int).toNat IntKind.u8.bits = 16 by decide, Int.fdiv_eq_ediv_of_nonneg _ (by omega)]
  rfl
theorem u8wrap (n : Int) : IntKind.u8.wrap n = n % 256 := by
  simp [IntKind.wrap, IntKind.bits, IntKind.signed]
theorem and15 (b : UInt8) : (IntKind.u8.wrap (BitVec.ofInt IntKind.u8.bits b.toNat &&& BitVec.ofInt IntKind.u8.bits 15).toNat) = ((b.toNat % 16 : Nat) : Int) := by
  rw [u8wrap]
  have h := b.toNat_lt
  simp only [show IntKind.u8.bits = 8 by rfl, BitVec.toNat_and, BitVec.toNat_ofInt]
  rw [show ((b.toNat : Int) % ((2 ^ 8 : Nat) : Int)).toNat = b.toNat by omega, show ((15 : Int) % ((2 ^ 8 : Nat) : Int)).toNat = 2 ^ 4 - 1 by decide, Nat.and_two_pow_sub_one_eq_mod]
  omega
/-! ### strings.Builder -/
theorem tBld : (Tryd.prog.info? 72).map (·.size) = some 2 := by kernel_rfl
theorem copyCheck_c (B b : Nat) (bs : List Value) (w : World) (h : Lib.IsBuilder 72 5 B b bs w) :
    CallsR Tryd.prog 40 #[.pointer (some ⟨b, 0, none⟩)] w fun v w' => v = .tuple #[] ∧ Lib.BuilderAt 72 5 B b (.pointer (some ⟨b, 0, none⟩)) bs w' ∧ Below B w w' := by
  apply strings_Builder_copyCheck.sound
  unfold strings_Builder_copyCheck.J strings_Builder_copyCheck.C1
  obtain ⟨j, hj, hjs⟩ := Option.map_eq_some_iff.1 tBld
  rcases h with h | h
  · refine s_nilP ?_
    refine s_fad ?_
    refine s_ld h.cell0 ?_
    refine ⟨.bool true, w, by kernel_rfl, ?_⟩
    refine s_true ?_
    refine ⟨_, w, Lib.run_to_unsafe w ⟨b, 0, none⟩ Tryd.underlying70 Tryd.underlying78 hj (by rw [hjs]; decide) h.shape (Nat.zero_lt_succ 1), ?_⟩
    refine ⟨_, w, by unfold valueN; rw [Sem.run_bind, run_callFunc_extern Tryd.func41 (by kernel_rfl) (by kernel_rfl) (by kernel_rfl) (e := Extern.AbiNoEscape.same) (by kernel_rfl), Lib.run_noEscape]; rfl, ?_⟩
    refine ⟨_, w, Lib.run_from_unsafe w ⟨b, 0, none⟩ Tryd.underlying78 Tryd.underlying70 hj h.shape (by kernel_rfl), ?_⟩
    refine s_nilP ?_
    refine s_fad ?_
    refine s_st ⟨_, h.cell0⟩ h.frozen0 rfl ?_
    exact ⟨rfl, h.used _, (Below.refl B w).setCell (p := ⟨b, 0, none⟩) h.1 _⟩
  · refine s_nilP ?_
    refine s_fad ?_
    refine s_ld h.cell0 ?_
    refine ⟨.bool false, w, by kernel_rfl, ?_⟩
    refine s_false ?_
    refine s_nilP ?_
    refine s_fad ?_
    refine s_ld h.cell0 ?_
    refine ⟨.bool false, w, ?_, ?_⟩
    · rw [Sem.run_bind]
      show ((Result.ok () w).andThen _) = _
      rw [Result.andThen_ok]
      exact Lib.run_neq_ptr_same w _ Tryd.underlying70 hj
    refine s_false ?_
    exact ⟨rfl, h, Below.refl B w⟩
theorem writeByte_c (B b : Nat) (bs : List Value) (c : UInt8) (w : World) (h : Lib.IsBuilder 72 5 B b bs w) (hlen : bs.length + 1 ≤ 140737488355328) (hB : B ≤ w.heap.size) :
    CallsR Tryd.prog 38 #[.pointer (some ⟨b, 0, none⟩), bv c] w fun v w' => v = .nilIface ∧ Lib.BuilderAt 72 5 B b (.pointer (some ⟨b, 0, none⟩)) (bs ++ [bv c]) w' ∧ Below B w w' := by
  apply strings_Builder_WriteByte.sound
  unfold strings_Builder_WriteByte.J strings_Builder_WriteByte.C1
  refine (copyCheck_c B b bs w h).mono ?_
  rintro v w1 ⟨rfl, hb, bel⟩
  have hB1 : B ≤ w1.heap.size := Nat.le_trans hB bel.size
  obtain ⟨hBb, x, hx, hown, hne⟩ := hb
  refine s_nilP ?_
  refine s_fad ?_
  have hc1 : w1.cell? ((⟨b, 0, none⟩ : Addr).add 1) = some x := by
    rw [add_mid]
    simp [World.cell?, hx]
  refine s_ld hc1 ?_
  refine s_bs1 tU8 rfl ?_
  generalize hw2 : w1.alloc (.cells (Value.cells (bv c)) 5) = w2
  have k2 : Keep [] w1 w2 := by subst hw2; exact (Keep.refl _ _).alloc _
  have b2 : Below B w1 w2 := by subst hw2; exact (Below.refl _ _).alloc hB1 _
  have hn : HasL w2 w1.heap.size 0 [bv c] := by subst hw2; exact HasL.alloc _ _ _
  have hs2 : w1.heap.size < w2.heap.size := by subst hw2; simp
  have hblt : b < w1.heap.size := (Array.getElem?_eq_some_iff.1 hx).1
  have hx2 : w2.heap[b]? = some (.cells #[.pointer (some ⟨b, 0, none⟩), x] 72 (0, 0)) := by rw [k2.block b hblt (by simp)]; exact hx
  refine s_app (base := B) tU8 (owns_keep hown k2 (by simp)) (news := [bv c]) rfl (fun j u hu => by rw [add_mid]; exact hn j u hu) (by simp [bv_one]) (by unfold maxLen; omega) (by omega) (by omega) ?_
  intro v' w3 hown3 hg
  have b3 : Below B w2 w3 := (Below.refl B w2).grown hg (by omega) (fun k hk => (hown.lt k hk).1)
  have hx3 : w3.heap[b]? = some (.cells #[.pointer (some ⟨b, 0, none⟩), x] 72 (0, 0)) := by rw [hg.block b (by omega) (fun e => hne e.symm)]; exact hx2
  refine s_nilP ?_
  refine s_fad ?_
  have hc3 : w3.cell? ((⟨b, 0, none⟩ : Addr).add 1) = some x := by
    rw [add_mid]
    simp [World.cell?, hx3]
  have ho : v'.oneCell' = true := by
    rcases hown3.2 with ⟨rfl, _⟩ | ⟨g, cap, cur, rfl, _⟩ <;> rfl
  refine s_st ⟨_, hc3⟩ ?_ ho ?_
  · rw [add_mid]
    simp [World.frozen?, hx3]
  · rw [add_mid]
    refine ⟨rfl, ?_, ?_⟩
    · exact Lib.BuilderAt.put hBb hx3 (by simpa using hown3) (by decide)
    · exact (bel.trans (b2.trans b3)).setCell (p := ⟨b, 0 + 1, none⟩) hBb _
/-! ### Hex, the program's -/
theorem hex_loop (l : List UInt8) (hl : l.length = 32) (K : KT) (B b : Nat) (w0 : World) (hB0 : B ≤ w0.heap.size) (hK : ∀ w, Below B w0 w → K (.string ⟨(hexs l 64).toArray⟩) w) :
    ∀ (k i : Nat) (w : World), k + i = 33 → 1 ≤ k → Below B w0 w → Lib.IsBuilder 72 5 B b (bvs (hexs l (2 * i))) w →
      digest_Hex.L3 K (digest_Hex.C2 K) k (.pointer (some ⟨b, 0, none⟩)) (.agg (bvs l).toArray) (.int .i64 i) w := by
  intro k
  induction k with
  | zero => intro i _ _ h; omega
  | succ k ih =>
    intro i w hi _ bel hb
    unfold digest_Hex.L3 digest_Hex.C3
    have hsz : B ≤ w.heap.size := Nat.le_trans hB0 bel.size
    refine s_lss ?_
    refine s_cnd (fun hc => ?_) (fun hc => ?_)
    · have hi' : i < l.length := by omega
      have hx : l.getD i 0 = l[i] := by simp [hi']
      have hu := l[i].toNat_lt
      refine s_idx (v := bv l[i]) (by omega) hc (by simp [hi']) ?_
      refine s_shr (by omega) ?_
      rw [shr4]
      refine s_idxT (u := dg (l[i].toNat / 16)) (by omega) (digs_at (by simpa using by omega)) ?_
      refine (writeByte_c B b _ _ w hb (by simp [hexs]; omega) hsz).mono ?_
      rintro v w1 ⟨rfl, hb1, bel1⟩
      refine s_and ?_
      rw [and15]
      refine s_idxT (u := dg (l[i].toNat % 16)) (by omega) (digs_at (by simpa using by omega)) ?_
      refine (writeByte_c B b _ _ w1 (.inr hb1) (by simp [hexs]; omega) (Nat.le_trans hsz bel1.size)).mono ?_
      rintro v w2 ⟨rfl, hb2, bel2⟩
      refine s_addi ?_ ?_
      · rw [i64min', i64max']; omega
      refine ih (i + 1) w2 (by omega) (by omega) (bel.trans (bel1.trans bel2)) ?_
      have e := hexs_two l i
      rw [hx] at e
      rw [← e, bvs_append]
      exact .inr (by simpa using hb2)
    · have e : i = 32 := by omega
      subst e
      exact Calls.mono (Tryd.Builder_String_any B b (hexs l 64) w hb hsz) fun e w' ⟨he, hbel⟩ => ⟨_, he, hK w' (bel.trans hbel)⟩
theorem hex_c (l : List UInt8) (hl : l.length = 32) (w : World) : CallsR Tryd.prog 35 #[.agg (bvs l).toArray] w fun v w' => v = .string ⟨(hexs l 64).toArray⟩ ∧ Keep [] w w' := by
  apply digest_Hex.sound
  unfold digest_Hex.J digest_Hex.C1
  refine s_newB (l := bvs l) rfl ?_
  intro w1 hb k1 hs
  refine s_newB (l := [.pointer none, .slice none 0 0]) (by kernel_rfl) ?_
  intro w2 hb2 k2 hs2
  refine s_ldNB (vs := bvs l) (hb.kp k2 (by simp)) (by simp [hl]) (by simp) ?_
  have hk : Keep [] w w2 := k1.tr k2
  refine ⟨33, hex_loop l hl _ w.heap.size w1.heap.size w2 (by omega) (fun w' bel => ⟨rfl, Keep.of_below ((hk.below).trans bel)⟩) 33 0 w2 rfl (by omega) (Below.refl _ _) (.inl ?_)⟩
  exact ⟨by omega, .slice none 0 0, hb2, World.ownsRow_nil _ _ _ _, by simp [Value.ownBlock]⟩
end Go.Proofs.YtklieghmbhofnaaDoor
