/-
  A step of a script over writers: what the writer lays down, what the document says.
-/
import Derived.Test.YtmljgkjcoemadaaNum
import Derived.Test.YtmljgkjcoemadaaWrA
import Derived.Test.YtmljgkjcoemadaaRoomy
namespace Go.Proofs.Ytmljgkjcoemadaa
open Go Go.Ev Go.RowKit
set_option maxRecDepth 100000
def stepCells (kind who : Int) (n : Nat) (m : Int) (vb : Value) (sum : List UInt8) (nth : UInt8) : List Value := [.int .i64 kind, .int .i64 who, .int .u64 (n : Int), .int .i64 m, vb] ++ (bvs sum ++ [bv nth])
/-- What a step lays down. -/
def layB (kind : Int) (n : Nat) (t sum : List UInt8) (nth : UInt8) : List UInt8 :=
  if kind = 1 then be n 1 else if kind = 2 then be n 4 else if kind = 3 then be n 8 else if kind = 4 then num n else if kind = 5 then t else if kind = 6 then text t else if kind = 7 then sum else if kind = 8 then sum ++ [nth] else []
theorem layB_len {kind : Int} {n : Nat} {t sum : List UInt8} {nth : UInt8} (hn : n < 18446744073709551616) (hs : sum.length = 32) (ht : t.length ≤ 1099511627776) : (layB kind n t sum nth).length ≤ t.length + 33 := by
  have h1 := num_len10 hn
  have h2 := text_len (t := t) (by omega)
  unfold layB
  repeat' split
  all_goals first | (rw [be_len]; omega) | omega | (simp; omega) | simp
theorem be_mod (n : Nat) : be (n % 4294967296) 4 = be n 4 := by
  rw [be_4, be_4]
  have q : ∀ m m' : Nat, m % 256 = m' % 256 → UInt8.ofNat m = UInt8.ofNat m' := fun m m' hm => by
    apply UInt8.toNat_inj.1
    simpa using hm
  rw [q (n % 4294967296 / 2 ^ 24) (n / 2 ^ 24) (by omega), q (n % 4294967296 / 2 ^ 16) (n / 2 ^ 16) (by omega), q (n % 4294967296 / 2 ^ 8) (n / 2 ^ 8) (by omega), q (n % 4294967296) n (by omega)]
theorem set_self {cs : List Value} {o : Nat} {v : Value} (h : cs[o]? = some v) : cs.set o v = cs := by
  apply List.ext_getElem?
  intro i
  by_cases hi : i = o
  · subst hi
    have : i < cs.length := by
      by_cases hx : i < cs.length
      · exact hx
      · rw [List.getElem?_eq_none (by omega)] at h; cases h
    rw [List.getElem?_set_self this, h]
  · rw [List.getElem?_set_ne (Ne.symm hi)]
section
variable {w : World} {kind who m : Int} {n : Nat} {vb : Value} {t sum : List UInt8} {nth : UInt8} {b3 : Nat} {e3 : TypeId}
theorem sc_sum (hb : Blk w b3 (stepCells kind who n m vb sum nth) e3) (hs : sum.length = 32) {K : KT} (hk : K (.agg (bvs sum).toArray) w) : optW (fadO 5 (.pointer (some ⟨b3, 0, none⟩))) w fun p w => optW (fadO 0 p) w fun q w => optW (ldN 32 q w) w K := by
  refine s_fad (s_fad ?_)
  rw [add_mid, add_mid]
  refine s_ldNB (vs := bvs sum) hb (by simp [hs]) (fun j u hj => ?_) hk
  have hjl : j < (bvs sum).length := by
    by_cases hx : j < (bvs sum).length
    · exact hx
    · rw [List.getElem?_eq_none (by omega)] at hj; cases hj
  unfold stepCells
  rw [List.getElem?_append_right (by first | (simp; done) | (simp; omega)), show 0 + 5 + 0 + j - [Value.int .i64 kind, .int .i64 who, .int .u64 (n : Int), .int .i64 m, vb].length = j by first | (simp; done) | (simp; omega), List.getElem?_append_left hjl]
  exact hj
theorem sc_addr (hb : Blk w b3 (stepCells kind who n m vb sum nth) e3) (hs : sum.length = 32) {K : KT} (hk : K (.agg (bvs sum ++ [bv nth]).toArray) w) : optW (fadO 5 (.pointer (some ⟨b3, 0, none⟩))) w fun p w => optW (ldN 33 p w) w K := by
  refine s_fad ?_
  rw [add_mid]
  refine s_ldNB (vs := bvs sum ++ [bv nth]) hb (by simp [hs]) (fun j u hj => ?_) hk
  unfold stepCells
  rw [List.getElem?_append_right (by first | (simp; done) | (simp; omega)), show 0 + 5 + j - [Value.int .i64 kind, .int .i64 who, .int .u64 (n : Int), .int .i64 m, vb].length = j by first | (simp; done) | (simp; omega)]
  exact hj
theorem sc_at (hb : Blk w b3 (stepCells kind who n m vb sum nth) e3) (hs : sum.length = 32) {i : Nat} (hi : i < 32) : ld1 (.pointer (some (((⟨b3, 0, none⟩ : Addr).add 5).add 0 |>.add i))) w = some (bv (sum.getD i 0)) := by
  simp only [ld1]
  rw [add_mid, add_mid, add_mid, hb.cell]
  unfold stepCells
  rw [List.getElem?_append_right (by first | (simp; done) | (simp; omega)), show 0 + 5 + 0 + i - [Value.int .i64 kind, .int .i64 who, .int .u64 (n : Int), .int .i64 m, vb].length = i by first | (simp; done) | (simp; omega), List.getElem?_append_left (by first | (simp; done) | (simp; omega)), List.getElem?_map, getD_of (d := 0) (by omega)]
  rfl
theorem sc_nth (hb : Blk w b3 (stepCells kind who n m vb sum nth) e3) (hs : sum.length = 32) {K : KT} (hk : K (bv nth) w) : optW (fadO 5 (.pointer (some ⟨b3, 0, none⟩))) w fun p w => optW (fadO 32 p) w fun q w => optW (ld1 q w) w K := by
  refine s_fad (s_fad ?_)
  rw [add_mid]
  refine s_ldB hb (v := bv nth) ?_ hk
  unfold stepCells
  rw [List.getElem?_append_right (by first | (simp; done) | (simp; omega)), show 0 + 5 + 32 - [Value.int .i64 kind, .int .i64 who, .int .u64 (n : Int), .int .i64 m, vb].length = 32 by simp, List.getElem?_append_right (by simp [hs])]
  simp [hs]
end
theorem lay_c {w : World} {B b o : Nat} {e : TypeId} {cs : List Value} {v : Value} {l : List UInt8} (h : WS w B b o e cs v l) {kind who m : Int} {n : Nat} (hn : n < 18446744073709551616) {vb : Value} {t sum : List UInt8} {nth : UInt8} (hs : sum.length = 32) (hx : SB w vb t) (hxn : ∀ y ∈ blkOf vb, y ≠ b ∧ y ∉ blkOf v) (hl : l.length + t.length + 33 ≤ 1099511627776) :
    CallsR Try.prog 5 #[.pointer (some ⟨b, o, none⟩), .agg (stepCells kind who n m vb sum nth).toArray] w fun q w' => q = .tuple #[] ∧ ∃ v', WS w' B b o e (cs.set o v') v' (l ++ layB kind n t sum nth) ∧ WT w w' b v v' := by
  apply witnesslaw2_lay.sound
  unfold witnesslaw2_lay.J witnesslaw2_lay.C1
  refine s_newB (l := stepCells kind who n m vb sum nth) rfl ?_
  intro w1 hb1 k1 _
  have h1 := h.kp k1
  have hx1 := Sl.kp0 hx k1
  refine s_fad ?_
  refine s_ldB (o := 0) hb1 (v := .int .i64 kind) rfl ?_
  unfold witnesslaw2_lay.C2
  have fin : ∀ {out : List UInt8} {r : Value} {w' : World}, layB kind n t sum nth = out → (r = .tuple #[] ∧ ∃ v', WS w' B b o e (cs.set o v') v' (l ++ out) ∧ WT w1 w' b v v') → (Value.tuple #[] = Value.tuple #[] ∧ ∃ v', WS w' B b o e (cs.set o v') v' (l ++ layB kind n t sum nth) ∧ WT w w' b v v') := by
    rintro out r w' e ⟨_, v', hw, ht⟩
    rw [e]
    exact ⟨rfl, v', hw, (WT.k0 k1 b v).tr ht⟩
  refine s_eql ?_
  refine s_cnd (fun q1 => ?_) (fun q1 => ?_)
  · refine s_fad ?_
    refine s_ldB (o := 0) hb1 (v := .int .u64 (n : Int)) rfl ?_
    refine s_cv ?_
    rw [u8_cv]
    exact (wbyte_c h1 (by omega) _).mono fun r w' hr => fin (by unfold layB; rw [if_pos q1]; rfl) hr
  refine s_eql ?_
  refine s_cnd (fun q2 => ?_) (fun q2 => ?_)
  · refine s_fad ?_
    refine s_ldB (o := 0) hb1 (v := .int .u64 (n : Int)) rfl ?_
    refine s_cv ?_
    rw [show IntKind.u32.wrap (n : Int) = ((n % 4294967296 : Nat) : Int) by rw [u32wrap]; omega]
    exact (wword_c h1 _ (by omega) (by omega)).mono fun r w' hr => fin (by unfold layB; rw [if_neg q1, if_pos q2, be_mod]) hr
  refine s_eql ?_
  refine s_cnd (fun q3 => ?_) (fun q3 => ?_)
  · refine s_fad ?_
    refine s_ldB (o := 0) hb1 (v := .int .u64 (n : Int)) rfl ?_
    exact (wlong_c h1 n hn (by omega)).mono fun r w' hr => fin (by unfold layB; rw [if_neg q1, if_neg q2, if_pos q3]) hr
  refine s_eql ?_
  refine s_cnd (fun q4 => ?_) (fun q4 => ?_)
  · refine s_fad ?_
    refine s_ldB (o := 0) hb1 (v := .int .u64 (n : Int)) rfl ?_
    exact (wuint_c n h1 hn (by omega)).mono fun r w' hr => fin (by unfold layB; rw [if_neg q1, if_neg q2, if_neg q3, if_pos q4]) hr
  refine s_eql ?_
  refine s_cnd (fun q5 => ?_) (fun q5 => ?_)
  · refine s_fad ?_
    refine s_ldB (o := 0) hb1 (v := vb) rfl ?_
    exact (wraw_c h1 hx1 (Keep.refl _ _) (by omega)).mono fun r w' hr => fin (by unfold layB; rw [if_neg q1, if_neg q2, if_neg q3, if_neg q4, if_pos q5]) hr
  refine s_eql ?_
  refine s_cnd (fun q6 => ?_) (fun q6 => ?_)
  · refine s_fad ?_
    refine s_ldB (o := 0) hb1 (v := vb) rfl ?_
    exact (wtext_c h1 hx1 hxn (by omega)).mono fun r w' hr => fin (by unfold layB; rw [if_neg q1, if_neg q2, if_neg q3, if_neg q4, if_neg q5, if_pos q6]) hr
  refine s_eql ?_
  refine s_cnd (fun q7 => ?_) (fun q7 => ?_)
  · refine sc_sum hb1 hs ?_
    exact (wsum_c h1 hs (by omega)).mono fun r w' hr => fin (by unfold layB; rw [if_neg q1, if_neg q2, if_neg q3, if_neg q4, if_neg q5, if_neg q6, if_pos q7]) hr
  refine s_eql ?_
  refine s_cnd (fun q8 => ?_) (fun q8 => ?_)
  · refine sc_addr hb1 hs ?_
    exact (waddr_c h1 hs (by omega)).mono fun r w' hr => fin (by unfold layB; rw [if_neg q1, if_neg q2, if_neg q3, if_neg q4, if_neg q5, if_neg q6, if_neg q7, if_pos q8]) hr
  · refine fin (r := .tuple #[]) (out := []) (by unfold layB; rw [if_neg q1, if_neg q2, if_neg q3, if_neg q4, if_neg q5, if_neg q6, if_neg q7, if_neg q8]) ⟨rfl, v, ?_, WT.refl _ _ _⟩
    rw [set_self h1.at_, List.append_nil]
    exact h1
theorem laid_c {w : World} {kind who m : Int} {n : Nat} (hn : n < 18446744073709551616) {vb : Value} {t sum : List UInt8} {nth : UInt8} (hs : sum.length = 32) (hx : SB w vb t) (hl : t.length ≤ 1099511627776) :
    CallsR Try.prog 7 #[.agg (stepCells kind who n m vb sum nth).toArray] w fun r w' => SB w' r (layB kind n t sum nth) ∧ Keep [] w w' := by
  apply witnesslaw2_laid.sound
  unfold witnesslaw2_laid.J witnesslaw2_laid.C1
  refine s_newB (l := stepCells kind who n m vb sum nth) rfl ?_
  intro w1 hb1 k1 hs1
  have hx1 := Sl.kp0 hx k1
  refine s_fad ?_
  refine s_ldB (o := 0) hb1 (v := .int .i64 kind) rfl ?_
  have ldn : ∀ {K : KT}, K (.int .u64 (n : Int)) w1 → optW (fadO 2 (.pointer (some ⟨w.heap.size, 0, none⟩))) w1 fun p w => optW (ld1 p w) w K := fun hk => s_fad (s_ldB (o := 0) hb1 (v := .int .u64 (n : Int)) rfl hk)
  have ldb : ∀ {K : KT}, K vb w1 → optW (fadO 4 (.pointer (some ⟨w.heap.size, 0, none⟩))) w1 fun p w => optW (ld1 p w) w K := fun hk => s_fad (s_ldB (o := 0) hb1 (v := vb) rfl hk)
  have hi : ∀ k, k ≤ 8 → layB kind n t sum nth = be n k → CallsR Try.prog 20 #[.int .u64 (n : Int), .int .i64 ((k : Nat) : Int)] w1 fun r w' => SB w' r (layB kind n t sum nth) ∧ Keep [] w w' := fun k hk e => (high_c n k (by omega) hn w1).mono fun r w' ⟨e1, k2, hb⟩ => by
    rw [e1, e]
    exact ⟨hb.sb (be_len _ _), k1.tr k2⟩
  unfold witnesslaw2_laid.C3
  refine s_eql ?_
  refine s_cnd (fun q1 => ?_) (fun q1 => ?_)
  · unfold witnesslaw2_laid.C4
    exact ldn (hi 1 (by omega) (by unfold layB; rw [if_pos q1]))
  unfold witnesslaw2_laid.C5
  refine s_eql ?_
  refine s_cnd (fun q2 => ?_) (fun q2 => ?_)
  · unfold witnesslaw2_laid.C6
    exact ldn (hi 4 (by omega) (by unfold layB; rw [if_neg q1, if_pos q2]))
  unfold witnesslaw2_laid.C7
  refine s_eql ?_
  refine s_cnd (fun q3 => ?_) (fun q3 => ?_)
  · unfold witnesslaw2_laid.C8
    exact ldn (hi 8 (by omega) (by unfold layB; rw [if_neg q1, if_neg q2, if_pos q3]))
  unfold witnesslaw2_laid.C9
  refine s_eql ?_
  refine s_cnd (fun q4 => ?_) (fun q4 => ?_)
  · unfold witnesslaw2_laid.C10
    refine ldn ((rnum_k n w1 hn).mono fun r w' ⟨ho, k2⟩ => ⟨?_, k1.tr k2⟩)
    unfold layB
    rw [if_neg q1, if_neg q2, if_neg q3, if_pos q4]
    exact owns_Sl ho
  unfold witnesslaw2_laid.C11
  refine s_eql ?_
  refine s_cnd (fun q5 => ?_) (fun q5 => ?_)
  · unfold witnesslaw2_laid.C12
    refine ldb ⟨?_, k1⟩
    unfold layB
    rw [if_neg q1, if_neg q2, if_neg q3, if_neg q4, if_pos q5]
    exact hx1
  unfold witnesslaw2_laid.C13
  refine s_eql ?_
  refine s_cnd (fun q6 => ?_) (fun q6 => ?_)
  · unfold witnesslaw2_laid.C14
    refine ldb ((rtext_c t vb w1 hx1 hl).mono fun r w' ⟨ho, k2⟩ => ⟨?_, k1.tr k2⟩)
    unfold layB
    rw [if_neg q1, if_neg q2, if_neg q3, if_neg q4, if_neg q5, if_pos q6]
    exact owns_Sl ho
  have loop : ∀ {K : KT} (_ : kind = 7 ∨ kind = 8) (_ : ∀ r w', SB w' r (layB kind n t sum nth) → Keep [] w w' → K r w') (k i : Nat) (v : Value) (w' : World), k + i = 33 → 1 ≤ k → Keep [] w1 w' → w'.ownsRow w1.heap.size 5 1 v (sum.take i).length (bvs (sum.take i)) →
      witnesslaw2_laid.L19 K (witnesslaw2_laid.C18 K (witnesslaw2_laid.C2 K)) k (.pointer (some ⟨w.heap.size, 0, none⟩)) v (.int .i64 i) w' := by
    intro K hk78 hK k
    induction k with
    | zero => intro i _ _ _ h; omega
    | succ k ih =>
      intro i v w' hi _ kp ho
      have hb' := hb1.kp kp (by simp)
      unfold witnesslaw2_laid.L19 witnesslaw2_laid.C19
      refine s_lss ?_
      refine s_cnd (fun hc => ?_) (fun hc => ?_)
      · refine s_fad (s_fad ?_)
        refine s_ixA (by omega) (by omega) ?_
        rw [show (i : Int).toNat * 1 = i by simp]
        refine s_opt (sc_at hb' hs (i := i) (by omega)) ?_
        refine s_push (w0 := w1) (c := sum.getD i 0) eU8 kp ho (by simp; omega) ?_
        intro v' w2 ho2 k2
        refine s_addi (by rw [i64min, i64max]; omega) ?_
        refine ih (i + 1) v' w2 (by omega) (by omega) k2 ?_
        have e : sum.take i ++ [sum.getD i 0] = sum.take (i + 1) := by rw [List.take_add_one, getD_of (d := 0) (by omega)]; rfl
        rw [e] at ho2
        exact ho2
      · have e : i = sum.length := by omega
        subst e
        rw [List.take_length] at ho
        unfold witnesslaw2_laid.C18
        refine s_fad ?_
        refine s_ldB (o := 0) hb' (v := .int .i64 kind) rfl ?_
        refine s_eql ?_
        refine s_cnd (fun h8 => ?_) (fun h8 => ?_)
        · refine sc_nth hb' hs ?_
          refine s_push (w0 := w1) (c := nth) eU8 kp ho (by omega) ?_
          intro v' w2 ho2 k2
          unfold witnesslaw2_laid.C2
          refine hK v' w2 ?_ (k1.tr k2)
          unfold layB
          rw [if_neg (by omega), if_neg (by omega), if_neg (by omega), if_neg (by omega), if_neg (by omega), if_neg (by omega), if_neg (by omega), if_pos h8]
          exact owns_Sl ho2
        · unfold witnesslaw2_laid.C2
          refine hK v w' ?_ (k1.tr kp)
          have h7 : kind = 7 := hk78.resolve_right h8
          unfold layB
          rw [if_neg (by omega), if_neg (by omega), if_neg (by omega), if_neg (by omega), if_neg (by omega), if_neg (by omega), if_pos h7]
          exact owns_Sl ho
  have start : ∀ {K : KT} (_ : kind = 7 ∨ kind = 8) (_ : ∀ r w', SB w' r (layB kind n t sum nth) → Keep [] w w' → K r w'), witnesslaw2_laid.C17 K (witnesslaw2_laid.C2 K) (.pointer (some ⟨w.heap.size, 0, none⟩)) (.slice none 0 0) w1 := by
    intro K hk78 hK
    unfold witnesslaw2_laid.C17
    exact ⟨33, loop hk78 hK 33 0 _ w1 rfl (by omega) (Keep.refl _ _) (by simpa using World.ownsRow_nil w1 w1.heap.size 5 1)⟩
  unfold witnesslaw2_laid.C15
  refine s_eql ?_
  refine s_cnd (fun q7 => ?_) (fun q7 => ?_)
  · unfold witnesslaw2_laid.C16
    rw [show decide (kind = 7) = true from decide_eq_true q7]
    exact s_true (start (.inl q7) (fun r w' h k => ⟨h, k⟩))
  refine s_eql ?_
  unfold witnesslaw2_laid.C16
  refine s_cnd (fun q8 => start (.inr q8) (fun r w' h k => ⟨h, k⟩)) (fun q8 => ?_)
  unfold witnesslaw2_laid.C20 witnesslaw2_laid.C2
  refine ⟨?_, k1⟩
  unfold layB
  rw [if_neg q1, if_neg q2, if_neg q3, if_neg q4, if_neg q5, if_neg q6, if_neg q7, if_neg q8]
  exact .inl ⟨rfl, rfl⟩
end Go.Proofs.Ytmljgkjcoemadaa
