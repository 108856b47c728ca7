/-
  The codec's writer: what each of its calls lays down.
-/
import Derived.Test.YtmljgkjcoemadaaD
import Derived.Test.YtmljgkjcoemadaaKit
namespace Go.Proofs.Ytmljgkjcoemadaa
open Go Go.Ev Go.RowKit
set_option maxRecDepth 100000
/-- The 'k' lowest bytes of 'n', the highest first. -/
def be (n : Nat) : Nat → List UInt8
  | 0 => []
  | k + 1 => be (n / 256) k ++ [UInt8.ofNat n]
theorem be_len (n : Nat) : ∀ k, (be n k).length = k
  | 0 => rfl
  | k + 1 => by simp [be, be_len (n / 256) k]
/-- A writer in cell 'o' of block 'b' (whose cells are 'cs'): it has laid down 'l', in the slice 'v'. -/
structure WS (w : World) (B b o : Nat) (e : TypeId) (cs : List Value) (v : Value) (l : List UInt8) : Prop where
  blk : Blk w b cs e
  at_ : cs[o]? = some v
  own : w.ownsRow B 5 1 v l.length (bvs l)
  ap : b ∉ blkOf v
  base : B ≤ w.heap.size
/-- From one state of a writer to a later one. -/
structure WT (w w' : World) (b : Nat) (v v' : Value) : Prop where
  kp : Keep (b :: blkOf v) w w'
  bl : blkOf v' = blkOf v ∨ ∀ g ∈ blkOf v', w.heap.size ≤ g
theorem WT.tr {w w1 w2 : World} {b : Nat} {v v1 v2 : Value} (h : WT w w1 b v v1) (k : WT w1 w2 b v1 v2) : WT w w2 b v v2 := by
  have hs := h.kp.size
  refine ⟨h.kp.trans k.kp (fun x hx _ => hx) (fun x hx hlt => ?_), ?_⟩
  · rcases List.mem_cons.1 hx with rfl | hx
    · simp
    · rcases h.bl with e | hf
      · rw [e] at hx; exact List.mem_cons_of_mem _ hx
      · have := hf x hx; omega
  · rcases k.bl with e | hf
    · rw [e]; exact h.bl
    · exact .inr fun g hg => by have := hf g hg; omega
theorem WT.refl (w : World) (b : Nat) (v : Value) : WT w w b v v := ⟨Keep.refl _ _, .inl rfl⟩
theorem WT.k0 {w w' : World} (k : Keep [] w w') (b : Nat) (v : Value) : WT w w' b v v := ⟨k.mono (by simp), .inl rfl⟩
theorem WS.kp {w w' : World} {B b o : Nat} {e : TypeId} {cs : List Value} {v : Value} {l : List UInt8} (h : WS w B b o e cs v l) (k : Keep [] w w') : WS w' B b o e cs v l :=
  ⟨h.blk.kp k (by simp), h.at_, owns_kp h.own k (by simp), h.ap, Nat.le_trans h.base k.size⟩
theorem WS.ld {w : World} {B b o : Nat} {e : TypeId} {cs : List Value} {v : Value} {l : List UInt8} {K : KT} (h : WS w B b o e cs v l) (hk : K v w) : optW (nilO (.pointer (some ⟨b, o, none⟩))) w fun p w => optW (fadO 0 p) w fun q w => optW (ld1 q w) w K := by
  refine s_nilP (s_fad ?_)
  refine s_ld (v := v) ?_ hk
  rw [add_mid, h.blk.cell]
  exact h.at_
/-- The end of a call: the slice is put back. -/
theorem WS.st {w w1 : World} {B b o : Nat} {e : TypeId} {cs : List Value} {v v' : Value} {l l' : List UInt8} {K : World → Prop} (h : WS w B b o e cs v l) (ho : w1.ownsRow B 5 1 v' l'.length (bvs l')) (k : Keep (blkOf v) w w1) (hb : blkOf v' = blkOf v ∨ ∀ g ∈ blkOf v', w.heap.size ≤ g)
    (hK : ∀ w', WS w' B b o e (cs.set o v') v' l' → WT w w' b v v' → K w') : optW (nilO (.pointer (some ⟨b, o, none⟩))) w1 fun p w => optW (fadO 0 p) w fun q w => st1 q v' w K := by
  have hlt := h.blk.lt
  have hol : o < cs.length := by
    by_cases hx : o < cs.length
    · exact hx
    · have := h.at_; rw [List.getElem?_eq_none (by omega)] at this; cases this
  have hap' : b ∉ blkOf v' := by
    rcases hb with e | hf
    · rw [e]; exact h.ap
    · intro hx; have := hf b hx; omega
  refine s_nilP (s_fad ?_)
  rw [add_mid]
  have hb1 := h.blk.kp k h.ap
  refine s_st ⟨_, by rw [hb1.cell]; exact List.getElem?_eq_getElem (by omega)⟩ (hb1.frozen _) (slice_one (owns_Sl ho)) ?_
  have ks : Keep [b] w1 (w1.setCell ⟨b, o + 0, none⟩ v') := (Keep.refl _ _).setCell (fun _ => by simp) v'
  refine hK _ ⟨hb1.set _ _, ?_, owns_kp ho ks (fun x hx hx' => by simp at hx'; subst hx'; exact hap' hx), hap', Nat.le_trans (Nat.le_trans h.base k.size) ks.size⟩ ⟨k.trans ks (fun x hx _ => List.mem_cons_of_mem _ hx) (fun x hx _ => by simp at hx; simp [hx]), hb⟩
  exact List.getElem?_set_self hol
theorem wbyte_c {w : World} {B b o : Nat} {e : TypeId} {cs : List Value} {v : Value} {l : List UInt8} (h : WS w B b o e cs v l) (hl : l.length ≤ 1099511627776) (c : UInt8) :
    CallsR Try.prog 12 #[.pointer (some ⟨b, o, none⟩), bv c] w fun r w' => r = .tuple #[] ∧ ∃ v', WS w' B b o e (cs.set o v') v' (l ++ [c]) ∧ WT w w' b v v' := by
  apply codec_Writer_Byte.sound
  unfold codec_Writer_Byte.J codec_Writer_Byte.C1
  refine h.ld ?_
  refine s_push2 eU8 h.base h.own hl ?_
  intro v' w1 ho k hb
  refine h.st ho k hb ?_
  intro w' hw ht
  exact ⟨rfl, v', hw, ht⟩
theorem wraw_c {w w0 : World} {B b o : Nat} {e : TypeId} {cs : List Value} {v x : Value} {l r : List UInt8} (h : WS w B b o e cs v l) (hx : SB w0 x r) (hk : Keep [] w0 w) (hl : l.length + r.length ≤ 1099511627776) :
    CallsR Try.prog 16 #[.pointer (some ⟨b, o, none⟩), x] w fun q w' => q = .tuple #[] ∧ ∃ v', WS w' B b o e (cs.set o v') v' (l ++ r) ∧ WT w w' b v v' := by
  apply codec_Writer_Raw.sound
  unfold codec_Writer_Raw.J codec_Writer_Raw.C1
  refine h.ld ?_
  refine s_appB h.own hx hk (by omega) h.base ?_
  intro v' w1 ho k hb
  refine h.st ho k hb ?_
  intro w' hw ht
  exact ⟨rfl, v', hw, ht⟩
theorem wsum_c {w : World} {B b o : Nat} {e : TypeId} {cs : List Value} {v : Value} {l s : List UInt8} (h : WS w B b o e cs v l) (hs : s.length = 32) (hl : l.length + 32 ≤ 1099511627776) :
    CallsR Try.prog 18 #[.pointer (some ⟨b, o, none⟩), .agg (bvs s).toArray] w fun q w' => q = .tuple #[] ∧ ∃ v', WS w' B b o e (cs.set o v') v' (l ++ s) ∧ WT w w' b v v' := by
  apply codec_Writer_Sum.sound
  unfold codec_Writer_Sum.J codec_Writer_Sum.C1
  refine s_newB (l := bvs s) rfl ?_
  intro w1 hb1 k1 _
  refine s_slAll (by omega) ?_
  refine (wraw_c (h.kp k1) (hb1.sb hs) (Keep.refl _ _) (by omega)).mono ?_
  rintro r w2 ⟨rfl, v', hw, ht⟩
  exact ⟨rfl, v', hw, (WT.k0 k1 b v).tr ht⟩
theorem wbytes_c {w : World} {B b o : Nat} {e : TypeId} {cs : List Value} {v : Value} {l : List UInt8} (h : WS w B b o e cs v l) (hl : l.length ≤ 1099511627776) :
    CallsR Try.prog 8 #[.pointer (some ⟨b, o, none⟩)] w fun r w' => r = .slice (some ⟨w.heap.size, 0, none⟩) l.length l.length ∧ Keep [] w w' ∧ Blk w' w.heap.size (bvs l) 5 := by
  apply codec_Writer_Bytes.sound
  unfold codec_Writer_Bytes.J codec_Writer_Bytes.C1
  have hsb : SB w v l := owns_Sl h.own
  refine h.ld ?_
  refine SB.len hsb ?_
  refine s_makeB eU8 rfl rfl (by omega) ?_
  intro w1 k1 hs1 hb1
  refine (h.kp k1).ld ?_
  refine s_copyB eU8 hb1 (by simp) (hsb.kp0 k1) ?_
  intro w2 hb2 k2
  have e1 : l.take l.length ++ (List.replicate l.length 0).drop l.length = l := by simp
  rw [e1] at hb2
  exact ⟨rfl, keep2 k1 k2 (Nat.le_refl _), hb2⟩
theorem u8_shr (n i : Nat) (hi : i ≤ 64) {k : IntKind} (hk : i ≤ k.bits) : IntKind.u8.wrap ((n : Int).fdiv (2 ^ min ((i : Nat) : Int).toNat k.bits)) = ((UInt8.ofNat (n / 2 ^ i)).toNat : Int) := by
  rw [Int.fdiv_eq_ediv_of_nonneg _ (Int.pow_nonneg (by omega)), show min ((i : Nat) : Int).toNat k.bits = i by simp; omega]
  have h1 : (n : Int) / (2 : Int) ^ i = ((n / 2 ^ i : Nat) : Int) := by simp
  rw [h1]
  generalize n / 2 ^ i = m
  simp [IntKind.wrap, IntKind.bits, IntKind.signed]
theorem be_4 (n : Nat) : be n 4 = [UInt8.ofNat (n / 2 ^ 24), UInt8.ofNat (n / 2 ^ 16), UInt8.ofNat (n / 2 ^ 8), UInt8.ofNat n] := by
  simp only [be, List.nil_append, List.cons_append, Nat.div_div_eq_div_mul]
theorem wword_c {w : World} {B b o : Nat} {e : TypeId} {cs : List Value} {v : Value} {l : List UInt8} (h : WS w B b o e cs v l) (n : Nat) (hn : n < 4294967296) (hl : l.length + 4 ≤ 1099511627776) :
    CallsR Try.prog 13 #[.pointer (some ⟨b, o, none⟩), .int .u32 (n : Int)] w fun q w' => q = .tuple #[] ∧ ∃ v', WS w' B b o e (cs.set o v') v' (l ++ be n 4) ∧ WT w w' b v v' := by
  apply codec_Writer_Word.sound
  unfold codec_Writer_Word.J codec_Writer_Word.C1
  have one : ∀ (i : Nat) (hi : i ≤ 24) {K : KT} {w' : World}, (∀ w, CallsR Try.prog 12 #[.pointer (some ⟨b, o, none⟩), bv (UInt8.ofNat (n / 2 ^ i))] w K → optW (shO .shr (.int .u32 (n : Int)) (.int .i64 ((i : Nat) : Int))) w fun a w => optW (cvO .u8 a) w fun c w => CallsR Try.prog 12 #[.pointer (some ⟨b, o, none⟩), c] w K) := by
    intro i hi K _ w hc
    refine s_shr (by omega) ?_
    refine s_cv ?_
    rw [u8_shr n i (by omega) (by show i ≤ 32; omega)]
    exact hc
  have step : ∀ (i : Nat) (k : Nat) (cs1 : List Value) (v1 : Value) (l1 : List UInt8) (w1 : World), i ≤ 24 → WS w1 B b o e cs1 v1 l1 → l1.length ≤ 1099511627776 - 1 → ∀ {K : KT} {kx : V0},
      (∀ v2 w2, WS w2 B b o e (cs1.set o v2) v2 (l1 ++ [UInt8.ofNat (n / 2 ^ i)]) → WT w1 w2 b v1 v2 → codec_Writer_Word.L2 K kx k (.pointer (some ⟨b, o, none⟩)) (.int .u32 (n : Int)) (.int .i64 ((i : Int) - 8)) w2) →
      codec_Writer_Word.L2 K kx (k + 1) (.pointer (some ⟨b, o, none⟩)) (.int .u32 (n : Int)) (.int .i64 (i : Int)) w1 := by
    intro i k cs1 v1 l1 w1 hi hw hl1 K kx hk
    unfold codec_Writer_Word.L2 codec_Writer_Word.C2
    refine s_geq ?_
    refine s_cndT (by omega) ?_
    refine one i hi (w' := w1) w1 ?_
    refine (wbyte_c hw (by omega) _).mono ?_
    rintro r w2 ⟨rfl, v2, hw2, ht2⟩
    refine s_subi (by rw [i64min, i64max]; omega) ?_
    exact hk v2 w2 hw2 ht2
  refine ⟨5, ?_⟩
  refine step 24 4 cs v l w (by omega) h (by omega) ?_
  intro v1 w1 h1 t1
  refine step 16 3 _ v1 _ w1 (by omega) h1 (by simp; omega) ?_
  intro v2 w2 h2 t2
  refine step 8 2 _ v2 _ w2 (by omega) h2 (by simp; omega) ?_
  intro v3 w3 h3 t3
  refine step 0 1 _ v3 _ w3 (by omega) h3 (by simp; omega) ?_
  intro v4 w4 h4 t4
  unfold codec_Writer_Word.L2 codec_Writer_Word.C2
  refine s_geq ?_
  refine s_cndF (by omega) ?_
  refine ⟨rfl, v4, ?_, ((t1.tr t2).tr t3).tr t4⟩
  rw [be_4]
  simpa using h4
theorem be_8 (n : Nat) : be n 8 = be (n / 4294967296) 4 ++ be n 4 := by
  rw [be_4, be_4]
  simp only [be, List.nil_append, List.cons_append, Nat.div_div_eq_div_mul]
theorem wlong_c {w : World} {B b o : Nat} {e : TypeId} {cs : List Value} {v : Value} {l : List UInt8} (h : WS w B b o e cs v l) (n : Nat) (hn : n < 18446744073709551616) (hl : l.length + 8 ≤ 1099511627776) :
    CallsR Try.prog 14 #[.pointer (some ⟨b, o, none⟩), .int .u64 (n : Int)] w fun q w' => q = .tuple #[] ∧ ∃ v', WS w' B b o e (cs.set o v') v' (l ++ be n 8) ∧ WT w w' b v v' := by
  apply codec_Writer_Long.sound
  unfold codec_Writer_Long.J codec_Writer_Long.C1
  refine s_shr (by omega) ?_
  refine s_cv ?_
  have e1 : IntKind.u32.wrap ((n : Int).fdiv (2 ^ min (32 : Int).toNat IntKind.u64.bits)) = ((n / 4294967296 : Nat) : Int) := by
    rw [show (2 : Int) ^ min (32 : Int).toNat IntKind.u64.bits = 4294967296 by decide, Int.fdiv_eq_ediv_of_nonneg _ (by omega), u32wrap]
    omega
  rw [e1]
  refine (wword_c h _ (by omega) (by omega)).mono ?_
  rintro r w1 ⟨rfl, v1, h1, t1⟩
  refine s_cv ?_
  have e2 : IntKind.u32.wrap (n : Int) = ((n % 4294967296 : Nat) : Int) := by rw [u32wrap]; omega
  rw [e2]
  refine (wword_c h1 _ (by omega) (by rw [List.length_append, be_len]; omega)).mono ?_
  rintro r w2 ⟨rfl, v2, h2, t2⟩
  refine ⟨rfl, v2, ?_, t1.tr t2⟩
  have e3 : be (n % 4294967296) 4 = be n 4 := by
    rw [be_4, be_4]
    have q : ∀ m m' : Nat, m % 256 = m' % 256 → UInt8.ofNat m = UInt8.ofNat m' := fun m m' hm => by
      apply UInt8.toNat_inj.1
      simpa using hm
    rw [q (n % 4294967296 / 2 ^ 24) (n / 2 ^ 24) (by omega), q (n % 4294967296 / 2 ^ 16) (n / 2 ^ 16) (by omega), q (n % 4294967296 / 2 ^ 8) (n / 2 ^ 8) (by omega), q (n % 4294967296) n (by omega)]
  rw [be_8, ← List.append_assoc, ← e3]
  simpa using h2
end Go.Proofs.Ytmljgkjcoemadaa
