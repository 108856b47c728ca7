/-
  Hexadecimal read back: what both sides' functions compute.
-/
import Derived.Test.YtklieghmbhofnaaHex
namespace Go.Proofs.Ytklieghmbhofnaa
open Go Go.Ev Go.RowKit
set_option maxRecDepth 100000
/-- A digit's number, -1 where it is none. -/
def hx (c : UInt8) : Int := Lib.indexByte digs.data.toList c
def hn (c : UInt8) : Nat := (hx c).toNat
theorem all256 {p : UInt8 → Bool} (h : ((List.range 256).all fun n => p (UInt8.ofNat n)) = true) (c : UInt8) : p c = true := by
  have := List.all_eq_true.1 h c.toNat (by simpa using c.toNat_lt)
  simpa using this
theorem hx_lt (c : UInt8) : -1 ≤ hx c ∧ hx c ≤ 15 := by
  have := all256 (p := fun c => decide (-1 ≤ hx c ∧ hx c ≤ 15)) (by decide +kernel) c
  simpa using this
def rd (c : UInt8) : Nat → Int
  | 0 => -1
  | k + 1 => if dg k = c then (k : Int) else rd c k
theorem rd_hx (c : UInt8) : rd c 16 = hx c := by
  have := all256 (p := fun c => decide (rd c 16 = hx c)) (by decide +kernel) c
  simpa using this
theorem rd_lt (c : UInt8) : ∀ k, -1 ≤ rd c k ∧ rd c k < k
  | 0 => by simp [rd]
  | k + 1 => by
    have := rd_lt c k
    unfold rd
    split <;> omega
/-- Cell j when i digits were read. -/
def cellAt (t : List UInt8) (i j : Nat) : Nat := if 2 * j + 1 < i then 16 * hn (t.getD (2 * j) 0) + hn (t.getD (2 * j + 1) 0) else if 2 * j < i then hn (t.getD (2 * j) 0) else 0
theorem hn_lt (c : UInt8) : hn c ≤ 15 := by
  have := hx_lt c
  unfold hn
  omega
theorem cellAt_lt (t : List UInt8) (i j : Nat) : cellAt t i j < 256 := by
  unfold cellAt
  have := hn_lt (t.getD (2 * j) 0)
  have := hn_lt (t.getD (2 * j + 1) 0)
  split
  · omega
  · split <;> omega
def pst (t : List UInt8) (i : Nat) : List UInt8 := (List.range 32).map fun j => UInt8.ofNat (cellAt t i j)
theorem pst_len (t : List UInt8) (i : Nat) : (pst t i).length = 32 := by simp [pst]
theorem pst_zero (t : List UInt8) : pst t 0 = List.replicate 32 0 := by
  unfold pst
  rw [List.eq_replicate_iff]
  simp [cellAt]
theorem cellAt_half (t : List UInt8) (i : Nat) : cellAt t i (i / 2) < 16 ∧ cellAt t (i + 1) (i / 2) = cellAt t i (i / 2) * 16 + hn (t.getD i 0) := by
  unfold cellAt
  have := hn_lt (t.getD (2 * (i / 2)) 0)
  rcases Nat.mod_two_eq_zero_or_one i with h | h
  · have e : 2 * (i / 2) = i := by omega
    simp [e, show ¬ (i + 1 < i) by omega]
  · have e : 2 * (i / 2) + 1 = i := by omega
    rw [if_neg (by omega), if_pos (by omega), if_pos (by omega), e]
    omega
theorem pst_set (t : List UInt8) (i : Nat) (hi : i < 64) : (bvs (pst t i)).set (i / 2) (bv (UInt8.ofNat (cellAt t i (i / 2) * 16 + hn (t.getD i 0)))) = bvs (pst t (i + 1)) := by
  have h := cellAt_half t i
  rw [← h.2]
  apply List.ext_getElem?
  intro j
  simp only [bvs, pst, List.getElem?_set, List.getElem?_map, List.length_map, List.length_range]
  by_cases hj : i / 2 = j
  · subst hj
    simp [show i / 2 < 32 by omega]
  · rw [if_neg hj]
    by_cases hj2 : j < 32
    · rw [List.getElem?_range hj2]
      simp only [Option.map_some]
      have : cellAt t (i + 1) j = cellAt t i j := by
        unfold cellAt
        by_cases h1 : 2 * j + 1 < i
        · rw [if_pos (by omega), if_pos h1]
        · rw [if_neg (by omega), if_neg h1]
          by_cases h2 : 2 * j < i
          · rw [if_pos (by omega), if_pos h2]
          · rw [if_neg (by omega), if_neg h2]
      rw [this]
    · have : (List.range 32)[j]? = none := by simp; omega
      rw [this]
      rfl
def okTo (t : List UInt8) (i : Nat) : Prop := ∀ k, k < i → 0 ≤ hx (t.getD k 0)
def ParseR (t p : List UInt8) (e : Int) : Prop := (t.length = 64 ∧ okTo t 64 ∧ p = pst t 64 ∧ e = 0) ∨ ((t.length ≠ 64 ∨ ¬ okTo t 64) ∧ p = List.replicate 32 0 ∧ e = 10)
theorem ParseR.uniq {t p q : List UInt8} {e f : Int} (h : ParseR t p e) (k : ParseR t q f) : p = q ∧ e = f := by
  rcases h with ⟨h1, h2, rfl, rfl⟩ | ⟨h1, rfl, rfl⟩ <;> rcases k with ⟨k1, k2, rfl, rfl⟩ | ⟨k1, rfl, rfl⟩
  · exact ⟨rfl, rfl⟩
  · rcases k1 with k1 | k1
    · exact absurd h1 k1
    · exact absurd h2 k1
  · rcases h1 with h1 | h1
    · exact absurd k1 h1
    · exact absurd k2 h1
  · exact ⟨rfl, rfl⟩
theorem ParseR.len {t p : List UInt8} {e : Int} (h : ParseR t p e) : p.length = 32 := by
  rcases h with ⟨_, _, rfl, _⟩ | ⟨_, rfl, _⟩
  · exact pst_len _ _
  · simp
theorem s_res {P : Program} {w : World} {K : Value → Prop} {t : TypeId} {b n : Nat} {d : TypeDesc} {vs : List Value} (hu : P.underlying t = some d) (hd : d.isRow = true) (hi : (P.info? t).map (·.size) = some n) (hn : vs.length = n)
    (hb : HasL w b 0 vs) (h : K (.agg vs.toArray)) : resC P (.pointer (some ⟨b, 0, none⟩)) t w K := by
  subst hn
  refine ⟨_, ?_, h⟩
  rw [Sem.run_bind]
  show ((Result.ok _ w).andThen _) = _
  rw [Result.andThen_ok]
  exact run_loadVar_mid w b 0 t vs d hb hu hd hi
theorem tSum : (Try.prog.info? 25).map (·.size) = some 32 := by kernel_rfl
theorem s_resSum {w : World} {K : Value → Prop} {b : Nat} {l : List UInt8} {e : TypeId} (hb : Blk w b (bvs l) e) (hl : l.length = 32) (h : K (.agg (bvs l).toArray)) : resC Try.prog (.pointer (some ⟨b, 0, none⟩)) 25 w K :=
  s_res Try.underlying25 rfl tSum (by simp [hl]) hb.has h
def zs : List UInt8 := List.replicate 32 0
theorem s_zero {w : World} {K : Value → World → Prop} (h : K (.agg (bvs zs).toArray) w) : semW Try.prog (Instr.build 25 #[]) w K := ⟨_, w, by kernel_rfl, h⟩
theorem idx_at {s : ByteArray} {i : Nat} (h : i < s.size) : s[i]? = some (s.data.toList.getD i 0) := by
  have h' : i < s.data.toList.length := by simpa using h
  rw [show s[i]? = s.data[i]? from by simp only [getElem?_def]; rfl, ← Array.getElem?_toList, List.getD_eq_getElem?_getD, List.getElem?_eq_getElem h']
  rfl
theorem pst_at (t : List UInt8) (i j : Nat) (hj : j < 32) : (bvs (pst t i))[j]? = some (bv (UInt8.ofNat (cellAt t i j))) := by
  simp only [bvs, pst, List.getElem?_map]
  rw [List.getElem?_range hj]
  rfl
theorem orN : ((List.range 16).all fun x => (List.range 16).all fun d => decide ((BitVec.ofInt 8 (((x : Nat) : Int) * 16) ||| BitVec.ofInt 8 ((d : Nat) : Int)).toNat = x * 16 + d)) = true := by decide +kernel
theorem or_at (x d : Nat) (hx : x < 16) (hd : d < 16) : (BitVec.ofInt 8 ((x : Int) * 16) ||| BitVec.ofInt 8 (d : Int)).toNat = x * 16 + d := by
  have h1 := List.all_eq_true.1 orN x (by simpa using hx)
  have h2 := List.all_eq_true.1 h1 d (by simpa using hd)
  simpa using h2
/-- How a call of Parse may end. -/
def PQ (K : KT) (w0 : World) (t : List UInt8) : Prop := ∀ (p : List UInt8) (e : Int) (w : World), ParseR t p e → Keep [] w0 w → K (.tuple #[.agg (bvs p).toArray, .int .i64 e]) w
theorem keep2 {w0 w w' : World} {b : Nat} (k : Keep [] w0 w) (k' : Keep [b] w w') (hb : w0.heap.size ≤ b) : Keep [] w0 w' := k.trans k' (by simp) (by intro x hx hlt; simp at hx; omega)
theorem parse_loop (s : ByteArray) (hs : s.size = 64) (K : KT) (w0 : World) (b2 b4 : Nat) (h2 : w0.heap.size ≤ b2) (h4 : b2 < b4) (hK : PQ K w0 s.data.toList) :
    ∀ (k i : Nat) (w : World), k + i = 65 → 1 ≤ k → Keep [] w0 w → Blk w b2 (bvs zs) 25 → Blk w b4 (bvs (pst s.data.toList i)) 25 → okTo s.data.toList i →
      digest_Parse.L3 K (digest_Parse.C2 K) k (.string s) (.pointer (some ⟨b2, 0, none⟩)) (.pointer (some ⟨b4, 0, none⟩)) (.int .i64 64) (.int .i64 i) w := by
  intro k
  induction k with
  | zero => intro i _ _ h; omega
  | succ k ih =>
    intro i w hi _ kp hb2 hb4 hok
    have hlen : s.data.toList.length = 64 := hs
    unfold digest_Parse.L3 digest_Parse.C3
    refine s_lss ?_
    refine s_cnd (fun hc => ?_) (fun hc => ?_)
    · generalize hcc : s.data.toList.getD i 0 = c
      refine s_idxT (u := c) (by omega) (by rw [← hcc]; exact idx_at (by omega)) ?_
      refine Calls.mono (Try.strings_IndexByte digs c.toNat w) ?_
      rintro e w' ⟨rfl, rfl⟩
      refine ⟨_, rfl, ?_⟩
      rw [show (c.toNat : Int).toNat.toUInt8 = c by simp]
      change optW (arO .lss (.int .i64 (hx c)) _) _ _
      have hxl := hx_lt c
      refine s_lss ?_
      refine s_cnd (fun hneg => ?_) (fun hpos => ?_)
      · refine s_zero ?_
        refine s_stNB0 hb2 (by simp [zs]) (by simp [zs]) (bvs_one _) ?_
        intro w1 hb1 k1
        refine s_resSum hb1 (by simp [zs]) ?_
        refine hK zs 10 w1 (.inr ⟨.inr ?_, rfl, rfl⟩) (keep2 kp k1 h2)
        intro ho
        have := ho i (by omega)
        rw [hcc] at this
        omega
      · have hd : hx c = (hn c : Int) := by unfold hn; omega
        have hn15 := hn_lt c
        have hh := cellAt_half s.data.toList i
        rw [hcc] at hh
        refine s_quoi (by omega) (by omega) (by rw [i64max']; omega) ?_
        refine s_quoi (by omega) (by omega) (by rw [i64max']; omega) ?_
        rw [show ((i : Int) / 2) = ((i / 2 : Nat) : Int) by omega]
        refine s_ixA (by omega) (by omega) ?_
        refine s_ldB hb4 (v := bv (UInt8.ofNat (cellAt s.data.toList i (i / 2)))) (by rw [show 0 + ((i / 2 : Nat) : Int).toNat * 1 = i / 2 by omega]; exact pst_at _ _ _ (by omega)) ?_
        refine s_shl (by omega) ?_
        rw [show (2 : Int) ^ min (4 : Int).toNat IntKind.u8.bits = 16 by decide]
        have hcell : (UInt8.ofNat (cellAt s.data.toList i (i / 2))).toNat = cellAt s.data.toList i (i / 2) := by simp; omega
        rw [hcell, u8wrap, show ((cellAt s.data.toList i (i / 2) : Int) * 16 % 256) = (cellAt s.data.toList i (i / 2) : Int) * 16 by omega]
        rw [show Lib.indexByte digs.data.toList c = (hn c : Int) from hd]
        refine s_cvi (by have : IntKind.u8.min = 0 := by decide
                         have : IntKind.u8.max = 255 := by decide
                         omega) ?_
        refine s_or ?_
        rw [show IntKind.u8.bits = 8 by rfl, or_at _ _ hh.1 (by omega), u8wrap, show (((cellAt s.data.toList i (i / 2) * 16 + hn c : Nat) : Int) % 256) = (((UInt8.ofNat (cellAt s.data.toList i (i / 2) * 16 + hn c)).toNat : Nat) : Int) by simp]
        refine s_ixA (by omega) (by omega) ?_
        refine s_stB (i := ((i / 2 : Nat) : Int).toNat * 1) hb4 (by rw [show 0 + ((i / 2 : Nat) : Int).toNat * 1 = i / 2 by omega]; simp [pst]; omega) rfl ?_
        intro w1 hb1 k1
        rw [show 0 + ((i / 2 : Nat) : Int).toNat * 1 = i / 2 by omega] at hb1
        have hb1' : Blk w1 b4 (bvs (pst s.data.toList (i + 1))) 25 := by
          rw [← pst_set _ _ (by omega), hcc]
          exact hb1
        refine s_addi ?_ ?_
        · rw [i64min', i64max']; omega
        refine ih (i + 1) w1 (by omega) (by omega) (keep2 kp k1 (by omega)) (hb2.kp k1 (by simp; omega)) hb1' ?_
        intro j hj
        by_cases e : j = i
        · subst e
          rw [hcc]
          omega
        · exact hok j (by omega)
    · have e : i = 64 := by omega
      subst e
      unfold digest_Parse.C2
      refine s_ldNB (vs := bvs (pst s.data.toList 64)) hb4 (by simp [pst]) (by simp) ?_
      refine s_stNB0 hb2 (by simp [pst]) (by simp [zs]) (bvs_one _) ?_
      intro w1 hb1 k1
      refine s_resSum hb1 (by simp [pst]) ?_
      exact hK _ 0 w1 (.inl ⟨hlen, hok, rfl, rfl⟩) (keep2 kp k1 h2)
theorem parse_c (s : ByteArray) (hs : s.size ≤ maxLen) (w : World) : CallsR Try.prog 8 #[.string s] w fun v w' => (∃ p e, v = .tuple #[.agg (bvs p).toArray, .int .i64 e] ∧ ParseR s.data.toList p e) ∧ Keep [] w w' := by
  apply digest_Parse.sound
  unfold digest_Parse.J digest_Parse.C1
  refine s_newB (l := bvs zs) (by kernel_rfl) ?_
  intro w1 hb1 k1 hs1
  refine s_newB (l := bvs zs) (by kernel_rfl) ?_
  intro w2 hb2 k2 hs2
  refine s_lenT ?_
  refine s_neq ?_
  have hlen : s.data.toList.length = s.size := rfl
  refine s_cnd (fun hc => ?_) (fun hc => ?_)
  · refine s_zero ?_
    refine s_stNB0 (hb1.kp k2 (by simp)) (by simp [zs]) (by simp [zs]) (bvs_one _) ?_
    intro w3 hb3 k3
    refine s_resSum hb3 (by simp [zs]) ?_
    refine ⟨⟨zs, 10, rfl, .inr ⟨.inl (by omega), rfl, rfl⟩⟩, keep2 (k1.tr k2) k3 (by omega)⟩
  · refine s_lenT ?_
    have e : s.size = 64 := by omega
    rw [e]
    refine ⟨65, parse_loop s e _ w _ _ (Nat.le_refl _) hs1 (fun p e w' hp k => ⟨⟨p, e, rfl, hp⟩, k⟩) 65 0 w2 rfl (by omega) (k1.tr k2) (hb1.kp k2 (by simp)) (by rw [pst_zero]; exact hb2) (fun k hk => by omega)⟩
/-! ### the document's -/
theorem rparse_inner (s : ByteArray) (c : UInt8) (i : Nat) (hi : i < s.size) (hc : s.data.toList.getD i 0 = c) (K : KT) (p2 p4 : Value) (Q : V5) (w0 : World) (hQ : ∀ w, w.heap = w0.heap ∧ Keep [] w0 w → Q (.string s) p2 p4 (.int .i64 i) (.int .i64 (rd c 16)) w) :
    ∀ (k j : Nat) (w : World), k + j = 17 → 1 ≤ k → w.heap = w0.heap ∧ Keep [] w0 w → witnessref1_Parse.L7 K Q k (.string s) p2 p4 (.int .i64 i) (.int .i64 (rd c j)) (.int .i64 j) w := by
  intro k
  induction k with
  | zero => intro i _ _ h; omega
  | succ k ih =>
    intro j w hj _ hk
    unfold witnessref1_Parse.L7 witnessref1_Parse.C7 witnessref1_Parse.C9
    refine s_lss ?_
    refine s_cnd (fun hc' => ?_) (fun hc' => ?_)
    · refine s_drw ?_
      refine s_idxT (u := dg j) (by omega) (by rw [show ((j : Nat) : Int).toNat = j by simp]; exact digs_at (by omega)) ?_
      refine s_idxT (u := c) (by omega) (by rw [← hc, show ((i : Nat) : Int).toNat = i by simp]; exact idx_at hi) ?_
      refine s_eql ?_
      have hk' : w.drew.heap = w0.heap ∧ Keep [] w0 w.drew := ⟨hk.1, hk.2.drew⟩
      unfold witnessref1_Parse.C8
      refine s_cnd (fun he => ?_) (fun hne => ?_)
      · refine s_addi ?_ ?_
        · rw [i64min', i64max']; omega
        have e : rd c (j + 1) = (j : Int) := by unfold rd; rw [if_pos (UInt8.toNat_inj.1 (by omega))]
        have := ih (j + 1) w.drew (by omega) (by omega) hk'
        rw [e] at this
        exact this
      · refine s_addi ?_ ?_
        · rw [i64min', i64max']; omega
        have e : rd c (j + 1) = rd c j := by rw [rd, if_neg (fun h => hne (by rw [h]))]
        have := ih (j + 1) w.drew (by omega) (by omega) hk'
        rw [e] at this
        exact this
    · have e : j = 16 := by omega
      subst e
      exact hQ w hk
theorem rparse_loop (s : ByteArray) (hs : s.size = 64) (K : KT) (w0 : World) (b2 b4 : Nat) (h2 : w0.heap.size ≤ b2) (h4 : b2 < b4) (hK : PQ K w0 s.data.toList) :
    ∀ (k i : Nat) (w : World), k + i = 65 → 1 ≤ k → Keep [] w0 w → Blk w b2 (bvs zs) 25 → Blk w b4 (bvs (pst s.data.toList i)) 25 → okTo s.data.toList i →
      witnessref1_Parse.L3 K (witnessref1_Parse.C2 K) k (.string s) (.pointer (some ⟨b2, 0, none⟩)) (.pointer (some ⟨b4, 0, none⟩)) (.int .i64 i) w := by
  intro k
  induction k with
  | zero => intro i _ _ h; omega
  | succ k ih =>
    intro i w hi _ kp hb2 hb4 hok
    have hlen : s.data.toList.length = 64 := hs
    unfold witnessref1_Parse.L3 witnessref1_Parse.C3
    refine s_lss ?_
    refine s_cnd (fun hc => ?_) (fun hc => ?_)
    · generalize hcc : s.data.toList.getD i 0 = c
      unfold witnessref1_Parse.C5
      refine ⟨17, rparse_inner s c i (by omega) hcc K _ _ _ w ?_ 17 0 w rfl (by omega) ⟨rfl, Keep.refl _ _⟩⟩
      rintro w1 ⟨hheap, k1⟩
      have hb2' : Blk w1 b2 (bvs zs) 25 := hb2.kp k1 (by simp)
      have hb4' : Blk w1 b4 (bvs (pst s.data.toList i)) 25 := hb4.kp k1 (by simp)
      have kp1 : Keep [] w0 w1 := kp.tr k1
      rw [rd_hx]
      have hxl := hx_lt c
      unfold witnessref1_Parse.C6
      refine s_lss ?_
      refine s_cnd (fun hneg => ?_) (fun hpos => ?_)
      · refine s_zero ?_
        refine s_stNB0 hb2' (by simp [zs]) (by simp [zs]) (bvs_one _) ?_
        intro w2 hb1 k2
        refine s_resSum hb1 (by simp [zs]) ?_
        refine hK zs 10 w2 (.inr ⟨.inr ?_, rfl, rfl⟩) (keep2 kp1 k2 h2)
        intro ho
        have := ho i (by omega)
        rw [hcc] at this
        omega
      · have hd : hx c = (hn c : Int) := by unfold hn; omega
        have hn15 := hn_lt c
        have hh := cellAt_half s.data.toList i
        rw [hcc] at hh
        refine s_quoi (by omega) (by omega) (by rw [i64max']; omega) ?_
        refine s_quoi (by omega) (by omega) (by rw [i64max']; omega) ?_
        rw [show ((i : Int) / 2) = ((i / 2 : Nat) : Int) by omega]
        refine s_ixA (by omega) (by omega) ?_
        refine s_ldB hb4' (v := bv (UInt8.ofNat (cellAt s.data.toList i (i / 2)))) (by rw [show 0 + ((i / 2 : Nat) : Int).toNat * 1 = i / 2 by omega]; exact pst_at _ _ _ (by omega)) ?_
        have hcell : (UInt8.ofNat (cellAt s.data.toList i (i / 2))).toNat = cellAt s.data.toList i (i / 2) := by simp; omega
        have mn : IntKind.u8.min = 0 := by decide
        have mx : IntKind.u8.max = 255 := by decide
        unfold bv
        rw [hcell]
        refine s_muli (by omega) ?_
        rw [hd]
        refine s_cvi (by omega) ?_
        refine s_addi (by omega) ?_
        rw [show ((cellAt s.data.toList i (i / 2) : Int) * 16 + (hn c : Int)) = (((UInt8.ofNat (cellAt s.data.toList i (i / 2) * 16 + hn c)).toNat : Nat) : Int) by simp; omega]
        refine s_ixA (by omega) (by omega) ?_
        refine s_stB (i := ((i / 2 : Nat) : Int).toNat * 1) hb4' (by rw [show 0 + ((i / 2 : Nat) : Int).toNat * 1 = i / 2 by omega]; simp [pst]; omega) rfl ?_
        intro w2 hb1 k2
        rw [show 0 + ((i / 2 : Nat) : Int).toNat * 1 = i / 2 by omega] at hb1
        have hb1' : Blk w2 b4 (bvs (pst s.data.toList (i + 1))) 25 := by
          rw [← pst_set _ _ (by omega), hcc]
          exact hb1
        unfold witnessref1_Parse.C4
        refine s_addi ?_ ?_
        · rw [i64min', i64max']; omega
        refine ih (i + 1) w2 (by omega) (by omega) (keep2 kp1 k2 (by omega)) (hb2'.kp k2 (by simp; omega)) hb1' ?_
        intro j hj
        by_cases e : j = i
        · subst e
          rw [hcc]
          omega
        · exact hok j (by omega)
    · have e : i = 64 := by omega
      subst e
      unfold witnessref1_Parse.C2
      refine s_ldNB (vs := bvs (pst s.data.toList 64)) hb4 (by simp [pst]) (by simp) ?_
      refine s_stNB0 hb2 (by simp [pst]) (by simp [zs]) (bvs_one _) ?_
      intro w1 hb1 k1
      refine s_resSum hb1 (by simp [pst]) ?_
      exact hK _ 0 w1 (.inl ⟨hlen, hok, rfl, rfl⟩) (keep2 kp k1 h2)
theorem rparse_c (s : ByteArray) (w : World) : CallsR Try.prog 9 #[.string s] w fun v w' => (∃ p e, v = .tuple #[.agg (bvs p).toArray, .int .i64 e] ∧ ParseR s.data.toList p e) ∧ Keep [] w w' := by
  apply witnessref1_Parse.sound
  unfold witnessref1_Parse.J witnessref1_Parse.C1
  refine s_newB (l := bvs zs) (by kernel_rfl) ?_
  intro w1 hb1 k1 hs1
  refine s_newB (l := bvs zs) (by kernel_rfl) ?_
  intro w2 hb2 k2 hs2
  refine s_lenT ?_
  refine s_neq ?_
  have hlen : s.data.toList.length = s.size := rfl
  refine s_cnd (fun hc => ?_) (fun hc => ?_)
  · refine s_ldNB (vs := bvs zs) hb2 (by simp [zs]) (by simp) ?_
    refine s_stNB0 (hb1.kp k2 (by simp)) (by simp [zs]) (by simp [zs]) (bvs_one _) ?_
    intro w3 hb3 k3
    refine s_resSum hb3 (by simp [zs]) ?_
    refine ⟨⟨zs, 10, rfl, .inr ⟨.inl (by omega), rfl, rfl⟩⟩, keep2 (k1.tr k2) k3 (by omega)⟩
  · have e : s.size = 64 := by omega
    refine ⟨65, rparse_loop s e _ w _ _ (Nat.le_refl _) hs1 (fun p e w' hp k => ⟨⟨p, e, rfl, hp⟩, k⟩) 65 0 w2 rfl (by omega) (k1.tr k2) (hb1.kp k2 (by simp)) (by rw [pst_zero]; exact hb2) (fun k hk => by omega)⟩
end Go.Proofs.Ytklieghmbhofnaa
