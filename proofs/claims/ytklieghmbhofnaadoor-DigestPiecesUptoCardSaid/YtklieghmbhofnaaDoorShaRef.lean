/-
  SHA-256: what the document's functions compute.
-/
import Derived.Test.YtklieghmbhofnaaDoorD3
import Derived.Test.YtklieghmbhofnaaDoorSha
import Derived.Test.YtklieghmbhofnaaDoorChecks
import Derived.Deep.MidRow
namespace Go.Proofs.YtklieghmbhofnaaDoor
open Go Go.Ev Go.RowKit
set_option maxRecDepth 100000
theorem getD_of {α : Type} {l : List α} {i : Nat} {d : α} (h : i < l.length) : l[i]? = some (l.getD i d) := by
  rw [List.getD_eq_getElem?_getD, List.getElem?_eq_getElem h]
  rfl
abbrev uvs (l : List (BitVec 32)) : List Value := l.map uv
theorem uvs_at {l : List (BitVec 32)} {i : Nat} (h : i < l.length) : (uvs l)[i]? = some (uv (l.getD i 0)) := by
  rw [List.getElem?_map, getD_of (d := 0) h]
  rfl
theorem uvs_one (l : List (BitVec 32)) : ∀ u ∈ uvs l, u.oneCell' = true := by
  intro u hu
  obtain ⟨b, _, rfl⟩ := List.mem_map.1 hu
  rfl
theorem s_resA {P : Program} {w : World} {K : Value → Prop} {t : TypeId} {b n : Nat} {d : TypeDesc} {vs : List Value} (hu : P.underlying t = some d) (hd : d.isRow = true) (hi : (P.info? t).map (·.size) = some n) (hn : vs.length = n)
    (hb : HasL w b 0 vs) (h : K (.agg vs.toArray)) : resC P (.pointer (some ⟨b, 0, none⟩)) t w K := by
  subst hn
  refine ⟨_, ?_, h⟩
  rw [Sem.run_bind]
  show ((Result.ok _ w).andThen _) = _
  rw [Result.andThen_ok]
  exact run_loadVar_mid w b 0 t vs d hb hu hd hi
theorem keep2 {w0 w w' : World} {b : Nat} (k : Keep [] w0 w) (k' : Keep [b] w w') (hb : w0.heap.size ≤ b) : Keep [] w0 w' := k.trans k' (by simp) (by intro x hx hlt; simp at hx; omega)
theorem turned_c (x : BitVec 32) (n : Nat) (hn : n ≤ 32) (w : World) : CallsR Tryd.prog 37 #[uv x, .int .i64 (n : Int)] w fun v w' => v = uv (ror x n) ∧ Keep [] w w' := by
  apply witnessref1_turned.sound
  unfold witnessref1_turned.J witnessref1_turned.C1
  refine s_drw ?_
  refine s_shr32 hn ?_
  refine s_subi (by rw [i64min, i64max]; omega) ?_
  rw [show (32 : Int) - (n : Int) = ((32 - n : Nat) : Int) by omega]
  refine s_shl32 (by omega) ?_
  refine s_or32 ?_
  exact ⟨rfl, (Keep.refl _ _).drew⟩
theorem rounds_c (w : World) : CallsR Tryd.prog 31 #[] w fun v w' => v = .agg (uvs rounds).toArray ∧ Keep [] w w' := by
  apply witnessref1_rounds.sound
  unfold witnessref1_rounds.J witnessref1_rounds.C1
  refine s_newB (l := uvs (List.replicate 64 0)) (by kernel_rfl) ?_
  intro w1 hb k1 hs
  refine ⟨.agg (uvs rounds).toArray, w1, by kernel_rfl, ?_⟩
  refine s_stNB0 hb (by simp [rounds]) (by simp) (uvs_one _) ?_
  intro w2 hb2 k2
  refine s_resA Tryd.underlying63 rfl (n := 64) (by kernel_rfl) (by simp [rounds]) hb2.has ?_
  exact ⟨rfl, keep2 k1 k2 (Nat.le_refl _)⟩
theorem first_c (w : World) : CallsR Tryd.prog 32 #[] w fun v w' => v = .agg (uvs first).toArray ∧ Keep [] w w' := by
  apply witnessref1_first.sound
  unfold witnessref1_first.J witnessref1_first.C1
  refine s_newB (l := uvs (List.replicate 8 0)) (by kernel_rfl) ?_
  intro w1 hb k1 hs
  refine ⟨.agg (uvs first).toArray, w1, by kernel_rfl, ?_⟩
  refine s_stNB0 hb (by simp [first]) (by simp) (uvs_one _) ?_
  intro w2 hb2 k2
  refine s_resA Tryd.underlying59 rfl (n := 8) (by kernel_rfl) (by simp [first]) hb2.has ?_
  exact ⟨rfl, keep2 k1 k2 (Nat.le_refl _)⟩
/-! ### the schedule -/
def wcells (m : List UInt8) (t : Nat) : List (BitVec 32) := sched m t ++ List.replicate (64 - t) 0
theorem wcells_len (m : List UInt8) (t : Nat) (h : t ≤ 64) : (wcells m t).length = 64 := by simp [wcells, sched_len]; omega
theorem wcells_get (m : List UInt8) (t j : Nat) (h : j < t) : (wcells m t).getD j 0 = (sched m t).getD j 0 := by
  unfold wcells
  rw [List.getD_eq_getElem?_getD, List.getElem?_append_left (by rw [sched_len]; exact h), ← List.getD_eq_getElem?_getD]
theorem wcells_set (m : List UInt8) (t : Nat) (h : t < 64) : (wcells m t).set t (word m (sched m t) t) = wcells m (t + 1) := by
  unfold wcells
  rw [sched_succ, List.set_append_right _ _ (by rw [sched_len]; exact Nat.le_refl _), sched_len, Nat.sub_self, show 64 - t = (64 - (t + 1)) + 1 by omega, List.replicate_succ]
  simp
theorem uvs_set (l : List (BitVec 32)) (i : Nat) (x : BitVec 32) : (uvs l).set i (uv x) = uvs (l.set i x) := by simp [uvs, List.map_set]
/-- The word that is being made: behind 'i' of its bytes. -/
def part (m : List UInt8) (t : Nat) (i : Nat) : BitVec 32 := i.rec 0 fun i x => x * 256 + by32 (m.getD (4 * t + i) 0)
theorem part_four (m : List UInt8) (t : Nat) (l : List (BitVec 32)) (h : t < 16) : part m t 4 = word m l t := by
  unfold word
  rw [if_pos h]
  show ((((0 : BitVec 32) * 256 + by32 _) * 256 + by32 _) * 256 + by32 _) * 256 + by32 _ = be4 _ _ _ _
  unfold be4
  rw [show ((0 : BitVec 32) * 256 : BitVec 32) = 0#32 from rfl, BitVec.zero_add]
  rfl
theorem ldw {w : World} {b : Nat} {L : List (BitVec 32)} {e : TypeId} {j : Nat} {n : Int} (hb : Blk w b (uvs L) e) (hj : j < L.length) (hn : n = (j : Int)) : ld1 (.pointer (some ((⟨b, 0, none⟩ : Addr).add (n.toNat * 1)))) w = some (uv (L.getD j 0)) := by
  subst hn
  simp only [ld1]
  rw [add_mid, hb.cell]
  rw [show 0 + (j : Int).toNat * 1 = j by simp]
  exact uvs_at hj
theorem sub_get {l : List UInt8} {at_ j : Nat} (h : at_ + 64 ≤ l.length) (hj : j < 64) : ((l.drop at_).take 64).getD j 0 = l.getD (at_ + j) 0 := by
  rw [List.getD_eq_getElem?_getD, List.getElem?_take, if_pos hj, List.getElem?_drop, ← List.getD_eq_getElem?_getD]
theorem sched_inner (l : List UInt8) (at_ : Nat) (hat : at_ + 64 ≤ l.length) (hl : l.length ≤ 4611686018427387904) (b0 v4 : Value) (bw t : Nat) (ht : t < 16) (K : KT) (Q : V5) (w0 : World) (hb0 : SB w0 b0 l) (hblk : bw ∉ blkOf b0)
    (hQ : ∀ w, Keep [bw] w0 w → Blk w bw (uvs (wcells ((l.drop at_).take 64) (t + 1))) 63 → Q b0 (.int .i64 at_) v4 (.pointer (some ⟨bw, 0, none⟩)) (.int .i64 t) w) :
    ∀ (k i : Nat) (w : World), k + i = 5 → 1 ≤ k → Keep [bw] w0 w → Blk w bw (uvs ((wcells ((l.drop at_).take 64) t).set t (part ((l.drop at_).take 64) t i))) 63 →
      witnessref1_schedule.L13 K Q k b0 (.int .i64 at_) v4 (.pointer (some ⟨bw, 0, none⟩)) (.int .i64 t) (.int .i64 i) w := by
  intro k
  induction k with
  | zero => intro i _ _ h; omega
  | succ k ih =>
    intro i w hi _ kp hb
    unfold witnessref1_schedule.L13 witnessref1_schedule.C13
    generalize hm : (l.drop at_).take 64 = m at *
    have hwl := wcells_len m t (by omega)
    refine s_lss ?_
    refine s_cnd (fun hc => ?_) (fun hc => ?_)
    · refine s_drw ?_
      refine s_ixA (by omega) (by omega) ?_
      refine s_opt (ldw (w := w.drew) (e := 63) hb (j := t) (by simp; omega) rfl) ?_
      have e1 : ((wcells m t).set t (part m t i)).getD t 0 = part m t i := by
        rw [List.getD_eq_getElem?_getD, List.getElem?_set_self (by omega)]
        rfl
      rw [e1, show Value.int .u32 256 = uv 256 from rfl]
      refine s_mul32 ?_
      refine s_muli (by rw [i64min, i64max]; omega) ?_
      refine s_addi (by rw [i64min, i64max]; omega) ?_
      refine s_addi (by rw [i64min, i64max]; omega) ?_
      have hb0' : SB w.drew b0 l := Sl.kp hb0 kp.drew (fun b hx => by simp; rintro rfl; exact hblk hx)
      refine hb0'.get (u := bv (l.getD (at_ + (4 * t + i)) 0)) (by omega) (by rw [show ((at_ : Int) + 4 * (t : Int) + (i : Int)).toNat = at_ + (4 * t + i) by omega, bvs, List.getElem?_map, getD_of (d := 0) (by omega)]; rfl) ?_
      intro a ha
      refine s_opt ha ?_
      refine s_cv8_32 ?_
      refine s_add32 ?_
      refine s_ixA (by omega) (by omega) ?_
      refine s_stB (w := w.drew) (i := (t : Int).toNat * 1) (e := 63) hb (by simp; omega) rfl ?_
      intro w1 hb1 k1
      refine s_addi (by rw [i64min, i64max]; omega) ?_
      refine ih (i + 1) w1 (by omega) (by omega) (kp.drew.tr k1) ?_
      rw [show 0 + (t : Int).toNat * 1 = t by simp, uvs_set, List.set_set] at hb1
      have e2 : part m t (i + 1) = part m t i * 256 + by32 (l.getD (at_ + (4 * t + i)) 0) := by
        rw [← sub_get hat (by omega), hm]
        rfl
      rw [e2]
      exact hb1
    · have e : i = 4 := by omega
      subst e
      rw [part_four m t (sched m t) ht, wcells_set m t (by omega)] at hb
      exact hQ w kp hb
theorem sched_loop (l : List UInt8) (at_ : Nat) (hat : at_ + 64 ≤ l.length) (hl : l.length ≤ 4611686018427387904) (b0 : Value) (bv4 bw : Nat) (hbw : bv4 < bw) (K : KT) (w0 : World) (h4 : w0.heap.size ≤ bv4) (hb0 : SB w0 b0 l) (hblk : ∀ b ∈ blkOf b0, b < w0.heap.size)
    (hK : ∀ w, Keep [] w0 w → K (.agg (uvs (sched ((l.drop at_).take 64) 64)).toArray) w) :
    ∀ (k t : Nat) (w : World), k + t = 65 → 1 ≤ k → Keep [] w0 w → Blk w bv4 (uvs (List.replicate 64 0)) 63 → Blk w bw (uvs (wcells ((l.drop at_).take 64) t)) 63 →
      witnessref1_schedule.L3 K (witnessref1_schedule.C2 K) k b0 (.int .i64 at_) (.pointer (some ⟨bv4, 0, none⟩)) (.pointer (some ⟨bw, 0, none⟩)) (.int .i64 t) w := by
  intro k
  induction k with
  | zero => intro i _ _ h; omega
  | succ k ih =>
    intro t w hi _ kp hb4 hb
    unfold witnessref1_schedule.L3 witnessref1_schedule.C3
    generalize hm : (l.drop at_).take 64 = m at *
    have hwl := wcells_len m t (by omega)
    have hb0w : SB w b0 l := Sl.kp0 hb0 kp
    have hblk' : bw ∉ blkOf b0 := fun hx => by have := hblk bw hx; omega
    refine s_lss ?_
    refine s_cnd (fun hc => ?_) (fun hc => ?_)
    · have next : ∀ w', Keep [bw] w w' → Blk w' bw (uvs (wcells m (t + 1))) 63 → witnessref1_schedule.C4 K (witnessref1_schedule.L3 K (witnessref1_schedule.C2 K) k) b0 (.int .i64 at_) (.pointer (some ⟨bv4, 0, none⟩)) (.pointer (some ⟨bw, 0, none⟩)) (.int .i64 t) w' := by
        intro w' k' hb'
        unfold witnessref1_schedule.C4
        refine s_addi (by rw [i64min, i64max]; omega) ?_
        exact ih (t + 1) w' (by omega) (by omega) (keep2 kp k' (by omega)) (hb4.kp k' (by simp; omega)) hb'
      unfold witnessref1_schedule.C5
      refine s_lss ?_
      refine s_cnd (fun h16 => ?_) (fun h16 => ?_)
      · unfold witnessref1_schedule.C11
        have hz : part m t 0 = 0 := rfl
        have hset : (wcells m t).set t (part m t 0) = wcells m t := by
          rw [hz]
          apply List.ext_getElem?
          intro j
          rw [List.getElem?_set]
          by_cases hj : t = j
          · subst hj
            rw [if_pos rfl, if_pos (by omega)]
            unfold wcells
            rw [List.getElem?_append_right (by rw [sched_len]; exact Nat.le_refl _), sched_len, Nat.sub_self, show 64 - t = (64 - t - 1) + 1 by omega, List.replicate_succ]
            rfl
          · rw [if_neg hj]
        have := sched_inner l at_ hat hl b0 (.pointer (some ⟨bv4, 0, none⟩)) bw t (by omega) K (witnessref1_schedule.C12 K (witnessref1_schedule.C4 K (witnessref1_schedule.L3 K (witnessref1_schedule.C2 K) k))) w hb0w hblk' (fun w' k' hb' => next w' k' (by rw [hm] at hb'; exact hb')) 5 0 w rfl (by omega) (Keep.refl _ _) (by rw [hm, hset]; exact hb)
        exact ⟨5, this⟩
      · unfold witnessref1_schedule.C14 witnessref1_schedule.C6 witnessref1_schedule.D10
        have rd : ∀ (j : Nat) (n : Int), j < t → n = (j : Int) → ∀ w', Keep [] w w' → ld1 (.pointer (some ((⟨bw, 0, none⟩ : Addr).add (n.toNat * 1)))) w' = some (uv ((sched m t).getD j 0)) := by
          intro j n hj hn w' k'
          rw [← wcells_get m t j hj]
          exact ldw (hb.kp k' (by simp)) (by omega) hn
        refine ⟨fun w' => Keep [] w w', (Keep.refl _ _).drew, ?_⟩
        refine s_drw ?_
        refine s_subi (by rw [i64min, i64max]; omega) ?_
        refine s_ixA (by omega) (by omega) ?_
        refine s_rdI (rd (t - 15) _ (by omega) (by omega)) ?_
        refine (turned_c _ 7 (by omega) _).mono ?_
        rintro r w1 ⟨rfl, k1⟩
        have kk1 : Keep [] w w1 := (Keep.refl [] w).drew.tr k1
        refine ⟨kk1, ?_⟩
        refine s_subi (by rw [i64min, i64max]; omega) ?_
        refine s_ixA (by omega) (by omega) ?_
        refine s_rdI (rd (t - 15) _ (by omega) (by omega)) ?_
        refine (turned_c _ 18 (by omega) _).mono ?_
        rintro r w2 ⟨rfl, k2⟩
        have kk2 : Keep [] w w2 := kk1.tr k2
        refine ⟨kk2, ?_⟩
        refine s_xor32 ?_
        refine s_subi (by rw [i64min, i64max]; omega) ?_
        refine s_ixA (by omega) (by omega) ?_
        refine s_rdI (rd (t - 15) _ (by omega) (by omega)) ?_
        refine s_shr32 (n := 3) (by omega) ?_
        refine s_xor32 ?_
        unfold witnessref1_schedule.C7 witnessref1_schedule.D9
        refine ⟨fun w' => Keep [] w w', kk2.drew, ?_⟩
        refine s_drw ?_
        refine s_subi (by rw [i64min, i64max]; omega) ?_
        refine s_ixA (by omega) (by omega) ?_
        refine s_rdI (rd (t - 2) _ (by omega) (by omega)) ?_
        refine (turned_c _ 17 (by omega) _).mono ?_
        rintro r w3 ⟨rfl, k3⟩
        have kk3 : Keep [] w w3 := kk2.drew.tr k3
        refine ⟨kk3, ?_⟩
        refine s_subi (by rw [i64min, i64max]; omega) ?_
        refine s_ixA (by omega) (by omega) ?_
        refine s_rdI (rd (t - 2) _ (by omega) (by omega)) ?_
        refine (turned_c _ 19 (by omega) _).mono ?_
        rintro r w4 ⟨rfl, k4⟩
        have kk4 : Keep [] w w4 := kk3.tr k4
        refine ⟨kk4, ?_⟩
        refine s_xor32 ?_
        refine s_subi (by rw [i64min, i64max]; omega) ?_
        refine s_ixA (by omega) (by omega) ?_
        refine s_rdI (rd (t - 2) _ (by omega) (by omega)) ?_
        refine s_shr32 (n := 10) (by omega) ?_
        refine s_xor32 ?_
        unfold witnessref1_schedule.C8
        refine s_drw ?_
        refine s_subi (by rw [i64min, i64max]; omega) ?_
        refine s_ixA (by omega) (by omega) ?_
        refine s_opt (rd (t - 16) _ (by omega) (by omega) w4.drew kk4.drew) ?_
        refine s_add32 ?_
        refine s_subi (by rw [i64min, i64max]; omega) ?_
        refine s_ixA (by omega) (by omega) ?_
        refine s_opt (rd (t - 7) _ (by omega) (by omega) w4.drew kk4.drew) ?_
        refine s_add32 ?_
        refine s_add32 ?_
        refine s_ixA (by omega) (by omega) ?_
        refine s_stB (w := w4.drew) (i := (t : Int).toNat * 1) (e := 63) (hb.kp kk4.drew (by simp)) (by simp; omega) rfl ?_
        intro w5 hb5 k5
        refine next w5 (kk4.drew.trans k5 (by simp) (fun _ h _ => h)) ?_
        rw [show 0 + (t : Int).toNat * 1 = t by simp, uvs_set] at hb5
        rw [← wcells_set m t (by omega)]
        have e : word m (sched m t) t = (sched m t).getD (t - 16) 0 + ssig0 ((sched m t).getD (t - 15) 0) + (sched m t).getD (t - 7) 0 + ssig1 ((sched m t).getD (t - 2) 0) := by
          unfold word
          rw [if_neg (by omega)]
        rw [e]
        exact hb5
    · have e : t = 64 := by omega
      subst e
      unfold witnessref1_schedule.C2
      have hw : wcells m 64 = sched m 64 := by simp [wcells]
      rw [hw] at hb
      refine s_ldNB (vs := uvs (sched m 64)) hb (by simp [sched_len]) (by simp) ?_
      refine s_stNB0 hb4 (by simp [sched_len]) (by simp) (uvs_one _) ?_
      intro w1 hb1 k1
      refine s_resA Tryd.underlying63 rfl (n := 64) (by kernel_rfl) (by simp [sched_len]) hb1.has ?_
      exact hK w1 (keep2 kp k1 h4)
theorem schedule_c (l : List UInt8) (at_ : Nat) (hat : at_ + 64 ≤ l.length) (hl : l.length ≤ 4611686018427387904) (b0 : Value) (w : World) (hb0 : SB w b0 l) (hblk : ∀ b ∈ blkOf b0, b < w.heap.size) :
    CallsR Tryd.prog 33 #[b0, .int .i64 at_] w fun v w' => v = .agg (uvs (sched ((l.drop at_).take 64) 64)).toArray ∧ Keep [] w w' := by
  apply witnessref1_schedule.sound
  unfold witnessref1_schedule.J witnessref1_schedule.C1
  refine s_newB (l := uvs (List.replicate 64 0)) (by kernel_rfl) ?_
  intro w1 hb1 k1 hs1
  refine s_newB (l := uvs (List.replicate 64 0)) (by kernel_rfl) ?_
  intro w2 hb2 k2 hs2
  exact ⟨65, sched_loop l at_ hat hl b0 _ _ hs1 _ w (Nat.le_refl _) hb0 hblk (fun w' k => ⟨rfl, k⟩) 65 0 w2 rfl (by omega) (k1.tr k2) (hb1.kp k2 (by simp)) hb2⟩
end Go.Proofs.YtklieghmbhofnaaDoor
