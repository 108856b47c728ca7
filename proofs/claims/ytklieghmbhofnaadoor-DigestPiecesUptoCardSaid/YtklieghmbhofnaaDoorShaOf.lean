/-
  SHA-256: the document's block and digest.
-/
import Derived.Test.YtklieghmbhofnaaDoorShaRef
namespace Go.Proofs.YtklieghmbhofnaaDoor
open Go Go.Ev Go.RowKit
set_option maxRecDepth 100000
def addTo (s v : St) (i : Nat) : List (BitVec 32) := (List.range 8).map fun j => if j < i then s.l.getD j 0 + v.l.getD j 0 else v.l.getD j 0
theorem addTo_zero (s v : St) : addTo s v 0 = v.l := rfl
theorem addTo_eight (s v : St) : addTo s v 8 = (s.add v).l := rfl
theorem addTo_len (s v : St) (i : Nat) : (addTo s v i).length = 8 := by simp [addTo]
theorem addTo_get (s v : St) (i : Nat) (h : i < 8) : (addTo s v i).getD i 0 = v.l.getD i 0 := by
  unfold addTo
  rw [List.getD_eq_getElem?_getD, List.getElem?_map, List.getElem?_range h]
  simp
theorem addTo_set (s v : St) (i : Nat) (h : i < 8) : (addTo s v i).set i (s.l.getD i 0 + v.l.getD i 0) = addTo s v (i + 1) := by
  apply List.ext_getElem?
  intro j
  rw [List.getElem?_set]
  by_cases hj : i = j
  · subst hj
    rw [if_pos rfl, addTo_len, if_pos h]
    unfold addTo
    rw [List.getElem?_map, List.getElem?_range h]
    simp
  · rw [if_neg hj]
    unfold addTo
    by_cases hj8 : j < 8
    · rw [List.getElem?_map, List.getElem?_map, List.getElem?_range hj8]
      simp only [Option.map_some]
      by_cases hji : j < i
      · rw [if_pos hji, if_pos (by omega)]
      · rw [if_neg hji, if_neg (by omega)]
    · rw [List.getElem?_eq_none (by simp; omega), List.getElem?_eq_none (by simp; omega)]
theorem stl_len (s : St) : s.l.length = 8 := rfl
/-! ### the document's block -/
theorem rblock_fin (s v : St) (b3 b6 b7 : Nat) (h67 : b6 < b7) (h36 : b3 < b6) (K : KT) (w0 : World) (h3 : w0.heap.size ≤ b3) (hK : ∀ w, Keep [] w0 w → K (.agg (uvs (s.add v).l).toArray) w) :
    ∀ (k i : Nat) (w : World), k + i = 9 → 1 ≤ k → Keep [] w0 w → Blk w b3 (uvs s.l) 59 → Blk w b6 (uvs (List.replicate 8 0)) 59 → Blk w b7 (uvs (addTo s v i)) 59 →
      witnessref1_block.L4 K (witnessref1_block.C3 K) k (.pointer (some ⟨b3, 0, none⟩)) (.pointer (some ⟨b6, 0, none⟩)) (.pointer (some ⟨b7, 0, none⟩)) (.int .i64 i) w := by
  intro k
  induction k with
  | zero => intro i _ _ h; omega
  | succ k ih =>
    intro i w hi _ kp hb3 hb6 hb7
    unfold witnessref1_block.L4 witnessref1_block.C4
    have hl := addTo_len s v i
    refine s_lss ?_
    refine s_cnd (fun hc => ?_) (fun hc => ?_)
    · refine s_drw ?_
      refine s_ixA (by omega) (by omega) ?_
      refine s_opt (ldw (w := w.drew) (e := 59) hb7 (j := i) (by omega) rfl) ?_
      refine s_ixA (by omega) (by omega) ?_
      refine s_opt (ldw (w := w.drew) (e := 59) hb3 (j := i) (by rw [stl_len]; omega) rfl) ?_
      refine s_add32 ?_
      refine s_ixA (by omega) (by omega) ?_
      refine s_stB (w := w.drew) (i := (i : Int).toNat * 1) (e := 59) hb7 (by simp; omega) rfl ?_
      intro w1 hb1 k1
      refine s_addi (by rw [i64min, i64max]; omega) ?_
      rw [show 0 + (i : Int).toNat * 1 = i by simp, uvs_set, addTo_get s v i (by omega), BitVec.add_comm, addTo_set s v i (by omega)] at hb1
      have k1' : Keep [b7] w w1 := (Keep.refl [b7] w).drew.tr k1
      exact ih (i + 1) w1 (by omega) (by omega) (keep2 kp k1' (by omega)) (hb3.kp k1' (by simp; omega)) (hb6.kp k1' (by simp; omega)) hb1
    · have e : i = 8 := by omega
      subst e
      unfold witnessref1_block.C3
      rw [addTo_eight] at hb7
      refine s_ldNB (vs := uvs (s.add v).l) hb7 (by simp [stl_len]) (by simp) ?_
      refine s_stNB0 hb6 (by simp [stl_len]) (by simp) (uvs_one _) ?_
      intro w1 hb1 k1
      refine s_resA Tryd.underlying59 rfl (n := 8) (by kernel_rfl) (by simp [stl_len]) hb1.has ?_
      exact hK w1 (keep2 kp k1 (by omega))
theorem rblock_loop (s : St) (ws : List (BitVec 32)) (hws : ws.length = 64) (b3 b4 b5 b6 b7 : Nat) (h34 : b3 < b4) (h45 : b4 < b5) (h56 : b5 < b6) (h67 : b6 < b7) (K : KT) (w0 : World) (h3 : w0.heap.size ≤ b3) (hK : ∀ w, Keep [] w0 w → K (.agg (uvs (s.add (rn s ws 64)).l).toArray) w) :
    ∀ (k t : Nat) (w : World), k + t = 65 → 1 ≤ k → Keep [] w0 w → Blk w b3 (uvs s.l) 59 → Blk w b4 (uvs ws) 63 → Blk w b5 (uvs rounds) 63 → Blk w b6 (uvs (List.replicate 8 0)) 59 → Blk w b7 (uvs (rn s ws t).l) 59 →
      witnessref1_block.L5 K (witnessref1_block.C2 K) k (.pointer (some ⟨b3, 0, none⟩)) (.pointer (some ⟨b4, 0, none⟩)) (.pointer (some ⟨b5, 0, none⟩)) (.pointer (some ⟨b6, 0, none⟩)) (.pointer (some ⟨b7, 0, none⟩)) (.int .i64 t) w := by
  intro k
  induction k with
  | zero => intro i _ _ h; omega
  | succ k ih =>
    intro t w hi _ kp hb3 hb4 hb5 hb6 hb7
    unfold witnessref1_block.L5 witnessref1_block.C5
    refine s_lss ?_
    refine s_cnd (fun hc => ?_) (fun hc => ?_)
    · generalize hv : rn s ws t = v at *
      have rd : ∀ (j : Nat) (n : Int), j < 8 → n = (j : Int) → ∀ w', Keep [] w w' → ld1 (.pointer (some ((⟨b7, 0, none⟩ : Addr).add (n.toNat * 1)))) w' = some (uv (v.l.getD j 0)) := by
        intro j n hj hn w' k'
        exact ldw (hb7.kp k' (by simp)) (by rw [stl_len]; omega) hn
      unfold witnessref1_block.C7 witnessref1_block.D11
      refine ⟨fun w' => Keep [] w w', (Keep.refl _ _).drew, ?_⟩
      refine s_drw ?_
      refine s_ixA (by omega) (by omega) ?_
      refine s_rdI (rd 4 _ (by omega) (by omega)) ?_
      refine (turned_c _ 6 (by omega) _).mono ?_
      rintro r w1 ⟨rfl, k1⟩
      have kk1 : Keep [] w w1 := (Keep.refl [] w).drew.tr k1
      refine ⟨kk1, ?_⟩
      refine s_ixA (by omega) (by omega) ?_
      refine s_rdI (rd 4 _ (by omega) (by omega)) ?_
      refine (turned_c _ 11 (by omega) _).mono ?_
      rintro r w2 ⟨rfl, k2⟩
      have kk2 : Keep [] w w2 := kk1.tr k2
      refine ⟨kk2, ?_⟩
      refine s_xor32 ?_
      refine s_ixA (by omega) (by omega) ?_
      refine s_rdI (rd 4 _ (by omega) (by omega)) ?_
      refine (turned_c _ 25 (by omega) _).mono ?_
      rintro r w3 ⟨rfl, k3⟩
      have kk3 : Keep [] w w3 := kk2.tr k3
      refine ⟨kk3, ?_⟩
      refine s_xor32 ?_
      unfold witnessref1_block.C8
      refine s_ixA (by omega) (by omega) ?_
      refine s_opt (rd 4 _ (by omega) (by omega) w3 kk3) ?_
      refine s_ixA (by omega) (by omega) ?_
      refine s_opt (rd 5 _ (by omega) (by omega) w3 kk3) ?_
      refine s_and32 ?_
      refine s_ixA (by omega) (by omega) ?_
      refine s_opt (rd 4 _ (by omega) (by omega) w3 kk3) ?_
      refine s_not32 ?_
      refine s_ixA (by omega) (by omega) ?_
      refine s_opt (rd 6 _ (by omega) (by omega) w3 kk3) ?_
      refine s_and32 ?_
      refine s_xor32 ?_
      refine s_drw ?_
      have kk3d : Keep [] w w3.drew := kk3.drew
      refine s_ixA (by omega) (by omega) ?_
      refine s_opt (rd 7 _ (by omega) (by omega) w3.drew kk3d) ?_
      refine s_add32 ?_
      refine s_add32 ?_
      refine s_ixA (by omega) (by omega) ?_
      refine s_opt (ldw (w := w3.drew) (e := 63) (hb5.kp kk3d (by simp)) (j := t) (by simp [rounds]; omega) rfl) ?_
      refine s_add32 ?_
      refine s_ixA (by omega) (by omega) ?_
      refine s_opt (ldw (w := w3.drew) (e := 63) (hb4.kp kk3d (by simp)) (j := t) (by omega) rfl) ?_
      refine s_add32 ?_
      unfold witnessref1_block.D10
      refine ⟨fun w' => Keep [] w w', kk3d.drew, ?_⟩
      refine s_drw ?_
      refine s_ixA (by omega) (by omega) ?_
      refine s_rdI (rd 0 _ (by omega) (by omega)) ?_
      refine (turned_c _ 2 (by omega) _).mono ?_
      rintro r w4 ⟨rfl, k4⟩
      have kk4 : Keep [] w w4 := kk3d.drew.tr k4
      refine ⟨kk4, ?_⟩
      refine s_ixA (by omega) (by omega) ?_
      refine s_rdI (rd 0 _ (by omega) (by omega)) ?_
      refine (turned_c _ 13 (by omega) _).mono ?_
      rintro r w5 ⟨rfl, k5⟩
      have kk5 : Keep [] w w5 := kk4.tr k5
      refine ⟨kk5, ?_⟩
      refine s_xor32 ?_
      refine s_ixA (by omega) (by omega) ?_
      refine s_rdI (rd 0 _ (by omega) (by omega)) ?_
      refine (turned_c _ 22 (by omega) _).mono ?_
      rintro r w6 ⟨rfl, k6⟩
      have kk6 : Keep [] w w6 := kk5.tr k6
      refine ⟨kk6, ?_⟩
      refine s_xor32 ?_
      unfold witnessref1_block.C9
      refine s_ixA (by omega) (by omega) ?_
      refine s_opt (rd 0 _ (by omega) (by omega) w6 kk6) ?_
      refine s_ixA (by omega) (by omega) ?_
      refine s_opt (rd 1 _ (by omega) (by omega) w6 kk6) ?_
      refine s_and32 ?_
      refine s_ixA (by omega) (by omega) ?_
      refine s_opt (rd 0 _ (by omega) (by omega) w6 kk6) ?_
      refine s_ixA (by omega) (by omega) ?_
      refine s_opt (rd 2 _ (by omega) (by omega) w6 kk6) ?_
      refine s_and32 ?_
      refine s_xor32 ?_
      refine s_ixA (by omega) (by omega) ?_
      refine s_opt (rd 1 _ (by omega) (by omega) w6 kk6) ?_
      refine s_ixA (by omega) (by omega) ?_
      refine s_opt (rd 2 _ (by omega) (by omega) w6 kk6) ?_
      refine s_and32 ?_
      refine s_xor32 ?_
      refine s_add32 ?_
      refine s_add32 ?_
      refine s_ixA (by omega) (by omega) ?_
      refine s_opt (rd 0 _ (by omega) (by omega) w6 kk6) ?_
      refine s_ixA (by omega) (by omega) ?_
      refine s_opt (rd 1 _ (by omega) (by omega) w6 kk6) ?_
      refine s_ixA (by omega) (by omega) ?_
      refine s_opt (rd 2 _ (by omega) (by omega) w6 kk6) ?_
      refine s_ixA (by omega) (by omega) ?_
      refine s_opt (rd 3 _ (by omega) (by omega) w6 kk6) ?_
      refine s_add32 ?_
      refine s_ixA (by omega) (by omega) ?_
      refine s_opt (rd 4 _ (by omega) (by omega) w6 kk6) ?_
      refine s_ixA (by omega) (by omega) ?_
      refine s_opt (rd 5 _ (by omega) (by omega) w6 kk6) ?_
      refine s_ixA (by omega) (by omega) ?_
      refine s_opt (rd 6 _ (by omega) (by omega) w6 kk6) ?_
      refine ⟨.agg (uvs (round v (rounds.getD t 0) (ws.getD t 0)).l).toArray, w6, by kernel_rfl, ?_⟩
      refine s_stNB0 (hb7.kp kk6 (by simp)) (by simp [stl_len]) (by simp [stl_len]) (uvs_one _) ?_
      intro w7 hb77 k7
      unfold witnessref1_block.C6
      refine s_addi (by rw [i64min, i64max]; omega) ?_
      have k77 : Keep [b7] w w7 := kk6.trans k7 (by simp) (fun _ h _ => h)
      refine ih (t + 1) w7 (by omega) (by omega) (keep2 kp k77 (by omega)) (hb3.kp k77 (by simp; omega)) (hb4.kp k77 (by simp; omega)) (hb5.kp k77 (by simp; omega)) (hb6.kp k77 (by simp; omega)) ?_
      rw [rn_succ, hv]
      exact hb77
    · have e : t = 64 := by omega
      subst e
      unfold witnessref1_block.C2
      exact ⟨9, rblock_fin s (rn s ws 64) b3 b6 b7 h67 (by omega) K w0 h3 hK 9 0 w rfl (by omega) kp hb3 hb6 hb7⟩
theorem rblock_c (s : St) (ws : List (BitVec 32)) (hws : ws.length = 64) (w : World) : CallsR Tryd.prog 34 #[.agg (uvs s.l).toArray, .agg (uvs ws).toArray, .agg (uvs rounds).toArray] w fun v w' => v = .agg (uvs (s.add (rn s ws 64)).l).toArray ∧ Keep [] w w' := by
  apply witnessref1_block.sound
  unfold witnessref1_block.J witnessref1_block.C1
  refine s_newB (l := uvs s.l) rfl ?_
  intro w1 hb1 k1 hs1
  refine s_newB (l := uvs ws) rfl ?_
  intro w2 hb2 k2 hs2
  refine s_newB (l := uvs rounds) rfl ?_
  intro w3 hb3 k3 hs3
  refine s_newB (l := uvs (List.replicate 8 0)) (by kernel_rfl) ?_
  intro w4 hb4 k4 hs4
  refine s_ldNB (vs := uvs s.l) (((hb1.kp k2 (by simp)).kp k3 (by simp)).kp k4 (by simp)) (by simp [stl_len]) (by simp) ?_
  refine s_newB (l := uvs (List.replicate 8 0)) (by kernel_rfl) ?_
  intro w5 hb5 k5 hs5
  refine s_stNB0 hb5 (by simp [stl_len]) (by simp) (uvs_one _) ?_
  intro w6 hb6 k6
  have k56 : Keep [] w4 w6 := keep2 k5 k6 (Nat.le_refl _)
  exact ⟨65, rblock_loop s ws hws _ _ _ _ _ hs1 hs2 hs3 hs4 _ w (Nat.le_refl _) (fun w' k => ⟨rfl, k⟩) 65 0 w6 rfl (by omega) ((((k1.tr k2).tr k3).tr k4).tr k56) ((((hb1.kp k2 (by simp)).kp k3 (by simp)).kp k4 (by simp)).kp k56 (by simp)) (((hb2.kp k3 (by simp)).kp k4 (by simp)).kp k56 (by simp)) ((hb3.kp k4 (by simp)).kp k56 (by simp)) (hb4.kp k56 (by simp)) hb6⟩
theorem out_at (s : St) : ∀ i, i < 32 → (outOf s)[i]? = some (UInt8.ofNat (s.l.getD (i / 4) 0 >>> (24 - 8 * (i % 4))).toNat)
  | 0, _ => rfl
  | 1, _ => rfl
  | 2, _ => rfl
  | 3, _ => by rw [show 24 - 8 * (3 % 4) = 0 from rfl, BitVec.ushiftRight_zero]; rfl
  | 4, _ => rfl
  | 5, _ => rfl
  | 6, _ => rfl
  | 7, _ => by rw [show 24 - 8 * (7 % 4) = 0 from rfl, BitVec.ushiftRight_zero]; rfl
  | 8, _ => rfl
  | 9, _ => rfl
  | 10, _ => rfl
  | 11, _ => by rw [show 24 - 8 * (11 % 4) = 0 from rfl, BitVec.ushiftRight_zero]; rfl
  | 12, _ => rfl
  | 13, _ => rfl
  | 14, _ => rfl
  | 15, _ => by rw [show 24 - 8 * (15 % 4) = 0 from rfl, BitVec.ushiftRight_zero]; rfl
  | 16, _ => rfl
  | 17, _ => rfl
  | 18, _ => rfl
  | 19, _ => by rw [show 24 - 8 * (19 % 4) = 0 from rfl, BitVec.ushiftRight_zero]; rfl
  | 20, _ => rfl
  | 21, _ => rfl
  | 22, _ => rfl
  | 23, _ => by rw [show 24 - 8 * (23 % 4) = 0 from rfl, BitVec.ushiftRight_zero]; rfl
  | 24, _ => rfl
  | 25, _ => rfl
  | 26, _ => rfl
  | 27, _ => by rw [show 24 - 8 * (27 % 4) = 0 from rfl, BitVec.ushiftRight_zero]; rfl
  | 28, _ => rfl
  | 29, _ => rfl
  | 30, _ => rfl
  | 31, _ => by rw [show 24 - 8 * (31 % 4) = 0 from rfl, BitVec.ushiftRight_zero]; rfl
  | n + 32, h => by omega
/-! ### the document's Of -/
/-- One byte more behind a row of one's own. -/
theorem s_push {P : Program} {t e ty : TypeId} {z : Value} {w0 w : World} {K : KT} {v : Value} {l : List UInt8} {c : UInt8} (E : ElT P t e 1 1 z) (hk : Keep [] w0 w) (ho : w.ownsRow w0.heap.size e 1 v l.length (bvs l)) (hl : l.length ≤ 1099511627776)
    (h : ∀ v' w', w'.ownsRow w0.heap.size e 1 v' (l ++ [c]).length (bvs (l ++ [c])) → Keep [] w0 w' → K v' w') : semW P (Instr.buildSlice t 1 #[(0, bv c)]) w fun x w => semW P (bltS .append #[t, t] ty #[v, x]) w K := by
  refine s_lit1 E rfl ?_
  intro w1 k1 ho1
  have ho' := owns_kp ho k1 (by simp)
  refine s_app' (base := w0.heap.size) E ho' (owns_Sl ho1) (by simp [bv_one]) (by simp; unfold maxLen; omega) (by simp; omega) (hk.tr k1).size ?_
  intro v' w2 ho2 k2 _
  refine h v' w2 ?_ (keepNew (hk.tr k1) k2 (fun b hb => (owns_lt ho' b hb).1))
  rw [show bvs (l ++ [c]) = bvs l ++ [bv c] by simp only [bvs, List.map_append, List.map_cons, List.map_nil], List.length_append]
  exact ho2
theorem be8_at (n q : Nat) (h : q < 8) : (be8 n)[q]? = some (UInt8.ofNat (n / 2 ^ (56 - 8 * q))) := by
  have : ∀ q, q < 8 → [56, 48, 40, 32, 24, 16, 8, 0][q]? = some (56 - 8 * q) := by decide
  unfold be8
  rw [List.getElem?_map, this q h]
  rfl
theorem be8_take (n q : Nat) (h : q < 8) : (be8 n).take (q + 1) = (be8 n).take q ++ [UInt8.ofNat (n / 2 ^ (56 - 8 * q))] := by
  rw [List.take_add_one, be8_at n q h]
  rfl
theorem shr_byte (n q : Nat) (h : q ≤ 7) : IntKind.u8.wrap ((n : Int).fdiv (2 ^ min ((56 - 8 * (q : Int))).toNat IntKind.u64.bits)) = ((UInt8.ofNat (n / 2 ^ (56 - 8 * q))).toNat : Int) := by
  rw [Int.fdiv_eq_ediv_of_nonneg _ (by exact Int.pow_nonneg (by omega)), show min ((56 - 8 * (q : Int))).toNat IntKind.u64.bits = 56 - 8 * q by simp only [show IntKind.u64.bits = 64 by rfl]; omega]
  rw [show ((n : Int) / 2 ^ (56 - 8 * q)) = ((n / 2 ^ (56 - 8 * q) : Nat) : Int) by simp, u8_i]
theorem out_len' (s : St) : (outOf s).length = 32 := out_len s
theorem out_getD (s : St) (i : Nat) (h : i < 32) : (outOf s).getD i 0 = UInt8.ofNat (s.l.getD (i / 4) 0 >>> (24 - 8 * (i % 4))).toNat := by
  rw [List.getD_eq_getElem?_getD, out_at s i h]
  rfl
def outTo (s : St) (i : Nat) : List UInt8 := (outOf s).take i ++ List.replicate (32 - i) 0
theorem outTo_len (s : St) (i : Nat) (h : i ≤ 32) : (outTo s i).length = 32 := by simp [outTo, out_len]; omega
theorem outTo_set (s : St) (i : Nat) (h : i < 32) : (bvs (outTo s i)).set i (bv (UInt8.ofNat (s.l.getD (i / 4) 0 >>> (24 - 8 * (i % 4))).toNat)) = bvs (outTo s (i + 1)) := by
  have : (bvs (outTo s i)).set i (bv (UInt8.ofNat (s.l.getD (i / 4) 0 >>> (24 - 8 * (i % 4))).toNat)) = bvs ((outTo s i).set i (UInt8.ofNat (s.l.getD (i / 4) 0 >>> (24 - 8 * (i % 4))).toNat)) := by simp [bvs, List.map_set]
  rw [this]
  congr 1
  have hl : ((outOf s).take i).length = i := by rw [List.length_take, out_len]; omega
  unfold outTo
  rw [List.set_append_right _ _ (by omega), hl, Nat.sub_self, show 32 - i = (32 - (i + 1)) + 1 by omega, List.replicate_succ, List.take_add_one, out_at s i h]
  simp
theorem rout_loop (s : St) (b2 b7 b10 : Nat) (h27 : b2 < b7) (h710 : b7 < b10) (K : KT) (w0 : World) (h2 : w0.heap.size ≤ b2) (hK : ∀ w, Keep [] w0 w → K (.agg (bvs (outOf s)).toArray) w) :
    ∀ (k i : Nat) (w : World), k + i = 33 → 1 ≤ k → Keep [] w0 w → Blk w b2 (bvs (List.replicate 32 0)) 43 → Blk w b7 (uvs s.l) 59 → Blk w b10 (bvs (outTo s i)) 43 →
      witnessref1_Of.L6 K (witnessref1_Of.C5 K) k (.pointer (some ⟨b2, 0, none⟩)) (.pointer (some ⟨b7, 0, none⟩)) (.pointer (some ⟨b10, 0, none⟩)) (.int .i64 i) w := by
  intro k
  induction k with
  | zero => intro i _ _ h; omega
  | succ k ih =>
    intro i w hi _ kp hb2 hb7 hb10
    unfold witnessref1_Of.L6 witnessref1_Of.C6
    have hl := outTo_len s i (by omega)
    refine s_lss ?_
    refine s_cnd (fun hc => ?_) (fun hc => ?_)
    · refine s_quoi (by omega) (by omega) (by rw [i64max]; omega) ?_
      refine s_ixA (by omega) (by omega) ?_
      refine s_opt (ldw hb7 (j := i / 4) (by rw [stl_len]; omega) (by omega)) ?_
      refine s_remi (by omega) (by omega) ?_
      refine s_muli (by rw [i64min, i64max]; omega) ?_
      refine s_subi (by rw [i64min, i64max]; omega) ?_
      rw [show (24 : Int) - 8 * ((i : Int) % 4) = ((24 - 8 * (i % 4) : Nat) : Int) by omega]
      refine s_shr32 (by omega) ?_
      refine s_cv32_8 ?_
      refine s_ixA (by omega) (by omega) ?_
      refine s_stB (i := (i : Int).toNat * 1) hb10 (by simp; omega) rfl ?_
      intro w1 hb1 k1
      rw [show 0 + (i : Int).toNat * 1 = i by simp, outTo_set s i (by omega)] at hb1
      refine s_addi (by rw [i64min, i64max]; omega) ?_
      exact ih (i + 1) w1 (by omega) (by omega) (keep2 kp k1 (by omega)) (hb2.kp k1 (by simp; omega)) (hb7.kp k1 (by simp; omega)) hb1
    · have e : i = 32 := by omega
      subst e
      unfold witnessref1_Of.C5
      have he : outTo s 32 = outOf s := by
        unfold outTo
        rw [List.take_of_length_le (by rw [out_len]; exact Nat.le_refl _)]
        simp
      rw [he] at hb10
      refine s_ldNB (vs := bvs (outOf s)) hb10 (by simp [out_len]) (by simp) ?_
      refine s_stNB0 hb2 (by simp [out_len]) (by simp) (bvs_one _) ?_
      intro w1 hb1 k1
      refine s_resA Tryd.underlying43 rfl (n := 32) (by kernel_rfl) (by simp [out_len]) hb1.has ?_
      exact hK w1 (keep2 kp k1 h2)
theorem rmain_loop (T : List UInt8) (m : Nat) (hT : T.length = 64 * m) (hlen : T.length ≤ 1099511627776) (b3 : Value) (b2 b6 b7 : Nat) (h26 : b2 < b6) (h67 : b6 < b7) (K : KT) (w0 : World) (h2 : w0.heap.size ≤ b2) (hK : ∀ w, Keep [] w0 w → K (.agg (bvs (outOf (full T m))).toArray) w) :
    ∀ (k i : Nat) (w : World), k + i = m + 1 → 1 ≤ k → Keep [] w0 w → Blk w b2 (bvs (List.replicate 32 0)) 43 → SB w b3 T → (∀ b ∈ blkOf b3, b < b6) → Blk w b6 (uvs rounds) 63 → Blk w b7 (uvs (full T i).l) 59 →
      witnessref1_Of.L7 K (witnessref1_Of.C4 K) k (.pointer (some ⟨b2, 0, none⟩)) b3 (.pointer (some ⟨b6, 0, none⟩)) (.pointer (some ⟨b7, 0, none⟩)) (.int .i64 ((64 * i : Nat) : Int)) w := by
  intro k
  induction k with
  | zero => intro i _ _ h; omega
  | succ k ih =>
    intro i w hi _ kp hb2 hb3 hbl hb6 hb7
    unfold witnessref1_Of.L7 witnessref1_Of.C7
    refine hb3.len ?_
    rw [show (bvs T).length = T.length by simp only [bvs, List.length_map], hT]
    refine s_lss ?_
    refine s_cnd (fun hc => ?_) (fun hc => ?_)
    · have hl6 := hb6.lt
      refine (schedule_c T (64 * i) (by omega) (by omega) b3 w hb3 (fun b hb => by have := hbl b hb; omega)).mono ?_
      rintro r w1 ⟨rfl, k1⟩
      refine s_newB (l := uvs (List.replicate 64 0)) (by kernel_rfl) ?_
      intro w2 hb9 k2 hs2
      refine s_stNB0 hb9 (by simp [sched_len]) (by simp) (uvs_one _) ?_
      intro w3 hb93 k3
      have k13 : Keep [] w w3 := k1.tr (keep2 k2 k3 (Nat.le_refl _))
      refine s_ldNB (vs := uvs (full T i).l) (hb7.kp k13 (by simp)) (by simp [stl_len]) (by simp) ?_
      refine s_ldNB (vs := uvs (sched ((T.drop (64 * i)).take 64) 64)) hb93 (by simp [sched_len]) (by simp) ?_
      refine s_ldNB (vs := uvs rounds) (hb6.kp k13 (by simp)) (by simp [rounds]) (by simp) ?_
      refine (rblock_c (full T i) (sched ((T.drop (64 * i)).take 64) 64) (sched_len _ _) w3).mono ?_
      rintro r w4 ⟨rfl, k4⟩
      have k14 : Keep [] w w4 := k13.tr k4
      refine s_stNB0 (hb7.kp k14 (by simp)) (by simp [stl_len]) (by simp [stl_len]) (uvs_one _) ?_
      intro w5 hb75 k5
      have k15 : Keep [b7] w w5 := k14.trans k5 (by simp) (fun _ h _ => h)
      refine s_addi (by rw [i64min, i64max]; omega) ?_
      rw [show ((64 * i : Nat) : Int) + 64 = ((64 * (i + 1) : Nat) : Int) by omega]
      exact ih (i + 1) w5 (by omega) (by omega) (keep2 kp k15 (by omega)) (hb2.kp k15 (by simp; omega)) (Sl.kp hb3 k15 (fun b hb => by have := hbl b hb; simp; omega)) hbl (hb6.kp k15 (by simp; omega)) hb75
    · have e : i = m := by omega
      subst e
      unfold witnessref1_Of.C4
      refine s_newB (l := bvs (List.replicate 32 0)) (by kernel_rfl) ?_
      intro w1 hb1 k1 hs1
      have hl7 := hb7.lt
      exact ⟨33, rout_loop (full T i) b2 b7 _ (by omega) hl7 K w0 h2 hK 33 0 w1 rfl (by omega) (kp.tr k1) (hb2.kp k1 (by simp)) (hb7.kp k1 (by simp)) hb1⟩
end Go.Proofs.YtklieghmbhofnaaDoor
