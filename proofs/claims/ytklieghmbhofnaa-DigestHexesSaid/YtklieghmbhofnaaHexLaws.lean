/-
  The laws on hexadecimal: both sides agree; what was written reads back.
-/
import Derived.Test.YtklieghmbhofnaaParse
namespace Go.Proofs.Ytklieghmbhofnaa
open Go Go.Ev Go.RowKit
set_option maxRecDepth 100000
theorem hx_dg {n : Nat} (h : n < 16) : hx (dg n) = n := by
  have : ((List.range 16).all fun n => decide (hx (dg n) = (n : Int))) = true := by decide +kernel
  simpa using List.all_eq_true.1 this n (by simpa using h)
theorem dg_hn {c : UInt8} (h : 0 ≤ hx c) : dg (hn c) = c := by
  have := all256 (p := fun c => decide (hx c < 0 ∨ dg (hn c) = c)) (by decide +kernel) c
  have := of_decide_eq_true this
  rcases this with h' | h'
  · omega
  · exact h'
theorem hexs_getD (l : List UInt8) {n k : Nat} (h : k < n) : (hexs l n).getD k 0 = hexAt l k := by
  unfold hexs
  rw [List.getD_eq_getElem?_getD, List.getElem?_map, List.getElem?_range h]
  rfl
theorem parse_hexs (l : List UInt8) (hl : l.length = 32) : ParseR (hexs l 64) l 0 := by
  have hb : ∀ k, (l.getD k 0).toNat < 256 := fun k => (l.getD k 0).toNat_lt
  refine .inl ⟨by simp [hexs], ?_, ?_, rfl⟩
  · intro k hk
    rw [hexs_getD l hk]
    have := hb (k / 2)
    unfold hexAt
    split
    · rw [hx_dg (by omega)]; omega
    · rw [hx_dg (by omega)]; omega
  · apply List.ext_getElem?
    intro j
    by_cases hj : j < 32
    · unfold pst
      rw [List.getElem?_map, List.getElem?_range hj, List.getElem?_eq_getElem (by omega)]
      simp only [Option.map_some, Option.some.injEq]
      have hx : l.getD j 0 = l[j] := by rw [List.getD_eq_getElem?_getD, List.getElem?_eq_getElem (by omega)]; rfl
      have h1 := hb j
      unfold cellAt
      rw [if_pos (by omega), hexs_getD l (by omega), hexs_getD l (by omega)]
      unfold hexAt
      rw [if_pos (by omega), if_neg (by omega), show 2 * j / 2 = j by omega, show (2 * j + 1) / 2 = j by omega, hx]
      rw [hx] at h1
      unfold hn
      rw [hx_dg (by omega), hx_dg (by omega)]
      apply UInt8.toNat_inj.1
      simp
      omega
    · rw [List.getElem?_eq_none (by omega), List.getElem?_eq_none (by simp [pst]; omega)]
theorem hexs_parse (t : List UInt8) (ht : t.length = 64) (ho : okTo t 64) : hexs (pst t 64) 64 = t := by
  apply List.ext_getElem?
  intro k
  by_cases hk : k < 64
  · unfold hexs
    rw [List.getElem?_map, List.getElem?_range hk, List.getElem?_eq_getElem (by omega)]
    simp only [Option.map_some, Option.some.injEq]
    have hx : t.getD k 0 = t[k] := by rw [List.getD_eq_getElem?_getD, List.getElem?_eq_getElem (by omega)]; rfl
    have hp : ((pst t 64).getD (k / 2) 0).toNat = 16 * hn (t.getD (2 * (k / 2)) 0) + hn (t.getD (2 * (k / 2) + 1) 0) := by
      have := pst_at t 64 (k / 2) (by omega)
      unfold pst
      rw [List.getD_eq_getElem?_getD, List.getElem?_map, List.getElem?_range (by omega)]
      simp only [Option.map_some, Option.getD_some]
      have h2 := cellAt_lt t 64 (k / 2)
      rw [UInt8.toNat_ofNat_of_lt' (by simpa using h2)]
      unfold cellAt
      rw [if_pos (by omega)]
    have h1 := hn_lt (t.getD (2 * (k / 2)) 0)
    have h2 := hn_lt (t.getD (2 * (k / 2) + 1) 0)
    unfold hexAt
    rw [hp]
    split
    · rename_i he
      rw [show (16 * hn (t.getD (2 * (k / 2)) 0) + hn (t.getD (2 * (k / 2) + 1) 0)) / 16 = hn (t.getD (2 * (k / 2)) 0) by omega, show 2 * (k / 2) = k by omega, dg_hn (ho k hk)]
      exact hx
    · rename_i he
      rw [show (16 * hn (t.getD (2 * (k / 2)) 0) + hn (t.getD (2 * (k / 2) + 1) 0)) % 16 = hn (t.getD (2 * (k / 2) + 1) 0) by omega, show 2 * (k / 2) + 1 = k by omega, dg_hn (ho k hk)]
      exact hx
  · rw [List.getElem?_eq_none (by simp [hexs]; omega), List.getElem?_eq_none (by omega)]
theorem tByte : ∃ i, Try.prog.info? 5 = some i := by
  have : (Try.prog.info? 5).isSome = true := by kernel_rfl
  exact Option.isSome_iff_exists.1 this
theorem s_eqSum {w : World} {K : Value → World → Prop} {x y : Operand} {a b : List UInt8} (ha : a.length = 32) (hb : b.length = 32) (h : K (.bool (decide (a = b))) w) : semW Try.prog (do eqGuard .eql 25 x y (.agg (bvs a).toArray) (.agg (bvs b).toArray); binOp .eql 25 (.agg (bvs a).toArray) (.agg (bvs b).toArray)) w K :=
  let ⟨_, hi⟩ := tByte
  s_eqBytes Try.underlying25 Try.underlying5 hi (by kernel_rfl) (by kernel_rfl) ha hb h
theorem s_neSum {w : World} {K : Value → World → Prop} {x y : Operand} {a b : List UInt8} (ha : a.length = 32) (hb : b.length = 32) (h : K (.bool (decide (a ≠ b))) w) : semW Try.prog (do eqGuard .neq 25 x y (.agg (bvs a).toArray) (.agg (bvs b).toArray); binOp .neq 25 (.agg (bvs a).toArray) (.agg (bvs b).toArray)) w K :=
  let ⟨_, hi⟩ := tByte
  s_neBytes Try.underlying25 Try.underlying5 hi (by kernel_rfl) (by kernel_rfl) ha hb h
theorem s_pickT {w : World} {K : Value → World → Prop} {a b : Value} (h : K a w) : optW (pickO (.bool true) a b) w K := h
theorem s_pickF {w : World} {K : Value → World → Prop} {a b : Value} (h : K b w) : optW (pickO (.bool false) a b) w K := h
theorem hexes_c (l : List UInt8) (hl : l.length = 32) (t : ByteArray) (ht : t.size ≤ maxLen) (w : World) : CallsR Try.prog 4 #[.agg (bvs l).toArray, .string t] w fun v w' => v = .bool true ∧ Keep [] w w' := by
  apply witnesslaw1_DigestHexes.sound
  unfold witnesslaw1_DigestHexes.J witnesslaw1_DigestHexes.C1
  refine s_newB (l := bvs l) rfl ?_
  intro w1 hb1 k1 hs1
  refine (parse_c t ht w1).mono ?_
  rintro v w2 ⟨⟨p, e, rfl, hp⟩, k2⟩
  refine s_ext rfl ?_
  refine s_ext rfl ?_
  refine s_newB (l := bvs zs) (by kernel_rfl) ?_
  intro w3 hb3 k3 hs3
  refine s_stNB0 hb3 (by simp [hp.len]) (by simp [zs]) (bvs_one _) ?_
  intro w4 hb4 k4
  have kk4 : Keep [] w2 w4 := keep2 k3 k4 (Nat.le_refl _)
  refine (rparse_c t w4).mono ?_
  rintro v w5 ⟨⟨q, f, rfl, hq⟩, k5⟩
  obtain ⟨rfl, rfl⟩ := hp.uniq hq
  refine s_ext rfl ?_
  refine s_ext rfl ?_
  refine s_newB (l := bvs zs) (by kernel_rfl) ?_
  intro w6 hb6 k6 hs6
  refine s_stNB0 hb6 (by simp [hp.len]) (by simp [zs]) (bvs_one _) ?_
  intro w7 hb7 k7
  have kk7 : Keep [] w5 w7 := keep2 k6 k7 (Nat.le_refl _)
  have ka : Keep [] w1 w7 := ((k2.tr kk4).tr k5).tr kk7
  have h1 : Blk w7 w.heap.size (bvs l) _ := hb1.kp ka (by simp)
  have h5 : Blk w7 w2.heap.size (bvs p) _ := hb4.kp (k5.tr kk7) (by simp)
  refine ⟨fun w' => Keep [] w7 w', (Keep.refl _ _).drew, ?_⟩
  refine s_drw ?_
  have r1 : ∀ w', Keep [] w7 w' → ldN 32 (.pointer (some ⟨w.heap.size, 0, none⟩)) w' = some (.agg (bvs l).toArray) := fun w' k => ldN_blk (h1.kp k (by simp)) (by simp [hl]) (by simp)
  have r2 : ∀ w', Keep [] w7 w' → ldN 32 (.pointer (some ⟨w2.heap.size, 0, none⟩)) w' = some (.agg (bvs p).toArray) := fun w' k => ldN_blk (h5.kp k (by simp)) (by simp [hp.len]) (by simp)
  have r3 : ∀ w', Keep [] w7 w' → ldN 32 (.pointer (some ⟨w5.heap.size, 0, none⟩)) w' = some (.agg (bvs p).toArray) := fun w' k => ldN_blk (hb7.kp k (by simp)) (by simp [hp.len]) (by simp)
  have kd : Keep [] w7 w7.drew := (Keep.refl _ _).drew
  refine s_rdI r1 ?_
  refine (hex_c l hl _).mono ?_
  rintro v w8 ⟨rfl, k8⟩
  refine ⟨kd.tr k8, ?_⟩
  refine s_rdI r1 ?_
  refine (rhex_c l hl _).mono ?_
  rintro v w9 ⟨rfl, k9⟩
  have k79 := (kd.tr k8).tr k9
  refine ⟨k79, ?_⟩
  refine s_eqs ?_
  simp only [decide_true]
  refine ⟨.agg (bvs p).toArray, fun w' hw' => ?_, ?_⟩
  · refine s_gRun rfl ?_
    refine s_opt (r2 w' hw') ⟨rfl, rfl⟩
  refine ⟨.agg (bvs p).toArray, fun w' hw' => ?_, ?_⟩
  · refine s_gRun rfl ?_
    refine s_opt (r3 w' hw') ⟨rfl, rfl⟩
  refine s_gRun rfl ?_
  refine s_eqSum hp.len hp.len ?_
  refine ⟨k79, ?_⟩
  simp only [decide_true]
  refine s_pickT ?_
  refine s_gRun rfl ?_
  refine s_gRun rfl ?_
  refine s_gRun rfl ?_
  refine s_eql ?_
  simp only [decide_true]
  refine s_pickT ?_
  exact ⟨rfl, (k1.tr ka).tr k79⟩
theorem back_c (l : List UInt8) (hl : l.length = 32) (t : ByteArray) (ht : t.size ≤ maxLen) (w : World) : CallsR Try.prog 5 #[.agg (bvs l).toArray, .string t] w fun v w' => v = .bool true ∧ Keep [] w w' := by
  apply witnesslaw1_DigestBack.sound
  unfold witnesslaw1_DigestBack.J witnesslaw1_DigestBack.C1
  refine s_newB (l := bvs l) rfl ?_
  intro w1 hb1 k1 hs1
  refine s_ldNB (vs := bvs l) hb1 (by simp [hl]) (by simp) ?_
  refine (hex_c l hl w1).mono ?_
  rintro v w2 ⟨rfl, k2⟩
  have hsz : ByteArray.size ⟨(hexs l 64).toArray⟩ = 64 := by
    show (hexs l 64).toArray.size = 64
    simp [hexs]
  refine (parse_c ⟨(hexs l 64).toArray⟩ (by rw [hsz]; unfold maxLen; omega) w2).mono ?_
  rintro v w3 ⟨⟨p, e, rfl, hp⟩, k3⟩
  have hpx := parse_hexs l hl
  obtain ⟨rfl, rfl⟩ := hp.uniq hpx
  refine s_ext rfl ?_
  refine s_ext rfl ?_
  refine s_newB (l := bvs zs) (by kernel_rfl) ?_
  intro w4 hb4 k4 hs4
  refine s_stNB0 hb4 (by simp [hp.len]) (by simp [zs]) (bvs_one _) ?_
  intro w5 hb5 k5
  have k15 : Keep [] w1 w5 := (k2.tr k3).tr (keep2 k4 k5 (Nat.le_refl _))
  have hb1' := hb1.kp k15 (by simp)
  refine s_ldNB (vs := bvs p) hb5 (by simp [hp.len]) (by simp) ?_
  refine s_ldNB (vs := bvs p) hb1' (by simp [hp.len]) (by simp) ?_
  refine s_neSum hp.len hp.len ?_
  simp only [ne_eq, not_true_eq_false, decide_false]
  refine s_gRun rfl ?_
  refine s_gRun rfl ?_
  refine s_neq ?_
  simp only [ne_eq, not_true_eq_false, decide_false]
  refine s_pickF ?_
  refine s_gRun rfl ?_
  refine s_ldNB (vs := bvs p) hb1' (by simp [hp.len]) (by simp) ?_
  refine s_gRun rfl ?_
  refine (hex_c p hl w5).mono ?_
  rintro v w6 ⟨rfl, k6⟩
  refine s_gRun rfl ?_
  refine s_lenT ?_
  refine s_gRun rfl ?_
  rw [hsz]
  refine s_neq ?_
  simp only [show decide (((64 : Nat) : Int) ≠ 64) = false by decide]
  refine s_pickF ?_
  refine s_false ?_
  refine (parse_c t ht w6).mono ?_
  rintro v w7 ⟨⟨q, f, rfl, hq⟩, k7⟩
  refine s_ext rfl ?_
  refine s_ext rfl ?_
  refine s_newB (l := bvs zs) (by kernel_rfl) ?_
  intro w8 hb8 k8 hs8
  refine s_stNB0 hb8 (by simp [hq.len]) (by simp [zs]) (bvs_one _) ?_
  intro w9 hb9 k9
  have k19 : Keep [] w w9 := ((((k1.tr k15).tr k6).tr k7).tr (keep2 k8 k9 (Nat.le_refl _)))
  refine s_eql ?_
  have hlen := hq.len
  rcases hq with ⟨h1, h2, rfl, rfl⟩ | ⟨h1, rfl, rfl⟩
  · refine s_cndT rfl ?_
    refine s_ldNB (vs := bvs (pst t.data.toList 64)) hb9 (by simp [pst]) (by simp) ?_
    refine (hex_c _ (by simp [pst]) w9).mono ?_
    rintro v w10 ⟨rfl, k10⟩
    refine s_eqs ?_
    refine ⟨?_, k19.tr k10⟩
    rw [hexs_parse _ h1 h2]
    simp
  · refine s_cndF (by decide) ?_
    refine s_eql ?_
    simp only [decide_true]
    refine s_gRun rfl ?_
    refine s_ldNB (vs := bvs (List.replicate 32 0)) hb9 (by simp) (by simp) ?_
    refine s_gRun rfl ?_
    refine ⟨.agg (bvs zs).toArray, w9, by kernel_rfl, ?_⟩
    refine s_gRun rfl ?_
    refine s_eqSum (by simp) (by simp [zs]) ?_
    simp only [zs, decide_true]
    refine s_pickT ?_
    exact ⟨rfl, k19⟩
end Go.Proofs.Ytklieghmbhofnaa
