/-
  The texts of the annals: both sides write the same.
-/
import Derived.Test.YtplinpkklgfdfaaWr
import Derived.Test.YtplinpkklgfdfaaCmp
import Derived.Test.YtplinpkklgfdfaaHigh
namespace Go.Proofs.Ytplinpkklgfdfaa
open Go Go.Ev Go.RowKit
set_option maxRecDepth 100000
def leafText (v : Nat) (label : List UInt8) : List UInt8 := 0x15 :: (be v 8 ++ label)
def forkText (left right : List UInt8) : List UInt8 := 0x16 :: (left ++ right)
theorem zW : zCells Try.prog 34 = #[.slice none 0 0] := by kernel_rfl
theorem ws_new {w : World} {b : Nat} (hb : Blk w b [.slice none 0 0] 34) : WS w w.heap.size b 0 34 [.slice none 0 0] (.slice none 0 0) [] := ⟨hb, rfl, World.ownsRow_nil _ _ _ _, by simp [blkOf], Nat.le_refl _⟩
theorem WT.keep {w0 w w' : World} {b : Nat} {v v' : Value} (h : WT w w' b v v') (k : Keep [] w0 w) (hb : w0.heap.size ≤ b) (hv : ∀ x ∈ blkOf v, w0.heap.size ≤ x) : Keep [] w0 w' := keepNew k h.kp (fun x hx => by
  rcases List.mem_cons.1 hx with rfl | hx
  · exact hb
  · exact hv x hx)
theorem leafText_c (v : Nat) (hv : v < 18446744073709551616) (label : List UInt8) (hl : label.length = 32) (w : World) : CallsR Try.prog 5 #[.agg (Value.int .u64 (v : Int) :: bvs label).toArray] w fun r w' => SB w' r (leafText v label) ∧ Keep [] w w' := by
  apply annals_LeafText.sound
  unfold annals_LeafText.J annals_LeafText.C1
  refine s_newB (l := Value.int .u64 (v : Int) :: bvs label) rfl ?_
  intro w1 hb1 k1 hs1
  refine s_newB (l := [.slice none 0 0]) zW ?_
  intro w2 hb2 k2 hs2
  have h2 := ws_new hb2
  have hb12 := hb1.kp k2 (by simp)
  refine (wbyte_c h2 (by simp) 21).mono ?_
  rintro r w3 ⟨rfl, v3, h3, t3⟩
  have k23 : Keep [w1.heap.size] w2 w3 := t3.kp
  have hb13 := hb12.kp k23 (by simp; omega)
  refine s_fad ?_
  refine s_ldB (o := 0) hb13 (v := .int .u64 (v : Int)) rfl ?_
  refine (wlong_c h3 v hv (by simp)).mono ?_
  rintro r w4 ⟨rfl, v4, h4, t4⟩
  have t24 := t3.tr t4
  have hb14 := hb12.kp t24.kp (by simp [blkOf]; omega)
  refine s_fad ?_
  rw [add_mid]
  refine s_ldNB (vs := bvs label) hb14 (by simp [hl]) (fun j u hj => by rw [show 0 + 1 + j = j + 1 by omega, List.getElem?_cons_succ]; exact hj) ?_
  refine (wsum_c h4 hl (by simp [be_len])).mono ?_
  rintro r w5 ⟨rfl, v5, h5, t5⟩
  have t25 := t24.tr t5
  refine (wbytes_c h5 (by simp [be_len, hl])).mono ?_
  rintro r w6 ⟨rfl, k6, hb6⟩
  refine ⟨?_, (t25.keep (k1.tr k2) (by omega) (by simp [blkOf])).tr k6⟩
  have := hb6.sb (n := _) rfl
  simpa [leafText] using this
theorem forkText_c (left right : List UInt8) (hl : left.length = 32) (hr : right.length = 32) (w : World) : CallsR Try.prog 7 #[.agg (bvs left).toArray, .agg (bvs right).toArray] w fun r w' => SB w' r (forkText left right) ∧ Keep [] w w' := by
  apply annals_ForkText.sound
  unfold annals_ForkText.J annals_ForkText.C1
  refine s_newB (l := bvs left) rfl ?_
  intro w1 hb1 k1 hs1
  refine s_newB (l := bvs right) rfl ?_
  intro w2 hb2 k2 hs2
  refine s_newB (l := [.slice none 0 0]) zW ?_
  intro w3 hb3 k3 hs3
  have h3 := ws_new hb3
  refine (wbyte_c h3 (by simp) 22).mono ?_
  rintro r w4 ⟨rfl, v4, h4, t4⟩
  refine s_ldNB (vs := bvs left) (((hb1.kp k2 (by simp)).kp k3 (by simp)).kp t4.kp (by simp [blkOf]; omega)) (by simp [hl]) (by simp) ?_
  refine (wsum_c h4 hl (by simp)).mono ?_
  rintro r w5 ⟨rfl, v5, h5, t5⟩
  have t35 := t4.tr t5
  refine s_ldNB (vs := bvs right) ((hb2.kp k3 (by simp)).kp t35.kp (by simp [blkOf]; omega)) (by simp [hr]) (by simp) ?_
  refine (wsum_c h5 hr (by simp [hl])).mono ?_
  rintro r w6 ⟨rfl, v6, h6, t6⟩
  have t36 := t35.tr t6
  refine (wbytes_c h6 (by simp [hl, hr])).mono ?_
  rintro r w7 ⟨rfl, k7, hb7⟩
  refine ⟨?_, (t36.keep ((k1.tr k2).tr k3) (by omega) (by simp [blkOf])).tr k7⟩
  have := hb7.sb (n := _) rfl
  simpa [forkText] using this
/-! ### the document's -/
theorem rsum_c (s : List UInt8) (hs : s.length = 32) (w : World) : CallsR Try.prog 15 #[.agg (bvs s).toArray] w fun r w' => SB w' r s ∧ Keep [] w w' := by
  apply witnessref13_sum.sound
  unfold witnessref13_sum.J witnessref13_sum.C1
  refine s_newB (l := bvs s) rfl ?_
  intro w1 hb1 k1 hs1
  have loop : ∀ (k i : Nat) (v : Value) (w' : World), k + i = 33 → 1 ≤ k → Keep [] w1 w' → w'.ownsRow w1.heap.size 5 1 v (s.take i).length (bvs (s.take i)) → witnessref13_sum.L3 (fun r w' => SB w' r s ∧ Keep [] w w') (witnessref13_sum.C2 (fun r w' => SB w' r s ∧ Keep [] w w')) k (.pointer (some ⟨w.heap.size, 0, none⟩)) v (.int .i64 i) w' := by
    intro k
    induction k with
    | zero => intro i _ _ _ h; omega
    | succ k ih =>
      intro i v w' hi _ kp ho
      unfold witnessref13_sum.L3 witnessref13_sum.C3
      refine s_lss ?_
      refine s_cnd (fun hc => ?_) (fun hc => ?_)
      · refine s_ixA (by omega) (by omega) ?_
        refine s_ldB (hb1.kp kp (by simp)) (v := bv (s.getD i 0)) (by rw [show 0 + (i : Int).toNat * 1 = i by simp, List.getElem?_map, getD_of (d := 0) (by omega)]; rfl) ?_
        refine s_push (w0 := w1) (c := s.getD i 0) eU8 kp ho (by simp; omega) ?_
        intro v' w2 ho2 k2
        refine s_addi (by rw [i64min, i64max]; omega) ?_
        refine ih (i + 1) v' w2 (by omega) (by omega) k2 ?_
        have e : s.take i ++ [s.getD i 0] = s.take (i + 1) := by rw [List.take_add_one, getD_of (d := 0) (by omega)]; rfl
        rw [e] at ho2
        exact ho2
      · have e : i = s.length := by omega
        subst e
        rw [List.take_length] at ho
        exact ⟨owns_Sl ho, k1.tr kp⟩
  exact ⟨33, loop 33 0 _ w1 rfl (by omega) (Keep.refl _ _) (by simpa using World.ownsRow_nil w1 w1.heap.size 5 1)⟩
theorem rleafText_c (v : Nat) (hv : v < 18446744073709551616) (label : List UInt8) (hl : label.length = 32) (w : World) : CallsR Try.prog 6 #[.agg (Value.int .u64 (v : Int) :: bvs label).toArray] w fun r w' => SB w' r (leafText v label) ∧ Keep [] w w' := by
  apply witnessref13_LeafText.sound
  unfold witnessref13_LeafText.J witnessref13_LeafText.C1
  refine s_newB (l := Value.int .u64 (v : Int) :: bvs label) rfl ?_
  intro w1 hb1 k1 hs1
  refine s_lit1 eU8 (v := bv 21) rfl ?_
  intro w2 k2 ho2
  have hb12 := hb1.kp k2 (by simp)
  refine s_fad ?_
  refine s_ldB (o := 0) hb12 (v := .int .u64 (v : Int)) rfl ?_
  refine (high_c v 8 (by omega) hv w2).mono ?_
  rintro r w3 ⟨rfl, k3, hb3⟩
  refine s_appB (l := [21]) (owns_kp ho2 k3 (by simp)) (hb3.sb (be_len _ _)) (Keep.refl _ _) (by simp [be_len]) (k2.tr k3).size ?_
  intro v4 w4 ho4 k4 _
  have k14 : Keep [] w1 w4 := keepNew (k2.tr k3) k4 (fun b hb => (owns_lt (owns_kp ho2 k3 (by simp)) b hb).1)
  refine s_fad ?_
  rw [add_mid]
  refine s_ldNB (vs := bvs label) (hb1.kp k14 (by simp)) (by simp [hl]) (fun j u hj => by rw [show 0 + 1 + j = j + 1 by omega, List.getElem?_cons_succ]; exact hj) ?_
  refine (rsum_c label hl w4).mono ?_
  rintro r w5 ⟨hs5, k5⟩
  refine s_appB (owns_kp ho4 k5 (by simp)) hs5 (Keep.refl _ _) (by simp [be_len, hl]) (k14.tr k5).size ?_
  intro v6 w6 ho6 k6 _
  refine ⟨?_, k1.tr (keepNew (k14.tr k5) k6 (fun b hb => (owns_lt (owns_kp ho4 k5 (by simp)) b hb).1))⟩
  have e : [21] ++ be v 8 ++ label = leafText v label := by simp [leafText]
  rw [← e]
  exact owns_Sl ho6
theorem rforkText_c (left right : List UInt8) (hl : left.length = 32) (hr : right.length = 32) (w : World) : CallsR Try.prog 8 #[.agg (bvs left).toArray, .agg (bvs right).toArray] w fun r w' => SB w' r (forkText left right) ∧ Keep [] w w' := by
  apply witnessref13_ForkText.sound
  unfold witnessref13_ForkText.J witnessref13_ForkText.C1
  refine s_newB (l := bvs left) rfl ?_
  intro w1 hb1 k1 hs1
  refine s_newB (l := bvs right) rfl ?_
  intro w2 hb2 k2 hs2
  refine s_lit1 eU8 (v := bv 22) rfl ?_
  intro w3 k3 ho3
  refine s_ldNB (vs := bvs left) ((hb1.kp k2 (by simp)).kp k3 (by simp)) (by simp [hl]) (by simp) ?_
  refine (rsum_c left hl w3).mono ?_
  rintro r w4 ⟨hs4, k4⟩
  refine s_appB (l := [22]) (owns_kp ho3 k4 (by simp)) hs4 (Keep.refl _ _) (by simp [hl]) (k3.tr k4).size ?_
  intro v5 w5 ho5 k5 _
  have k25 : Keep [] w2 w5 := keepNew (k3.tr k4) k5 (fun b hb => (owns_lt (owns_kp ho3 k4 (by simp)) b hb).1)
  refine s_ldNB (vs := bvs right) (hb2.kp k25 (by simp)) (by simp [hr]) (by simp) ?_
  refine (rsum_c right hr w5).mono ?_
  rintro r w6 ⟨hs6, k6⟩
  refine s_appB (owns_kp ho5 k6 (by simp)) hs6 (Keep.refl _ _) (by simp [hl, hr]) (k25.tr k6).size ?_
  intro v7 w7 ho7 k7 _
  refine ⟨?_, (k1.tr k2).tr (keepNew (k25.tr k6) k7 (fun b hb => (owns_lt (owns_kp ho5 k6 (by simp)) b hb).1))⟩
  have e : [22] ++ left ++ right = forkText left right := by simp [forkText]
  rw [← e]
  exact owns_Sl ho7
theorem u64_nat {n : Int} (h : (Lit.int .u64 n).wf = true) : ∃ m : Nat, n = (m : Int) ∧ m < 18446744073709551616 := by
  simp [Lit.wf, IntKind.min, IntKind.max, IntKind.signed, IntKind.bits] at h
  exact ⟨n.toNat, by omega, by omega⟩
theorem annalTexts_core {w : World} (n : Nat) (hn : n < 18446744073709551616) (label left right : List UInt8) (hbl : label.length = 32) (hl1 : left.length = 32) (hl2 : right.length = 32) :
    CallsR Try.prog 3 #[.agg (Value.int .u64 (n : Int) :: bvs label).toArray, .agg (bvs left).toArray, .agg (bvs right).toArray] w fun r w' => r = .bool true ∧ Keep [] w w' := by
  apply witnesslaw13_AnnalTexts.sound
  unfold witnesslaw13_AnnalTexts.J witnesslaw13_AnnalTexts.C1
  refine s_newB (l := Value.int .u64 (n : Int) :: bvs label) rfl ?_
  intro w1 hb1 k1 _
  refine s_newB (l := bvs left) rfl ?_
  intro w2 hb2 k2 _
  refine s_newB (l := bvs right) rfl ?_
  intro w3 hb3 k3 _
  have hb13 := (hb1.kp k2 (by simp)).kp k3 (by simp)
  have hb23 := hb2.kp k3 (by simp)
  unfold witnesslaw13_AnnalTexts.D3
  refine ⟨fun w' => Keep [] w3 w', (Keep.refl _ _).drew, ?_⟩
  refine s_drw ?_
  have kd : Keep [] w3 w3.drew := (Keep.refl _ _).drew
  have rl : ∀ w', Keep [] w3 w' → ldN 33 (.pointer (some ⟨w.heap.size, 0, none⟩)) w' = some (.agg (Value.int .u64 (n : Int) :: bvs label).toArray) := fun w' h => ldN_blk (hb13.kp h (by simp)) (by simp [hbl]) (by simp)
  have r1 : ∀ w', Keep [] w3 w' → ldN 32 (.pointer (some ⟨w1.heap.size, 0, none⟩)) w' = some (.agg (bvs left).toArray) := fun w' h => ldN_blk (hb23.kp h (by simp)) (by simp [hl1]) (by simp)
  have r2 : ∀ w', Keep [] w3 w' → ldN 32 (.pointer (some ⟨w2.heap.size, 0, none⟩)) w' = some (.agg (bvs right).toArray) := fun w' h => ldN_blk (hb3.kp h (by simp)) (by simp [hl2]) (by simp)
  refine s_rdI rl ?_
  refine (leafText_c n hn label hbl _).mono ?_
  rintro a w4 ⟨s4, k4⟩
  have k34 := kd.tr k4
  refine ⟨k34, ?_⟩
  refine s_rdI rl ?_
  refine (rleafText_c n hn label hbl w4).mono ?_
  rintro b w5 ⟨s5, k5⟩
  have k35 := k34.tr k5
  refine ⟨k35, ?_⟩
  refine (same_c _ _ a b w5 (Sl.kp0 s4 k5) s5 (by simp [leafText, be_len, hbl])).mono ?_
  rintro r w6 ⟨rfl, k6⟩
  have k36 := k35.tr k6
  refine ⟨k36, ?_⟩
  simp only [decide_true]
  refine ⟨_, fun w' hI => s_gRun rfl (s_opt (r1 w' hI) ⟨rfl, rfl⟩), ?_⟩
  refine ⟨_, fun w' hI => s_gRun rfl (s_opt (r2 w' hI) ⟨rfl, rfl⟩), ?_⟩
  refine s_gRun rfl ?_
  refine (forkText_c left right hl1 hl2 w6).mono ?_
  rintro a2 w7 ⟨s7, k7⟩
  have k37 := k36.tr k7
  refine ⟨k37, ?_⟩
  refine ⟨_, fun w' hI => s_gRun rfl (s_opt (r1 w' hI) ⟨rfl, rfl⟩), ?_⟩
  refine ⟨_, fun w' hI => s_gRun rfl (s_opt (r2 w' hI) ⟨rfl, rfl⟩), ?_⟩
  refine s_gRun rfl ?_
  refine (rforkText_c left right hl1 hl2 w7).mono ?_
  rintro b2 w8 ⟨s8, k8⟩
  have k38 := k37.tr k8
  refine ⟨k38, ?_⟩
  refine s_gRun rfl ?_
  refine (same_c _ _ a2 b2 w8 (Sl.kp0 s7 k8) s8 (by simp [forkText, hl1, hl2])).mono ?_
  rintro r w9 ⟨rfl, k9⟩
  have k39 := k38.tr k9
  refine ⟨k39, ?_⟩
  simp only [decide_true]
  refine s_opt (v := .bool true) rfl ?_
  unfold witnesslaw13_AnnalTexts.C2
  exact ⟨rfl, ((k1.tr k2).tr k3).tr k39⟩
theorem annalTexts_c {w : World} (l : (Ty.pair (.int .u64) (.arr8 32)).El) (c0 : Array Value) (hl : Is w (.pair (.int .u64) (.arr8 32)) l c0.toList) (left : (Ty.arr8 32).El) (c1 : Array Value) (h1 : Is w (.arr8 32) left c1.toList) (right : (Ty.arr8 32).El) (c2 : Array Value) (h2 : Is w (.arr8 32) right c2.toList) :
    CallsR Try.prog 3 #[.agg c0, .agg c1, .agg c2] w fun r w' => r = .bool true ∧ Keep [] w w' := by
  obtain ⟨⟨ha, hw⟩, hb, hbl⟩ := hl
  obtain ⟨e1, hl1⟩ := h1
  obtain ⟨e2, hl2⟩ := h2
  obtain ⟨n, en, hn⟩ := u64_nat hw
  have e0 : c0 = (Value.int .u64 (n : Int) :: bvs (l.2 : List UInt8)).toArray := by
    apply Array.ext'
    rw [← List.take_append_drop (Ty.int .u64).sz c0.toList, ha, hb, en]
    rfl
  have e1' : c1 = (bvs (left : List UInt8)).toArray := Array.ext' e1
  have e2' : c2 = (bvs (right : List UInt8)).toArray := Array.ext' e2
  have := annalTexts_core (w := w) n hn l.2 left right hbl hl1 hl2
  rw [e0, e1', e2']
  exact this
end Go.Proofs.Ytplinpkklgfdfaa
