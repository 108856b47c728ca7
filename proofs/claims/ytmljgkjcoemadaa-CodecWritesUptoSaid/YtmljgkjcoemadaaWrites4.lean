/-
  Two writers in turns: one step.
-/
import Derived.Test.YtmljgkjcoemadaaWrites3
namespace Go.Proofs.Ytmljgkjcoemadaa
open Go Go.Ev Go.RowKit
set_option maxRecDepth 100000
section
variable {K : KT} {script0 v19 v20 v21 out : Value} {w0 w : World} {bw bl : Nat} {A C O : List Rw}
/-- Both writers are asked; then all that was handed out is looked at. -/
theorem ask_two {kn : V7} {m n : Nat} (h : CW w0 w bw bl A C O out) (heq : A.map (·.2) = C.map (·.2)) (hm : ∀ p ∈ A, (p : Rw).2.length ≤ m) (hm' : m ≤ 1099511627775) (hl : ∀ p ∈ O, (p : Rw).2.length ≤ 1099511627776) (hO : O.length ≤ n) (hn : n ≤ 16777213) (hN : NextW w0 bw bl kn script0 v19 v20 v21 (n + 2) m) :
    ∃ k, witnesslaw2_CodecWrites.L14 K (witnesslaw2_CodecWrites.C9 K kn) k script0 (pB bw) (pB bl) out (.int .i64 0) v19 v20 v21 w := by
  have hm2 : ∀ p ∈ A, (p : Rw).2.length ≤ 1099511627775 := fun p hp => Nat.le_trans (hm p hp) hm'
  refine ⟨3, ?_⟩
  unfold witnesslaw2_CodecWrites.L14 witnesslaw2_CodecWrites.C14
  refine s_lss (s_cndT (by omega) ?_)
  refine ask_one (n := 0) h heq hm2 (by omega) (by omega) ?_
  intro out1 p1 w1 hp1 h1
  unfold witnesslaw2_CodecWrites.C15
  refine s_addi (by rw [i64min, i64max]; omega) ?_
  unfold witnesslaw2_CodecWrites.L14 witnesslaw2_CodecWrites.C14
  refine s_lss (s_cndT (by omega) ?_)
  refine ask_one (n := 1) h1 heq hm2 (by simp; omega) (by omega) ?_
  intro out2 p2 w2 hp2 h2
  unfold witnesslaw2_CodecWrites.C15
  refine s_addi (by rw [i64min, i64max]; omega) ?_
  unfold witnesslaw2_CodecWrites.L14 witnesslaw2_CodecWrites.C14
  refine s_lss (s_cndF (by omega) ?_)
  have hl2 : ∀ p ∈ O ++ [p1] ++ [p2], (p : Rw).2.length ≤ 1099511627776 := by
    intro p hp
    simp only [List.mem_append, List.mem_singleton] at hp
    rcases hp with (hp | rfl) | rfl
    · exact hl p hp
    · exact hp1
    · exact hp2
  have hO2 : (O ++ [p1] ++ [p2]).length = O.length + 2 := by simp
  unfold witnesslaw2_CodecWrites.C9
  refine (owns_Sl h2.ot).len ?_
  rw [List.length_map]
  exact ⟨_, marks_loop h2 (fun j p hp => hl2 p (List.mem_of_getElem? hp)) (by omega) (hN A C _ out2 w2 h2 heq hm hl2 (by omega)) ((O ++ [p1] ++ [p2]).length + 1) 0 rfl (by omega)⟩
/-- Whether they are asked. -/
theorem ask_c {kx1 kn : V7} {b7 len i : Nat} {kind who mm : Int} {nn : Nat} {vb : Value} {sum : List UInt8} {nth : UInt8} {m n : Nat} (h : CW w0 w bw bl A C O out) (heq : A.map (·.2) = C.map (·.2)) (hm : ∀ p ∈ A, (p : Rw).2.length ≤ m) (hm' : m ≤ 1099511627775) (hl : ∀ p ∈ O, (p : Rw).2.length ≤ 1099511627776) (hO : O.length ≤ n) (hn : n ≤ 16777213)
    (hb7 : Blk w b7 (stepCells kind who nn mm vb sum nth) 35) (hlen : lenS script0 = some (.int .i64 (len : Int))) (hlen2 : len ≤ 1099511627776) (hi : 1 ≤ len)
    (hN1 : NextW w0 bw bl kx1 script0 v19 v20 v21 (n + 2) m) (hN : NextW w0 bw bl kn script0 v19 v20 v21 (n + 2) m) : witnesslaw2_CodecWrites.C8 K kx1 kn script0 (pB bw) (pB bl) out (.int .i64 (i : Int)) (pB b7) v19 v20 v21 w := by
  unfold witnesslaw2_CodecWrites.C8
  refine s_fad ?_
  refine s_ldB (o := 0) hb7 (v := .int .i64 kind) rfl ?_
  refine s_neq ?_
  have fin : ∀ (x : Bool), Cnd (.bool x) (kx1 script0 (pB bw) (pB bl) out v19 v20 v21 w) (∃ k, witnesslaw2_CodecWrites.L14 K (witnesslaw2_CodecWrites.C9 K kn) k script0 (pB bw) (pB bl) out (.int .i64 0) v19 v20 v21 w) := fun x => by
    cases x
    · exact s_false (ask_two h heq hm hm' hl hO hn hN)
    · exact s_true (hN1 A C O out w h heq hm hl (by omega))
  by_cases hk : kind ≠ 9
  · rw [decide_eq_true hk]
    refine s_gRun rfl ?_
    refine s_gRun rfl ?_
    refine s_gRun rfl (s_opt hlen ?_)
    refine s_gRun rfl (s_subi (by rw [i64min, i64max]; omega) ?_)
    refine s_gRun rfl (s_lss ?_)
    refine s_opt (v := .bool _) rfl ?_
    exact fin _
  · rw [decide_eq_false hk]
    refine s_gSkip rfl (by decide) ?_
    refine s_gSkip rfl (by decide) ?_
    refine s_gSkip rfl (by decide) ?_
    refine s_gSkip rfl (by decide) ?_
    refine s_gSkip rfl (by decide) ?_
    refine s_opt (v := .bool false) rfl ?_
    exact fin false
theorem map_set_same {A C : List Rw} {k : Nat} {p q : Rw} (he : A.map (·.2) = (C.map (·.2)).set k p.2) (h : q.2 = p.2) : A.map (·.2) = (C.set k q).map (·.2) := by
  rw [List.map_set, h, he]
/-- What the document says of the step is added. -/
theorem like_c {kx1 kn : V7} {b7 len i k : Nat} {kind who mm : Int} {nn : Nat} {vb : Value} {t sum : List UInt8} {nth : UInt8} {m n : Nat} {pc : Rw} (h : CW w0 w bw bl A C O out) (hC : C[k]? = some pc) (hk : k < 2) (hnn : nn < 18446744073709551616) (hs : sum.length = 32) (hv : SB w0 vb t) (ht : t.length ≤ 1048576) (hpc : pc.2.length ≤ 1099511627776) (heq : A.map (·.2) = (C.map (·.2)).set k (pc.2 ++ layB kind nn t sum nth)) (hm : ∀ p ∈ A, (p : Rw).2.length ≤ m) (hm' : m ≤ 1099511627775) (hl : ∀ p ∈ O, (p : Rw).2.length ≤ 1099511627776) (hO : O.length ≤ n) (hn : n ≤ 16777213)
    (hb7 : Blk w b7 (stepCells kind who nn mm vb sum nth) 35) (h7 : CW.Far b7 bw bl (A ++ C ++ O) out) (hlen : lenS script0 = some (.int .i64 (len : Int))) (hlen2 : len ≤ 1099511627776) (hi : 1 ≤ len)
    (hN1 : NextW w0 bw bl kx1 script0 v19 v20 v21 (n + 2) m) (hN : NextW w0 bw bl kn script0 v19 v20 v21 (n + 2) m) : witnesslaw2_CodecWrites.C7 K kx1 kn script0 (pB bw) (pB bl) out (.int .i64 (i : Int)) (pB b7) (.int .i64 (k : Int)) v19 v20 v21 w := by
  have hlc := h.lc
  have hlB := layB_len (kind := kind) (t := t) (nth := nth) hnn hs (by omega)
  unfold witnesslaw2_CodecWrites.C7 witnesslaw2_CodecWrites.D21
  refine ⟨fun w' => Keep [] w w', (Keep.refl _ _).drew, ?_⟩
  refine s_drw ?_
  have kd : Keep [] w w.drew := (Keep.refl _ _).drew
  refine s_ixA (by omega) (by omega) ?_
  have rd : ∀ w', Keep [] w w' → ld1 (.pointer (some ((⟨bl, 0, none⟩ : Addr).add ((k : Int).toNat * 1)))) w' = some pc.1 := fun w' hk => by
    simp only [ld1]
    rw [add_mid, (h.lb.kp hk (by simp)).cell, show 0 + (k : Int).toNat * 1 = k by simp, List.getElem?_map, hC]
    rfl
  refine s_rdI rd ?_
  refine s_rdI (v := .agg (stepCells kind who nn mm vb sum nth).toArray) (fun w' hk => ldN_blk (o := 0) (hb7.kp hk (by simp)) (by simp [stepCells, hs]) (fun j v hj => by rw [Nat.zero_add]; exact hj)) ?_
  refine (laid_c hnn hs (hv.kp0 (h.kp.tr kd)) (by omega)).mono ?_
  rintro r w1 ⟨hr, k1⟩
  have k01 := kd.tr k1
  refine ⟨k01, ?_⟩
  have h1 := h.step k01
  have hpo : (A ++ C ++ O)[A.length + k]? = some pc := by
    rw [List.append_assoc, List.getElem?_append_right (by omega), List.getElem?_append_left (by omega), show A.length + k - A.length = k by omega]
    exact hC
  have ho := h1.pool.own _ pc hpo
  refine s_appB ho hr (Keep.refl _ _) (by omega) h1.kp.size ?_
  intro v' w2 ho2 k2 hb2
  refine CW.liked (l' := pc.2 ++ layB kind nn t sum nth) h1 hC ho2 hb2 k2 (slice_one (owns_Sl ho2)) ?_
  intro w3 h3 k3
  refine ask_c h3 (map_set_same (p := (pc.1, pc.2 ++ layB kind nn t sum nth)) heq rfl) hm hm' hl hO hn ((hb7.kp k01 (by simp)).kp k3 ?_) hlen hlen2 hi hN1 hN
  intro hx
  rcases List.mem_append.1 hx with hx | hx
  · simp at hx
    exact h7.nl hx
  · exact h7.pool pc (List.mem_of_getElem? hpo) hx
/-- What was handed in is spoilt. -/
theorem spoil_loop {kx : V10} {i6 o7 k8 : Value} {b c n : Nat} {w1 : World} (hn : n ≤ 1099511627776) (hK : ∀ w', Keep [b] w1 w' → kx script0 (pB bw) (pB bl) out i6 o7 k8 v19 v20 v21 w') :
    ∀ (k j : Nat) (w' : World) (cs : List Value), k + j = n + 1 → 1 ≤ k → Blk w' b cs 5 → n ≤ cs.length → Keep [b] w1 w' → witnesslaw2_CodecWrites.L22 K kx k script0 (pB bw) (pB bl) out i6 o7 k8 (.slice (some ⟨b, 0, none⟩) n c) v19 v20 v21 (.int .i64 (n : Int)) (.int .i64 (j : Int)) w' := by
  intro k
  induction k with
  | zero => intro j _ _ _ h; omega
  | succ k ih =>
    intro j w' cs hj _ hb hcs kk
    unfold witnesslaw2_CodecWrites.L22 witnesslaw2_CodecWrites.C22
    refine s_lss ?_
    refine s_cnd (fun hc => ?_) (fun hc => hK w' kk)
    refine s_ixS (by omega) (by omega) ?_
    rw [show (j : Int).toNat * 1 = j by simp]
    refine s_stB (o := 0) (i := j) hb (by omega) rfl ?_
    intro w2 hb2 k2
    refine s_addi (by rw [i64min, i64max]; omega) ?_
    exact ih (j + 1) w2 _ (by omega) (by omega) hb2 (by simpa using hcs) (kk.tr k2)
/-- One step. -/
theorem step_c {kx1 kn : V7} {b7 len i k : Nat} {kind who mm : Int} {nn : Nat} {vb : Value} {t sum : List UInt8} {nth : UInt8} {m n : Nat} (h : CW w0 w bw bl A C O out) (hk : k < 2) (hnn : nn < 18446744073709551616) (hs : sum.length = 32) (hv : SB w0 vb t) (ht : t.length ≤ 1048576) (heq : A.map (·.2) = C.map (·.2)) (hm : ∀ p ∈ A, (p : Rw).2.length ≤ m) (hm' : m ≤ 1099500000000) (hl : ∀ p ∈ O, (p : Rw).2.length ≤ 1099511627776) (hO : O.length ≤ n) (hn : n ≤ 16777213)
    (hb7 : Blk w b7 (stepCells kind who nn mm vb sum nth) 35) (h7 : CW.Far b7 bw bl (A ++ C ++ O) out) (hlen : lenS script0 = some (.int .i64 (len : Int))) (hlen2 : len ≤ 1099511627776) (hi : 1 ≤ len)
    (hN1 : NextW w0 bw bl kx1 script0 v19 v20 v21 (n + 2) (m + t.length + 33)) (hN : NextW w0 bw bl kn script0 v19 v20 v21 (n + 2) (m + t.length + 33)) : witnesslaw2_CodecWrites.C6 K kx1 kn script0 (pB bw) (pB bl) out (.int .i64 (i : Int)) (pB b7) (.int .i64 (k : Int)) v19 v20 v21 w := by
  have hla := h.la
  have hlc := h.lc
  have hlB := layB_len (kind := kind) (t := t) (nth := nth) hnn hs (by omega)
  have hA : A[k]? = some A[k] := List.getElem?_eq_getElem (by omega)
  have hC : C[k]? = some C[k] := List.getElem?_eq_getElem (by omega)
  have hsame : C[k].2 = A[k].2 := by
    have h1 : (A.map (·.2))[k]? = (C.map (·.2))[k]? := by rw [heq]
    rw [List.getElem?_map, List.getElem?_map, hA, hC] at h1
    exact (Option.some.inj h1).symm
  have hml : A[k].2.length ≤ m := hm _ (List.getElem_mem _)
  have hpm : A[k] ∈ A ++ C ++ O := by simp
  generalize A[k] = pa at *
  generalize C[k] = pc at *
  unfold witnesslaw2_CodecWrites.C6
  refine s_fad ?_
  refine s_ldB (o := 0) hb7 (v := vb) rfl ?_
  refine (roomy_c t vb w (hv.kp0 h.kp) (by omega)).mono ?_
  rintro r w1 ⟨g, a, rfl, hr, k1⟩
  refine s_ext0 (s_ext1 ?_)
  have h1 := h.step k1
  have hb71 := hb7.kp k1 (by simp)
  have hsz1 := k1.size
  have hlt7 := hb7.lt
  refine s_ldNB (o := 0) (vs := stepCells kind who nn mm vb sum nth) hb71 (by simp [stepCells, hs]) (fun j v hj => by rw [Nat.zero_add]; exact hj) ?_
  refine s_newB (l := [.int .i64 0, .int .i64 0, .int .u64 0, .int .i64 0, .slice none 0 0] ++ List.replicate 33 (.int .u8 0)) (by kernel_rfl) ?_
  intro w2 hb2 k2 hs2
  refine s_stNB0 (vs := stepCells kind who nn mm vb sum nth) hb2 (by simp [stepCells, hs]) (by simp) ?_ ?_
  · intro u hu
    simp only [stepCells, List.mem_append, List.mem_cons, List.not_mem_nil, or_false, List.mem_map] at hu
    rcases hu with (rfl | rfl | rfl | rfl | rfl) | (⟨x, _, rfl⟩ | rfl)
    · rfl
    · rfl
    · rfl
    · rfl
    · exact slice_one hv
    · rfl
    · rfl
  intro w3 hb3 k3
  refine s_fad ?_
  refine s_stB (o := 0) (i := 4) hb3 (by simp [stepCells]) (slice_one hr.front) ?_
  intro w4 hb4 k4
  have e4 : (stepCells kind who nn mm vb sum nth).set (0 + 4) g = stepCells kind who nn mm g sum nth := rfl
  rw [e4] at hb4
  have k34 : Keep [w1.heap.size] w2 w4 := k3.tr k4
  have k14 : Keep [] w1 w4 := keep2 k2 k34 (Nat.le_refl _)
  refine s_drw ?_
  have kd : Keep [] w4 w4.drew := (Keep.refl _ _).drew
  have k1d := k14.tr kd
  have kwd := k1.tr k1d
  have hd := h.step kwd
  have hrd := hr.kp k1d (by simp)
  have hws := hd.ws hA
  have hszd := k1d.size
  have hszw := kwd.size
  have hlt := hr.lt
  have hk2 : ∀ {w' : World} {K' : KT}, K' (.pointer (some ⟨bw, k, none⟩)) w' → optW (ixA 2 1 (pB bw) (.int .i64 (k : Int))) w' K' := fun hk => s_ixA (by omega) (by omega) (by rw [show (k : Int).toNat * 1 = k by simp, add_mid, Nat.zero_add]; exact hk)
  refine hk2 ?_
  refine s_ldNB (o := 0) (vs := stepCells kind who nn mm g sum nth) (hb4.kp kd (by simp)) (by simp [stepCells, hs]) (fun j v hj => by rw [Nat.zero_add]; exact hj) ?_
  have farR : ∀ {y : Nat}, w.heap.size ≤ y → CW.Far y bw bl (A ++ C ++ O) out := fun hy => h.far hy
  refine (lay_c hws hnn hs (hrd.front) (fun y hy => ?_) (by omega)).mono ?_
  · have f := farR (hlt.2 y hy).1
    exact ⟨f.nw, f.pool _ hpm⟩
  rintro r w5 ⟨rfl, v', hw5, ht5⟩
  have h5 := hd.wrote hA hw5 ht5
  have kb : ∀ {y : Nat}, CW.Far y bw bl (A ++ C ++ O) out → y ∉ bw :: blkOf pa.1 := by
    intro y f hy
    rcases List.mem_cons.1 hy with hy | hy
    · exact f.nw hy
    · exact f.pool _ hpm hy
  have hb75 := (hb71.kp k1d (by simp)).kp ht5.kp (kb h7)
  have hr5 : Room w5 w.heap.size g a t := hrd.kpF ht5.kp (fun y hy => kb (farR (hlt.1 y hy).1))
  refine s_fad ?_
  refine s_ldB (o := 0) hb75 (v := vb) rfl ?_
  refine (untouched_c t g a vb _ w5 hr5 (hv.kp0 h5.kp) (by omega)).mono ?_
  rintro r w6 ⟨rfl, k6⟩
  refine s_not ?_
  refine s_false ?_
  have h6 := h5.step k6
  have hr6 := hr5.kp k6 (by simp)
  have hb76 := hb75.kp k6 (by simp)
  obtain ⟨bR, cap, rfl, rfl, ho6⟩ := hr6
  obtain ⟨bR', cap', rest, e, hcap, hbR, hB6⟩ := owns_blk ho6 (by simp)
  simp only [Value.slice.injEq, Option.some.injEq, Addr.mk.injEq] at e
  obtain ⟨⟨rfl, _⟩, _, rfl⟩ := e
  refine s_lenS ?_
  have hbR1 := (hlt.1 bR (by simp [blkOf])).2
  have hset : A.set k (v', pa.2 ++ layB kind nn t sum nth) ++ C ++ O = (A ++ C ++ O).set k (v', pa.2 ++ layB kind nn t sum nth) := by
    rw [List.append_assoc, List.append_assoc, List.set_append_left _ _ (by omega)]
  have newF : ∀ {y : Nat}, y < w4.drew.heap.size → CW.Far y bw bl (A ++ C ++ O) out → CW.Far y bw bl (A.set k (v', pa.2 ++ layB kind nn t sum nth) ++ C ++ O) out := by
    intro y hy f
    rw [hset]
    refine f.set ?_
    intro hx
    rcases ht5.bl with e | hf
    · rw [e] at hx
      exact f.pool _ hpm hx
    · have := hf y hx
      omega
  have fR := newF (y := bR) (by omega) (farR hbR)
  have f7 := newF (y := b7) (by omega) h7
  have h0 := h.kp.size
  refine ⟨t.length + 3, spoil_loop (n := t.length + 2) (w1 := w6) (by omega) (fun w7 k7 => ?_) _ 0 w6 _ rfl (by omega) hB6 (by simp) (Keep.refl _ _)⟩
  have h8 := h6.kpB k7 (by omega) fR
  refine like_c h8 hC hk hnn hs hv ht (by rw [hsame]; omega) ?_ ?_ (by omega) hl hO hn (hb76.kp k7 ?_) f7 hlen hlen2 hi hN1 hN
  · rw [List.map_set, heq, hsame]
  · intro p hp
    rcases List.mem_or_eq_of_mem_set hp with hx | rfl
    · have := hm p hx
      omega
    · simp only [List.length_append]
      omega
  · simp only [List.mem_singleton]
    intro e
    subst e
    omega
end
end Go.Proofs.Ytmljgkjcoemadaa
