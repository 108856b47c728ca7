/-
  Two writers in turns: what is asked, what was handed out.
-/
import Derived.Test.YtmljgkjcoemadaaWrites2
namespace Go.Proofs.Ytmljgkjcoemadaa
open Go Go.Ev Go.RowKit
set_option maxRecDepth 100000
abbrev pB (b : Nat) : Value := .pointer (some ⟨b, 0, none⟩)
/-- What a round hands on. -/
def NextW (w0 : World) (bw bl : Nat) (kn : V7) (script0 v19 v20 v21 : Value) (n m : Nat) : Prop := ∀ A C O out w, CW w0 w bw bl A C O out → A.map (·.2) = C.map (·.2) → (∀ p ∈ A, (p : Rw).2.length ≤ m) → (∀ p ∈ O, (p : Rw).2.length ≤ 1099511627776) → O.length ≤ n → kn script0 (pB bw) (pB bl) out v19 v20 v21 w
section
variable {K : KT} {kn : V7} {script0 v19 v20 v21 out : Value} {w0 w : World} {bw bl : Nat} {A C O : List Rw}
theorem CW.outAt (h : CW w0 w bw bl A C O out) {j : Nat} {p : Rw} (hp : O[j]? = some p) : SB w p.1 p.2 := by
  have hlen : (A ++ C).length = A.length + C.length := List.length_append
  exact owns_Sl (h.pool.own (A.length + C.length + j) p (by rw [List.getElem?_append_right (by omega), hlen, show A.length + C.length + j - (A.length + C.length) = j by omega]; exact hp))
/-- All that was handed out bears its marks. -/
theorem marks_inner (h : CW w0 w bw bl A C O out) {kx : V10} {j : Nat} {p : Rw} (hp : O[j]? = some p) (hl : p.2.length ≤ 1099511627776) {v119 v120 v121 : Value} (hK : kx script0 (pB bw) (pB bl) out v19 v20 v21 v119 v120 v121 w) :
    ∀ (k i : Nat), k + i = p.2.length + 1 → 1 ≤ k → witnesslaw2_CodecWrites.L13 K kx k script0 (pB bw) (pB bl) out (.int .i64 (j : Int)) p.1 v19 v20 v21 v119 v120 v121 (.int .i64 (p.2.length : Int)) (.int .i64 i) w := by
  intro k
  induction k with
  | zero => intro i _ h; omega
  | succ k ih =>
    intro i hi _
    unfold witnesslaw2_CodecWrites.L13 witnesslaw2_CodecWrites.C13
    refine s_lss ?_
    refine s_cnd (fun hc => ?_) (fun hc => hK)
    have hil : i < p.2.length := by omega
    refine SB.get rfl (h.outAt hp) hil ?_
    intro a ha
    have hm := h.marks j p hp
    have e : p.2.getD i 0 = UInt8.ofNat j := by
      rw [hm, List.getD_eq_getElem?_getD, List.getElem?_replicate, if_pos hil]
      rfl
    rw [e] at ha
    refine s_opt ha ?_
    refine s_cv ?_
    rw [u8_cv]
    refine s_neq ?_
    refine s_cndF (fun hx => hx rfl) ?_
    refine s_addi (by rw [i64min, i64max]; omega) ?_
    exact ih (i + 1) (by omega) (by omega)
theorem marks_loop (h : CW w0 w bw bl A C O out) {kx : V7} (hl : ∀ (j : Nat) (p : Rw), O[j]? = some p → p.2.length ≤ 1099511627776) (hO : O.length ≤ 1099511627776) (hK : kx script0 (pB bw) (pB bl) out v19 v20 v21 w) :
    ∀ (k j : Nat), k + j = O.length + 1 → 1 ≤ k → witnesslaw2_CodecWrites.L10 K kx k script0 (pB bw) (pB bl) out v19 v20 v21 out (.int .i64 (O.length : Int)) (.int .i64 j) w := by
  intro k
  induction k with
  | zero => intro j _ h; omega
  | succ k ih =>
    intro j hj _
    unfold witnesslaw2_CodecWrites.L10 witnesslaw2_CodecWrites.C10
    refine s_lss ?_
    refine s_cnd (fun hc => ?_) (fun hc => hK)
    have hjl : j < O.length := by omega
    have hp : O[j]? = some O[j] := List.getElem?_eq_getElem hjl
    unfold witnesslaw2_CodecWrites.C12
    refine Sl.atC rfl (owns_Sl h.ot) (u := O[j].1) (by rw [List.getElem?_map, hp]; rfl) ?_
    intro a ha
    refine s_ldC (Keep.refl _ _) ha ?_
    refine SB.len (h.outAt hp) ?_
    refine ⟨O[j].2.length + 1, marks_inner h hp (hl j _ hp) ?_ _ 0 rfl (by omega)⟩
    unfold witnesslaw2_CodecWrites.C11
    refine s_addi (by rw [i64min, i64max]; omega) ?_
    exact ih (j + 1) (by omega) (by omega)
/-- A text that was handed out is filled with marks. -/
theorem fill_loop {kx : V9} {n13 : Value} {b : Nat} {l : List UInt8} {m : Nat} (hout : lenS out = some (.int .i64 (m : Int))) (hl : l.length ≤ 1099511627776) {w1 : World}
    (hK : ∀ w', Blk w' b (bvs (List.replicate l.length (UInt8.ofNat m))) 5 → Keep [b] w1 w' → kx script0 (pB bw) (pB bl) out n13 (.slice (some ⟨b, 0, none⟩) l.length l.length) v19 v20 v21 w') :
    ∀ (k i : Nat) (w' : World), k + i = l.length + 1 → 1 ≤ k → Blk w' b (bvs (List.replicate i (UInt8.ofNat m) ++ l.drop i)) 5 → Keep [b] w1 w' → witnesslaw2_CodecWrites.L19 K kx k script0 (pB bw) (pB bl) out n13 (.slice (some ⟨b, 0, none⟩) l.length l.length) v19 v20 v21 (.int .i64 (l.length : Int)) (.int .i64 i) w' := by
  intro k
  induction k with
  | zero => intro i _ _ h; omega
  | succ k ih =>
    intro i w' hi _ hb kk
    unfold witnesslaw2_CodecWrites.L19 witnesslaw2_CodecWrites.C19
    refine s_lss ?_
    refine s_cnd (fun hc => ?_) (fun hc => ?_)
    · have hil : i < l.length := by omega
      refine s_opt hout ?_
      refine s_cv ?_
      rw [u8_cv]
      refine s_ixS (by omega) (by omega) ?_
      rw [show (i : Int).toNat * 1 = i by simp]
      refine s_stB (o := 0) (i := i) hb (by simp; omega) rfl ?_
      intro w2 hb2 k2
      refine s_addi (by rw [i64min, i64max]; omega) ?_
      refine ih (i + 1) w2 (by omega) (by omega) ?_ (kk.tr k2)
      have e : (bvs (List.replicate i (UInt8.ofNat m) ++ l.drop i)).set (0 + i) (bv (UInt8.ofNat m)) = bvs (List.replicate (i + 1) (UInt8.ofNat m) ++ l.drop (i + 1)) := by
        rw [bvs, ← List.map_set, Nat.zero_add, List.set_append_right _ _ (by simp), List.length_replicate, Nat.sub_self, List.drop_eq_getElem_cons hil, List.set_cons_zero, List.replicate_succ', List.append_assoc]
        rfl
      rw [← e]
      exact hb2
    · have e : i = l.length := by omega
      subst e
      rw [List.drop_length, List.append_nil] at hb
      exact hK w' hb kk
/-- One writer is asked: what it hands out is what the document says; it is marked and kept. -/
theorem ask_one {kn8 : V8} (h : CW w0 w bw bl A C O out) (heq : A.map (·.2) = C.map (·.2)) (hm : ∀ p ∈ A, (p : Rw).2.length ≤ 1099511627775) (hO : O.length ≤ 16777215) {n : Nat} (hn : n < 2)
    (hK : ∀ (out' : Value) (p : Rw) (w' : World), p.2.length ≤ 1099511627776 → CW w0 w' bw bl A C (O ++ [p]) out' → kn8 script0 (pB bw) (pB bl) out' (.int .i64 (n : Int)) v19 v20 v21 w') : witnesslaw2_CodecWrites.C16 K kn8 script0 (pB bw) (pB bl) out (.int .i64 (n : Int)) v19 v20 v21 w := by
  have hla := h.la
  have hlc := h.lc
  have hA : A[n]? = some A[n] := List.getElem?_eq_getElem (by omega)
  have hC : C[n]? = some C[n] := List.getElem?_eq_getElem (by omega)
  have hsame : C[n].2 = A[n].2 := by
    have h1 : (A.map (·.2))[n]? = (C.map (·.2))[n]? := by rw [heq]
    rw [List.getElem?_map, List.getElem?_map, hA, hC] at h1
    exact (Option.some.inj h1).symm
  have hml : A[n].2.length ≤ 1099511627775 := hm _ (List.getElem_mem _)
  generalize A[n] = pa at *
  generalize C[n] = pc at *
  have hws := h.ws hA
  have hcs : SB w pc.1 pc.2 := owns_Sl (h.pool.own (A.length + n) pc (by rw [List.append_assoc, List.getElem?_append_right (by omega), List.getElem?_append_left (by omega), show A.length + n - A.length = n by omega]; exact hC))
  rw [hsame] at hcs
  obtain ⟨va, l⟩ := pa
  obtain ⟨vc, lc⟩ := pc
  replace hsame : lc = l := hsame
  subst hsame
  replace hml : lc.length ≤ 1099511627775 := hml
  replace hcs : SB w vc lc := hcs
  have hout : lenS out = some (.int .i64 (O.length : Int)) := by
    have hs := owns_Sl h.ot
    rcases hs with ⟨e1, e2⟩ | ⟨a, c, e1, _⟩
    · rw [e1]
      have : O.length = 0 := by simpa using congrArg List.length e2
      rw [this]
      rfl
    · rw [e1]
      simp [lenS]
  unfold witnesslaw2_CodecWrites.C16
  have ixw : ∀ {w' : World} {K' : KT}, K' (.pointer (some ⟨bw, n, none⟩)) w' → optW (ixA 2 1 (pB bw) (.int .i64 (n : Int))) w' K' := fun hk => s_ixA (by omega) (by omega) (by rw [show (n : Int).toNat * 1 = n by simp, add_mid, Nat.zero_add]; exact hk)
  refine ixw ?_
  refine (wbytes_c hws (Nat.le_succ_of_le hml)).mono ?_
  rintro r w1 ⟨rfl, k1, hb1⟩
  have h1 := h.step k1
  have hcs1 := Sl.kp0 hcs k1
  unfold witnesslaw2_CodecWrites.D20
  refine ⟨fun w' => Keep [] w1 w', (Keep.refl _ _).drew, ?_⟩
  refine s_drw ?_
  have kd : Keep [] w1 w1.drew := (Keep.refl _ _).drew
  refine ixw ?_
  refine (wlen_c ((h1.step kd).ws hA)).mono ?_
  rintro r w2 ⟨rfl, rfl⟩
  refine ⟨kd, ?_⟩
  have rd : ∀ w', Keep [] w1 w' → ld1 (.pointer (some ((⟨bl, 0, none⟩ : Addr).add ((n : Int).toNat * 1)))) w' = some vc := fun w' hk => by
    simp only [ld1]
    rw [add_mid, (h1.lb.kp hk (by simp)).cell, show 0 + (n : Int).toNat * 1 = n by simp, List.getElem?_map, hC]
    rfl
  have ixl : ∀ {w' : World} {K' : KT}, K' (.pointer (some ((⟨bl, 0, none⟩ : Addr).add ((n : Int).toNat * 1)))) w' → optW (ixA 2 1 (pB bl) (.int .i64 (n : Int))) w' K' := fun hk => s_ixA (by omega) (by omega) hk
  refine ixl ?_
  refine s_rdI rd ?_
  refine SB.len hcs ?_
  refine s_neq ?_
  have e0 : decide (((lc.length : Nat) : Int) ≠ ((lc.length : Nat) : Int)) = false := by simp
  rw [e0]
  refine s_gRun rfl ?_
  refine s_gRun rfl ?_
  refine s_gRun rfl (ixl ?_)
  refine ⟨_, fun w' hk => s_gRun rfl (s_opt (rd w' hk) ⟨rfl, rfl⟩), ?_⟩
  refine s_gRun rfl ?_
  have kd := kd
  refine (same_c lc lc _ _ _ ((hb1.kp kd (by simp)).sb rfl) (hcs1.kp0 kd) (by omega)).mono ?_
  rintro r w2 ⟨rfl, k2⟩
  rw [decide_eq_true rfl]
  refine s_gRun rfl (s_not ?_)
  refine s_opt (v := .bool false) rfl ?_
  have k12 := kd.tr k2
  have hb2 := hb1.kp k12 (by simp)
  have h2 := h1.step k12
  unfold witnesslaw2_CodecWrites.C17
  refine s_false ?_
  refine s_lenS ?_
  refine ⟨lc.length + 1, fill_loop hout (Nat.le_succ_of_le hml) (fun w3 hb3 k3 => ?_) _ 0 w2 rfl (by omega) (by simpa using hb2) (Keep.refl _ _)⟩
  have kw2 : Keep [] w w2 := k1.tr k12
  have kw3 : Keep [] w w3 := keep2 kw2 k3 (Nat.le_refl _)
  have hsz := h.kp.size
  have hsz3 := kw3.size
  unfold witnesslaw2_CodecWrites.C18
  refine s_opt hout ?_
  refine s_cv ?_
  rw [u8_cv]
  have ho3 : w3.ownsRow w0.heap.size 5 1 (.slice (some ⟨w.heap.size, 0, none⟩) lc.length lc.length) (List.replicate lc.length (UInt8.ofNat O.length)).length (bvs (List.replicate lc.length (UInt8.ofNat O.length))) := by
    have := own_of_blk (n := lc.length) hb3 (by simp) hsz (by omega)
    rw [List.length_replicate]
    exact this
  refine s_push2 eU8 (by omega) ho3 (by simp; omega) ?_
  intro v4 w4 ho4 k4 hbl4
  have kw4 : Keep [] w w4 := keep2 kw3 (k4.mono (U := [w.heap.size]) (fun x hx _ => hx)) (Nat.le_refl _)
  have e4 : List.replicate lc.length (UInt8.ofNat O.length) ++ [UInt8.ofNat O.length] = List.replicate (lc.length + 1) (UInt8.ofNat O.length) := List.replicate_succ'.symm
  rw [e4] at ho4
  refine h.gave (p := (v4, List.replicate (lc.length + 1) (UInt8.ofNat O.length))) kw4 ho4 (fun g hg => ?_) (by simp) (by omega) (fun out' w' h' => hK out' _ w' (by simp; omega) h')
  rcases hbl4 with e | hf
  · rw [e] at hg
    simp [blkOf] at hg
    omega
  · have := hf g hg
    omega
end
end Go.Proofs.Ytmljgkjcoemadaa
