/-
  Two writers in turns: what the law holds on to.
-/
import Derived.Test.YtmljgkjcoemadaaWrites
import Derived.Test.YtmljgkjcoemadaaPool
import Derived.Test.YtmljgkjcoemadaaKitSS
namespace Go.Proofs.Ytmljgkjcoemadaa
open Go Go.Ev Go.RowKit
set_option maxRecDepth 100000
/-- The writers 'A' in block 'bw', what the document says 'C' in block 'bl', what was handed out 'O'. -/
structure CW (w0 w : World) (bw bl : Nat) (A C O : List Rw) (out : Value) : Prop where
  kp : Keep [] w0 w
  la : A.length = 2
  lc : C.length = 2
  wb : Blk w bw (A.map (·.1)) 26
  lb : Blk w bl (C.map (·.1)) 27
  fw : w0.heap.size ≤ bw
  fl : w0.heap.size ≤ bl
  pool : Pool w w0.heap.size (A ++ C ++ O)
  ot : w.ownsRow w0.heap.size 23 1 out O.length (O.map (·.1))
  marks : ∀ (j : Nat) (p : Rw), O[j]? = some p → p.2 = List.replicate p.2.length (UInt8.ofNat j)
namespace CW
variable {w0 w w' : World} {bw bl : Nat} {A C O : List Rw} {out : Value}
theorem step (h : CW w0 w bw bl A C O out) (k : Keep [] w w') : CW w0 w' bw bl A C O out :=
  ⟨h.kp.tr k, h.la, h.lc, h.wb.kp k (by simp), h.lb.kp k (by simp), h.fw, h.fl, h.pool.kp0 k, owns_kp h.ot k (by simp), h.marks⟩
theorem ty {b : Nat} {l : List Value} {e : TypeId} (h : Blk w b l e) (he : e ≠ 5) : ∀ cs fr, w.heap[b]? ≠ some (.cells cs 5 fr) := by
  intro cs fr hc
  unfold Blk at h
  rw [h] at hc
  simp at hc
  exact he hc.2.1
theorem ws (h : CW w0 w bw bl A C O out) {k : Nat} {p : Rw} (hk : A[k]? = some p) : WS w w0.heap.size bw k 26 (A.map (·.1)) p.1 p.2 := by
  have hkl : k < A.length := (List.getElem?_eq_some_iff.1 hk).1
  have ho := h.pool.own k p (by rw [List.append_assoc, List.getElem?_append_left hkl]; exact hk)
  refine ⟨h.wb, by rw [List.getElem?_map, hk]; rfl, ho, fun hx => ?_, h.kp.size⟩
  obtain ⟨cs, hc⟩ := owns_ty ho bw hx
  exact ty h.wb (by decide) cs _ hc
/-- A writer has laid something down. -/
theorem wrote (h : CW w0 w bw bl A C O out) {k : Nat} {p : Rw} (hk : A[k]? = some p) {v' : Value} {l' : List UInt8} (hs : WS w' w0.heap.size bw k 26 ((A.map (·.1)).set k v') v' l') (ht : WT w w' bw p.1 v') : CW w0 w' bw bl (A.set k (v', l')) C O out := by
  have hkl : k < A.length := (List.getElem?_eq_some_iff.1 hk).1
  have hp : (A ++ C ++ O)[k]? = some p := by rw [List.append_assoc, List.getElem?_append_left hkl]; exact hk
  have ho := h.pool.own k p hp
  have hX : ∀ b ∈ [bw], b < w.heap.size → ∀ cs fr, w.heap[b]? ≠ some (.cells cs 5 fr) := by
    intro b hb _
    simp at hb
    subst hb
    exact ty h.wb (by decide)
  have kk : Keep ([bw] ++ blkOf p.1) w w' := ht.kp
  have hpool := h.pool.set hp (p' := (v', l')) kk hX hs.own ht.bl
  have hset : (A ++ C ++ O).set k (v', l') = A.set k (v', l') ++ C ++ O := by
    rw [List.append_assoc, List.set_append_left _ _ hkl, List.append_assoc]
  rw [hset] at hpool
  have nb : ∀ {b : Nat} {l : List Value} {e : TypeId}, Blk w b l e → e ≠ 5 → e ≠ 26 → b ∉ [bw] ++ blkOf p.1 := by
    intro b l e hb he he2 hx
    rcases List.mem_append.1 hx with hx | hx
    · simp at hx
      subst hx
      have h1 := h.wb
      unfold Blk at h1 hb
      rw [h1] at hb
      simp at hb
      exact he2 hb.2.symm
    · obtain ⟨cs, hc⟩ := owns_ty ho b hx
      exact ty hb he cs _ hc
  refine ⟨h.kp.trans kk (by simp) (fun b hb hlt => ?_), by simp [h.la], h.lc, by rw [List.map_set]; exact hs.blk, h.lb.kp kk (nb h.lb (by decide) (by decide)), h.fw, h.fl, hpool, owns_kp h.ot kk (fun b hb hx => ?_), h.marks⟩
  · exfalso
    rcases List.mem_append.1 hb with hb | hb
    · simp at hb; have := h.fw; omega
    · have := (owns_lt ho b hb).1; omega
  · obtain ⟨cs, hc⟩ := owns_ty h.ot b hb
    rcases List.mem_append.1 hx with hx | hx
    · simp at hx
      subst hx
      have h1 := h.wb
      unfold Blk at h1
      rw [h1] at hc
      simp at hc
    · obtain ⟨cs', hc'⟩ := owns_ty ho b hx
      rw [hc] at hc'
      simp at hc'
/-- The document's text grows. -/
theorem liked (h : CW w0 w bw bl A C O out) {k : Nat} {p : Rw} (hk : C[k]? = some p) {v' : Value} {l' : List UInt8} {w1 : World} (ho' : w1.ownsRow w0.heap.size 5 1 v' l'.length (bvs l')) (hb' : blkOf v' = blkOf p.1 ∨ ∀ g ∈ blkOf v', w.heap.size ≤ g) (k1 : Keep (blkOf p.1) w w1) (hone : v'.oneCell' = true) {K : World → Prop}
    (hK : ∀ w', CW w0 w' bw bl A (C.set k (v', l')) O out → Keep ([bl] ++ blkOf p.1) w w' → K w') : optW (ixA 2 1 (.pointer (some ⟨bl, 0, none⟩)) (.int .i64 (k : Int))) w1 fun q w => st1 q v' w K := by
  have hkl : k < C.length := (List.getElem?_eq_some_iff.1 hk).1
  have hp : (A ++ C ++ O)[A.length + k]? = some p := by rw [List.append_assoc, List.getElem?_append_right (by omega), List.getElem?_append_left (by omega), show A.length + k - A.length = k by omega]; exact hk
  have ho := h.pool.own _ p hp
  have hlc := h.lc
  have nb : ∀ {b : Nat} {l : List Value} {e : TypeId}, Blk w b l e → e ≠ 5 → b ∉ blkOf p.1 := by
    intro b l e hb he hx
    obtain ⟨cs, hc⟩ := owns_ty ho b hx
    exact ty hb he cs _ hc
  have hlb1 := h.lb.kp k1 (nb h.lb (by decide))
  have hwb1 := h.wb.kp k1 (nb h.wb (by decide))
  refine s_ixA (by omega) (by omega) ?_
  rw [show (k : Int).toNat * 1 = k by simp]
  refine s_stB (o := 0) (i := k) hlb1 (by simp; omega) hone ?_
  intro w2 hb2 k2
  rw [Nat.zero_add] at hb2
  have kk : Keep ([bl] ++ blkOf p.1) w w2 := k1.trans k2 (fun x hx _ => List.mem_append_right _ hx) (fun x hx _ => List.mem_append_left _ hx)
  have hne : bw ≠ bl := by
    rintro rfl
    have h1 := h.wb
    have h2 := h.lb
    unfold Blk at h1 h2
    rw [h1] at h2
    simp at h2
  have hX : ∀ b ∈ [bl], b < w.heap.size → ∀ cs fr, w.heap[b]? ≠ some (.cells cs 5 fr) := by
    intro b hb _
    simp at hb
    subst hb
    exact ty h.lb (by decide)
  have hfar : bl ∉ blkOf v' := by
    intro hx
    rcases hb' with e | hf
    · rw [e] at hx; exact nb h.lb (by decide) hx
    · have := hf bl hx; have := h.lb.lt; omega
  have ho2 : w2.ownsRow w0.heap.size 5 1 v' l'.length (bvs l') := owns_kp ho' k2 (fun b hb hx => by simp at hx; subst hx; exact hfar hb)
  have hpool := h.pool.set hp (p' := (v', l')) kk hX ho2 hb'
  have hset : (A ++ C ++ O).set (A.length + k) (v', l') = A ++ C.set k (v', l') ++ O := by
    rw [List.append_assoc, List.set_append_right _ _ (by omega), show A.length + k - A.length = k by omega, List.set_append_left _ _ hkl, List.append_assoc]
  rw [hset] at hpool
  refine hK w2 ⟨h.kp.trans kk (by simp) (fun b hb hlt => ?_), h.la, by simp [h.lc], hwb1.kp k2 (by simpa using hne), by rw [List.map_set]; exact hb2, h.fw, h.fl, hpool, owns_kp h.ot kk (fun b hb hx => ?_), h.marks⟩ kk
  · exfalso
    rcases List.mem_append.1 hb with hb | hb
    · simp at hb; have := h.fl; omega
    · have := (owns_lt ho b hb).1; omega
  · obtain ⟨cs, hc⟩ := owns_ty h.ot b hb
    rcases List.mem_append.1 hx with hx | hx
    · simp at hx
      subst hx
      have h1 := h.lb
      unfold Blk at h1
      rw [h1] at hc
      simp at hc
    · obtain ⟨cs', hc'⟩ := owns_ty ho b hx
      rw [hc] at hc'
      simp at hc'
/-- One text more that was handed out and marked. -/
theorem gave (h : CW w0 w bw bl A C O out) {w1 : World} {p : Rw} (k1 : Keep [] w w1) (ho : w1.ownsRow w0.heap.size 5 1 p.1 p.2.length (bvs p.2)) (hf : ∀ g ∈ blkOf p.1, w.heap.size ≤ g) (hm : p.2 = List.replicate p.2.length (UInt8.ofNat O.length)) (hO : O.length ≤ 16777216) {ty' : TypeId} {K : Value → World → Prop}
    (hK : ∀ out' w', CW w0 w' bw bl A C (O ++ [p]) out' → K out' w') : semW Try.prog (Instr.buildSlice 28 1 #[(0, p.1)]) w1 fun x w => semW Try.prog (bltS .append #[28, 28] ty' #[out, x]) w K := by
  have hpool := h.pool.push k1 ho hf
  have h1 := h.step k1
  have hsl := owns_Sl ho
  refine s_lit1 eBs (slice_cells hsl) ?_
  intro w2 k2 ho2
  have h2 := h1.step k2
  refine s_app' (base := w0.heap.size) eBs h2.ot (owns_Sl ho2) (by intro u hu; simp at hu; subst hu; exact slice_one hsl) (by simp; unfold maxLen; omega) (by simp; omega) h2.kp.size ?_
  intro out' w3 ho3 k3 _
  have T : ∀ b ∈ blkOf out, ∃ cs, w2.heap[b]? = some (.cells cs 23 (0, 0)) := owns_ty h2.ot
  have nb : ∀ {b : Nat} {l : List Value} {e : TypeId}, Blk w2 b l e → e ≠ 23 → b ∉ blkOf out := by
    intro b l e hb he hx
    obtain ⟨cs, hc⟩ := T b hx
    unfold Blk at hb
    rw [hb] at hc
    simp at hc
    exact he hc.2
  have hpool2 : Pool w3 w0.heap.size (A ++ C ++ O ++ [p]) := (hpool.kp0 k2).kpT k3 (fun b hb _ cs fr hc => by
    obtain ⟨cs', hc'⟩ := T b hb
    rw [hc] at hc'
    simp at hc')
  refine hK out' w3 ⟨keepNew h2.kp k3 (fun b hb => (owns_lt h2.ot b hb).1), h.la, h.lc, h2.wb.kp k3 (nb h2.wb (by decide)), h2.lb.kp k3 (nb h2.lb (by decide)), h.fw, h.fl, by rw [List.append_assoc] at hpool2; exact hpool2, by simpa using ho3, ?_⟩
  intro j q hq
  by_cases hj : j < O.length
  · rw [List.getElem?_append_left hj] at hq
    exact h.marks j q hq
  · rw [List.getElem?_append_right (by omega)] at hq
    have hj0 : j - O.length = 0 := by
      by_cases hx : j - O.length = 0
      · exact hx
      · rw [List.getElem?_eq_none (by simp; omega)] at hq; cases hq
    rw [hj0] at hq
    simp at hq
    subst hq
    rw [show j = O.length by omega]
    exact hm
/-- A block that none of it lies in. -/
structure Far (b bw bl : Nat) (P : List Rw) (out : Value) : Prop where
  pool : ∀ p ∈ P, b ∉ blkOf (p : Rw).1
  nw : b ≠ bw
  nl : b ≠ bl
  nt : b ∉ blkOf out
theorem far (h : CW w0 w bw bl A C O out) {b : Nat} (hb : w.heap.size ≤ b) : Far b bw bl (A ++ C ++ O) out := by
  refine ⟨fun p hp hx => ?_, fun e => ?_, fun e => ?_, fun hx => ?_⟩
  · obtain ⟨i, hi, e⟩ := List.getElem_of_mem hp
    have := owns_lt (h.pool.own i p (by rw [List.getElem?_eq_getElem hi, e])) b hx
    omega
  · have := h.wb.lt
    omega
  · have := h.lb.lt
    omega
  · have := owns_lt h.ot b hx
    omega
theorem kpB (h : CW w0 w bw bl A C O out) {b : Nat} (k : Keep [b] w w') (hb : w0.heap.size ≤ b) (f : Far b bw bl (A ++ C ++ O) out) : CW w0 w' bw bl A C O out := by
  have hn : ∀ {v : Value}, b ∉ blkOf v → ∀ x ∈ blkOf v, x ∉ [b] := by
    intro v hv x hx hxb
    simp at hxb
    exact hv (hxb ▸ hx)
  refine ⟨keep2 h.kp k hb, h.la, h.lc, h.wb.kp k (by simpa using Ne.symm f.nw), h.lb.kp k (by simpa using Ne.symm f.nl), h.fw, h.fl, h.pool.kp k (fun i p hp => hn (f.pool p (List.mem_of_getElem? hp))), owns_kp h.ot k (hn f.nt), h.marks⟩
theorem Far.set {b k : Nat} {P : List Rw} {p' : Rw} (f : Far b bw bl P out) (hp : b ∉ blkOf p'.1) : Far b bw bl (P.set k p') out :=
  ⟨fun p hm => by
    rcases List.mem_or_eq_of_mem_set hm with h | rfl
    · exact f.pool p h
    · exact hp, f.nw, f.nl, f.nt⟩
end CW
end Go.Proofs.Ytmljgkjcoemadaa
