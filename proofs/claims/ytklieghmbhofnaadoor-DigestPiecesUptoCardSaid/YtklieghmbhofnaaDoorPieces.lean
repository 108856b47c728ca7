/-
  Hashes by script: written, forked, reset, asked: what the lists hold.
-/
import Derived.Test.YtklieghmbhofnaaDoorCuts
namespace Go.Proofs.YtklieghmbhofnaaDoor
open Go Go.Ev Go.RowKit
set_option maxRecDepth 100000
theorem eHs : ElT Tryd.prog 37 35 1 8 (.pointer none) := ⟨Tryd.underlying37, by kernel_rfl, rfl, by omega⟩
/-- A cell by its address. -/
def CellAt (x : Value) (v : Value) (w : World) : Prop := ∃ a, v = .pointer (some a) ∧ w.cell? a = some x
theorem s_ldC {w w1 : World} {K : KT} {v x : Value} (k : Keep [] w1 w) (h : CellAt x v w1) (hk : K x w) : optW (ld1 v w) w K := by
  obtain ⟨a, rfl, h⟩ := h
  have hb := World.block_lt_of_cell? w1 _ h
  exact s_ld ((World.cell?_of_block (w := w1) (k.block _ hb (by simp))).trans h) hk
theorem Sl.atC {w : World} {K : KT} {v u : Value} {vs : List Value} {i : Nat} {n : Int} (hn : n = (i : Int)) (h : Sl w v vs) (hu : vs[i]? = some u) (hk : ∀ a, CellAt u a w → K a w) : optW (ixS 1 v (.int .i64 n)) w K := by
  subst hn
  refine Sl.get h (by omega) (by simpa using hu) ?_
  intro a ha
  refine hk a ?_
  cases a <;> simp [ld1] at ha
  rename_i p
  cases p with
  | none => simp at ha
  | some a => exact ⟨a, rfl, ha⟩
def ptr (h : Nat) : Value := .pointer (some ⟨h, 0, none⟩)
/-- A text that nobody writes into: its block holds bytes. -/
structure Txt (w : World) (u : Value) (T : List UInt8) : Prop where
  sb : SB w u T
  ty : ∀ b ∈ blkOf u, ∃ cs fr, w.heap[b]? = some (.cells cs 5 fr)
theorem Txt.kp {w w' : World} {u : Value} {T : List UInt8} {S : List Nat} (h : Txt w u T) (k : Keep S w w') (hS : ∀ b ∈ S, b < w.heap.size → ∀ cs fr, w.heap[b]? ≠ some (.cells cs 5 fr)) : Txt w' u T := by
  have hn : ∀ b ∈ blkOf u, b ∉ S := by
    intro b hb hs
    obtain ⟨cs, fr, hc⟩ := h.ty b hb
    exact hS b hs (Array.getElem?_eq_some_iff.1 hc).1 cs fr hc
  refine ⟨Sl.kp h.sb k hn, fun b hb => ?_⟩
  obtain ⟨cs, fr, hc⟩ := h.ty b hb
  exact ⟨cs, fr, by rw [k.block b (Array.getElem?_eq_some_iff.1 hc).1 (hn b hb)]; exact hc⟩
theorem Txt.of_own {w : World} {base n : Nat} {v : Value} {l : List UInt8} (h : w.ownsRow base 5 1 v n (bvs l)) : Txt w v l := by
  refine ⟨owns_Sl h, fun b hb => ?_⟩
  rcases h.2 with ⟨rfl, _⟩ | ⟨g, cap, cur, rfl, _, hg, _⟩
  · simp [blkOf] at hb
  · simp [blkOf] at hb
    subst hb
    exact ⟨cur, (0, 0), hg⟩
theorem owns_ty {w : World} {base n size : Nat} {e : TypeId} {v : Value} {xs : List Value} (h : w.ownsRow base e size v n xs) : ∀ b ∈ blkOf v, ∃ cs, w.heap[b]? = some (.cells cs e (0, 0)) := by
  intro b hb
  rcases h.2 with ⟨rfl, _⟩ | ⟨g, cap, cur, rfl, _, hg, _⟩
  · simp [blkOf] at hb
  · simp [blkOf] at hb
    subst hb
    exact ⟨cur, hg⟩
theorem HS.ty {w : World} {h size : Nat} {T : List UInt8} (hs : HS w h T size) : ∃ cs, w.heap[h]? = some (.cells cs 62 (0, 0)) := by
  obtain ⟨_, _, hb, _⟩ := hs
  exact ⟨_, hb⟩
/-- What the two lists hold: the hashes with what they have taken, the texts. -/
structure PI (w0 w : World) (l3 t4 : Value) (hs : List Nat) (A : List (List UInt8)) (us : List Value) (B : List (List UInt8)) : Prop where
  kp : Keep [] w0 w
  la : hs.length = A.length
  lb : us.length = B.length
  lab : A.length = B.length
  ol : w.ownsRow w0.heap.size 35 1 l3 A.length (hs.map ptr)
  ot : w.ownsRow w0.heap.size 23 1 t4 B.length us
  nd : hs.Nodup
  far : ∀ h ∈ hs, w0.heap.size ≤ h
  hash : ∀ i, i < A.length → HS w (hs.getD i 0) (A.getD i []) (A.getD i []).length
  text : ∀ i, i < B.length → ∃ u, us[i]? = some u ∧ Txt w u (B.getD i [])
namespace PI
variable {w0 w w' : World} {l3 t4 : Value} {hs : List Nat} {A : List (List UInt8)} {us : List Value} {B : List (List UInt8)}
/-- Nothing of it is changed by what writes only blocks of other types, or new ones. -/
theorem step {S : List Nat} (h : PI w0 w l3 t4 hs A us B) (k : Keep S w w') (hf : ∀ b ∈ S, w0.heap.size ≤ b) (hl : ∀ b ∈ blkOf l3, b ∉ S) (ht : ∀ b ∈ blkOf t4, b ∉ S) (hh : ∀ x ∈ hs, x ∉ S) (hu : ∀ b ∈ S, b < w.heap.size → ∀ cs fr, w.heap[b]? ≠ some (.cells cs 5 fr)) : PI w0 w' l3 t4 hs A us B := by
  refine ⟨keepNew h.kp k hf, h.la, h.lb, h.lab, owns_kp h.ol k hl, owns_kp h.ot k ht, h.nd, h.far, fun i hi => ?_, fun i hi => ?_⟩
  · refine (h.hash i hi).kp k (hh _ ?_)
    rw [List.getD_eq_getElem?_getD, List.getElem?_eq_getElem (by have := h.la; omega)]
    exact List.getElem_mem _
  · obtain ⟨u, e, t⟩ := h.text i hi
    exact ⟨u, e, t.kp k hu⟩
theorem kp0 (h : PI w0 w l3 t4 hs A us B) (k : Keep [] w w') : PI w0 w' l3 t4 hs A us B := h.step k (by simp) (by simp) (by simp) (by simp) (by simp)
theorem hk (h : PI w0 w l3 t4 hs A us B) {k : Nat} (hk : k < A.length) : hs.getD k 0 ∈ hs := by
  rw [List.getD_eq_getElem?_getD, List.getElem?_eq_getElem (by have := h.la; omega)]
  exact List.getElem_mem _
theorem far_hk (h : PI w0 w l3 t4 hs A us B) {k : Nat} (hkk : k < A.length) : w0.heap.size ≤ hs.getD k 0 := h.far _ (h.hk hkk)
/-- One hash is written. -/
theorem setHash (h : PI w0 w l3 t4 hs A us B) {k : Nat} (hkk : k < A.length) {T : List UInt8} (kk : Keep [hs.getD k 0] w w') (hT : HS w' (hs.getD k 0) T T.length) : PI w0 w' l3 t4 hs (A.set k T) us B := by
  have hty := (h.hash k hkk).ty
  obtain ⟨cs, hcs⟩ := hty
  have ne : ∀ {e : TypeId} {n : Nat} {v : Value} {xs : List Value}, w.ownsRow w0.heap.size e 1 v n xs → e ≠ 62 → ∀ b ∈ blkOf v, b ∉ [hs.getD k 0] := by
    intro e n v xs ho he b hb hbs
    simp at hbs
    obtain ⟨cs', hc'⟩ := owns_ty ho b hb
    rw [hbs] at hc'
    rw [List.getD_eq_getElem?_getD] at hcs
    rw [hcs] at hc'
    simp at hc'
    exact he hc'.2.symm
  have hl2 : (A.set k T).length = A.length := List.length_set
  refine ⟨keepNew h.kp kk (fun b hb => by simp at hb; subst hb; have := h.far_hk hkk; simpa [List.getD_eq_getElem?_getD] using this), by rw [hl2]; exact h.la, h.lb, by rw [hl2]; exact h.lab, by rw [hl2]; exact owns_kp h.ol kk (ne h.ol (by decide)), owns_kp h.ot kk (ne h.ot (by decide)), h.nd, h.far, fun i hi => ?_, fun i hi => ?_⟩
  · rw [hl2] at hi
    by_cases hik : i = k
    · subst hik
      have e : (A.set i T).getD i [] = T := by rw [List.getD_eq_getElem?_getD, List.getElem?_set_self hi]; rfl
      rw [e]
      exact hT
    · have e : (A.set k T).getD i [] = A.getD i [] := by rw [List.getD_eq_getElem?_getD, List.getElem?_set_ne (Ne.symm hik), ← List.getD_eq_getElem?_getD]
      rw [e]
      refine (h.hash i hi).kp kk ?_
      have hla := h.la
      simp only [List.mem_singleton]
      rw [List.getD_eq_getElem?_getD, List.getD_eq_getElem?_getD, List.getElem?_eq_getElem (by omega), List.getElem?_eq_getElem (by omega)]
      simp only [Option.getD_some]
      intro he
      have hp := List.pairwise_iff_getElem.1 h.nd
      rcases Nat.lt_or_gt_of_ne hik with hlt | hlt
      · exact hp i k (by omega) (by omega) hlt he
      · exact hp k i (by omega) (by omega) hlt he.symm
  · obtain ⟨u, e, t⟩ := h.text i hi
    refine ⟨u, e, t.kp kk (fun b hb _ cs' fr hc' => ?_)⟩
    simp only [List.mem_singleton] at hb
    rw [hb, hcs] at hc'
    simp at hc'
/-- A text is put in a place. -/
theorem setText (h : PI w0 w l3 t4 hs A us B) {k : Nat} (hkk : k < B.length) {T : List UInt8} {v : Value} (hT : Txt w v T) (hv : v.oneCell' = true) {K : World → Prop} (hK : ∀ w', PI w0 w' l3 t4 hs A (us.set k v) (B.set k T) → Keep (blkOf t4) w w' → K w') : optW (ixS 1 t4 (.int .i64 (k : Int))) w fun p w => st1 p v w K := by
  have hot := h.ot
  rcases hot.2 with ⟨h0, hn⟩ | ⟨g, cap, cur, h0, hb, hg, hnc, hcm, hcs, htake⟩
  · omega
  · have hlb := h.lb
    subst h0
    refine s_ixS (by omega) (by omega) ?_
    have hst := World.ownsRow.stored hot k v
    have hcell : w.cell? ((⟨g, 0, none⟩ : Addr).add ((k : Int).toNat * 1)) = some (us.getD k undef) := by
      have := hot.cells (g := g) rfl k (us.getD k undef) (getD_of (by omega))
      simpa using this
    have e : (⟨g, 0, none⟩ : Addr).add ((k : Int).toNat * 1) = ⟨g, k, none⟩ := by rw [add_mid]; simp
    refine s_st ⟨_, hcell⟩ ?_ hv ?_
    · rw [e]
      simp [World.frozen?, hg]
    · rw [e]
      have kk : Keep [g] w (w.setCell ⟨g, k, none⟩ v) := (Keep.refl _ _).setCell (fun _ => by simp) v
      have hgt : ∀ cs fr, w.heap[g]? ≠ some (.cells cs 5 fr) := by intro cs fr hc; rw [hg] at hc; simp at hc
      have hul : ∀ x ∈ hs, x ∉ [g] := by
        intro x hx hxg
        simp at hxg
        subst hxg
        obtain ⟨i, hi, rfl⟩ := List.mem_iff_getElem.1 hx
        have := h.hash i (by have := h.la; omega)
        obtain ⟨cs, hc⟩ := this.ty
        rw [List.getD_eq_getElem?_getD, List.getElem?_eq_getElem hi] at hc
        simp only [Option.getD_some] at hc
        rw [hg] at hc
        simp at hc
      refine hK _ ⟨keepNew h.kp kk (fun b hb' => by simp at hb'; omega), h.la, by simp [h.lb], by simp [h.lab], owns_kp h.ol kk (fun b hb' hbg => ?_), by rw [List.length_set]; exact hst.1, h.nd, h.far, fun i hi => (h.hash i hi).kp kk (hul _ (h.hk hi)), fun i hi => ?_⟩ kk
      · simp at hbg
        subst hbg
        obtain ⟨cs, hc⟩ := owns_ty h.ol b hb'
        rw [hg] at hc
        simp at hc
      · rw [List.length_set] at hi
        by_cases hik : i = k
        · subst hik
          refine ⟨v, by rw [List.getElem?_set_self (by omega)], ?_⟩
          rw [List.getD_eq_getElem?_getD, List.getElem?_set_self hi]
          exact hT.kp kk (fun b hb' _ => by simp at hb'; subst hb'; exact hgt)
        · obtain ⟨u, e, t⟩ := h.text i hi
          refine ⟨u, by rw [List.getElem?_set_ne (Ne.symm hik)]; exact e, ?_⟩
          rw [List.getD_eq_getElem?_getD, List.getElem?_set_ne (Ne.symm hik), ← List.getD_eq_getElem?_getD]
          exact t.kp kk (fun b hb' _ => by simp at hb'; subst hb'; exact hgt)
/-- One hash and one text more. -/
theorem push (h : PI w0 w l3 t4 hs A us B) {x : Nat} {T : List UInt8} {u : Value} (hx : HS w x T T.length) (hn : x ∉ hs) (hf : w0.heap.size ≤ x) (hu : Txt w u T) (hu1 : u.cells = #[u]) (hu2 : u.oneCell' = true) (hlen : A.length ≤ 16777216) {ty ty' : TypeId} {K : Value → Value → World → Prop}
    (hK : ∀ l3' t4' w', PI w0 w' l3' t4' (hs ++ [x]) (A ++ [T]) (us ++ [u]) (B ++ [T]) → K l3' t4' w')
    {mid : Value → World → (Value → World → Prop) → Prop} (hmid : ∀ (l3' : Value) (w' : World) (K' : Value → World → Prop), Sl w' t4 us → (∀ w'', Keep [] w' w'' → K' u w'') → mid l3' w' K') :
    semW Tryd.prog (Instr.buildSlice 37 1 #[(0, ptr x)]) w fun a w => semW Tryd.prog (bltS .append #[37, 37] ty #[l3, a]) w fun l3' w => mid l3' w fun u' w => semW Tryd.prog (Instr.buildSlice 24 1 #[(0, u')]) w fun b w => semW Tryd.prog (bltS .append #[24, 24] ty' #[t4, b]) w fun t4' w => K l3' t4' w := by
  have hlt := h.hash
  refine s_lit1 eHs rfl ?_
  intro w1 k1 ho1
  have h1 := h.kp0 k1
  have hx1 := hx.kp k1 (by simp)
  have hu1' := hu.kp k1 (by simp)
  refine s_app' (base := w0.heap.size) eHs h1.ol (owns_Sl ho1) (by intro v hv; simp at hv; subst hv; rfl) (by simp; unfold maxLen; omega) (by simp; omega) h1.kp.size ?_
  intro l3' w2 ho2 k2 _
  have S2 : ∀ b ∈ blkOf l3, ∃ cs, w1.heap[b]? = some (.cells cs 35 (0, 0)) := owns_ty h1.ol
  have nh : ∀ {y : Nat} {T' : List UInt8} {n : Nat}, HS w1 y T' n → y ∉ blkOf l3 := by
    intro y T' n hy hb
    obtain ⟨cs, hc⟩ := S2 y hb
    obtain ⟨cs', hc'⟩ := hy.ty
    rw [hc] at hc'
    simp at hc'
  have nt : ∀ b ∈ blkOf l3, b < w1.heap.size → ∀ cs fr, w1.heap[b]? ≠ some (.cells cs 5 fr) := by
    intro b hb _ cs fr hc
    obtain ⟨cs', hc'⟩ := S2 b hb
    rw [hc] at hc'
    simp at hc'
  have hx2 := hx1.kp k2 (nh hx1)
  have hu2' := hu1'.kp k2 nt
  have kp2 : Keep [] w0 w2 := keepNew h1.kp k2 (fun b hb => (owns_lt h1.ol b hb).1)
  have ot2 := owns_kp h1.ot k2 (fun b hb hb' => by
    obtain ⟨cs, hc⟩ := S2 b hb'
    obtain ⟨cs', hc'⟩ := owns_ty h1.ot b hb
    rw [hc] at hc'
    simp at hc')
  have hash2 : ∀ i, i < A.length → HS w2 (hs.getD i 0) (A.getD i []) (A.getD i []).length := fun i hi => (h1.hash i hi).kp k2 (nh (h1.hash i hi))
  have text2 : ∀ i, i < B.length → ∃ u, us[i]? = some u ∧ Txt w2 u (B.getD i []) := fun i hi => let ⟨u, e, t⟩ := h1.text i hi; ⟨u, e, t.kp k2 nt⟩
  refine hmid _ _ _ (owns_Sl ot2) ?_
  intro w3 k3
  refine s_lit1 eBs hu1 ?_
  intro w4 k4 ho4
  have k34 := k3.tr k4
  have ol4 := owns_kp ho2 k34 (by simp)
  have ot4 := owns_kp ot2 k34 (by simp)
  have hx4 := hx2.kp k34 (by simp)
  have hu4 := hu2'.kp k34 (by simp)
  have kp4 := kp2.tr k34
  have hlab := h.lab
  refine s_app' (base := w0.heap.size) eBs ot4 (owns_Sl ho4) (by intro v hv; simp at hv; subst hv; exact hu2) (by simp; unfold maxLen; omega) (by simp; omega) kp4.size ?_
  intro t4' w5 ho5 k5 _
  have S5 : ∀ b ∈ blkOf t4, ∃ cs, w4.heap[b]? = some (.cells cs 23 (0, 0)) := owns_ty ot4
  have nh5 : ∀ {y : Nat} {T' : List UInt8} {n : Nat}, HS w4 y T' n → y ∉ blkOf t4 := by
    intro y T' n hy hb
    obtain ⟨cs, hc⟩ := S5 y hb
    obtain ⟨cs', hc'⟩ := hy.ty
    rw [hc] at hc'
    simp at hc'
  have nt5 : ∀ b ∈ blkOf t4, b < w4.heap.size → ∀ cs fr, w4.heap[b]? ≠ some (.cells cs 5 fr) := by
    intro b hb _ cs fr hc
    obtain ⟨cs', hc'⟩ := S5 b hb
    rw [hc] at hc'
    simp at hc'
  have ol5 := owns_kp ol4 k5 (fun b hb hb' => by
    obtain ⟨cs, hc⟩ := S5 b hb'
    obtain ⟨cs', hc'⟩ := owns_ty ol4 b hb
    rw [hc] at hc'
    simp at hc')
  have hla := h.la
  have hlb := h.lb
  refine hK l3' t4' w5 ⟨keepNew kp4 k5 (fun b hb => (owns_lt ot4 b hb).1), by simp [hla], by simp [hlb], by simp [hlab], by simpa using ol5, by simpa using ho5, ?_, ?_, ?_, ?_⟩
  · exact List.nodup_append.2 ⟨h.nd, by simp, by intro a ha b hb; simp at hb; subst hb; rintro rfl; exact hn ha⟩
  · intro y hy
    rcases List.mem_append.1 hy with hy | hy
    · exact h.far y hy
    · simp at hy; subst hy; exact hf
  · intro i hi
    by_cases hia : i < A.length
    · have e1 : (hs ++ [x]).getD i 0 = hs.getD i 0 := by rw [List.getD_eq_getElem?_getD, List.getElem?_append_left (by omega), ← List.getD_eq_getElem?_getD]
      have e2 : (A ++ [T]).getD i [] = A.getD i [] := by rw [List.getD_eq_getElem?_getD, List.getElem?_append_left hia, ← List.getD_eq_getElem?_getD]
      rw [e1, e2]
      have := (hash2 i hia).kp k34 (by simp)
      exact this.kp k5 (nh5 this)
    · have hi' : i = A.length := by simp at hi; omega
      subst hi'
      have e1 : (hs ++ [x]).getD A.length 0 = x := by rw [List.getD_eq_getElem?_getD, List.getElem?_append_right (by omega), hla]; simp
      have e2 : (A ++ [T]).getD A.length [] = T := by rw [List.getD_eq_getElem?_getD, List.getElem?_append_right (by omega)]; simp
      rw [e1, e2]
      exact hx4.kp k5 (nh5 hx4)
  · intro i hi
    by_cases hib : i < B.length
    · obtain ⟨u', e, t⟩ := text2 i hib
      refine ⟨u', by rw [List.getElem?_append_left (by omega)]; exact e, ?_⟩
      rw [List.getD_eq_getElem?_getD, List.getElem?_append_left hib, ← List.getD_eq_getElem?_getD]
      exact (t.kp k34 (by simp)).kp k5 nt5
    · have hi' : i = B.length := by simp at hi; omega
      subst hi'
      refine ⟨u, by rw [List.getElem?_append_right (by omega), hlb]; simp, ?_⟩
      rw [List.getD_eq_getElem?_getD, List.getElem?_append_right (by omega)]
      simpa using hu4.kp k5 nt5
end PI
end Go.Proofs.YtklieghmbhofnaaDoor
