/-
  Many rows of bytes of one's own, no two in one block.
-/
import Derived.Test.YtmljgkjcoemadaaKit
namespace Go.Proofs.Ytmljgkjcoemadaa
open Go Go.Ev Go.RowKit
set_option maxRecDepth 100000
abbrev Rw := Value × List UInt8
structure Pool (w : World) (B : Nat) (P : List Rw) : Prop where
  own : ∀ (i : Nat) (p : Rw), P[i]? = some p → w.ownsRow B 5 1 p.1 p.2.length (bvs p.2)
  ap : ∀ (i j : Nat) (p q : Rw), P[i]? = some p → P[j]? = some q → i ≠ j → ∀ b ∈ blkOf p.1, b ∉ blkOf q.1
namespace Pool
variable {w w' : World} {B : Nat} {P : List Rw}
theorem nil (w : World) (B : Nat) : Pool w B [] := ⟨fun i p h => by simp at h, fun i j p q h => by simp at h⟩
theorem kp (h : Pool w B P) {S : List Nat} (k : Keep S w w') (hS : ∀ (i : Nat) (p : Rw), P[i]? = some p → ∀ b ∈ blkOf p.1, b ∉ S) : Pool w' B P :=
  ⟨fun i p hp => owns_kp (h.own i p hp) k (hS i p hp), h.ap⟩
theorem kp0 (h : Pool w B P) (k : Keep [] w w') : Pool w' B P := h.kp k (fun _ _ _ _ _ => by simp)
/-- What writes only blocks of other types leaves it alone. -/
theorem kpT (h : Pool w B P) {S : List Nat} (k : Keep S w w') (hS : ∀ b ∈ S, b < w.heap.size → ∀ cs fr, w.heap[b]? ≠ some (.cells cs 5 fr)) : Pool w' B P :=
  h.kp k fun i p hp b hb hs => by
    obtain ⟨cs, hc⟩ := owns_ty (h.own i p hp) b hb
    exact hS b hs (Array.getElem?_eq_some_iff.1 hc).1 cs _ hc
/-- One row is written, and may move to a new block. -/
theorem set (h : Pool w B P) {i : Nat} {p p' : Rw} (hp : P[i]? = some p) {X : List Nat} (k : Keep (X ++ blkOf p.1) w w') (hX : ∀ b ∈ X, b < w.heap.size → ∀ cs fr, w.heap[b]? ≠ some (.cells cs 5 fr)) (ho : w'.ownsRow B 5 1 p'.1 p'.2.length (bvs p'.2))
    (hb : blkOf p'.1 = blkOf p.1 ∨ ∀ g ∈ blkOf p'.1, w.heap.size ≤ g) : Pool w' B (P.set i p') := by
  have hi : i < P.length := by
    by_cases hx : i < P.length
    · exact hx
    · rw [List.getElem?_eq_none (by omega)] at hp; cases hp
  have lt : ∀ (j : Nat) (q : Rw), P[j]? = some q → ∀ b ∈ blkOf q.1, b < w.heap.size := fun j q hq b hb => (owns_lt (h.own j q hq) b hb).2
  have far : ∀ (j : Nat) (q : Rw), P[j]? = some q → j ≠ i → ∀ b ∈ blkOf q.1, b ∉ blkOf p'.1 := by
    intro j q hq hj b hbq hbp
    rcases hb with e | hf
    · rw [e] at hbp; exact h.ap j i q p hq hp hj b hbq hbp
    · have := hf b hbp; have := lt j q hq b hbq; omega
  refine ⟨fun j q hq => ?_, fun j m q r hq hr hne => ?_⟩
  · by_cases hj : j = i
    · subst hj
      rw [List.getElem?_set_self hi] at hq
      cases hq
      exact ho
    · rw [List.getElem?_set_ne (Ne.symm hj)] at hq
      refine owns_kp (h.own j q hq) k (fun b hbq hbs => ?_)
      rcases List.mem_append.1 hbs with hx | hx
      · obtain ⟨cs, hc⟩ := owns_ty (h.own j q hq) b hbq
        exact hX b hx (lt j q hq b hbq) cs _ hc
      · exact h.ap j i q p hq hp hj b hbq hx
  · by_cases hj : j = i
    · subst hj
      rw [List.getElem?_set_self hi] at hq
      cases hq
      rw [List.getElem?_set_ne hne] at hr
      intro b hbq hbr
      exact far m r hr (Ne.symm hne) b hbr hbq
    · rw [List.getElem?_set_ne (Ne.symm hj)] at hq
      by_cases hm : m = i
      · subst hm
        rw [List.getElem?_set_self hi] at hr
        cases hr
        exact far j q hq hj
      · rw [List.getElem?_set_ne (Ne.symm hm)] at hr
        exact h.ap j m q r hq hr hne
/-- A new row. -/
theorem push (h : Pool w B P) {p : Rw} (k : Keep [] w w') (ho : w'.ownsRow B 5 1 p.1 p.2.length (bvs p.2)) (hb : ∀ g ∈ blkOf p.1, w.heap.size ≤ g) : Pool w' B (P ++ [p]) := by
  have h' := h.kp0 k
  have lt : ∀ (j : Nat) (q : Rw), P[j]? = some q → ∀ b ∈ blkOf q.1, b < w.heap.size := fun j q hq b hb => (owns_lt (h.own j q hq) b hb).2
  have cases' : ∀ (j : Nat) (q : Rw), (P ++ [p])[j]? = some q → (j < P.length ∧ P[j]? = some q) ∨ (j = P.length ∧ q = p) := by
    intro j q hq
    by_cases hj : j < P.length
    · rw [List.getElem?_append_left hj] at hq
      exact .inl ⟨hj, hq⟩
    · rw [List.getElem?_append_right (by omega)] at hq
      have : j - P.length = 0 := by
        by_cases hx : j - P.length = 0
        · exact hx
        · rw [List.getElem?_eq_none (by simp; omega)] at hq; cases hq
      rw [this] at hq
      simp at hq
      exact .inr ⟨by omega, hq.symm⟩
  refine ⟨fun j q hq => ?_, fun j m q r hq hr hne => ?_⟩
  · rcases cases' j q hq with ⟨_, hq⟩ | ⟨_, rfl⟩
    · exact h'.own j q hq
    · exact ho
  · rcases cases' j q hq with ⟨hj, hq'⟩ | ⟨hj, e1⟩ <;> rcases cases' m r hr with ⟨hm, hr'⟩ | ⟨hm, e2⟩
    · exact h.ap j m q r hq' hr' hne
    · intro b hbq hbr
      rw [e2] at hbr
      have := lt j q hq' b hbq
      have := hb b hbr
      omega
    · intro b hbq hbr
      rw [e1] at hbq
      have := lt m r hr' b hbr
      have := hb b hbq
      omega
    · omega
end Pool
end Go.Proofs.Ytmljgkjcoemadaa
