/-
  Two texts compared.
-/
import Derived.Test.YtmljgkjcoemadaaD
import Derived.Test.YtmljgkjcoemadaaKit
namespace Go.Proofs.Ytmljgkjcoemadaa
open Go Go.Ev Go.RowKit
set_option maxRecDepth 100000
/-- Below 0, 0, above 0: the first byte that differs tells, or the length. -/
def cmpB : List UInt8 → List UInt8 → Int
  | [], [] => 0
  | [], _ :: _ => -1
  | _ :: _, [] => 1
  | a :: l, b :: m => if a = b then cmpB l m else if a < b then -1 else 1
theorem cmpB_cons (a b : UInt8) (l m : List UInt8) : cmpB (a :: l) (b :: m) = if a = b then cmpB l m else if a < b then -1 else 1 := rfl
theorem cmpB_self : ∀ l, cmpB l l = 0
  | [] => rfl
  | a :: l => by simp [cmpB, cmpB_self l]
theorem cmpB_eq : ∀ l m, cmpB l m = 0 ↔ l = m
  | [], [] => by simp [cmpB]
  | [], _ :: _ => by simp [cmpB]
  | _ :: _, [] => by simp [cmpB]
  | a :: l, b :: m => by
    unfold cmpB
    by_cases h : a = b
    · simp [h, cmpB_eq l m]
    · simp only [h, if_false, List.cons.injEq, false_and, iff_false]
      split <;> omega
theorem cmp_end {l m : List UInt8} {i : Nat} (hi : i ≤ l.length) (hi' : i ≤ m.length) (h : ¬ (i < l.length ∧ i < m.length)) : cmpB (l.drop i) (m.drop i) = if l.length < m.length then -1 else if m.length < l.length then 1 else 0 := by
  by_cases h1 : i < l.length
  · have e : m.drop i = [] := by rw [List.drop_eq_nil_iff]; omega
    rw [e, List.drop_eq_getElem_cons h1, if_neg (by omega), if_pos (by omega)]
    rfl
  · have e : l.drop i = [] := by rw [List.drop_eq_nil_iff]; omega
    rw [e]
    by_cases h2 : i < m.length
    · rw [List.drop_eq_getElem_cons h2, if_pos (by omega)]
      rfl
    · have e2 : m.drop i = [] := by rw [List.drop_eq_nil_iff]; omega
      rw [e2, if_neg (by omega), if_neg (by omega)]
      rfl
theorem compare_loop (l m : List UInt8) (a0 b1 : Value) (w0 : World) (ha : SB w0 a0 l) (hb : SB w0 b1 m) (hl : l.length ≤ 4611686018427387904) (K : KT) (hK : ∀ w, Keep [] w0 w → K (.int .i64 (cmpB l m)) w) :
    ∀ (k i : Nat) (w : World), k + i = l.length + 1 → 1 ≤ k → i ≤ m.length → Keep [] w0 w → cmpB l m = cmpB (l.drop i) (m.drop i) → witnessplain_Compare.L3 K (witnessplain_Compare.C2 K) k a0 b1 (.int .i64 i) w := by
  intro k
  induction k with
  | zero => intro i _ _ h; omega
  | succ k ih =>
    intro i w hi _ him kp he
    unfold witnessplain_Compare.L3 witnessplain_Compare.C3
    have stop : ¬ (i < l.length ∧ i < m.length) → witnessplain_Compare.C2 K a0 b1 w := by
      intro hn
      rw [cmp_end (by omega) him hn] at he
      unfold witnessplain_Compare.C2
      refine SB.len ha ?_
      refine SB.len hb ?_
      refine s_lss ?_
      refine s_cnd (fun h1 => ?_) (fun h1 => ?_)
      · rw [if_pos (by omega)] at he
        have := hK w kp
        rwa [he] at this
      · rw [if_neg (by omega)] at he
        refine SB.len ha ?_
        refine SB.len hb ?_
        refine s_gtr ?_
        refine s_cnd (fun h2 => ?_) (fun h2 => ?_)
        · rw [if_pos (by omega)] at he
          have := hK w kp
          rwa [he] at this
        · rw [if_neg (by omega)] at he
          have := hK w kp
          rwa [he] at this
    refine SB.len ha ?_
    refine s_lss ?_
    by_cases h1 : i < l.length
    · rw [show decide ((i : Int) < (l.length : Int)) = true from decide_eq_true (by omega)]
      refine s_gRun rfl ?_
      refine s_gRun rfl ?_
      refine s_gRun rfl ?_
      refine SB.len hb ?_
      refine s_gRun rfl ?_
      refine s_lss ?_
      refine s_opt (v := .bool (decide ((i : Int) < (m.length : Int)))) rfl ?_
      refine s_cnd (fun hc => ?_) (fun hc => stop (by omega))
      have h2 : i < m.length := by omega
      refine s_drw ?_
      have kd : Keep [] w0 w.drew := kp.drew
      refine SB.get rfl (ha.kp0 kd) h1 ?_
      intro p hp
      refine s_opt hp ?_
      refine SB.get rfl (hb.kp0 kd) h2 ?_
      intro q hq
      refine s_opt hq ?_
      refine s_neq ?_
      rw [List.drop_eq_getElem_cons h1, List.drop_eq_getElem_cons h2] at he
      have ea : l.getD i 0 = l[i] := by rw [List.getD_eq_getElem?_getD, List.getElem?_eq_getElem h1]; rfl
      have eb : m.getD i 0 = m[i] := by rw [List.getD_eq_getElem?_getD, List.getElem?_eq_getElem h2]; rfl
      rw [ea, eb]
      rw [cmpB_cons] at he
      refine s_cnd (fun hne => ?_) (fun hne => ?_)
      · have hne' : ¬ l[i] = m[i] := fun h => hne (by rw [h])
        rw [if_neg hne'] at he
        refine s_drw ?_
        have kd2 : Keep [] w0 w.drew.drew := kd.drew
        refine SB.get rfl (ha.kp0 kd2) h1 ?_
        intro p2 hp2
        refine s_opt hp2 ?_
        refine SB.get rfl (hb.kp0 kd2) h2 ?_
        intro q2 hq2
        refine s_opt hq2 ?_
        refine s_lss ?_
        rw [ea, eb]
        refine s_cnd (fun hlt => ?_) (fun hlt => ?_)
        · rw [if_pos (by show l[i].toNat < m[i].toNat; omega)] at he
          have := hK _ kd2
          rwa [he] at this
        · rw [if_neg (by show ¬ l[i].toNat < m[i].toNat; omega)] at he
          have := hK _ kd2
          rwa [he] at this
      · have heq : l[i] = m[i] := by
          apply UInt8.toNat_inj.1
          have : ((l[i].toNat : Int)) = (m[i].toNat : Int) := Classical.byContradiction hne
          omega
        rw [if_pos heq] at he
        refine s_addi (by rw [i64min, i64max]; omega) ?_
        exact ih (i + 1) w.drew (by omega) (by omega) (by omega) kd he
    · rw [show decide ((i : Int) < (l.length : Int)) = false from decide_eq_false (by omega)]
      refine s_gSkip (y := false) rfl (by decide) ?_
      refine s_gSkip (y := false) rfl (by decide) ?_
      refine s_gSkip (y := false) rfl (by decide) ?_
      refine s_gSkip (y := false) rfl (by decide) ?_
      refine s_opt (v := .bool false) rfl ?_
      exact s_false (stop (by omega))
theorem compare_c (l m : List UInt8) (a0 b1 : Value) (w : World) (ha : SB w a0 l) (hb : SB w b1 m) (hl : l.length ≤ 4611686018427387904) : CallsR Try.prog 23 #[a0, b1] w fun r w' => r = .int .i64 (cmpB l m) ∧ Keep [] w w' := by
  apply witnessplain_Compare.sound
  unfold witnessplain_Compare.J witnessplain_Compare.C1
  exact ⟨l.length + 1, compare_loop l m a0 b1 w ha hb hl _ (fun w' k => ⟨rfl, k⟩) _ 0 w rfl (by omega) (by omega) (Keep.refl _ _) rfl⟩
theorem same_c (l m : List UInt8) (a0 b1 : Value) (w : World) (ha : SB w a0 l) (hb : SB w b1 m) (hl : l.length ≤ 4611686018427387904) : CallsR Try.prog 10 #[a0, b1] w fun r w' => r = .bool (decide (l = m)) ∧ Keep [] w w' := by
  apply witnessplain_SameBytes.sound
  unfold witnessplain_SameBytes.J witnessplain_SameBytes.C1
  refine (compare_c l m a0 b1 w ha hb hl).mono ?_
  rintro r w1 ⟨rfl, k1⟩
  refine s_eql ?_
  refine ⟨?_, k1⟩
  have : (cmpB l m = 0) = (l = m) := propext (cmpB_eq l m)
  simp only [this]
end Go.Proofs.Ytmljgkjcoemadaa
