/-
  Open regions whose operations leave all old blocks as they are: what was true of a value stays true.
-/
import Derived.Test.YtmljgkjcoemadaaArr
import Derived.Laws.Cover1
namespace Go.Ev
open Go Go.RowKit
abbrev QTab := List (Nat × (Value → World → Prop))
def qt (tbl : QTab) (s : Nat) (v : Value) (w : World) : Prop := ∃ w₁, Keep [] w₁ w ∧ ((tbl.lookup s).getD fun _ _ => True) v w₁
section
variable {tbl : QTab} {s : Nat} {v : Value} {w w' : World}
theorem qt_stab : ∀ (s : Nat) (v : Value) (w w' : World), Keep [] w w' → qt tbl s v w → qt tbl s v w' := fun _ _ _ _ k ⟨w₁, k1, h⟩ => ⟨w₁, k1.tr k, h⟩
theorem qt_mk (k : Keep [] w w') (h : ((tbl.lookup s).getD fun _ _ => True) v w') : Keep [] w w' ∧ qt tbl s v w' := ⟨k, w', Keep.refl _ _, h⟩
theorem qt_eq {x : Value} (h : qt tbl s v w) (hb : ((tbl.lookup s).getD fun _ _ => True) = fun v _ => v = x) : v = x := by
  obtain ⟨w₁, _, h⟩ := h
  rw [hb] at h
  exact h
theorem qt_get {B : Value → World → Prop} (h : qt tbl s v w) (hb : ((tbl.lookup s).getD fun _ _ => True) = B) : ∃ w₁, Keep [] w₁ w ∧ B v w₁ := by
  subst hb
  exact h
theorem rg_run {b : Bool} {run : (Value → World → Prop) → Prop} {K : Value → World → Prop} (hq : qt tbl s v w) (hb : ((tbl.lookup s).getD fun _ _ => True) = fun v _ => v = .bool b) (h : run K) : gOp v b w run K := s_gRun (qt_eq hq hb) h
theorem s_min3 {P : Program} {K : Value → World → Prop} {ts : Array TypeId} {t : TypeId} {k k' k'' : IntKind} {x y z : Nat} (h : K (.int k ((min (min x y) z : Nat) : Int)) w) : semW P (bltS .min ts t #[.int k (x : Int), .int k' (y : Int), .int k'' (z : Int)]) w K := by
  refine ⟨_, _, run_min_int3 (P := P) w ts t k k' k'' x y z, ?_⟩
  have e : (if (z : Int) < (if (y : Int) < (x : Int) then (y : Int) else (x : Int)) then (z : Int) else (if (y : Int) < (x : Int) then (y : Int) else (x : Int))) = ((min (min x y) z : Nat) : Int) := by
    split <;> split <;> omega
  rw [e]
  exact h
end
end Go.Ev
