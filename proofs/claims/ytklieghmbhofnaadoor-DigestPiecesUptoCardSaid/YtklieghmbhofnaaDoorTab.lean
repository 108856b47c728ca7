/-
  Tables that are laid, one behind the other.
-/
import Derived.Test.YtklieghmbhofnaaDoorOpen
namespace Go.Proofs.YtklieghmbhofnaaDoor
open Go Go.Ev Go.RowKit
theorem laidMet_tail {P : Program} {W : World} {x : String × DataW Unit} {rest : List (String × DataW Unit)} (h : laidMet P (x :: rest) W) : laidMet P rest W := by
  obtain ⟨ps, hl, hn, ha⟩ := h
  obtain ⟨name, d⟩ := x
  obtain ⟨g', t', cs, fuel, p, q, hg', ht', hvar, hd, hrest, rfl⟩ := hl
  exact ⟨q, hrest, (List.nodup_append.1 hn).2.1, fun b off hm => ha b off (List.mem_append_right _ hm)⟩
theorem tab_has {P : Program} {W : World} {name : String} {k : IntKind} {zs : List Int} {g : Nat} {vs : List Value} (h : Lib.TabIs P W name k zs) (hg : P.globalNamed name = some g) (hv : vs = zs.map (Value.int k)) : HasL W g 0 vs := by
  subst hv
  intro j v hj
  have hlt : j < zs.length := by
    by_cases hx : j < zs.length
    · exact hx
    · rw [List.getElem?_eq_none (by simp; omega)] at hj; simp at hj
  rw [Nat.zero_add, h.cell hg j hlt]
  rw [List.getElem?_map, List.getElem?_eq_getElem hlt] at hj
  rw [List.getD_eq_getElem?_getD, List.getElem?_eq_getElem hlt]
  exact hj
end Go.Proofs.YtklieghmbhofnaaDoor
