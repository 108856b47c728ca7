/-
  Slices of byte slices.
-/
import Derived.Test.YtmljgkjcoemadaaKit
namespace Go.Proofs.Ytmljgkjcoemadaa
open Go Go.Ev Go.RowKit
set_option maxRecDepth 100000
theorem eBs : ElT Try.prog 28 23 1 24 (.slice none 0 0) := ⟨Try.underlying28, by kernel_rfl, rfl, by omega⟩
/-- A slice of byte slices. -/
def SS (w : World) (v : Value) (ls : List (List UInt8)) : Prop := ∃ vs, Sl w v vs ∧ vs.length = ls.length ∧ ∀ i, i < ls.length → ∃ u, vs[i]? = some u ∧ SB w u (ls.getD i [])
theorem SS.kp0 {w w' : World} {v : Value} {ls : List (List UInt8)} (h : SS w v ls) (k : Keep [] w w') : SS w' v ls := by
  obtain ⟨vs, h1, h2, h3⟩ := h
  refine ⟨vs, h1.kp0 k, h2, fun i hi => ?_⟩
  obtain ⟨u, hu, hs⟩ := h3 i hi
  exact ⟨u, hu, hs.kp0 k⟩
theorem SS.len {w : World} {v : Value} {ls : List (List UInt8)} {K : KT} (h : SS w v ls) (hk : K (.int .i64 ls.length) w) : optW (lenS v) w K := by
  obtain ⟨vs, h1, h2, h3⟩ := h
  refine h1.len ?_
  rw [h2]
  exact hk
/-- ls[i], as the code reads it. -/
theorem SS.get {w : World} {v : Value} {ls : List (List UInt8)} {K : KT} {i : Nat} (h : SS w v ls) (hi : i < ls.length) (hk : ∀ u, SB w u (ls.getD i []) → K u w) : optW (ixS 1 v (.int .i64 (i : Int))) w fun a w => optW (ld1 a w) w K := by
  obtain ⟨vs, h1, h2, h3⟩ := h
  obtain ⟨u, hu, hs⟩ := h3 i hi
  refine h1.get (u := u) (by omega) (by simpa using hu) ?_
  intro a ha
  exact s_opt ha (hk u hs)
theorem SS.one {w : World} {B : Nat} {v u : Value} {l : List UInt8} (h : w.ownsRow B 23 1 v 1 [u]) (hu : SB w u l) : SS w v [l] :=
  ⟨[u], owns_Sl h, rfl, fun i hi => by
    have : i = 0 := by simp at hi; omega
    subst this
    exact ⟨u, rfl, hu⟩⟩
theorem SS.two {w : World} {B : Nat} {v u x : Value} {l m : List UInt8} (h : w.ownsRow B 23 1 v 2 [u, x]) (hu : SB w u l) (hx : SB w x m) : SS w v [l, m] :=
  ⟨[u, x], owns_Sl h, rfl, fun i hi => by
    match i, hi with
    | 0, _ => exact ⟨u, rfl, hu⟩
    | 1, _ => exact ⟨x, rfl, hx⟩⟩
end Go.Proofs.Ytmljgkjcoemadaa
