/-
  An argument that is a slice of byte slices, opened.
-/
import Derived.Test.YtklieghmbhofnaaDoorHanded
import Derived.Test.YtklieghmbhofnaaDoorTab
namespace Go.Proofs.YtklieghmbhofnaaDoor
open Go Go.Ev Go.RowKit Go.ChangeShapes Go.WideShapes
theorem bulkAll_append {H : Type} (l r : List (DataW H)) : Rows.uptoBulkAll (l ++ r) = Rows.uptoBulkAll l + Rows.uptoBulkAll r := by
  induction l with
  | nil => simp [Rows.uptoBulkAll]
  | cons x l ih => simp only [List.cons_append, Rows.uptoBulkAll, ih]; omega
section
variable {H : Type} {enc : TypeId × Value → H} {P : Program} {w : World} {base : Nat} {sp : Nat → Bool} {held : Bool}
theorem cells_one {a : Addr} {cs : List Value} {i : Nat} (h : w.cells? base (a.add i) 1 = some cs) : ∃ v, cs = [v] ∧ w.cell? (a.add i) = some v := by
  unfold World.cells? at h
  split at h
  · rw [show List.range 1 = [0] from rfl, List.mapM_cons] at h
    simp only [bind, Option.bind_eq_some_iff, pure, Option.some.injEq, List.mapM_nil] at h
    obtain ⟨v, hv, ys, rfl, rfl⟩ := h
    refine ⟨v, rfl, ?_⟩
    have : (a.add i).add 0 = a.add i := by unfold Addr.add; simp
    rwa [this] at hv
  · cases h
theorem open_ss {t e e' : TypeId} {v : Value} {d : DataW H} {p : List MemPlace} {r : Reach} {b0 : Nat} (ht : P.underlying t = some (.slice e)) (he : P.underlying e = some (.slice e')) (he' : P.underlying e' = some (.int .u8)) (hc : P.cellsOf e = 1) (hc' : P.cellsOf e' = 1)
    (hv : Value.okWide P w r b0 t v) (h : DataW.Trod enc P w base sp held t v d p) : ∃ ls : List (List UInt8), SS w v ls ∧ ls.length ≤ Rows.uptoBulk d ∧ ls.flatten.length ≤ Rows.uptoBulk d := by
  obtain ⟨a0, len0, cap0, rfl⟩ := okWide_slice ht hv
  obtain ⟨fuel, hf⟩ := h
  rcases DataW.trod_slice ht hf with ⟨h1, h2⟩ | ⟨a, len, cap, elems, rest, n, rfl, h1, h2, _, hl, hm, hel, hall, _⟩
  · have : Value.slice a0 len0 cap0 = .slice none 0 0 := by simpa [Value.cells] using h1
    rw [this]
    exact ⟨[], ⟨[], .inl ⟨rfl, rfl⟩, rfl, fun i hi => by simp at hi⟩, by simp, by simp⟩
  · have : Value.slice a0 len0 cap0 = .slice (some a) len cap := by simpa [Value.cells] using h1
    rw [this]
    have key : ∀ m, m ≤ len → ∃ (vs : List Value) (ls : List (List UInt8)), vs.length = m ∧ ls.length = m ∧ (∀ i u, vs[i]? = some u → w.cell? (a.add i) = some u) ∧ (∀ i, i < m → ∃ u, vs[i]? = some u ∧ SB w u (ls.getD i [])) ∧ ls.flatten.length ≤ Rows.uptoBulkAll ((elems.take m).map (·.1)) := by
      intro m
      induction m with
      | zero => intro _; exact ⟨[], [], rfl, rfl, by simp, by simp, by simp⟩
      | succ m ih =>
        intro hml
        obtain ⟨vs, ls, g1, g2, g3, g4, g5⟩ := ih (by omega)
        have hm' := hall m (by omega)
        rw [hc, Nat.mul_one] at hm'
        have hme : m < elems.length := by omega
        rw [List.getElem?_eq_getElem hme, Option.bind_eq_some_iff] at hm'
        obtain ⟨cs, hcs, htr⟩ := hm'
        obtain ⟨u, rfl, hu⟩ := cells_one hcs
        obtain ⟨u', l, e1, e2, e3, _⟩ := open_sb_cell he he' hc' htr
        have : u' = u := by simpa using e1.symm
        subst this
        refine ⟨vs ++ [u'], ls ++ [l], by simp [g1], by simp [g2], ?_, ?_, ?_⟩
        · intro i x hx
          by_cases hi : i < m
          · rw [List.getElem?_append_left (by omega)] at hx
            exact g3 i x hx
          · have : i = m := by
              by_cases h : i < m + 1
              · omega
              · rw [List.getElem?_eq_none (by simp [g1]; omega)] at hx; simp at hx
            subst this
            rw [List.getElem?_append_right (by omega), g1] at hx
            simp at hx
            subst hx
            exact hu
        · intro i hi
          by_cases hi' : i < m
          · obtain ⟨x, hx, hs⟩ := g4 i hi'
            refine ⟨x, by rw [List.getElem?_append_left (by omega)]; exact hx, ?_⟩
            rw [List.getD_eq_getElem?_getD, List.getElem?_append_left (by omega), ← List.getD_eq_getElem?_getD]
            exact hs
          · have : i = m := by omega
            subst this
            refine ⟨u', by rw [List.getElem?_append_right (by omega), g1]; simp, ?_⟩
            rw [List.getD_eq_getElem?_getD, List.getElem?_append_right (by omega), g2]
            simpa using e2
        · rw [List.take_add_one, List.getElem?_eq_getElem hme]
          simp only [Option.toList_some, List.map_append, List.map_cons, List.map_nil, bulkAll_append, List.flatten_append, List.length_append]
          have : Rows.uptoBulkAll [elems[m].1] = Rows.uptoBulk elems[m].1 := by simp [Rows.uptoBulkAll]
          rw [this]
          simp only [List.flatten_cons, List.flatten_nil, List.append_nil]
          omega
    obtain ⟨vs, ls, g1, g2, g3, g4, g5⟩ := key len (Nat.le_refl _)
    have hd : d = .slice (elems.map (·.1)) (rest.map (·.1)) := by
      have := congrArg Prod.fst h2
      simpa using this
    have hb := bulk_slice (elems.map (·.1)) (rest.map (·.1))
    have hbl := bulk_len (elems.map (·.1))
    rw [List.take_of_length_le (by omega)] at g5
    refine ⟨ls, ⟨vs, .inr ⟨a, cap, by rw [g1], by omega, fun j u hu => g3 j u hu⟩, by omega, fun i hi => g4 i (by omega)⟩, ?_, ?_⟩
    · rw [hd]
      simp at hbl
      omega
    · rw [hd]
      omega
theorem flat_part {ls : List (List UInt8)} (i : Nat) : (ls.getD i []).length ≤ ls.flatten.length := by
  induction ls generalizing i with
  | nil => simp
  | cons l ls ih =>
    cases i with
    | zero => simp
    | succ i =>
      have := ih i
      simp at this ⊢
      omega
theorem small_of {ls : List (List UInt8)} {n : Nat} (hn : n ≤ 1073741824) (h1 : ls.length ≤ n) (h2 : ls.flatten.length ≤ n) : Small ls := ⟨by omega, fun i => by have := flat_part (ls := ls) i; omega⟩
end
end Go.Proofs.YtklieghmbhofnaaDoor
