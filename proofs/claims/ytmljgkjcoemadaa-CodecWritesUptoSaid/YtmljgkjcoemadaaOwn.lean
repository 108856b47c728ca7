/-
  Slices that a call makes of its own: what 'append', 'make', a slice literal ask and give.
-/
import Derived.Test.YtmljgkjcoemadaaMem
import Derived.Laws.AppendOwn
import Derived.Laws.OwnMore
import Derived.Lib.AppendStr
namespace Go.Ev
open Go Go.RowKit
/-- Type 't' is a slice of 'e'; what an element takes. -/
structure ElT (P : Program) (t e : TypeId) (size bytes : Nat) (z : Value) : Prop where
  ht : P.underlying t = some (.slice e)
  hi : (P.info? e).map (fun i => (i.zero, i.size, i.bytes)) = some (some z, size, bytes)
  hz : z.cells.size = size
  hp : 0 < size
variable {P : Program} {t e : TypeId} {size bytes : Nat} {z : Value} {w : World} {K : Value → World → Prop}
theorem ElT.info (E : ElT P t e size bytes z) : ∃ i, P.info? e = some i ∧ i.zero = some z ∧ i.size = size ∧ i.bytes = bytes := by
  have h := E.hi
  obtain ⟨i, hi, hzz⟩ := Option.map_eq_some_iff.1 h
  simp only [Prod.mk.injEq] at hzz
  exact ⟨i, hi, hzz.1, hzz.2.1, hzz.2.2⟩
theorem run_sizeOf {i : TypeInfo} (hi : P.info? e = some i) : (sizeOf e).run P w = .ok i.size w := by simp [sizeOf, typeInfo, hi]
theorem run_zeroValue {i : TypeInfo} (hi : P.info? e = some i) (hz : i.zero = some z) : (zeroValue e).run P w = .ok z w := by simp [zeroValue, typeInfo, hi, hz]
theorem s_bs1 (E : ElT P t e 1 bytes z) {v : Value} (hv : v.cells.size = 1) (h : K (.slice (some ⟨w.heap.size, 0, none⟩) 1 1) (w.alloc (.cells v.cells e))) : semW P (Instr.buildSlice t 1 #[(0, v)]) w K := by
  obtain ⟨i, hi, h1, h2, h3⟩ := E.info
  obtain ⟨c, hc⟩ : ∃ c, v.cells = #[c] := by
    match hx : v.cells with
    | ⟨[c]⟩ => exact ⟨c, rfl⟩
    | ⟨[]⟩ => rw [hx] at hv; simp at hv
    | ⟨_ :: _ :: _⟩ => rw [hx] at hv; simp at hv
  refine ⟨_, _, ?_, h⟩
  unfold Instr.buildSlice
  rw [Sem.run_bind, rUnd E.ht, Result.andThen_ok]
  simp [Sem.run_bind, run_sizeOf hi, run_zeroValue hi h1, h2, Instr.fill, hc, newRow, show Array.range 1 = #[0] from rfl]
theorem s_bs2 (E : ElT P t e 1 bytes z) {u v : Value} (hu : u.cells.size = 1) (hv : v.cells.size = 1) (h : K (.slice (some ⟨w.heap.size, 0, none⟩) 2 2) (w.alloc (.cells (u.cells ++ v.cells) e))) : semW P (Instr.buildSlice t 2 #[(0, u), (1, v)]) w K := by
  obtain ⟨i, hi, h1, h2, h3⟩ := E.info
  have one : ∀ v : Value, v.cells.size = 1 → ∃ c, v.cells = #[c] := by
    intro v hv
    match hx : v.cells with
    | ⟨[c]⟩ => exact ⟨c, rfl⟩
    | ⟨[]⟩ => rw [hx] at hv; simp at hv
    | ⟨_ :: _ :: _⟩ => rw [hx] at hv; simp at hv
  obtain ⟨c, hc⟩ := one u hu
  obtain ⟨d, hd⟩ := one v hv
  refine ⟨_, _, ?_, h⟩
  unfold Instr.buildSlice
  rw [Sem.run_bind, rUnd E.ht, Result.andThen_ok]
  simp [Sem.run_bind, run_sizeOf hi, run_zeroValue hi h1, h2, Instr.fill, hc, hd, newRow, show Array.range 2 = #[0, 1] from rfl]
/-- 'append' of a row that is there to a slice of one's own. -/
theorem s_app (E : ElT P t e size bytes z) {ty : TypeId} {base : Nat} {v : Value} {n : Nat} {xs : List Value} (hown : w.ownsRow base e size v n xs)
    {a : Addr} {m c : Nat} {news : List Value} (hl : news.length = m * size) (hnews : ∀ j u, news[j]? = some u → w.cell? (a.add j) = some u) (h1 : ∀ u ∈ news, u.oneCell' = true)
    (h63 : n + m ≤ maxLen) (hbytes : (n + m) * bytes ≤ 140737488355328) (hbase : base ≤ w.heap.size)
    (h : ∀ v' w', w'.ownsRow base e size v' (n + m) (xs ++ news) → w.grownBy w' v.ownBlock → K v' w') : semW P (bltS .append #[t, t] ty #[v, .slice (some a) m c]) w K := by
  obtain ⟨i, hi, hz1, hz2, hz3⟩ := E.info
  obtain ⟨v', w', hr, h2, h3, _⟩ := run_append_own (P := P) w base t ty e i z size bytes E.ht hi hz1 hz2 hz3 E.hz E.hp v n xs hown a m c news hl hnews h1 h63 hbytes hbase
  exact ⟨v', w', hr, h v' w' h2 h3⟩
/-- A slice of one's own is left alone by what writes other blocks. -/
theorem owns_keep {base n : Nat} {v : Value} {xs : List Value} {S : List Nat} {w' : World} (h : w.ownsRow base e size v n xs) (k : Keep S w w') (hn : ∀ b, v.ownBlock = some b → b ∉ S) : w'.ownsRow base e size v n xs := by
  refine ⟨h.1, ?_⟩
  have hlt := h.lt
  rcases h.2 with hh | ⟨g, cap, cur, rfl, hb, hg, r⟩
  · exact .inl hh
  · refine .inr ⟨g, cap, cur, rfl, hb, ?_, r⟩
    rw [k.block g (hlt g rfl).2 (hn g rfl)]
    exact hg
theorem owns_has {base n : Nat} {v : Value} {xs : List Value} (h : w.ownsRow base e 1 v n xs) : v = .slice none 0 0 ∧ n = 0 ∧ xs = [] ∨ ∃ g cap, v = .slice (some ⟨g, 0, none⟩) n cap ∧ base ≤ g ∧ g < w.heap.size ∧ HasL w g 0 xs := by
  have hl := h.1
  rcases h.2 with ⟨h1, h2⟩ | ⟨g, cap, cur, rfl, hb, hg, h1, h2, h3, h4⟩
  · subst h2
    exact .inl ⟨h1, rfl, List.eq_nil_of_length_eq_zero (by simpa using hl)⟩
  · refine .inr ⟨g, cap, rfl, hb, (Array.getElem?_eq_some_iff.1 hg).1, fun j u hu => ?_⟩
    have := h.cells (g := g) rfl j u hu
    rwa [add_mid] at this
theorem u8s_bvs : ∀ l : List UInt8, u8s (bvs l) = some l
  | [] => rfl
  | b :: l => by
    have ih := u8s_bvs l
    simp only [bvs, List.map_cons, bv] at ih ⊢
    unfold u8s
    simp only [ih, Int.toNat_natCast]
    simp
theorem s_strO {base n : Nat} {v : Value} {l : List UInt8} (h : w.ownsRow base e 1 v n (bvs l)) (hk : K (.string ⟨l.toArray⟩) w) : optW (strO v w) w K := by
  have hl := h.1
  rcases owns_has h with ⟨rfl, rfl, hx⟩ | ⟨g, cap, rfl, _, _, hh⟩
  · have : l = [] := by simpa using hx
    subst this
    exact hk
  · have e : rowO w ⟨g, 0, none⟩ 0 n = some (bvs l) := hh.row (by simpa using hl)
    simp only [strO, e, u8s_bvs]
    exact hk
theorem bv_one (b : UInt8) : (bv b).oneCell' = true := rfl
theorem bvs_one (l : List UInt8) : ∀ u ∈ bvs l, u.oneCell' = true := by
  intro u hu
  obtain ⟨b, _, rfl⟩ := List.mem_map.1 hu
  rfl
end Go.Ev
