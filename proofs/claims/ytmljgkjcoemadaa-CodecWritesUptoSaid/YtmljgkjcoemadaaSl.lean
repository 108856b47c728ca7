/-
  Slices that are read; slices of byte slices; 'append' once more, telling which block the result lies in.
-/
import Derived.Test.YtmljgkjcoemadaaU32
import Derived.Deep.DeepAppendRoom
namespace Go.Ev
open Go Go.RowKit
variable {P : Program} {w w' : World} {K : Value → World → Prop}
/-- Cells from an address on. -/
def HasA (w : World) (a : Addr) (vs : List Value) : Prop := ∀ j v, vs[j]? = some v → w.cell? (a.add j) = some v
theorem HasA.row_aux {a : Addr} : ∀ (vs : List Value) (i : Nat), (∀ j v, vs[j]? = some v → w.cell? (a.add (i + j)) = some v) → rowO w a i vs.length = some vs
  | [], _, _ => rfl
  | v :: vs, i, h => by
    have h0 := h 0 v rfl
    have ih := HasA.row_aux vs (i + 1) (fun j u hu => by have := h (j + 1) u (by simpa using hu); rwa [show i + 1 + j = i + (j + 1) by omega])
    simp only [List.length_cons, rowO]
    rw [show i + 0 = i by omega] at h0
    rw [h0]
    simp only [ih]
theorem HasA.row {a : Addr} {vs : List Value} {n : Nat} (h : HasA w a vs) (hn : vs.length = n) : rowO w a 0 n = some vs := by
  subst hn
  exact HasA.row_aux vs 0 (fun j v hv => by simpa using h j v hv)
theorem HasL.hasA {b o : Nat} {vs : List Value} (h : HasL w b o vs) : HasA w ⟨b, o, none⟩ vs := fun j v hv => by rw [add_mid]; exact h j v hv
theorem add_block (a : Addr) (n : Nat) : (a.add n).block = a.block := by unfold Addr.add; split <;> rfl
theorem HasA.kp {a : Addr} {vs : List Value} {S : List Nat} (h : HasA w a vs) (k : Keep S w w') (hn : a.block ∉ S) : HasA w' a vs := fun j v hv => by
  have h1 := h j v hv
  have hb := World.block_lt_of_cell? w _ h1
  rw [add_block] at hb
  exact (World.cell?_of_block (w := w) (by rw [add_block]; exact k.block _ hb hn)).trans h1
/-- The block of a slice. -/
def blkOf : Value → List Nat
  | .slice (some a) _ _ => [a.block]
  | _ => []
/-- A slice whose 'n' elements are the cells 'vs'. -/
def Sl (w : World) (v : Value) (vs : List Value) : Prop := (v = .slice none 0 0 ∧ vs = []) ∨ ∃ a c, v = .slice (some a) vs.length c ∧ vs.length ≤ c ∧ HasA w a vs
theorem Sl.kp {v : Value} {vs : List Value} {S : List Nat} (h : Sl w v vs) (k : Keep S w w') (hn : ∀ b ∈ blkOf v, b ∉ S) : Sl w' v vs := by
  rcases h with h | ⟨a, c, rfl, hc, h⟩
  · exact .inl h
  · exact .inr ⟨a, c, rfl, hc, h.kp k (hn _ (by simp [blkOf]))⟩
theorem Sl.kp0 {v : Value} {vs : List Value} (h : Sl w v vs) (k : Keep [] w w') : Sl w' v vs := h.kp k (by simp)
theorem Sl.len {v : Value} {vs : List Value} (h : Sl w v vs) (hk : K (.int .i64 vs.length) w) : optW (lenS v) w K := by
  rcases h with ⟨rfl, rfl⟩ | ⟨a, c, rfl, _⟩
  · exact hk
  · exact hk
theorem Sl.get {v : Value} {vs : List Value} {k : IntKind} {n : Int} {u : Value} (h : Sl w v vs) (h0 : 0 ≤ n) (hu : vs[n.toNat]? = some u) (hk : ∀ a, ld1 a w = some u → K a w) : optW (ixS 1 v (.int k n)) w K := by
  rcases h with ⟨rfl, rfl⟩ | ⟨a, c, rfl, _, hh⟩
  · simp at hu
  · have hlt : n.toNat < vs.length := by
      by_cases hx : n.toNat < vs.length
      · exact hx
      · rw [List.getElem?_eq_none (by omega)] at hu; simp at hu
    refine s_ixS h0 (by omega) (hk _ ?_)
    simp only [ld1, Nat.mul_one]
    exact hh _ _ hu
theorem owns_Sl {base n : Nat} {e : TypeId} {v : Value} {xs : List Value} (h : w.ownsRow base e 1 v n xs) : Sl w v xs := by
  have hl := h.1
  rcases owns_has h with ⟨rfl, rfl, rfl⟩ | ⟨g, cap, rfl, _, _, hh⟩
  · exact .inl ⟨rfl, rfl⟩
  · refine .inr ⟨⟨g, 0, none⟩, cap, by rw [hl, Nat.mul_one], ?_, hh.hasA⟩
    rcases h.2 with ⟨h1, _⟩ | ⟨g', cap', cur, h1, _, _, h2, _⟩
    · simp at h1
    · simp at h1
      rw [hl, Nat.mul_one, h1.2]
      exact h2
/-- Bytes. -/
abbrev SB (w : World) (v : Value) (l : List UInt8) : Prop := Sl w v (bvs l)
theorem SB.str {v : Value} {l : List UInt8} (h : SB w v l) (hk : K (.string ⟨l.toArray⟩) w) : optW (strO v w) w K := by
  rcases h with ⟨rfl, hx⟩ | ⟨a, c, rfl, _, hh⟩
  · have : l = [] := by simpa using hx
    subst this
    exact hk
  · have e : rowO w a 0 (bvs l).length = some (bvs l) := hh.row rfl
    simp only [strO, e, u8s_bvs]
    exact hk
/-- 'append', and where its result lies. -/
theorem app_own {t e ty : TypeId} {bytes : Nat} {z : Value} (E : ElT P t e 1 bytes z) {base : Nat} {v x : Value} {n : Nat} {xs news : List Value} (hown : w.ownsRow base e 1 v n xs) (hs : Sl w x news) (h1 : ∀ u ∈ news, u.oneCell' = true)
    (h63 : n + news.length ≤ maxLen) (hbytes : (n + news.length) * bytes ≤ 140737488355328) (hbase : base ≤ w.heap.size) :
    ∃ v' w', (Builtin.append_ #[t, t] ty #[v, x]).run P w = .ok v' w' ∧ w'.ownsRow base e 1 v' (n + news.length) (xs ++ news) ∧ Keep (blkOf v) w w' ∧ (blkOf v' = blkOf v ∨ ∀ g ∈ blkOf v', w.heap.size ≤ g) := by
  obtain ⟨i, hi, hz1, hz2, hz3⟩ := E.info
  have hob : ∀ k, v.ownBlock = some k → k ∈ blkOf v := by
    intro k hk
    rcases hown.2 with ⟨rfl, _⟩ | ⟨g, cap, cur, rfl, _⟩
    · simp [Value.ownBlock] at hk
    · simp [Value.ownBlock] at hk
      simp [blkOf, hk]
  rcases hs with ⟨rfl, rfl⟩ | ⟨a, c, rfl, hc, hh⟩
  · refine ⟨v, w, ?_, by simpa using hown, Keep.refl _ _, .inl rfl⟩
    rcases hown.2 with ⟨rfl, rfl⟩ | ⟨g, cap, cur, rfl, _, hg, hnc, _⟩
    · simp [Builtin.append_, run_underlying E.ht, sizeOf, typeInfo, hi, Builtin.lenOf, Builtin.firstCells]
    · simp [Builtin.append_, run_underlying E.ht, sizeOf, typeInfo, hi, Builtin.lenOf, Builtin.firstCells, hnc, storeCells]
  · have main : ∀ base', w.ownsRow base' e 1 v n xs → base' ≤ w.heap.size → ∃ v' w', (Builtin.append_ #[t, t] ty #[v, .slice (some a) news.length c]).run P w = .ok v' w' ∧ w'.ownsRow base' e 1 v' (n + news.length) (xs ++ news) ∧ w.grownBy w' v.ownBlock := by
      intro base' ho hb
      obtain ⟨v', w', hr, h2, h3, _⟩ := run_append_own (P := P) w base' t ty e i z 1 bytes E.ht hi hz1 hz2 hz3 E.hz E.hp v n xs ho a news.length c news (by simp) hh h1 h63 hbytes hb
      exact ⟨v', w', hr, h2, h3⟩
    obtain ⟨v', w', hr, ho', hg'⟩ := main base hown hbase
    refine ⟨v', w', hr, ho', ⟨hg'.os, hg'.tape, hg'.output, hg'.size, fun k hk hn => hg'.block k hk (fun e => hn (hob k e.symm))⟩, ?_⟩
    rcases hown.2 with ⟨rfl, rfl⟩ | ⟨g, cap, cur, rfl, hbg, hg, hnc, hcm, hcs, htake⟩
    · obtain ⟨v2, w2, hr2, ho2, _⟩ := main w.heap.size ⟨hown.1, .inl ⟨rfl, rfl⟩⟩ (Nat.le_refl _)
      rw [hr] at hr2
      obtain ⟨rfl, rfl⟩ : v' = v2 ∧ w' = w2 := by simpa using hr2
      right
      intro g hgm
      rcases ho2.2 with ⟨rfl, _⟩ | ⟨g', cap', cur', rfl, hb', _⟩
      · simp [blkOf] at hgm
      · simp [blkOf] at hgm
        omega
    · by_cases hroom : n + news.length ≤ cap
      · obtain ⟨w2, hr2, _, _⟩ := run_append_own_spare (P := P) w base t ty e i 1 E.ht hi hz2 g n cap xs hown a news.length c news (by simp) hh h1 hroom
        rw [hr] at hr2
        obtain ⟨rfl, rfl⟩ : v' = .slice (some ⟨g, 0, none⟩) (n + news.length) cap ∧ w' = w2 := by simpa using hr2
        left
        rfl
      · have holds : ∀ j u, xs[j]? = some u → w.cell? ((⟨g, 0, none⟩ : Addr).add j) = some u := hown.cells (g := g) rfl
        have hb3 : i.bytes = bytes := hz3
        have hr2 := run_append_grow (P := P) w t ty e i z E.ht hi hz1 ⟨g, 0, none⟩ n cap xs (by rw [hz2]; exact hown.1) holds a news.length c news (by rw [hz2]; simp) hh (by omega) (by simp only [maxLen] at h63; omega) (growslice_fits (by omega) (by rw [hb3]; exact hbytes))
        rw [hr] at hr2
        obtain ⟨rfl, rfl⟩ := (by simpa using hr2 : v' = _ ∧ w' = _)
        right
        intro g' hg''
        simp [blkOf] at hg''
        omega
theorem s_app' {t e ty : TypeId} {bytes : Nat} {z : Value} (E : ElT P t e 1 bytes z) {base : Nat} {v x : Value} {n : Nat} {xs news : List Value} (hown : w.ownsRow base e 1 v n xs) (hs : Sl w x news) (h1 : ∀ u ∈ news, u.oneCell' = true)
    (h63 : n + news.length ≤ maxLen) (hbytes : (n + news.length) * bytes ≤ 140737488355328) (hbase : base ≤ w.heap.size)
    (h : ∀ v' w', w'.ownsRow base e 1 v' (n + news.length) (xs ++ news) → Keep (blkOf v) w w' → (blkOf v' = blkOf v ∨ ∀ g ∈ blkOf v', w.heap.size ≤ g) → K v' w') : semW P (bltS .append #[t, t] ty #[v, x]) w K := by
  obtain ⟨v', w', hr, h2, h3, h4⟩ := app_own (ty := ty) E hown hs h1 h63 hbytes hbase
  exact ⟨v', w', hr, h v' w' h2 h3 h4⟩
theorem owns_kp {base n : Nat} {e : TypeId} {size : Nat} {v : Value} {xs : List Value} {S : List Nat} (h : w.ownsRow base e size v n xs) (k : Keep S w w') (hn : ∀ b ∈ blkOf v, b ∉ S) : w'.ownsRow base e size v n xs := by
  refine owns_keep h k fun b hb => hn b ?_
  rcases h.2 with ⟨rfl, _⟩ | ⟨g, cap, cur, rfl, _⟩
  · simp [Value.ownBlock] at hb
  · simp [Value.ownBlock] at hb
    simp [blkOf, hb]
theorem owns_lt {base n : Nat} {e : TypeId} {size : Nat} {v : Value} {xs : List Value} (h : w.ownsRow base e size v n xs) : ∀ b ∈ blkOf v, base ≤ b ∧ b < w.heap.size := by
  intro b hb
  refine h.lt b ?_
  rcases h.2 with ⟨rfl, _⟩ | ⟨g, cap, cur, rfl, _⟩
  · simp [blkOf] at hb
  · simp [blkOf] at hb
    simp [Value.ownBlock, hb]
/-- Rows of two element types lie in two blocks. -/
theorem owns_apart {base base' n n' : Nat} {e e' : TypeId} {size size' : Nat} {v v' : Value} {xs xs' : List Value} (h : w.ownsRow base e size v n xs) (h' : w.ownsRow base' e' size' v' n' xs') (he : e ≠ e') : ∀ b ∈ blkOf v, b ∉ blkOf v' := by
  intro b hb hb'
  rcases h.2 with ⟨rfl, _⟩ | ⟨g, cap, cur, rfl, _, hg, _⟩
  · simp [blkOf] at hb
  rcases h'.2 with ⟨rfl, _⟩ | ⟨g', cap', cur', rfl, _, hg', _⟩
  · simp [blkOf] at hb'
  simp [blkOf] at hb hb'
  subst hb hb'
  rw [hg] at hg'
  simp at hg'
  exact he hg'.2
theorem keepNew {w0 : World} {S : List Nat} (k : Keep [] w0 w) (k' : Keep S w w') (hb : ∀ b ∈ S, w0.heap.size ≤ b) : Keep [] w0 w' := k.trans k' (by simp) (by intro x hx hlt; have := hb x hx; omega)
theorem s_bs3 {t e : TypeId} {bytes : Nat} {z : Value} (E : ElT P t e 1 bytes z) {u v x : Value} (hu : u.cells.size = 1) (hv : v.cells.size = 1) (hx : x.cells.size = 1) (h : K (.slice (some ⟨w.heap.size, 0, none⟩) 3 3) (w.alloc (.cells (u.cells ++ v.cells ++ x.cells) e))) : semW P (Instr.buildSlice t 3 #[(0, u), (1, v), (2, x)]) w K := by
  obtain ⟨i, hi, h1, h2, h3⟩ := E.info
  have one : ∀ v : Value, v.cells.size = 1 → ∃ c, v.cells = #[c] := by
    intro v hv
    match hx : v.cells with
    | ⟨[c]⟩ => exact ⟨c, rfl⟩
    | ⟨[]⟩ => rw [hx] at hv; simp at hv
    | ⟨_ :: _ :: _⟩ => rw [hx] at hv; simp at hv
  obtain ⟨c, hc⟩ := one u hu
  obtain ⟨d, hd⟩ := one v hv
  obtain ⟨f, hf⟩ := one x hx
  refine ⟨_, _, ?_, h⟩
  unfold Instr.buildSlice
  rw [Sem.run_bind, rUnd E.ht, Result.andThen_ok]
  simp [Sem.run_bind, run_sizeOf hi, run_zeroValue hi h1, h2, Instr.fill, hc, hd, hf, newRow, show Array.range 3 = #[0, 1, 2] from rfl]
/-- A slice literal, as a slice. -/
theorem s_lit1 {t e : TypeId} {bytes : Nat} {z : Value} (E : ElT P t e 1 bytes z) {v : Value} (hv : v.cells = #[v]) (h : ∀ w', Keep [] w w' → w'.ownsRow w.heap.size e 1 (.slice (some ⟨w.heap.size, 0, none⟩) 1 1) 1 [v] → K (.slice (some ⟨w.heap.size, 0, none⟩) 1 1) w') : semW P (Instr.buildSlice t 1 #[(0, v)]) w K := by
  refine s_bs1 E (by rw [hv]; rfl) (h _ ((Keep.refl _ _).alloc _) ?_)
  rw [hv]
  exact ⟨rfl, .inr ⟨_, 1, #[v], rfl, Nat.le_refl _, heap_alloc_new w _, Nat.le_refl _, by unfold maxLen; omega, rfl, rfl⟩⟩
theorem s_lit3 {t e : TypeId} {bytes : Nat} {z : Value} (E : ElT P t e 1 bytes z) {u v x : Value} (hu : u.cells = #[u]) (hv : v.cells = #[v]) (hx : x.cells = #[x]) (h : ∀ w', Keep [] w w' → w'.ownsRow w.heap.size e 1 (.slice (some ⟨w.heap.size, 0, none⟩) 3 3) 3 [u, v, x] → K (.slice (some ⟨w.heap.size, 0, none⟩) 3 3) w') : semW P (Instr.buildSlice t 3 #[(0, u), (1, v), (2, x)]) w K := by
  refine s_bs3 E (by rw [hu]; rfl) (by rw [hv]; rfl) (by rw [hx]; rfl) (h _ ((Keep.refl _ _).alloc _) ?_)
  rw [hu, hv, hx]
  exact ⟨rfl, .inr ⟨_, 3, #[u, v, x], rfl, Nat.le_refl _, heap_alloc_new w _, Nat.le_refl _, by unfold maxLen; omega, rfl, rfl⟩⟩
/-- x[:hi] -/
theorem s_slTo {k : IntKind} {a : Option Addr} {n c : Nat} {hi : Int} (h0 : 0 ≤ hi) (h1 : hi ≤ c) (h : K (.slice a hi.toNat c) w) : optW (slS 1 (.slice a n c) none (some (.int k hi)) none) w K := by
  refine s_opt (v := .slice a hi.toNat c) ?_ h
  have e : (if c = 0 then a else a.map (·.add (0 * 1))) = a := by
    split
    · rfl
    · cases a <;> simp [Addr.add]
  have e2 : bndO (.int k hi) c = some hi.toNat := by simp [bndO, h0, h1]
  have e3 : bndsO n c none (some (.int k hi)) none = some (0, hi.toNat, c) := by
    delta bndsO
    simp only [e2]
  simp only [slS, e3, Nat.sub_zero, Option.some.injEq, Value.slice.injEq, and_self, and_true]
  exact e
end Go.Ev
