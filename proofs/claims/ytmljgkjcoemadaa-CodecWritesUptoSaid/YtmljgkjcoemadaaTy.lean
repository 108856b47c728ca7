/-
  Arguments of any type that is made of numbers, truth values, byte slices, slices, arrays and structs, opened by a description of the type.
-/
import Derived.Test.YtmljgkjcoemadaaOpen
namespace Go.Proofs.Ytmljgkjcoemadaa
open Go Go.Ev Go.RowKit Go.ChangeShapes Go.WideShapes
/-- A slice of 'n' elements of 'z' cells each. -/
def SlN (z : Nat) (w : World) (v : Value) (n : Nat) (vs : List Value) : Prop := (v = .slice none 0 0 ∧ n = 0 ∧ vs = []) ∨ ∃ a c, v = .slice (some a) n c ∧ n ≤ c ∧ vs.length = n * z ∧ HasA w a vs
section
variable {P : Program} {w w' : World} {K : Value → World → Prop} {z n : Nat} {v : Value} {vs : List Value}
theorem SlN.kp {S : List Nat} (h : SlN z w v n vs) (k : Keep S w w') (hn : ∀ b ∈ blkOf v, b ∉ S) : SlN z w' v n vs := by
  rcases h with h | ⟨a, c, rfl, hc, hl, h⟩
  · exact .inl h
  · exact .inr ⟨a, c, rfl, hc, hl, h.kp k (hn _ (by simp [blkOf]))⟩
theorem SlN.kp0 (h : SlN z w v n vs) (k : Keep [] w w') : SlN z w' v n vs := h.kp k (by simp)
theorem SlN.len (h : SlN z w v n vs) (hk : K (.int .i64 n) w) : optW (lenS v) w K := by
  rcases h with ⟨rfl, rfl, rfl⟩ | ⟨a, c, rfl, _⟩
  · exact hk
  · exact hk
theorem SlN.length (h : SlN z w v n vs) : vs.length = n * z := by
  rcases h with ⟨_, rfl, rfl⟩ | ⟨a, c, _, _, hl, _⟩
  · simp
  · exact hl
theorem SlN.at {k : IntKind} {i : Int} (h : SlN z w v n vs) (h0 : 0 ≤ i) (hi : i.toNat < n) (hk : ∀ a, HasA w a ((vs.drop (i.toNat * z)).take z) → blkOf v = [a.block] → K (.pointer (some a)) w) : optW (ixS z v (.int k i)) w K := by
  rcases h with ⟨_, rfl, _⟩ | ⟨a, c, rfl, _, hl, hh⟩
  · omega
  · refine s_ixS h0 (by omega) (hk _ ?_ (by rw [add_block]; rfl))
    intro j u hu
    rw [List.getElem?_take] at hu
    split at hu
    · rw [List.getElem?_drop] at hu
      have := hh _ _ hu
      have e : (a.add (i.toNat * z)).add j = a.add (i.toNat * z + j) := by
        unfold Addr.add
        by_cases hj0 : j = 0
        · subst hj0; simp
        · by_cases hn0 : i.toNat * z = 0
          · rw [hn0]; simp
          · simp [hj0, hn0, Nat.add_assoc]
      rw [e]
      exact this
    · cases hu
theorem SlN.one : Sl w v vs ↔ SlN 1 w v vs.length vs := by
  constructor
  · rintro (⟨rfl, rfl⟩ | ⟨a, c, rfl, hc, h⟩)
    · exact .inl ⟨rfl, rfl, rfl⟩
    · exact .inr ⟨a, c, rfl, hc, by simp, h⟩
  · rintro (⟨rfl, _, rfl⟩ | ⟨a, c, rfl, hc, _, h⟩)
    · exact .inl ⟨rfl, rfl⟩
    · exact .inr ⟨a, c, rfl, hc, h⟩
theorem s_ldNA {a : Addr} {m : Nat} (h : HasA w a vs) (hm : vs.length = m) (hk : K (.agg vs.toArray) w) : optW (ldN m (.pointer (some a)) w) w K := s_ldN (h.row hm) hk
theorem s_ldA {a : Addr} {o : Nat} {u : Value} (h : HasA w a vs) (hu : vs[o]? = some u) (hk : K u w) : optW (ld1 (.pointer (some (a.add o))) w) w K := s_ld (h o u hu) hk
end
/-- What a type is made of. 'bytes': a slice of bytes; 'arr8': an array of bytes; a struct of several fields is a pair of pairs. -/
inductive Ty where
  | int (q : IntKind)
  | bool
  | bytes
  | arr8 (n : Nat)
  | slice (e : Ty)
  | arr (n : Nat) (e : Ty)
  | pair (a b : Ty)
def Ty.El : Ty → Type
  | .int _ => Int
  | .bool => Bool
  | .bytes => List UInt8
  | .arr8 _ => List UInt8
  | .slice e => List e.El
  | .arr _ e => List e.El
  | .pair a b => a.El × b.El
abbrev Ty.lst {e : Ty} (x : (Ty.slice e).El) : List e.El := x
abbrev Ty.row {n : Nat} {e : Ty} (x : (Ty.arr n e).El) : List e.El := x
def Ty.sz : Ty → Nat
  | .int _ => 1
  | .bool => 1
  | .bytes => 1
  | .arr8 n => n
  | .slice _ => 1
  | .arr n e => n * e.sz
  | .pair a b => a.sz + b.sz
/-- The cells 'cs' are 'x'. -/
def Is (w : World) : (t : Ty) → t.El → List Value → Prop
  | .int q, n, cs => cs = [.int q n] ∧ (Lit.int q n).wf = true
  | .bool, b, cs => cs = [.bool b]
  | .bytes, l, cs => ∃ v, cs = [v] ∧ SB w v l
  | .arr8 n, l, cs => cs = bvs l ∧ l.length = n
  | .slice e, xs, cs => ∃ v vs, cs = [v] ∧ SlN e.sz w v (Ty.lst xs).length vs ∧ ∀ (i : Nat) x, (Ty.lst xs)[i]? = some x → Is w e x ((vs.drop (i * e.sz)).take e.sz)
  | .arr n e, xs, cs => (Ty.row xs).length = n ∧ ∀ (i : Nat) x, (Ty.row xs)[i]? = some x → Is w e x ((cs.drop (i * e.sz)).take e.sz)
  | .pair a b, x, cs => Is w a x.1 (cs.take a.sz) ∧ Is w b x.2 (cs.drop a.sz)
def Ty.bulks {α : Type} (f : α → Nat) : List α → Nat
  | [] => 0
  | x :: l => f x + Ty.bulks f l
def Ty.bulk : (t : Ty) → t.El → Nat
  | .int _, _ => 1
  | .bool, _ => 1
  | .bytes, l => List.length l + 1
  | .arr8 n, _ => n
  | .slice e, xs => Ty.bulks (Ty.bulk e) xs + 1
  | .arr _ e, xs => Ty.bulks (Ty.bulk e) xs
  | .pair a b, x => Ty.bulk a x.1 + Ty.bulk b x.2
def fieldsB (P : Program) (B : TypeId → Ty → Bool) : List Field → Nat → Ty → Bool
  | [], _, _ => false
  | [f], off, ty => (f.offset == off && P.cellsOf f.type == ty.sz) && B f.type ty
  | f :: g :: fs, off, .pair a b => ((f.offset == off && P.cellsOf f.type == a.sz) && B f.type a) && fieldsB P B (g :: fs) (off + a.sz) b
  | _ :: _ :: _, _, _ => false
def tyB (P : Program) : Nat → TypeId → Ty → Bool
  | 0, _, _ => false
  | n + 1, t, ty => match P.underlying t, ty with
    | some (.int q), .int q' => decide (q = q')
    | some .bool, .bool => true
    | some (.slice e), .bytes => P.cellsOf e == 1 && (match P.underlying e with | some (.int q) => decide (q = .u8) | _ => false)
    | some (.array m e), .arr8 m' => ((m == m' && P.cellsOf e == 1) && P.cellsOf t == m) && (match P.underlying e with | some (.int q) => decide (q = .u8) | _ => false)
    | some (.slice e), .slice e' => P.cellsOf e == e'.sz && tyB P n e e'
    | some (.array m e), .arr m' e' => ((m == m' && P.cellsOf e == e'.sz) && P.cellsOf t == m * e'.sz) && tyB P n e e'
    | some (.struct fs), ty => P.cellsOf t == ty.sz && fieldsB P (tyB P n) fs.toList 0 ty
    | _, _ => false
theorem bulks_append {α : Type} (f : α → Nat) : ∀ (l r : List α), Ty.bulks f (l ++ r) = Ty.bulks f l + Ty.bulks f r
  | [], r => by simp [Ty.bulks]
  | x :: l, r => by simp only [List.cons_append, Ty.bulks, bulks_append f l r]; omega
theorem bulks_mem {α : Type} (f : α → Nat) : ∀ (l : List α) (x : α), x ∈ l → f x ≤ Ty.bulks f l
  | [], x, h => by cases h
  | y :: l, x, h => by
    simp only [Ty.bulks]
    cases List.mem_cons.1 h with
    | inl e => subst e; omega
    | inr e => have := bulks_mem f l x e; omega
theorem bulks_len {α : Type} (f : α → Nat) (h : ∀ x, 1 ≤ f x) : ∀ (l : List α), l.length ≤ Ty.bulks f l
  | [] => by simp [Ty.bulks]
  | x :: l => by have := h x; have := bulks_len f h l; simp only [Ty.bulks, List.length_cons]; omega
theorem bulkAll_append' {H : Type} (l r : List (DataW H)) : Rows.uptoBulkAll (l ++ r) = Rows.uptoBulkAll l + Rows.uptoBulkAll r := by
  induction l with
  | nil => simp [Rows.uptoBulkAll]
  | cons x l ih => simp only [List.cons_append, Rows.uptoBulkAll, ih]; omega
theorem cells_len {w : World} {base : Nat} {a : Addr} {z : Nat} {cs : List Value} (h : w.cells? base a z = some cs) : cs.length = z ∧ HasA w a cs := by
  unfold World.cells? at h
  split at h
  · refine ⟨by simpa using mapM_some_length h, fun j u hu => ?_⟩
    have hl : cs.length = z := by simpa using mapM_some_length h
    have hj : j < z := by
      by_cases hx : j < z
      · exact hx
      · rw [List.getElem?_eq_none (by omega)] at hu; cases hu
    have := mapM_some_get h j j (by simp [hj])
    rw [hu] at this
    exact this
  · cases h
section
variable {H : Type} {enc : TypeId × Value → H} {P : Program} {w : World} {base : Nat} {sp : Nat → Bool} {held : Bool}
theorem open_list {e : TypeId} {m z : Nat} {f : Nat → Option (List Value)} {ty : Ty} {xs : List (DataW H × List MemPlace)} (ih : ∀ (fuel : Nat) (cs : List Value) (x : DataW H × List MemPlace), DataW.trod enc P w base sp held fuel e cs = some x → ∃ d : ty.El, Is w ty d cs ∧ Ty.bulk ty d ≤ Rows.uptoBulk x.1) {fuel : Nat} :
    ∀ k, k ≤ m → m = xs.length → (∀ i, i < m → (f i).bind (DataW.trod enc P w base sp held fuel e) = xs[i]?) → ∃ ds : List ty.El, ds.length = k ∧ (∀ (i : Nat) d, ds[i]? = some d → ∃ cs, f i = some cs ∧ Is w ty d cs) ∧ Ty.bulks (Ty.bulk ty) ds ≤ Rows.uptoBulkAll ((xs.take k).map (·.1))
  | 0, _, _, _ => ⟨[], rfl, by simp, by simp [Ty.bulks]⟩
  | k + 1, hk, hm, hall => by
    obtain ⟨ds, h1, h2, h3⟩ := open_list (z := z) (f := f) ih k (by omega) hm hall
    have hx := hall k (by omega)
    rw [List.getElem?_eq_getElem (by omega), Option.bind_eq_some_iff] at hx
    obtain ⟨cs, hcs, htr⟩ := hx
    obtain ⟨d, hd, hb⟩ := ih _ _ _ htr
    refine ⟨ds ++ [d], by simp [h1], ?_, ?_⟩
    · intro i y hy
      by_cases hi : i < k
      · rw [List.getElem?_append_left (by omega)] at hy
        exact h2 i y hy
      · have : i = k := by
          by_cases h : i < k + 1
          · omega
          · rw [List.getElem?_eq_none (by simp [h1]; omega)] at hy; simp at hy
        subst this
        rw [List.getElem?_append_right (by omega), h1] at hy
        simp at hy
        subst hy
        exact ⟨cs, hcs, hd⟩
    · rw [List.take_add_one, List.getElem?_eq_getElem (by omega), bulks_append]
      simp only [Option.toList_some, List.map_append, List.map_cons, List.map_nil, bulkAll_append', Rows.uptoBulkAll, Ty.bulks]
      omega
theorem open_fields {B : TypeId → Ty → Bool} {n : Nat} (ih : ∀ (t : TypeId) (ty : Ty) (cs : List Value) (x : DataW H × List MemPlace), B t ty = true → DataW.trod enc P w base sp held n t cs = some x → ∃ d : ty.El, Is w ty d cs ∧ Ty.bulk ty d ≤ Rows.uptoBulk x.1) :
    ∀ (fs : List Field) (off : Nat) (ty : Ty) (cs : List Value) (xs : List (DataW H × List MemPlace)), fieldsB P B fs off ty = true → cs.length = off + ty.sz → xs.length = fs.length →
      (∀ (i : Nat) (f : Field), fs[i]? = some f → DataW.trod enc P w base sp held n f.type ((cs.drop f.offset).take (P.cellsOf f.type)) = xs[i]?) → ∃ d : ty.El, Is w ty d (cs.drop off) ∧ Ty.bulk ty d ≤ Rows.uptoBulkAll (xs.map (·.1))
  | [], _, _, _, _, h, _, _, _ => by simp [fieldsB] at h
  | [f], off, ty, cs, xs, h, hl, hx, hall => by
    unfold fieldsB at h
    simp only [Bool.and_eq_true, beq_iff_eq] at h
    obtain ⟨⟨ho, hc⟩, hB⟩ := h
    match xs, hx with
    | [x], _ =>
      have h0 := hall 0 f rfl
      rw [ho, hc, List.take_of_length_le (by rw [List.length_drop]; omega)] at h0
      obtain ⟨d, hd, hb⟩ := ih _ _ _ _ hB (by simpa using h0)
      exact ⟨d, hd, by simpa [Rows.uptoBulkAll] using hb⟩
  | f :: g :: fs, off, ty, cs, xs, h, hl, hx, hall => by
    match ty, h with
    | .pair a b, h =>
      unfold fieldsB at h
      simp only [Bool.and_eq_true, beq_iff_eq] at h
      obtain ⟨⟨⟨ho, hc⟩, hB⟩, hF⟩ := h
      match xs, hx with
      | x :: xs, hx =>
        have h0 := hall 0 f rfl
        rw [ho, hc] at h0
        obtain ⟨d, hd, hb⟩ := ih _ _ _ _ hB (by simpa using h0)
        simp only [Ty.sz] at hl
        obtain ⟨d', hd', hb'⟩ := open_fields ih (g :: fs) (off + a.sz) b cs xs hF (by omega) (by simpa using hx) (fun i f' hf => by simpa using hall (i + 1) f' (by simpa using hf))
        refine ⟨(d, d'), ?_, ?_⟩
        · show Is w a d ((cs.drop off).take a.sz) ∧ Is w b d' ((cs.drop off).drop a.sz)
          refine ⟨hd, ?_⟩
          rw [List.drop_drop]
          exact hd'
        · simp only [Ty.bulk, List.map_cons, Rows.uptoBulkAll]
          omega
theorem open_ty : ∀ (n : Nat) (ty : Ty) (t : TypeId) (fuel : Nat) (cs : List Value) (x : DataW H × List MemPlace), tyB P n t ty = true → DataW.trod enc P w base sp held fuel t cs = some x → ∃ d : ty.El, Is w ty d cs ∧ Ty.bulk ty d ≤ Rows.uptoBulk x.1
  | 0, _, _, _, _, _, h, _ => by simp [tyB] at h
  | n + 1, ty, t, fuel, cs, x, h, ht => by
    unfold tyB at h
    split at h
    · rename_i q q' hu
      simp only [decide_eq_true_eq] at h
      subst h
      obtain ⟨k, rfl, rfl, hw⟩ := DataW.trod_int hu ht
      exact ⟨k, ⟨rfl, hw⟩, by simp [Ty.bulk, Rows.uptoBulk]⟩
    · rename_i hu
      obtain ⟨b, rfl, rfl⟩ := DataW.trod_bool hu ht
      exact ⟨b, rfl, by simp [Ty.bulk, Rows.uptoBulk]⟩
    · rename_i e hu
      simp only [Bool.and_eq_true, beq_iff_eq] at h
      obtain ⟨hc, h2⟩ := h
      split at h2
      · rename_i q he
        simp only [decide_eq_true_eq] at h2
        subst h2
        obtain ⟨v, l, rfl, hs, hb, _⟩ := open_sb_cell hu he hc ht
        refine ⟨l, ⟨v, rfl, hs⟩, ?_⟩
        simp only [Ty.bulk]
        rcases open_ints hu he hc ht with ⟨h1, rfl⟩ | ⟨a, len, cap, zs, h1, _, hl, hm, hz, rfl, _, _⟩
        · have : v = .slice none 0 0 := by simpa using h1
          subst this
          rcases hs with ⟨_, hl⟩ | ⟨a, c, hv, _⟩
          · have : l = [] := by simpa using hl
            subst this
            simp [Rows.uptoBulk]
          · cases hv
        · have hv : v = .slice (some a) len cap := by simpa using h1
          subst hv
          rcases hs with ⟨hv, _⟩ | ⟨a', c', hv, _⟩
          · cases hv
          · simp only [Value.slice.injEq] at hv
            have h1 := bulk_slice (lits (H := H) .u8 (zs.take len)) (lits .u8 (zs.drop len))
            have h2 := bulk_len (lits (H := H) .u8 (zs.take len))
            have h3 : (lits (H := H) .u8 (zs.take len)).length = len := by simp [lits]; split at hz <;> omega
            have h4 : l.length = len := by rw [hv.2.1]; simp
            show List.length l + 1 ≤ Rows.uptoBulk (DataW.slice (lits .u8 (zs.take len)) (lits .u8 (zs.drop len)))
            omega
      · cases h2
    · rename_i m e m' hu
      simp only [Bool.and_eq_true, beq_iff_eq] at h
      obtain ⟨⟨⟨rfl, hc⟩, hct⟩, h2⟩ := h
      split at h2
      · rename_i q he
        simp only [decide_eq_true_eq] at h2
        subst h2
        obtain ⟨xs, k, hk, rfl, hl, hlen, hall⟩ := DataW.trod_array hu ht
        have hcs : cs.length = m := by omega
        have one : ∀ i, i < m → ∃ b : UInt8, cs[i]? = some (bv b) ∧ ∃ y, xs[i]? = some y ∧ 1 ≤ Rows.uptoBulk y.1 := by
          intro i hi
          have := hall i hi
          rw [hc, Nat.mul_one] at this
          obtain ⟨y, hy⟩ : ∃ y, xs[i]? = some y := ⟨xs[i]'(by omega), List.getElem?_eq_getElem (by omega)⟩
          rw [hy] at this
          obtain ⟨k, e1, rfl, wk⟩ := DataW.trod_int he this
          have e2 : ((cs.drop i).take 1)[0]? = some (Value.int .u8 k) := by rw [e1]; rfl
          obtain ⟨l, e3, e4⟩ := u8_ints [k] (by simpa using wk)
          match l, e4 with
          | [b], _ =>
            refine ⟨b, ?_, _, hy, bulk_one _⟩
            simp at e3
            rw [← e3]
            simpa using e2
        have main : ∀ k, k ≤ m → ∃ l : List UInt8, cs.take k = bvs l ∧ l.length = k := by
          intro k
          induction k with
          | zero => intro _; exact ⟨[], by simp, rfl⟩
          | succ k ih =>
            intro hk
            obtain ⟨l, h1, h2⟩ := ih (by omega)
            obtain ⟨b, hb, _⟩ := one k (by omega)
            refine ⟨l ++ [b], ?_, by simp [h2]⟩
            rw [List.take_add_one, h1, hb]
            simp
        obtain ⟨l, h1, h2⟩ := main m (Nat.le_refl _)
        rw [List.take_of_length_le (by omega)] at h1
        refine ⟨l, ⟨h1, h2⟩, ?_⟩
        have := bulk_len (xs.map (·.1))
        simp only [List.length_map] at this
        simp only [Ty.bulk, Rows.uptoBulk]
        omega
      · cases h2
    · rename_i e e' hu
      simp only [Bool.and_eq_true, beq_iff_eq] at h
      obtain ⟨hc, hB⟩ := h
      rcases DataW.trod_slice hu ht with ⟨rfl, rfl⟩ | ⟨a, len, cap, elems, rest, k, rfl, rfl, rfl, _, hl, hm, hel, hall, _⟩
      · exact ⟨[], ⟨_, [], rfl, .inl ⟨rfl, rfl, rfl⟩, by simp⟩, by simp [Ty.bulk, Ty.bulks, Rows.uptoBulk]⟩
      · rw [hc] at hall
        obtain ⟨ds, h1, h2, h3⟩ := open_list (z := e'.sz) (f := fun i => w.cells? base (a.add (i * e'.sz)) e'.sz) (fun fuel cs x hx => open_ty n e' e fuel cs x hB hx) len (Nat.le_refl _) hel.symm hall
        have key : ∀ k, k ≤ len → ∃ vs : List Value, vs.length = k * e'.sz ∧ HasA w a vs ∧ ∀ i, i < k → w.cells? base (a.add (i * e'.sz)) e'.sz = some ((vs.drop (i * e'.sz)).take e'.sz) := by
          intro k
          induction k with
          | zero => intro _; exact ⟨[], by simp, fun j u hu => by simp at hu, by omega⟩
          | succ k ih =>
            intro hk
            obtain ⟨vs, g1, g2, g3⟩ := ih (by omega)
            obtain ⟨cs, hcs, _⟩ := h2 k ds[k] (List.getElem?_eq_getElem (by omega))
            obtain ⟨c1, c2⟩ := cells_len hcs
            refine ⟨vs ++ cs, by rw [List.length_append, g1, c1, Nat.succ_mul], ?_, ?_⟩
            · intro j u hu
              by_cases hj : j < vs.length
              · rw [List.getElem?_append_left hj] at hu
                exact g2 j u hu
              · rw [List.getElem?_append_right (by omega)] at hu
                have := c2 _ u hu
                have e : (a.add (k * e'.sz)).add (j - vs.length) = a.add j := by
                  rw [g1]
                  unfold Addr.add
                  by_cases h1 : k * e'.sz = 0
                  · rw [h1]; simp
                  · by_cases h2 : j - k * e'.sz = 0
                    · have : j = k * e'.sz := by omega
                      subst this
                      simp
                    · simp only [h1, h2, if_false]
                      have : j ≠ 0 := by omega
                      simp only [this, if_false]
                      congr 1
                      omega
                rw [e] at this
                exact this
            · intro i hi
              by_cases hi' : i < k
              · rw [g3 i hi']
                have : (i + 1) * e'.sz ≤ k * e'.sz := Nat.mul_le_mul_right _ hi'
                rw [Nat.succ_mul] at this
                rw [List.drop_append_of_le_length (by omega), List.take_append_of_le_length (by rw [List.length_drop]; omega)]
              · have : i = k := by omega
                subst this
                rw [hcs, List.drop_left' g1, List.take_of_length_le (by omega)]
        obtain ⟨vs, g1, g2, g3⟩ := key len (Nat.le_refl _)
        refine ⟨ds, ⟨_, vs, rfl, .inr ⟨a, cap, by rw [h1], by rw [h1]; exact hl, by rw [h1]; exact g1, g2⟩, ?_⟩, ?_⟩
        · intro i d hd
          have h1' : (Ty.lst ds).length = len := h1
          have hi : i < len := by
            by_cases hx : i < len
            · exact hx
            · rw [List.getElem?_eq_none (by omega)] at hd; cases hd
          obtain ⟨cs, hcs, hI⟩ := h2 i d hd
          rw [g3 i hi] at hcs
          simp only [Option.some.injEq] at hcs
          rw [hcs]
          exact hI
        · rw [List.take_of_length_le (by omega)] at h3
          have := bulk_slice (elems.map (·.1)) (rest.map (·.1))
          simp only [Ty.bulk]
          omega
    · rename_i m e m' e' hu
      simp only [Bool.and_eq_true, beq_iff_eq] at h
      obtain ⟨⟨⟨rfl, hc⟩, hct⟩, hB⟩ := h
      obtain ⟨xs, k, hk, rfl, hl, hlen, hall⟩ := DataW.trod_array hu ht
      rw [hc] at hall
      obtain ⟨ds, h1, h2, h3⟩ := open_list (z := e'.sz) (f := fun i => some ((cs.drop (i * e'.sz)).take e'.sz)) (fun fuel cs x hx => open_ty n e' e fuel cs x hB hx) m (Nat.le_refl _) hlen.symm (fun i hi => by simpa using hall i hi)
      refine ⟨ds, ⟨h1, fun i d hd => ?_⟩, ?_⟩
      · obtain ⟨cs', hcs, hI⟩ := h2 i d hd
        simp only [Option.some.injEq] at hcs
        rw [hcs]
        exact hI
      · rw [List.take_of_length_le (by omega)] at h3
        simp only [Ty.bulk, Rows.uptoBulk]
        omega
    · rename_i ty _ _ fs hu
      simp only [Bool.and_eq_true, beq_iff_eq] at h
      obtain ⟨hc, hF⟩ := h
      obtain ⟨xs, k, hk, rfl, hl, hlen, hall⟩ := DataW.trod_struct hu ht
      obtain ⟨d, hd, hb⟩ := open_fields (enc := enc) (sp := sp) (held := held) (base := base) (n := k) (fun t ty cs x hB hx => open_ty n ty t k cs x hB hx) fs.toList 0 ty cs xs hF (by omega) (by simpa using hlen) (fun i f hf => hall i f (by simpa using hf))
      refine ⟨d, by simpa using hd, ?_⟩
      simp only [Rows.uptoBulk]
      omega
    · cases h
def aggDesc : TypeDesc → Bool
  | .struct _ => true
  | .array _ _ => true
  | _ => false
theorem okWide_agg {t : TypeId} {d : TypeDesc} {v : Value} {r : Reach} {b0 : Nat} (hu : P.underlying t = some d) (hd : aggDesc d = true) (h : Value.okWide P w r b0 t v) : ∃ cs, v = .agg cs := by
  cases d <;> simp [aggDesc] at hd
  all_goals
    simp only [Value.okWide, hu] at h
    obtain ⟨cs, h1, _⟩ := h
    exact ⟨cs, h1⟩
/-- An argument of a type of one cell. -/
theorem open_arg1 {n : Nat} {t : TypeId} {ty : Ty} {v : Value} {d : DataW H} {p : List MemPlace} (ht : tyB P n t ty = true) (hv : v.cells = #[v]) (h : DataW.Trod enc P w base sp held t v d p) : ∃ x : ty.El, Is w ty x [v] ∧ Ty.bulk ty x ≤ Rows.uptoBulk d := by
  obtain ⟨fuel, hf⟩ := h
  rw [hv] at hf
  exact open_ty n ty t fuel _ _ ht hf
theorem open_argN {n : Nat} {t : TypeId} {ty : Ty} {cs : Array Value} {d : DataW H} {p : List MemPlace} (ht : tyB P n t ty = true) (h : DataW.Trod enc P w base sp held t (.agg cs) d p) : ∃ x : ty.El, Is w ty x cs.toList ∧ Ty.bulk ty x ≤ Rows.uptoBulk d := by
  obtain ⟨fuel, hf⟩ := h
  exact open_ty n ty t fuel _ _ ht hf
end
end Go.Proofs.Ytmljgkjcoemadaa
