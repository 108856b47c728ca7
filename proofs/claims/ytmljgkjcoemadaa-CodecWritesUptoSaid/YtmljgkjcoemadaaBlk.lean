/-
  Blocks that are known whole; stores into them; arrays of bytes compared.
-/
import Derived.Test.YtmljgkjcoemadaaOwn
import Derived.ChangeKeysEq
import Derived.Laws.StructEq
namespace Go.Ev
open Go Go.RowKit
variable {P : Program} {w w' : World} {K : Value → World → Prop}
/-- Block 'b' holds the cells 'l', none frozen. -/
def Blk (w : World) (b : Nat) (l : List Value) (e : TypeId) : Prop := w.heap[b]? = some (.cells l.toArray e (0, 0))
namespace Blk
variable {b : Nat} {l : List Value} {e : TypeId}
theorem lt (h : Blk w b l e) : b < w.heap.size := (Array.getElem?_eq_some_iff.1 h).1
theorem kp {S : List Nat} (h : Blk w b l e) (k : Keep S w w') (hn : b ∉ S) : Blk w' b l e := (k.block b h.lt hn).trans h
theorem cell (h : Blk w b l e) (i : Nat) : w.cell? ⟨b, i, none⟩ = l[i]? := by
  unfold Blk at h
  simp [World.cell?, h]
theorem frozen (h : Blk w b l e) (i : Nat) : w.frozen? ⟨b, i, none⟩ = false := by
  unfold Blk at h
  simp [World.frozen?, h]
theorem has (h : Blk w b l e) : HasL w b 0 l := fun j v hv => by rw [h.cell]; simpa using hv
theorem hasAt (h : Blk w b l e) {o : Nat} {vs : List Value} (hv : ∀ j v, vs[j]? = some v → l[o + j]? = some v) : HasL w b o vs := fun j v hj => by rw [h.cell]; exact hv j v hj
theorem new (w : World) (cs : Array Value) (t : TypeId) : Blk (w.alloc (.cells cs t)) w.heap.size cs.toList t := by
  unfold Blk
  simpa using heap_alloc_new w (.cells cs t)
theorem set (h : Blk w b l e) (i : Nat) (v : Value) : Blk (w.setCell ⟨b, i, none⟩ v) b (l.set i v) e := by
  unfold Blk at h ⊢
  simp [World.setCell, Array.getElem?_modify, h]
end Blk
theorem s_newB {cs : Array Value} {t : TypeId} {l : List Value} (e : cs = l.toArray) (h : ∀ w', Blk w' w.heap.size l t → Keep [] w w' → w.heap.size < w'.heap.size → K (.pointer (some ⟨w.heap.size, 0, none⟩)) w') : newW cs t w K := by
  subst e
  refine h _ ?_ ((Keep.refl _ _).alloc _) (by simp)
  simpa using Blk.new w l.toArray t
theorem s_ldB {b o i : Nat} {l : List Value} {e : TypeId} {v : Value} (hb : Blk w b l e) (hv : l[o + i]? = some v) (h : K v w) : optW (ld1 (.pointer (some ((⟨b, o, none⟩ : Addr).add i))) w) w K :=
  s_ld (by rw [add_mid, hb.cell]; exact hv) h
theorem s_ldB0 {b o : Nat} {l : List Value} {e : TypeId} {v : Value} (hb : Blk w b l e) (hv : l[o]? = some v) (h : K v w) : optW (ld1 (.pointer (some ⟨b, o, none⟩)) w) w K :=
  s_ld (by rw [hb.cell]; exact hv) h
theorem s_ldNB {b o n : Nat} {l vs : List Value} {e : TypeId} (hb : Blk w b l e) (hn : vs.length = n) (hv : ∀ j v, vs[j]? = some v → l[o + j]? = some v) (h : K (.agg vs.toArray) w) : optW (ldN n (.pointer (some ⟨b, o, none⟩)) w) w K :=
  s_ldN ((hb.hasAt hv).row hn) h
theorem ldN_blk {b o n : Nat} {l vs : List Value} {e : TypeId} (hb : Blk w b l e) (hn : vs.length = n) (hv : ∀ j v, vs[j]? = some v → l[o + j]? = some v) : ldN n (.pointer (some ⟨b, o, none⟩)) w = some (.agg vs.toArray) := by
  have e : rowO w ⟨b, o, none⟩ 0 n = some vs := (hb.hasAt hv).row hn
  simp only [ldN, e]
theorem ldN_has {b o n : Nat} {vs : List Value} (hb : HasL w b o vs) (hn : vs.length = n) : ldN n (.pointer (some ⟨b, o, none⟩)) w = some (.agg vs.toArray) := by
  have e : rowO w ⟨b, o, none⟩ 0 n = some vs := hb.row hn
  simp only [ldN, e]
theorem s_stB {b o i : Nat} {l : List Value} {e : TypeId} {v : Value} {K : World → Prop} (hb : Blk w b l e) (hi : o + i < l.length) (hv : v.oneCell' = true) (h : ∀ w', Blk w' b (l.set (o + i) v) e → Keep [b] w w' → K w') : st1 (.pointer (some ((⟨b, o, none⟩ : Addr).add i))) v w K := by
  rw [add_mid]
  refine s_st ?_ (hb.frozen _) hv (h _ (hb.set _ _) ((Keep.refl _ _).setCell (fun _ => by simp) v))
  rw [hb.cell]
  exact ⟨_, List.getElem?_eq_getElem hi⟩
theorem stW_blk {b o : Nat} {e : TypeId} {K : World → Prop} : ∀ (vs : List Value) (i : Nat) (l : List Value) (w : World), Blk w b l e → o + i + vs.length ≤ l.length → (∀ v ∈ vs, v.oneCell' = true) →
    (∀ w', Blk w' b (l.take (o + i) ++ vs ++ l.drop (o + i + vs.length)) e → Keep [b] w w' → K w') → stW vs ⟨b, o, none⟩ i w K
  | [], i, l, w, hb, _, _, h => by
    unfold stW
    exact h w (by simpa using hb) (Keep.refl _ _)
  | v :: vs, i, l, w, hb, hl, ho, h => by
    unfold stW
    simp only [List.length_cons] at hl
    rw [add_mid]
    refine ⟨⟨⟨_, by rw [hb.cell]; exact List.getElem?_eq_getElem (by omega)⟩, hb.frozen _, ho v (by simp)⟩, ?_⟩
    refine stW_blk vs (i + 1) (l.set (o + i) v) _ (hb.set _ _) (by simp; omega) (fun u hu => ho u (by simp [hu])) ?_
    intro w' hb' k
    refine h w' ?_ (((Keep.refl [b] w).setCell (p := ⟨b, o + i, none⟩) (fun _ => by simp) v).tr k)
    have e : l.take (o + i) ++ (v :: vs) ++ l.drop (o + i + (v :: vs).length) = (l.set (o + i) v).take (o + (i + 1)) ++ vs ++ (l.set (o + i) v).drop (o + (i + 1) + vs.length) := ?_
    · rw [e]; exact hb'
    obtain ⟨A, c, C, rfl, hA⟩ : ∃ A c C, l = A ++ c :: C ∧ A.length = o + i := ⟨l.take (o + i), l[o + i], l.drop (o + i + 1), by rw [List.getElem_cons_drop, List.take_append_drop], by rw [List.length_take]; omega⟩
    rw [← hA]
    have e1 : (A ++ c :: C).set A.length v = A ++ v :: C := by simp
    have e2 : (A ++ v :: C).take (o + (i + 1)) = A ++ [v] := by
      rw [show o + (i + 1) = A.length + 1 by omega, List.take_append, List.take_of_length_le (by omega)]
      simp
    have e3 : (A ++ v :: C).drop (o + (i + 1) + vs.length) = C.drop vs.length := by
      rw [show o + (i + 1) + vs.length = A.length + (vs.length + 1) by omega, ← List.drop_drop]
      simp
    have e4 : (A ++ c :: C).drop (A.length + (v :: vs).length) = C.drop vs.length := by
      rw [← List.drop_drop]
      simp
    rw [e1, e2, e3, e4]
    simp
theorem s_stNB {b o n : Nat} {l vs : List Value} {e : TypeId} {K : World → Prop} (hb : Blk w b l e) (hn : vs.length = n) (hl : o + n ≤ l.length) (ho : ∀ v ∈ vs, v.oneCell' = true)
    (h : ∀ w', Blk w' b (l.take o ++ vs ++ l.drop (o + n)) e → Keep [b] w w' → K w') : stN n (.pointer (some ⟨b, o, none⟩)) (.agg vs.toArray) w K := by
  subst hn
  refine ⟨by simp [Value.cells], ?_⟩
  have := stW_blk (o := o) (e := e) (K := K) vs 0 l w hb (by simpa using hl) ho (by simpa using h)
  simpa [Value.cells] using this
/-- The whole of a block is written. -/
theorem s_stNB0 {b n : Nat} {l vs : List Value} {e : TypeId} {K : World → Prop} (hb : Blk w b l e) (hn : vs.length = n) (hl : l.length = n) (ho : ∀ v ∈ vs, v.oneCell' = true)
    (h : ∀ w', Blk w' b vs e → Keep [b] w w' → K w') : stN n (.pointer (some ⟨b, 0, none⟩)) (.agg vs.toArray) w K :=
  s_stNB hb hn (by omega) ho (fun w' h1 k => h w' (by have : l.drop n = [] := by rw [List.drop_eq_nil_iff]; omega
                                                      simpa [this] using h1) k)
theorem run_part1 {e : TypeId} {q : IntKind} {xs : List Value} {i : Nat} {v : Value} (he : P.underlying e = some (.int q)) (hv : xs[i]? = some v) : (part e xs.toArray i).run P w = .ok v w := by
  unfold part
  rw [Sem.run_bind]
  unfold isAgg
  rw [Sem.run_bind, rUnd he, Result.andThen_ok]
  simp [hv]
theorem run_eqItems_bytes {e : TypeId} {d : Nat} (he : P.underlying e = some (.int .u8)) (a b : List UInt8) (hl : a.length = b.length) : ∀ (k s : Nat), s + k = a.length →
    (Op.eqItems (d + 1) e 1 (bvs a).toArray (bvs b).toArray (List.range' s k)).run P w = .ok (decide (a.drop s = b.drop s)) w
  | 0, s, h => by
    have h1 : a.drop s = [] := by rw [List.drop_eq_nil_iff]; omega
    have h2 : b.drop s = [] := by rw [List.drop_eq_nil_iff]; omega
    simp [Op.eqItems, h1, h2]
  | k + 1, s, h => by
    have ih := run_eqItems_bytes (d := d) he a b hl k (s + 1) (by omega)
    have h1 : (bvs a)[s * 1]? = some (bv a[s]) := by simp; rw [List.getElem?_eq_getElem (by omega)]; exact ⟨_, rfl, rfl⟩
    have h2 : (bvs b)[s * 1]? = some (bv b[s]) := by simp; rw [List.getElem?_eq_getElem (by omega)]; exact ⟨_, rfl, rfl⟩
    rw [List.range'_succ]
    simp only [Op.eqItems, Sem.run_bind, run_part1 he h1, run_part1 he h2, Result.andThen_ok, bv, run_equalIn_int w d e .u8 .u8 _ _ he]
    rw [List.drop_eq_getElem_cons (by omega : s < a.length), List.drop_eq_getElem_cons (by omega : s < b.length)]
    by_cases hx : a[s] = b[s]
    · simp only [hx, beq_self_eq_true, Bool.not_true, Bool.false_eq_true, if_false, List.cons.injEq, true_and]
      exact ih
    · have : ((a[s].toNat : Int) == (b[s].toNat : Int)) = false := by
        simp only [beq_eq_false_iff_ne, ne_eq]
        intro hh
        exact hx (UInt8.toNat_inj.1 (by omega))
      simp only [this, Bool.not_false, if_true, Sem.run_pure, List.cons.injEq, hx, false_and, decide_false]
theorem s_eqBytes {t e : TypeId} {n : Nat} {i : TypeInfo} {x y : Operand} (ht : P.underlying t = some (.array n e)) (he : P.underlying e = some (.int .u8)) (hi : P.info? e = some i) (hs : P.cellsOf e = 1) (hg : P.eqGuardType P.depth t = false)
    {a b : List UInt8} (ha : a.length = n) (hb : b.length = n) (h : K (.bool (decide (a = b))) w) : semW P (do eqGuard .eql t x y (.agg (bvs a).toArray) (.agg (bvs b).toArray); binOp .eql t (.agg (bvs a).toArray) (.agg (bvs b).toArray)) w K := by
  refine ⟨_, _, ?_, h⟩
  have h1 : (eqGuard .eql t x y (.agg (bvs a).toArray) (.agg (bvs b).toArray)).run P w = .ok () w := by
    unfold eqGuard
    simp [hg]
  rw [Sem.run_bind, h1, Result.andThen_ok, run_eql_struct, run_equalIn_array w 9999 _ _ ht hi, hs, List.range_eq_range', ← ha]
  have := run_eqItems_bytes (P := P) (w := w) (d := 9998) he a b (by omega) a.length 0 (by omega)
  rw [this]
  simp
theorem s_neBytes {t e : TypeId} {n : Nat} {i : TypeInfo} {x y : Operand} (ht : P.underlying t = some (.array n e)) (he : P.underlying e = some (.int .u8)) (hi : P.info? e = some i) (hs : P.cellsOf e = 1) (hg : P.eqGuardType P.depth t = false)
    {a b : List UInt8} (ha : a.length = n) (hb : b.length = n) (h : K (.bool (decide (a ≠ b))) w) : semW P (do eqGuard .neq t x y (.agg (bvs a).toArray) (.agg (bvs b).toArray); binOp .neq t (.agg (bvs a).toArray) (.agg (bvs b).toArray)) w K := by
  refine ⟨_, _, ?_, h⟩
  have h1 : (eqGuard .neq t x y (.agg (bvs a).toArray) (.agg (bvs b).toArray)).run P w = .ok () w := by
    unfold eqGuard
    simp [hg]
  rw [Sem.run_bind, h1, Result.andThen_ok, run_neq_struct, run_equalIn_array w 9999 _ _ ht hi, hs, List.range_eq_range', ← ha]
  have := run_eqItems_bytes (P := P) (w := w) (d := 9998) he a b (by omega) a.length 0 (by omega)
  rw [this]
  simp
theorem Keep.of_below (h : Below w.heap.size w w') : Keep [] w w' := ⟨h.os, h.tape, h.output, h.size, fun k hk _ => h.block k hk⟩
end Go.Ev
