/-
  Cells that lie in a block, and what a call leaves alone.
-/
import Derived.Test.YtmljgkjcoemadaaStep
import Derived.Below
import Derived.OpenShut
import Derived.ChangeArms
namespace Go.Ev
open Go Go.RowKit
theorem semW.mono {α : Type} {P : Program} {m : Sem α} {w : World} {K K' : α → World → Prop} (h : semW P m w K) (hk : ∀ v w', K v w' → K' v w') : semW P m w K' :=
  let ⟨v, w', a, b⟩ := h
  ⟨v, w', a, hk _ _ b⟩
def bv (b : UInt8) : Value := .int .u8 b.toNat
abbrev bvs (l : List UInt8) : List Value := l.map bv
theorem add_mid (b o j : Nat) : (⟨b, o, none⟩ : Addr).add j = ⟨b, o + j, none⟩ := by unfold Addr.add; split <;> simp_all
/-- The cells 'vs' lie in block 'b' from 'o' on. -/
def HasL (w : World) (b o : Nat) (vs : List Value) : Prop := ∀ j v, vs[j]? = some v → w.cell? ⟨b, o + j, none⟩ = some v
theorem rowO_has {w : World} {b o : Nat} : ∀ (vs : List Value) (i : Nat), (∀ j v, vs[j]? = some v → w.cell? ⟨b, o + (i + j), none⟩ = some v) → rowO w ⟨b, o, none⟩ i vs.length = some vs
  | [], _, _ => rfl
  | v :: vs, i, h => by
    have h0 := h 0 v rfl
    have ih := rowO_has vs (i + 1) (fun j u hu => by have := h (j + 1) u (by simpa using hu); rwa [show i + 1 + j = i + (j + 1) by omega])
    simp only [List.length_cons, rowO, add_mid]
    rw [show o + (i + 0) = o + i by omega] at h0
    rw [h0]
    simp only [ih]
theorem HasL.row {w : World} {b o : Nat} {vs : List Value} {n : Nat} (h : HasL w b o vs) (hn : vs.length = n) : rowO w ⟨b, o, none⟩ 0 n = some vs := by
  subst hn
  exact rowO_has vs 0 (fun j v hv => by simpa using h j v hv)
theorem HasL.keep {w w' : World} {b o : Nat} {vs : List Value} (h : HasL w b o vs) (e : w'.heap[b]? = w.heap[b]?) : HasL w' b o vs := fun j v hv => (World.cell?_of_block (w := w) e).trans (h j v hv)
theorem HasL.alloc (w : World) (cs : Array Value) (t : TypeId) : HasL (w.alloc (.cells cs t)) w.heap.size 0 cs.toList := fun j v hv => by simpa using hv
theorem HasL.lt {w : World} {b o : Nat} {v : Value} {vs : List Value} (h : HasL w b o (v :: vs)) : b < w.heap.size := World.block_lt_of_cell? w ⟨b, o + 0, none⟩ (h 0 v rfl)
theorem HasL.cell {w : World} {b o i : Nat} {vs : List Value} {v : Value} (h : HasL w b o vs) (hv : vs[i]? = some v) : w.cell? ((⟨b, o, none⟩ : Addr).add i) = some v := by
  rw [add_mid]; exact h i v hv
/-- Blocks that are not in the list are as they were. -/
structure Keep (S : List Nat) (w w' : World) : Prop where
  os : w'.os = w.os
  tape : w'.tape = w.tape
  output : w'.output = w.output
  size : w.heap.size ≤ w'.heap.size
  block : ∀ k, k < w.heap.size → k ∉ S → w'.heap[k]? = w.heap[k]?
namespace Keep
variable {S T U : List Nat} {a b c w w' : World}
theorem refl (S : List Nat) (w : World) : Keep S w w := ⟨rfl, rfl, rfl, Nat.le_refl _, fun _ _ _ => rfl⟩
theorem trans (h : Keep S a b) (k : Keep T b c) (hs : ∀ x ∈ S, x < a.heap.size → x ∈ U) (ht : ∀ x ∈ T, x < a.heap.size → x ∈ U) : Keep U a c :=
  ⟨k.os.trans h.os, k.tape.trans h.tape, k.output.trans h.output, Nat.le_trans h.size k.size, fun i hi hu =>
    (k.block i (Nat.lt_of_lt_of_le hi h.size) (fun hx => hu (ht i hx hi))).trans (h.block i hi (fun hx => hu (hs i hx hi)))⟩
theorem tr (h : Keep S a b) (k : Keep S b c) : Keep S a c := h.trans k (fun _ h _ => h) (fun _ h _ => h)
theorem drew (h : Keep S a w) : Keep S a w.drew := ⟨h.os, h.tape, h.output, h.size, h.block⟩
theorem alloc (h : Keep S a w) (o : Obj) : Keep S a (w.alloc o) :=
  h.tr ⟨rfl, rfl, rfl, by simp, fun k hk _ => Below.heap_alloc _ _ _ hk⟩
theorem setCell (h : Keep S a w) {p : Addr} (hp : p.block < a.heap.size → p.block ∈ S) (u : Value) : Keep S a (w.setCell p u) :=
  ⟨h.os, h.tape, h.output, Nat.le_trans h.size (by simp), fun k hk hn => by
    rw [Below.heap_setCell _ _ _ _ (fun e => hn (by subst e; exact hp hk))]
    exact h.block k hk hn⟩
theorem mono (h : Keep S a b) (hs : ∀ x ∈ S, x < a.heap.size → x ∈ U) : Keep U a b := ⟨h.os, h.tape, h.output, h.size, fun k hk hn => h.block k hk (fun hx => hn (hs k hx hk))⟩
theorem below (h : Keep [] a b) : Below a.heap.size a b := ⟨h.os, h.tape, h.output, h.size, fun k hk => h.block k hk (by simp)⟩
theorem grown {row : Option Nat} (h : Keep S a w) (hg : w.grownBy w' row) (hr : ∀ k, row = some k → k < a.heap.size → k ∈ S) : Keep S a w' :=
  ⟨hg.os.trans h.os, hg.tape.trans h.tape, hg.output.trans h.output, Nat.le_trans h.size hg.size, fun k hk hn =>
    (hg.block k (Nat.lt_of_lt_of_le hk h.size) (fun e => hn (hr k e.symm hk))).trans (h.block k hk hn)⟩
theorem row {b0 o : Nat} {vs : List Value} (h : Keep S a b) (hl : HasL a b0 o vs) (hb : b0 < a.heap.size) (hn : b0 ∉ S) : HasL b b0 o vs := hl.keep (h.block b0 hb hn)
end Keep
/-- An array's cells, opened. -/
theorem mapM_ints {H : Type} {enc : TypeId × Value → H} {P : Program} {w : World} {base : Nat} {sp : Nat → Bool} {held : Bool} {e : TypeId} {q : IntKind} {m : Nat} (he : P.underlying e = some (.int q)) : ∀ (L : List (List Value)) (xs : List (DataW H × List MemPlace)), L.mapM (DataW.trod enc P w base sp held m e) = some xs → ∃ ns : List Int, L = ns.map (fun n => [Value.int q n]) ∧ ∀ n ∈ ns, (Lit.int q n).wf = true
  | [], _, _ => ⟨[], rfl, by simp⟩
  | i :: L, xs, h => by
    rw [List.mapM_cons] at h
    simp only [bind, Option.bind_eq_some_iff, pure, Option.some.injEq] at h
    obtain ⟨y, hy, ys, hys, rfl⟩ := h
    obtain ⟨ns, rfl, hl⟩ := mapM_ints he L ys hys
    obtain ⟨n, rfl, rfl, wn⟩ := DataW.trod_int he hy
    exact ⟨n :: ns, rfl, by simpa using ⟨wn, hl⟩⟩
theorem open_arr_ints {H : Type} {enc : TypeId × Value → H} {P : Program} {w : World} {base : Nat} {sp : Nat → Bool} {held : Bool} {t e : TypeId} {q : IntKind} {n : Nat} {v : Value} {d : DataW H} {p : List MemPlace} {r : Reach} {b0 : Nat} (ht : P.underlying t = some (.array n e)) (he : P.underlying e = some (.int q)) (hc : P.cellsOf t = n) (h1 : P.cellsOf e = 1)
    (hv : Value.okWide P w r b0 t v) (h : DataW.Trod enc P w base sp held t v d p) : ∃ ns : List Int, v = .agg (ns.map (Value.int q)).toArray ∧ ns.length = n ∧ p = [] ∧ ∀ i ∈ ns, (Lit.int q i).wf = true := by
  have hv' : ∃ cs, v = .agg cs ∧ cs.size = n := by
    simp only [Value.okWide, ht] at hv
    obtain ⟨cs, h1, h2, _⟩ := hv
    exact ⟨cs, h1, by rw [h2, hc]⟩
  obtain ⟨cs, rfl, hcs⟩ := hv'
  obtain ⟨fuel, hf⟩ := h
  obtain ⟨xs, m, rfl, hx, hlen, hxs, hall⟩ := DataW.trod_array ht hf
  have hn : ∀ i, i < n → ∃ k, (Value.agg cs).cells.toList[i]? = some (.int q k) ∧ (Lit.int q k).wf = true ∧ xs[i]? = some (.lit (.int q k), []) := by
    intro i hi
    have := hall i hi
    rw [h1, Nat.mul_one] at this
    obtain ⟨y, hy⟩ : ∃ y, xs[i]? = some y := ⟨xs[i]'(by omega), List.getElem?_eq_getElem (by omega)⟩
    rw [hy] at this
    obtain ⟨k, e1, rfl, wk⟩ := DataW.trod_int he this
    refine ⟨k, ?_, wk, hy⟩
    have e2 : (((Value.agg cs).cells.toList.drop i).take 1)[0]? = some (Value.int q k) := by rw [e1]; rfl
    simpa using e2
  have hns : ∀ (m : Nat) (cs : List Value), cs.length = m → (∀ i, i < m → ∃ k, cs[i]? = some (.int q k) ∧ (Lit.int q k).wf = true) → ∃ ns : List Int, cs = ns.map (Value.int q) ∧ ∀ i ∈ ns, (Lit.int q i).wf = true := by
    intro m
    induction m with
    | zero => intro cs h _; exact ⟨[], by simpa using h, by simp⟩
    | succ m ih =>
      intro cs h hh
      cases cs with
      | nil => simp at h
      | cons c cs =>
        obtain ⟨ns, rfl, h2⟩ := ih cs (by simpa using h) (fun i hi => by simpa using hh (i + 1) (by omega))
        obtain ⟨k, h3, h4⟩ := hh 0 (by omega)
        simp at h3
        exact ⟨k :: ns, by simp [h3], by simpa using ⟨h4, h2⟩⟩
  obtain ⟨ns, e, hw⟩ := hns n cs.toList (by simpa using hcs) (fun i hi => by obtain ⟨k, e1, e2, _⟩ := hn i hi; exact ⟨k, e1, e2⟩)
  refine ⟨ns, ?_, ?_, ?_, hw⟩
  · congr 1
    apply Array.ext'
    simpa using e
  · have := congrArg List.length e
    simp [hcs] at this
    omega
  · have := congrArg Prod.snd hx
    simp only at this
    rw [this]
    rw [List.flatMap_eq_nil_iff]
    intro x hx'
    obtain ⟨i, hi, rfl⟩ := List.mem_iff_getElem.1 hx'
    obtain ⟨k, _, _, e3⟩ := hn i (by omega)
    rw [List.getElem?_eq_getElem hi] at e3
    simp at e3
    rw [e3]
theorem u8_ints : ∀ (ns : List Int), (∀ i ∈ ns, (Lit.int .u8 i).wf = true) → ∃ l : List UInt8, ns.map (Value.int .u8) = bvs l ∧ l.length = ns.length
  | [], _ => ⟨[], rfl, rfl⟩
  | n :: ns, h => by
    obtain ⟨l, e, hl⟩ := u8_ints ns (fun i hi => h i (List.mem_cons_of_mem _ hi))
    have hn := h n (List.mem_cons_self ..)
    simp [Lit.wf, IntKind.min, IntKind.max, IntKind.signed, IntKind.bits] at hn
    refine ⟨UInt8.ofNat n.toNat :: l, ?_, by simp [hl]⟩
    simp only [List.map_cons, bv, e]
    congr 2
    simp
    omega
theorem open_bytes {H : Type} {enc : TypeId × Value → H} {P : Program} {w : World} {base : Nat} {sp : Nat → Bool} {held : Bool} {t e : TypeId} {n : Nat} {v : Value} {d : DataW H} {p : List MemPlace} {r : Reach} {b0 : Nat} (ht : P.underlying t = some (.array n e)) (he : P.underlying e = some (.int .u8)) (hc : P.cellsOf t = n) (h1 : P.cellsOf e = 1)
    (hv : Value.okWide P w r b0 t v) (h : DataW.Trod enc P w base sp held t v d p) : ∃ l : List UInt8, v = .agg (bvs l).toArray ∧ l.length = n ∧ p = [] := by
  obtain ⟨ns, rfl, hl, hp, hw⟩ := open_arr_ints ht he hc h1 hv h
  obtain ⟨l, e, hl'⟩ := u8_ints ns hw
  exact ⟨l, by rw [e], by omega, hp⟩
end Go.Ev
