/-
  One step at a time: what each operation asks, as a rule to be applied backwards.
-/
import Derived.Test.YtmljgkjcoemadaaEvW
namespace Go.Ev
open Go
section
variable {w : World} {K : Value → World → Prop} {k : IntKind} {a b n : Int}
theorem wrap_in (h : k.min ≤ n ∧ n ≤ k.max) : k.wrap n = n := by
  obtain ⟨h1, h2⟩ := h
  cases k <;> simp [IntKind.wrap, IntKind.bits, IntKind.signed, IntKind.min, IntKind.max] at h1 h2 ⊢ <;> omega
theorem s_opt {O : Option Value} {v : Value} (e : O = some v) (h : K v w) : optW O w K := by subst e; exact h
theorem s_add (h : K (.int k (k.wrap (a + b))) w) : optW (arO .add (.int k a) (.int k b)) w K := by simpa [arO, binI, optW] using h
theorem s_sub (h : K (.int k (k.wrap (a - b))) w) : optW (arO .sub (.int k a) (.int k b)) w K := by simpa [arO, binI, optW] using h
theorem s_mul (h : K (.int k (k.wrap (a * b))) w) : optW (arO .mul (.int k a) (.int k b)) w K := by simpa [arO, binI, optW] using h
theorem s_addi (hb : k.min ≤ a + b ∧ a + b ≤ k.max) (h : K (.int k (a + b)) w) : optW (arO .add (.int k a) (.int k b)) w K := s_add (by rw [wrap_in hb]; exact h)
theorem s_subi (hb : k.min ≤ a - b ∧ a - b ≤ k.max) (h : K (.int k (a - b)) w) : optW (arO .sub (.int k a) (.int k b)) w K := s_sub (by rw [wrap_in hb]; exact h)
theorem s_muli (hb : k.min ≤ a * b ∧ a * b ≤ k.max) (h : K (.int k (a * b)) w) : optW (arO .mul (.int k a) (.int k b)) w K := s_mul (by rw [wrap_in hb]; exact h)
theorem s_quo (hb : b ≠ 0) (h : K (.int k (k.wrap (a.tdiv b))) w) : optW (arO .quo (.int k a) (.int k b)) w K := by simpa [arO, binI, optW, hb] using h
theorem s_quoi (ha : 0 ≤ a) (hb : 0 < b) (hm : a ≤ k.max) (h : K (.int k (a / b)) w) : optW (arO .quo (.int k a) (.int k b)) w K := by
  refine s_quo (by omega) ?_
  rw [Int.tdiv_eq_ediv_of_nonneg ha]
  have h0 : 0 ≤ a / b := Int.ediv_nonneg ha (by omega)
  have h1 : a / b ≤ a := Int.ediv_le_self _ ha
  rw [wrap_in ⟨by have : k.min ≤ 0 := by cases k <;> decide
                  omega, by omega⟩]
  exact h
theorem s_rem (hb : b ≠ 0) (h : K (.int k (a.tmod b)) w) : optW (arO .rem (.int k a) (.int k b)) w K := by simpa [arO, binI, optW, hb] using h
theorem s_remi (ha : 0 ≤ a) (hb : b ≠ 0) (h : K (.int k (a % b)) w) : optW (arO .rem (.int k a) (.int k b)) w K := by
  refine s_rem hb ?_
  rw [Int.tmod_eq_emod_of_nonneg ha]
  exact h
theorem s_lss (h : K (.bool (decide (a < b))) w) : optW (arO .lss (.int k a) (.int k b)) w K := by simpa [arO, binI, optW] using h
theorem s_leq (h : K (.bool (decide (a ≤ b))) w) : optW (arO .leq (.int k a) (.int k b)) w K := by simpa [arO, binI, optW] using h
theorem s_gtr (h : K (.bool (decide (b < a))) w) : optW (arO .gtr (.int k a) (.int k b)) w K := by simpa [arO, binI, optW] using h
theorem s_geq (h : K (.bool (decide (b ≤ a))) w) : optW (arO .geq (.int k a) (.int k b)) w K := by simpa [arO, binI, optW] using h
theorem s_eql (h : K (.bool (decide (a = b))) w) : optW (eqO false (.int k a) (.int k b)) w K := by
  have e : (a == b) = decide (a = b) := by rw [Bool.eq_iff_iff]; simp
  simpa [eqO, optW, e] using h
theorem s_neq (h : K (.bool (decide (a ≠ b))) w) : optW (eqO true (.int k a) (.int k b)) w K := by
  have e : (a != b) = decide (a ≠ b) := by rw [Bool.eq_iff_iff]; simp
  simpa [eqO, optW, e] using h
theorem s_eqb {x y : Bool} (h : K (.bool (x == y)) w) : optW (eqB false (.bool x) (.bool y)) w K := h
theorem s_neb {x y : Bool} (h : K (.bool (!(x == y))) w) : optW (eqB true (.bool x) (.bool y)) w K := h
theorem s_eqs {x y : ByteArray} (h : K (.bool (decide (x.toList = y.toList))) w) : optW (eqO false (.string x) (.string y)) w K := by
  have e : (x.toList == y.toList) = decide (x.toList = y.toList) := by rw [Bool.eq_iff_iff]; simp
  simpa [eqO, optW, e] using h
theorem s_nes {x y : ByteArray} (h : K (.bool (decide (x.toList ≠ y.toList))) w) : optW (eqO true (.string x) (.string y)) w K := by
  have e : (!(x.toList == y.toList)) = decide (x.toList ≠ y.toList) := by rw [Bool.eq_iff_iff]; simp
  simpa [eqO, optW, e] using h
theorem s_not {x : Bool} (h : K (.bool (!x)) w) : optW (unO .not (.bool x)) w K := h
theorem s_cv {k' : IntKind} (h : K (.int k' (k'.wrap a)) w) : optW (cvO k' (.int k a)) w K := h
theorem s_cvi {k' : IntKind} (hb : k'.min ≤ a ∧ a ≤ k'.max) (h : K (.int k' a) w) : optW (cvO k' (.int k a)) w K := s_cv (by rw [wrap_in hb]; exact h)
theorem s_shr {k' : IntKind} (hb : 0 ≤ b) (h : K (.int k (a.fdiv (2 ^ min b.toNat k.bits))) w) : optW (shO .shr (.int k a) (.int k' b)) w K := by simpa [shO, optW, hb] using h
theorem s_shl {k' : IntKind} (hb : 0 ≤ b) (h : K (.int k (k.wrap (a * 2 ^ min b.toNat k.bits))) w) : optW (shO .shl (.int k a) (.int k' b)) w K := by simpa [shO, optW, hb] using h
theorem s_and (h : K (.int k (k.wrap (BitVec.ofInt k.bits a &&& BitVec.ofInt k.bits b).toNat)) w) : optW (arO .and (.int k a) (.int k b)) w K := by simpa [arO, binI, optW] using h
theorem s_or (h : K (.int k (k.wrap (BitVec.ofInt k.bits a ||| BitVec.ofInt k.bits b).toNat)) w) : optW (arO .or (.int k a) (.int k b)) w K := by simpa [arO, binI, optW] using h
theorem s_xor (h : K (.int k (k.wrap (BitVec.ofInt k.bits a ^^^ BitVec.ofInt k.bits b).toNat)) w) : optW (arO .xor (.int k a) (.int k b)) w K := by simpa [arO, binI, optW] using h
theorem s_lenS {A : Option Addr} {m c : Nat} (h : K (.int .i64 m) w) : optW (lenS (.slice A m c)) w K := h
theorem s_lenT {s : ByteArray} (h : K (.int .i64 s.size) w) : optW (lenT (.string s)) w K := h
theorem s_ext {vs : Array Value} {i : Nat} {v : Value} (e : vs[i]? = some v) (h : K v w) : optW (extO (.tuple vs) i) w K := by simpa [extO, optW, e] using h
theorem s_ext0 {x : Value} {r : List Value} (h : K x w) : optW (extO (.tuple (x :: r).toArray) 0) w K := s_ext (by simp) h
theorem s_ext1 {x y : Value} {r : List Value} (h : K y w) : optW (extO (.tuple (x :: y :: r).toArray) 1) w K := s_ext (by simp) h
theorem s_ext2 {x y z : Value} {r : List Value} (h : K z w) : optW (extO (.tuple (x :: y :: z :: r).toArray) 2) w K := s_ext (by simp) h
theorem s_nilP {ad : Addr} (h : K (.pointer (some ad)) w) : optW (nilO (.pointer (some ad))) w K := h
theorem s_fad {off : Nat} {ad : Addr} (h : K (.pointer (some (ad.add off))) w) : optW (fadO off (.pointer (some ad))) w K := h
theorem s_ixS {sz m c : Nat} {ad : Addr} (h0 : 0 ≤ n) (h1 : n < m) (h : K (.pointer (some (ad.add (n.toNat * sz)))) w) : optW (ixS sz (.slice (some ad) m c) (.int k n)) w K := by simpa [ixS, optW, h0, h1] using h
theorem s_ixA {m sz : Nat} {ad : Addr} (h0 : 0 ≤ n) (h1 : n < m) (h : K (.pointer (some (ad.add (n.toNat * sz)))) w) : optW (ixA m sz (.pointer (some ad)) (.int k n)) w K := by simpa [ixA, optW, h0, h1] using h
theorem s_idx {m sz : Nat} {cs : Array Value} {v : Value} (h0 : 0 ≤ n) (h1 : n < m) (e : cs[n.toNat * sz]? = some v) (h : K v w) : optW (idxO false m sz (.agg cs) (.int k n)) w K := by simpa [idxO, partO, optW, h0, h1, e] using h
theorem s_idxT {s : ByteArray} {u : UInt8} (h0 : 0 ≤ n) (e : s[n.toNat]? = some u) (h : K (.int .u8 u.toNat) w) : optW (idxT (.string s) (.int k n)) w K := by simpa [idxT, optW, h0, e] using h
theorem s_fld {off sz : Nat} {cs : Array Value} {v : Value} (e : cs[off]? = some v) (h : K v w) : optW (fldO false off sz (.agg cs)) w K := by simpa [fldO, partO, optW, e] using h
theorem s_fldA {off sz : Nat} {cs : Array Value} (h : K (.agg (cs.extract off (off + sz))) w) : optW (fldO true off sz (.agg cs)) w K := h
theorem s_ld {ad : Addr} {v : Value} (e : w.cell? ad = some v) (h : K v w) : optW (ld1 (.pointer (some ad)) w) w K := by simpa [ld1, optW, e] using h
theorem s_ldN {m : Nat} {ad : Addr} {vs : List Value} (e : rowO w ad 0 m = some vs) (h : K (.agg vs.toArray) w) : optW (ldN m (.pointer (some ad)) w) w K := by simpa [ldN, optW, e] using h
theorem s_st {ad : Addr} {v : Value} {K : World → Prop} (e : ∃ u, w.cell? ad = some u) (f : w.frozen? ad = false) (o : v.oneCell' = true) (h : K (w.setCell ad v)) : st1 (.pointer (some ad)) v w K := ⟨⟨e, f, o⟩, h⟩
theorem s_new {cs : Array Value} {t : TypeId} (h : K (.pointer (some ⟨w.heap.size, 0, none⟩)) (w.alloc (.cells cs t))) : newW cs t w K := h
theorem s_drw {K : World → Prop} (h : K w.drew) : drw w K := h
theorem s_cnd {p : Prop} [Decidable p] {A B : Prop} (h1 : p → A) (h2 : ¬p → B) : Cnd (.bool (decide p)) A B := by
  by_cases hp : p
  · simpa [Cnd, hp] using h1 hp
  · simpa [Cnd, hp] using h2 hp
theorem s_cndT {p : Prop} [Decidable p] {A B : Prop} (hp : p) (h : A) : Cnd (.bool (decide p)) A B := s_cnd (fun _ => h) (fun n => absurd hp n)
theorem s_cndF {p : Prop} [Decidable p] {A B : Prop} (hp : ¬p) (h : B) : Cnd (.bool (decide p)) A B := s_cnd (fun n => absurd n hp) (fun _ => h)
theorem s_cndb {x : Bool} {A B : Prop} (h1 : x = true → A) (h2 : x = false → B) : Cnd (.bool x) A B := by
  cases x with
  | true => exact h1 rfl
  | false => exact h2 rfl
theorem s_true {A B : Prop} (h : A) : Cnd (.bool true) A B := h
theorem s_false {A B : Prop} (h : B) : Cnd (.bool false) A B := h
theorem s_rdI {I : World → Prop} {rd : World → Option Value} {v : Value} {K : Value → Prop} (e : ∀ w, I w → rd w = some v) (h : K v) : rdI I rd K := ⟨v, fun w hw => by rw [e w hw]; exact ⟨rfl, rfl⟩, h⟩
theorem s_gRun {c : Value} {x : Bool} {run : (Value → World → Prop) → Prop} (e : c = .bool x) (h : run K) : gOp c x w run K := by
  subst e
  simpa [gOp] using h
theorem s_gSkip {c : Value} {x y : Bool} {run : (Value → World → Prop) → Prop} (e : c = .bool y) (hn : y ≠ x) (h : K undef w) : gOp c x w run K := by
  subst e
  have : (y == x) = false := by simpa using hn
  simpa [gOp, this] using h
end
end Go.Ev
