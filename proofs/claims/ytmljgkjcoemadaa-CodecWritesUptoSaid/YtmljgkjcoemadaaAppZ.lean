/-
  append(s, make([]byte, m)...): the translation hands the number in the place of a slice.
-/
import Derived.Test.YtmljgkjcoemadaaArr
import Derived.Lib.AppendZerosOnto
namespace Go.Ev
open Go Go.RowKit
section
variable {P : Program} {w w' : World} {K : Value → World → Prop}
theorem zeroCells_one {z : Value} (n : Nat) : (Builtin.zeroCells #[z] n).toList = List.replicate n z := by
  unfold Builtin.zeroCells
  simp
  apply List.ext_getElem?
  intro i
  by_cases hi : i < n
  · simp [hi, Nat.mod_one]
  · simp [hi]
theorem sb_of_new {l : List UInt8} {rest : List Value} {cs : Array Value} {e : TypeId} {n c : Nat} (w : World) (hcs : cs.toList = bvs l ++ rest) (hn : l.length = n) (hc : n ≤ c) : SB (w.alloc (.cells cs e)) (.slice (some ⟨w.heap.size, 0, none⟩) n c) l := by
  subst hn
  refine .inr ⟨⟨w.heap.size, 0, none⟩, c, by simp, by simp [hc], fun j u hj => ?_⟩
  have hb := Blk.new w cs e
  rw [add_mid, hb.cell, hcs, Nat.zero_add, List.getElem?_append_left (by
    by_cases hx : j < (bvs l).length
    · exact hx
    · rw [List.getElem?_eq_none (by omega)] at hj; cases hj)]
  exact hj
theorem s_appZ {t tn e ty : TypeId} {kn kq : IntKind} (E : ElT P t e 1 1 (.int .u8 0)) (htn : P.underlying tn = some (.int kn)) {base n m : Nat} {v : Value} {l : List UInt8} (ho : w.ownsRow base e 1 v n (bvs l)) (hb : n + m ≤ 70368744177664)
    (h : ∀ v' w', SB w' v' (l ++ List.replicate m 0) → Keep (blkOf v) w w' → K v' w') : semW P (bltS .append #[t, tn] ty #[v, .int kq (m : Int)]) w K := by
  obtain ⟨i, hi, hz1, hz2, hz3⟩ := E.info
  have hz : (Value.int .u8 0).cells = #[.int .u8 0] := rfl
  have hln : l.length = n := by have := ho.1; simpa using this
  have hrep : bvs (List.replicate m 0) = List.replicate m (Value.int .u8 0) := by simp only [bvs, List.map_replicate]; rfl
  by_cases hm : m = 0
  · subst hm
    have hw : IntKind.i64.wrap ((0 : Nat) : Int) = 0 := by decide
    have hs := owns_Sl ho
    rcases ho.2 with ⟨rfl, hx⟩ | ⟨g, cap, cur, rfl, _, hg, hnc, _⟩
    · refine ⟨.slice none 0 0, w, ?_, h _ _ (by simpa using hs) (Keep.refl _ _)⟩
      simp [bltS, Builtin.append_, run_underlying E.ht, run_underlying htn, sizeOf, typeInfo, hi, asInt, asIntOf, IntKind.wrap_i64]
    · refine ⟨.slice (some ⟨g, 0, none⟩) n cap, w, ?_, h _ _ (by simpa using hs) (Keep.refl _ _)⟩
      simp [bltS, Builtin.append_, run_underlying E.ht, run_underlying htn, sizeOf, typeInfo, hi, asInt, asIntOf, hnc, storeCells, IntKind.wrap_i64]
  · rcases ho.2 with ⟨rfl, hx⟩ | ⟨g, cap, cur, rfl, hbg, hg, hnc, hcm, hcs, htake⟩
    · subst hx
      have hl : l = [] := List.eq_nil_of_length_eq_zero (by omega)
      subst hl
      have hr := Lib.run_append_nil_zeros (P := P) w t tn ty e i _ kq kn E.ht htn hi hz1 m (by omega) (by omega) (by omega) (by rw [hz3]; omega)
      refine ⟨_, _, hr, h _ _ ?_ (((Keep.refl _ w).drew).alloc _)⟩
      refine sb_of_new (l := [] ++ List.replicate m 0) (rest := List.replicate (grownCap w m 0 e - m) (Value.int .u8 0)) w.drew ?_ (by simp) (grownCap_ge _ _ _ _)
      rw [hz, Array.toList_append, zeroCells_one, zeroCells_one, List.nil_append, hrep]
    · have holds : ∀ j u, (bvs l)[j]? = some u → w.cell? ((⟨g, 0, none⟩ : Addr).add j) = some u := ho.cells (g := g) rfl
      by_cases hfit : n + m ≤ cap
      · have hmi : IntKind.i64.wrap (m : Int) = m := by rw [IntKind.wrap_i64]; omega
        have hneg : ¬ ((m : Int) < 0) := by omega
        have hcur : cur.toList = bvs l ++ cur.toList.drop n := by rw [← htake, Nat.mul_one, List.take_append_drop]
        have hsz : cur.size = cap := by simpa using hcs
        have hst := run_storeCells_at P g n e (List.replicate m (Value.int .u8 0)) 0 cur w hg (by simp; omega) (by intro x hx; rw [List.eq_of_mem_replicate hx]; rfl)
        have h48i : ¬ (281474976710656 < (m : Int) * (i.bytes : Int)) := by rw [hz3]; omega
        refine ⟨.slice (some ⟨g, 0, none⟩) (n + m) cap, w.setRow g (cur.toList.take (n + 0) ++ List.replicate m (Value.int .u8 0) ++ cur.toList.drop (n + 0 + (List.replicate m (Value.int .u8 0)).length)).toArray, ?_, h _ _ ?_ ?_⟩
        · have hadd : (⟨g, 0, none⟩ : Addr).add n = ⟨g, n, none⟩ := by rw [add_mid, Nat.zero_add]
          have hzc : (Builtin.zeroCells #[Value.int .u8 0] m).toList = List.replicate m (Value.int .u8 0) := zeroCells_one m
          simp [bltS, Builtin.append_, run_underlying E.ht, run_underlying htn, sizeOf, typeInfo, zeroValue, hi, hz1, hz2, hz, asInt, asIntOf, hmi, hneg, h48i, hfit, hm, hadd, hzc, hst]
        · have hh := setRow_heap w g cur (cur.toList.take (n + 0) ++ List.replicate m (Value.int .u8 0) ++ cur.toList.drop (n + 0 + (List.replicate m (Value.int .u8 0)).length)).toArray e (0, 0) hg
          have hB : Blk (w.setRow g (cur.toList.take (n + 0) ++ List.replicate m (Value.int .u8 0) ++ cur.toList.drop (n + 0 + (List.replicate m (Value.int .u8 0)).length)).toArray) g (bvs (l ++ List.replicate m 0) ++ cur.toList.drop (n + 0 + (List.replicate m (Value.int .u8 0)).length)) e := by
            unfold Blk
            rw [hh]
            congr 2
            have e1 : cur.toList.take (n + 0) = bvs l := by rw [← htake]; simp
            rw [e1, ← hrep]
            simp only [bvs, List.map_append]
          refine .inr ⟨⟨g, 0, none⟩, cap, by simp [hln], by simp [hln, hfit], fun j u hj => ?_⟩
          rw [add_mid, hB.cell, Nat.zero_add, List.getElem?_append_left (by
            by_cases hx : j < (bvs (l ++ List.replicate m 0)).length
            · exact hx
            · rw [List.getElem?_eq_none (by omega)] at hj; cases hj)]
          exact hj
        · exact ⟨rfl, rfl, rfl, by simp, fun k _ hk => setRow_other w g k _ (fun e => hk (by simp [blkOf, e]))⟩
      · have hfo := run_firstCells_some (P := P) w.drew i.size n ⟨g, 0, none⟩ n cap (bvs l) (by rw [hz2]; simp [hln]) (by simpa using holds)
        have hr := Lib.run_append_grow_zeros (P := P) w t tn ty e i _ kq kn E.ht htn hi hz1 (some ⟨g, 0, none⟩) n cap (bvs l) hfo m (by omega) (by omega) (by omega) (by omega) (by rw [hz3]; omega) (growslice_fits (by omega) (by rw [hz3]; omega))
        refine ⟨_, _, hr, h _ _ ?_ (((Keep.refl _ w).drew).alloc _)⟩
        refine sb_of_new (rest := List.replicate (grownCap w (n + m) cap e - (n + m)) (Value.int .u8 0)) w.drew ?_ (by simp [hln]) (grownCap_ge _ _ _ _)
        rw [hz, Array.toList_append, Array.toList_append, zeroCells_one, zeroCells_one]
        simp only [bvs, List.map_append, List.append_assoc]
        rw [← hrep]
end
end Go.Ev
