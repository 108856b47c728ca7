/-
  Arrays and made slices: the whole of an array as a slice, 'make', 'copy' of any length, bytes xor, a literal of two.
-/
import Derived.Test.YtmljgkjcoemadaaSl
import Derived.Laws.CopyRow
import Derived.Laws.IdiomCopy
import Derived.Laws.MakeOwn
import Derived.Lib.SlBytesConst
namespace Go.Ev
open Go Go.RowKit
section
variable {P : Program} {w w' : World} {K : Value → World → Prop}
theorem u8wrap (n : Nat) (h : n < 256) : IntKind.u8.wrap (n : Int) = (n : Int) := by
  simp [IntKind.wrap, IntKind.bits, IntKind.signed]
  omega
theorem s_xor8 {a b : UInt8} (h : K (bv (a ^^^ b)) w) : optW (arO .xor (bv a) (bv b)) w K := by
  refine s_xor ?_
  have ha := a.toNat_lt
  have hb := b.toNat_lt
  have e : (BitVec.ofInt IntKind.u8.bits (a.toNat : Int) ^^^ BitVec.ofInt IntKind.u8.bits (b.toNat : Int)).toNat = (a ^^^ b).toNat := by
    show (BitVec.ofInt 8 (a.toNat : Int) ^^^ BitVec.ofInt 8 (b.toNat : Int)).toNat = _
    rw [BitVec.toNat_xor, BitVec.ofInt_natCast, BitVec.ofInt_natCast, BitVec.toNat_ofNat, BitVec.toNat_ofNat, UInt8.toNat_xor, Nat.mod_eq_of_lt (by omega), Nat.mod_eq_of_lt (by omega)]
  rw [e, u8wrap _ (UInt8.toNat_lt _)]
  exact h
theorem bv_lit (n : Nat) (h : n < 256) : Value.int .u8 (n : Int) = bv (UInt8.ofNat n) := by
  unfold bv
  simp
  omega
theorem s_bs2' {t e : TypeId} {bytes : Nat} {z : Value} (E : ElT P t e 1 bytes z) {u v : Value} (hu : u.cells = #[u]) (hv : v.cells = #[v]) (h : ∀ w', Keep [] w w' → w'.ownsRow w.heap.size e 1 (.slice (some ⟨w.heap.size, 0, none⟩) 2 2) 2 [u, v] → K (.slice (some ⟨w.heap.size, 0, none⟩) 2 2) w') : semW P (Instr.buildSlice t 2 #[(0, u), (1, v)]) w K := by
  refine s_bs2 E (by rw [hu]; rfl) (by rw [hv]; rfl) (h _ ((Keep.refl _ _).alloc _) ?_)
  rw [hu, hv]
  exact ⟨rfl, .inr ⟨_, 2, #[u, v], rfl, Nat.le_refl _, heap_alloc_new w _, Nat.le_refl _, by unfold maxLen; omega, rfl, rfl⟩⟩
/-- A byte is appended; where the result lies. -/
theorem s_push2 {t e ty : TypeId} {z : Value} {base : Nat} {v : Value} {l : List UInt8} {c : UInt8} (E : ElT P t e 1 1 z) (hb : base ≤ w.heap.size) (ho : w.ownsRow base e 1 v l.length (bvs l)) (hl : l.length ≤ 1099511627776)
    (h : ∀ v' w', w'.ownsRow base e 1 v' (l ++ [c]).length (bvs (l ++ [c])) → Keep (blkOf v) w w' → (blkOf v' = blkOf v ∨ ∀ g ∈ blkOf v', w.heap.size ≤ g) → K v' w') : semW P (Instr.buildSlice t 1 #[(0, bv c)]) w fun x w => semW P (bltS .append #[t, t] ty #[v, x]) w K := by
  refine s_lit1 E rfl ?_
  intro w1 k1 ho1
  have ho' := owns_kp ho k1 (by simp)
  have hs := k1.size
  refine s_app' (base := base) E ho' (owns_Sl ho1) (by simp [bv_one]) (by simp; unfold maxLen; omega) (by simp; omega) (by omega) ?_
  intro v' w2 ho2 k2 hbl
  refine h v' w2 ?_ (k1.trans k2 (by simp) (fun x hx _ => hx)) (hbl.imp id fun hg g hgm => by have := hg g hgm; omega)
  rw [show bvs (l ++ [c]) = bvs l ++ [bv c] by simp only [bvs, List.map_append, List.map_cons, List.map_nil], List.length_append]
  exact ho2
/-- The bytes of a constant string: a row of its own, with the run-time's mark. -/
theorem s_constB {t e : TypeId} (ht : P.underlying t = some (.slice e)) (he : P.underlying e = some (.int .u8)) (l : List UInt8) {n : Nat} (hn : l.length = n) {w : World} {K : Value → World → Prop} (h : ∀ w', Keep [] w w' → SB w' (.slice (some ⟨w.heap.size, 0, none⟩) n n) l → K (.slice (some ⟨w.heap.size, 0, none⟩) n n) w') :
    semW P (convert t t (.slice (some ⟨w.heap.size, 0, none⟩) n n)) (w.alloc (.cells (bvs l).toArray e)) K := by
  subst hn
  refine ⟨_, _, Lib.run_convert_bytes_const w t e (bvs l).toArray l.length l.length ht he, h _ ((Keep.refl _ _).alloc _) ?_⟩
  refine .inr ⟨⟨w.heap.size, 0, none⟩, l.length, by simp, by simp, fun j v hj => ?_⟩
  rw [add_mid]
  have hm : ∀ o : Obj, (w.alloc o).heap[w.heap.size]? = some o := fun o => heap_alloc_new w o
  simp only [World.cell?, hm]
  simpa using hj
/-- The whole of an array as a slice. -/
theorem s_slAll {b n : Nat} (h0 : 0 < n) (h : K (.slice (some ⟨b, 0, none⟩) n n) w) : optW (slA n 1 (.pointer (some ⟨b, 0, none⟩)) none none none) w K := by
  refine s_opt (v := .slice (some ⟨b, 0, none⟩) n n) ?_ h
  have e3 : bndsO n n none none none = some (0, n, n) := rfl
  simp only [slA, e3, Nat.sub_zero]
  rw [if_neg (by omega)]
  rfl
theorem Blk.sl {b : Nat} {l : List Value} {e : TypeId} (h : Blk w b l e) : Sl w (.slice (some ⟨b, 0, none⟩) l.length l.length) l := .inr ⟨_, _, rfl, Nat.le_refl _, h.has.hasA⟩
theorem Blk.sb {b n : Nat} {l : List UInt8} {e : TypeId} (h : Blk w b (bvs l) e) (hn : l.length = n) : SB w (.slice (some ⟨b, 0, none⟩) n n) l := by
  have := Blk.sl h
  rw [show (bvs l).length = n by simp only [bvs, List.length_map]; exact hn] at this
  exact this
theorem made_one {z : Value} (hz : z.cells = #[z]) (n : Nat) : (madeCells z.cells n).toList = List.replicate n z := by
  rw [hz]
  unfold madeCells
  simp
  apply List.ext_getElem?
  intro i
  by_cases hi : i < n
  · simp [hi, Nat.mod_one]
  · simp [hi]
theorem s_make {t e : TypeId} {bytes : Nat} {z : Value} (E : ElT P t e 1 bytes z) (hz : z.cells = #[z]) {k k' : IntKind} {n : Nat} {a b : Int} (ha : a = (n : Int)) (hb : b = (n : Int)) (hbytes : bytes * n ≤ 281474976710656) (h63 : n ≤ maxLen)
    (h : ∀ w', Keep [] w w' → w.heap.size < w'.heap.size → Blk w' w.heap.size (List.replicate n z) e → K (.slice (some ⟨w.heap.size, 0, none⟩) n n) w') : semW P (Instr.makeSlice t (.int k a) (.int k' b)) w K := by
  subst ha hb
  obtain ⟨i, hi, h1, h2, h3⟩ := E.info
  have hr := run_make (P := P) w t e i z E.ht hi h1 k k' n n (by omega) (Int.le_refl _) (by have h5 : ((bytes * n : Nat) : Int) ≤ 281474976710656 := by omega
                                                                                            rw [Int.natCast_mul] at h5; rw [h3]; exact h5) (by simp only [maxLen] at h63; omega)
  simp only [Int.toNat_natCast] at hr
  refine ⟨_, _, hr, h _ ((Keep.refl _ _).alloc _) (by simp) ?_⟩
  have := Blk.new w (madeCells z.cells (n * i.size)) e
  rw [h2, Nat.mul_one, made_one hz] at this
  rw [h2, Nat.mul_one]
  exact this
theorem s_makeB {t e : TypeId} (E : ElT P t e 1 1 (.int .u8 0)) {k k' : IntKind} {n : Nat} {a b : Int} (ha : a = (n : Int)) (hb : b = (n : Int)) (h63 : n ≤ 281474976710656)
    (h : ∀ w', Keep [] w w' → w.heap.size < w'.heap.size → Blk w' w.heap.size (bvs (List.replicate n 0)) e → K (.slice (some ⟨w.heap.size, 0, none⟩) n n) w') : semW P (Instr.makeSlice t (.int k a) (.int k' b)) w K :=
  s_make E rfl ha hb (by omega) (by unfold maxLen; omega) fun w' k1 h1 h2 => h w' k1 h1 (by
    have : bvs (List.replicate n 0) = List.replicate n (Value.int .u8 0) := by simp only [bvs, List.map_replicate]; rfl
    rw [this]; exact h2)
/-- 'copy' into a block that is known whole. -/
theorem s_copyN {t e' ty : TypeId} {bytes : Nat} {z : Value} (E : ElT P t e' 1 bytes z) {g o dLen dCap : Nat} {l vs : List Value} {e : TypeId} {v : Value} (hb : Blk w g l e) (hv : Sl w v vs) (h1 : ∀ u ∈ vs, u.oneCell' = true) (hfit : o + dLen ≤ l.length)
    (h : ∀ w', Blk w' g (l.take o ++ vs.take (min vs.length dLen) ++ l.drop (o + min vs.length dLen)) e → Keep [g] w w' → K (.int .i64 ((min vs.length dLen : Nat) : Int)) w') : semW P (bltS .copy #[t, t] ty #[.slice (some ⟨g, o, none⟩) dLen dCap, v]) w K := by
  obtain ⟨i, hi, _, hz2, _⟩ := E.info
  have hs : (P.info? e').map (·.size) = some 1 := by rw [hi, Option.map_some, hz2]
  rcases hv with ⟨rfl, rfl⟩ | ⟨a, c, rfl, hc, hh⟩
  · have hr := run_copy_none (P := P) w t t ty e' (some ⟨g, o, none⟩) none dLen dCap 0 0 E.ht hs (by simp)
    refine ⟨_, _, hr, ?_⟩
    have := h w (by simpa using hb) (Keep.refl _ _)
    exact (by simpa using this : K (.int .i64 0) w)
  · have hcs : (vs.take (min vs.length dLen)).length = min vs.length dLen := by rw [List.length_take]; omega
    have hr := run_copy_row (P := P) w t t ty e' g o dLen dCap a vs.length c l.toArray e (vs.take (min vs.length dLen)) E.ht hs hb (by rw [hcs])
      (fun j u hj => hh j u (by rw [List.getElem?_take] at hj; split at hj; exact hj; simp at hj)) (by rw [hcs]; simp; omega) (fun u hu => h1 u (List.mem_of_mem_take hu))
    refine ⟨_, _, hr, ?_⟩
    rw [hcs] at *
    refine h _ ?_ ?_
    · unfold Blk
      exact setRow_heap w g l.toArray _ e _ hb
    · exact ⟨rfl, rfl, rfl, by simp, fun k _ hk => setRow_other w g k _ (fun e => hk (by simp [e]))⟩
/-- 'copy' of bytes to the front of an array. -/
theorem s_copyB {t e' ty : TypeId} {bytes : Nat} {z : Value} (E : ElT P t e' 1 bytes z) {g n dCap : Nat} {l r : List UInt8} {e : TypeId} {v : Value} (hb : Blk w g (bvs l) e) (hn : l.length = n) (hv : SB w v r) (h : ∀ w', Blk w' g (bvs (r.take n ++ l.drop r.length)) e → Keep [g] w w' → K (.int .i64 ((min r.length n : Nat) : Int)) w') :
    semW P (bltS .copy #[t, t] ty #[.slice (some ⟨g, 0, none⟩) n dCap, v]) w K := by
  subst hn
  refine s_copyN E hb hv (bvs_one _) (by simp) ?_
  intro w1 hb1 k1
  have e : (bvs l).take 0 ++ (bvs r).take (min (bvs r).length l.length) ++ (bvs l).drop (0 + min (bvs r).length l.length) = bvs (r.take l.length ++ l.drop r.length) := by
    simp only [bvs, List.length_map, List.take_zero, List.nil_append, Nat.zero_add, ← List.map_take, ← List.map_drop, ← List.map_append]
    congr 2
    · by_cases hx : r.length ≤ l.length
      · rw [Nat.min_eq_left hx, List.take_of_length_le (Nat.le_refl _), List.take_of_length_le hx]
      · rw [Nat.min_eq_right (by omega)]
    · by_cases hx : r.length ≤ l.length
      · rw [Nat.min_eq_left hx]
      · rw [Nat.min_eq_right (by omega), List.drop_of_length_le (Nat.le_refl _), List.drop_of_length_le (by omega)]
  rw [e] at hb1
  have := h w1 hb1 k1
  simpa only [bvs, List.length_map] using this
end
end Go.Ev
