/-
  What 'handed' gives and 'kept' finds.
-/
import Derived.Test.YtklieghmbhofnaaDoorCrc
namespace Go.Proofs.YtklieghmbhofnaaDoor
open Go Go.Ev Go.RowKit
set_option maxRecDepth 100000
theorem eU8 : ElT Tryd.prog 23 5 1 1 (.int .u8 0) := ⟨Tryd.underlying23, by kernel_rfl, rfl, by omega⟩
theorem eBs : ElT Tryd.prog 24 23 1 24 (.slice none 0 0) := ⟨Tryd.underlying24, by kernel_rfl, rfl, by omega⟩
/-- A slice of byte slices. -/
def SS (w : World) (v : Value) (ls : List (List UInt8)) : Prop := ∃ vs, Sl w v vs ∧ vs.length = ls.length ∧ ∀ i, i < ls.length → ∃ u, vs[i]? = some u ∧ SB w u (ls.getD i [])
theorem SS.kp0 {w w' : World} {v : Value} {ls : List (List UInt8)} (h : SS w v ls) (k : Keep [] w w') : SS w' v ls := by
  obtain ⟨vs, h1, h2, h3⟩ := h
  refine ⟨vs, h1.kp0 k, h2, fun i hi => ?_⟩
  obtain ⟨u, hu, hs⟩ := h3 i hi
  exact ⟨u, hu, hs.kp0 k⟩
theorem SS.len {w : World} {v : Value} {ls : List (List UInt8)} {K : KT} (h : SS w v ls) (hk : K (.int .i64 ls.length) w) : optW (lenS v) w K := by
  obtain ⟨vs, h1, h2, h3⟩ := h
  refine h1.len ?_
  rw [h2]
  exact hk
/-- ls[i], as the code reads it. -/
theorem SS.get {w : World} {v : Value} {ls : List (List UInt8)} {K : KT} {i : Nat} (h : SS w v ls) (hi : i < ls.length) (hk : ∀ u, SB w u (ls.getD i []) → K u w) : optW (ixS 1 v (.int .i64 (i : Int))) w fun a w => optW (ld1 a w) w K := by
  obtain ⟨vs, h1, h2, h3⟩ := h
  obtain ⟨u, hu, hs⟩ := h3 i hi
  refine h1.get (u := u) (by omega) (by simpa using hu) ?_
  intro a ha
  exact s_opt ha (hk u hs)
def tail3 (i : Nat) : List UInt8 := [0xa5, 0x5a, UInt8.ofNat i]
/-- What stands for part 'i': a front of a row of one's own, the mark behind it. -/
def Part (w : World) (B : Nat) (u f : Value) (l : List UInt8) (i : Nat) : Prop := ∃ b cap, u = .slice (some ⟨b, 0, none⟩) l.length cap ∧ f = .slice (some ⟨b, 0, none⟩) (l.length + 3) cap ∧ w.ownsRow B 5 1 f (l.length + 3) (bvs (l ++ tail3 i))
structure Handed (w : World) (B : Nat) (g f : Value) (ls : List (List UInt8)) (gs fs : List Value) : Prop where
  og : w.ownsRow B 23 1 g ls.length gs
  of : w.ownsRow B 23 1 f ls.length fs
  ap : ∀ b ∈ blkOf g, b ∉ blkOf f
  at_ : ∀ i, i < ls.length → ∃ u x, gs[i]? = some u ∧ fs[i]? = some x ∧ Part w B u x (ls.getD i []) i
theorem Part.kp {w w' : World} {B : Nat} {u f : Value} {l : List UInt8} {i : Nat} {S : List Nat} (h : Part w B u f l i) (k : Keep S w w') (hn : ∀ b ∈ blkOf f, b ∉ S) : Part w' B u f l i := by
  obtain ⟨b, cap, rfl, rfl, h⟩ := h
  exact ⟨b, cap, rfl, rfl, owns_kp h k hn⟩
theorem Part.sb {w : World} {B : Nat} {u f : Value} {l : List UInt8} {i : Nat} (h : Part w B u f l i) : SB w u l := by
  obtain ⟨b, cap, rfl, rfl, h⟩ := h
  have hs := owns_Sl h
  rcases hs with ⟨h1, _⟩ | ⟨a, c, h1, h2, h3⟩
  · simp at h1
  · simp at h1
    obtain ⟨rfl, -, rfl⟩ := h1
    refine .inr ⟨_, cap, by simp, by simp [tail3] at h2 ⊢; omega, fun j v hj => h3 j v ?_⟩
    simp only [bvs, List.map_append] at hj ⊢
    rw [List.getElem?_append_left]
    · exact hj
    · by_cases hx : j < (l.map bv).length
      · exact hx
      · rw [List.getElem?_eq_none (by omega)] at hj; simp at hj
theorem Part.full {w : World} {B : Nat} {u f : Value} {l : List UInt8} {i : Nat} (h : Part w B u f l i) : SB w f (l ++ tail3 i) := by
  obtain ⟨b, cap, rfl, rfl, h⟩ := h
  exact owns_Sl h
theorem Handed.kp {w w' : World} {B : Nat} {g f : Value} {ls : List (List UInt8)} {gs fs : List Value} (h : Handed w B g f ls gs fs) (k : Keep [] w w') : Handed w' B g f ls gs fs := by
  refine ⟨owns_kp h.og k (by simp), owns_kp h.of k (by simp), h.ap, fun i hi => ?_⟩
  obtain ⟨u, x, h1, h2, h3⟩ := h.at_ i hi
  exact ⟨u, x, h1, h2, h3.kp k (by simp)⟩
theorem Handed.ss {w : World} {B : Nat} {g f : Value} {ls : List (List UInt8)} {gs fs : List Value} (h : Handed w B g f ls gs fs) : SS w g ls := by
  refine ⟨gs, owns_Sl h.og, by simpa using h.og.1, fun i hi => ?_⟩
  obtain ⟨u, x, h1, h2, h3⟩ := h.at_ i hi
  exact ⟨u, h1, h3.sb⟩
/-- Few enough, short enough. -/
def Small (ls : List (List UInt8)) : Prop := ls.length ≤ 1073741824 ∧ ∀ i, (ls.getD i []).length ≤ 1073741824
theorem u8_i (i : Nat) : IntKind.u8.wrap (i : Int) = ((UInt8.ofNat i).toNat : Int) := by
  simp [IntKind.wrap, IntKind.bits, IntKind.signed]
theorem getD_take {α : Type} {l : List α} {i j : Nat} {d : α} (h : j < i) : (l.take i).getD j d = l.getD j d := by
  rw [List.getD_eq_getElem?_getD, List.getD_eq_getElem?_getD, List.getElem?_take, if_pos h]
theorem handed_loop (ls : List (List UInt8)) (p : Value) (K : KT) (w0 : World) (hsm : Small ls) (hp : SS w0 p ls)
    (hK : ∀ g f gs fs w, Handed w w0.heap.size g f ls gs fs → Keep [] w0 w → K (.tuple #[g, f]) w) :
    ∀ (k i : Nat) (g f : Value) (gs fs : List Value) (w : World), k + i = ls.length + 1 → 1 ≤ k → Keep [] w0 w → Handed w w0.heap.size g f (ls.take i) gs fs →
      witnesslaw1_handed.L3 K (witnesslaw1_handed.C2 K) k p g f (.int .i64 i) w := by
  intro k
  induction k with
  | zero => intro i _ _ _ _ _ _ h; omega
  | succ k ih =>
    intro i g f gs fs w hi _ kp hh
    unfold witnesslaw1_handed.L3 witnesslaw1_handed.C3
    have hsz := kp.size
    have hs1 := hsm.1
    have hs2 := hsm.2 i
    refine (hp.kp0 kp).len ?_
    refine s_lss ?_
    refine s_cnd (fun hc => ?_) (fun hc => ?_)
    · have hi' : i < ls.length := by omega
      have hil : (ls.take i).length = i := by rw [List.length_take]; omega
      generalize hl : ls.getD i [] = l at hs2
      refine (hp.kp0 kp).get hi' ?_
      intro u hu
      rw [hl] at hu
      -- a row of its own that holds the part
      refine s_app' (base := w0.heap.size) (n := 0) (xs := []) eU8 (World.ownsRow_nil _ _ _ _) hu (bvs_one _) (by simp; unfold maxLen; omega) (by simp; omega) hsz ?_
      intro r1 w1 ho1 k1 hb1
      have kp1 : Keep [] w0 w1 := keepNew kp k1 (by simp [blkOf])
      have kn1 : Keep [] w w1 := k1
      have hh1 : Handed w1 w0.heap.size g f (ls.take i) gs fs := hh.kp kn1
      refine s_cv ?_
      rw [u8_i]
      refine s_lit3 eU8 rfl rfl rfl ?_
      intro w2 k2 ho2
      have hh2 := hh1.kp k2
      have hsz2 : w0.heap.size ≤ w2.heap.size := (kp1.tr k2).size
      have ho1' := owns_kp ho1 k2 (by simp)
      refine s_app' (base := w0.heap.size) eU8 ho1' (owns_Sl ho2) (by simp; exact ⟨rfl, rfl, rfl⟩) (by simp; unfold maxLen; omega) (by simp; omega) hsz2 ?_
      intro r3 w3 ho3 k3 hb3
      have hnew : ∀ b ∈ blkOf r1, w.heap.size ≤ b := by
        rcases hb1 with h | h
        · rw [h]; simp [blkOf]
        · exact h
      have kp3 : Keep [] w0 w3 := keepNew (kp1.tr k2) k3 (fun b hb => by have := hnew b hb; omega)
      have k33 : Keep [] w w3 := keepNew (kn1.tr k2) k3 hnew
      have hh3 : Handed w3 w0.heap.size g f (ls.take i) gs fs := hh.kp k33
      have hsz3 := kp3.size
      -- full
      have hr3 : r3.cells = #[r3] := by
        rcases ho3.2 with ⟨rfl, _⟩ | ⟨b, cap, cur, rfl, _⟩ <;> rfl
      refine s_lit1 eBs hr3 ?_
      intro w4 k4 ho4
      have hh4 := hh3.kp k4
      have ho34 := owns_kp ho3 k4 (by simp)
      have hsz4 : w0.heap.size ≤ w4.heap.size := (kp3.tr k4).size
      have hoc : r3.oneCell' = true := by
        rcases ho3.2 with ⟨rfl, _⟩ | ⟨b, cap, cur, rfl, _⟩ <;> rfl
      refine s_app' (base := w0.heap.size) eBs hh4.of (owns_Sl ho4) (by simpa using hoc) (by rw [hil]; simp; unfold maxLen; omega) (by rw [hil]; simp; omega) hsz4 ?_
      intro f' w5 hof k5 hbf
      have kp5 : Keep [] w0 w5 := keepNew (kp3.tr k4) k5 (fun b hb => (owns_lt hh4.of b hb).1)
      have hog5 := owns_kp hh4.og k5 hh4.ap
      have ho35 := owns_kp ho34 k5 (owns_apart ho34 hh4.of (by decide))
      have hat5 : ∀ j, j < (ls.take i).length → ∃ u x, gs[j]? = some u ∧ fs[j]? = some x ∧ Part w5 w0.heap.size u x ((ls.take i).getD j []) j := by
        intro j hj
        obtain ⟨u, x, h1, h2, h3⟩ := hh4.at_ j hj
        refine ⟨u, x, h1, h2, h3.kp k5 ?_⟩
        obtain ⟨b, cap, rfl, rfl, h3⟩ := h3
        exact owns_apart h3 hh4.of (by decide)
      have hsz5 := kp5.size
      -- the part's length
      refine (hp.kp0 kp5).get hi' ?_
      intro u5 hu5
      rw [hl] at hu5
      refine hu5.len ?_
      rw [show (bvs l).length = l.length by simp]
      obtain ⟨b, cap, rfl, hcap⟩ : ∃ b cap, r3 = .slice (some ⟨b, 0, none⟩) (l.length + 3) cap ∧ l.length + 3 ≤ cap := by
        rcases ho3.2 with ⟨_, h⟩ | ⟨b, cap, cur, rfl, _, _, hcap, _⟩
        · simp at h
        · refine ⟨b, cap, by simp, by simpa using hcap⟩
      refine s_slTo (by omega) (by omega) ?_
      rw [show ((l.length : Int)).toNat = l.length by simp]
      refine s_lit1 eBs rfl ?_
      intro w6 k6 ho6
      have kp6 := kp5.tr k6
      have hsz6 := kp6.size
      have hog6 := owns_kp hog5 k6 (by simp)
      have hof6 := owns_kp hof k6 (by simp)
      have ho36 := owns_kp ho35 k6 (by simp)
      refine s_app' (base := w0.heap.size) eBs hog6 (owns_Sl ho6) (by simp; rfl) (by rw [hil]; simp; unfold maxLen; omega) (by rw [hil]; simp; omega) hsz6 ?_
      intro g' w7 hog7 k7 hbg
      have hfg : ∀ x ∈ blkOf f', x ∉ blkOf g := by
        intro x hx hxg
        rcases hbf with h | h
        · rw [h] at hx
          exact hh4.ap x hxg hx
        · have h1 := h x hx
          have h2 := (owns_lt hh4.og x hxg).2
          omega
      have kp7 : Keep [] w0 w7 := keepNew kp6 k7 (fun b hb => (owns_lt hog6 b hb).1)
      have hof7 := owns_kp hof6 k7 hfg
      have ho37 := owns_kp ho36 k7 (owns_apart ho36 hog6 (by decide))
      refine s_addi (by rw [i64min, i64max]; omega) ?_
      refine ih (i + 1) g' f' (gs ++ [.slice (some ⟨b, 0, none⟩) l.length cap]) (fs ++ [.slice (some ⟨b, 0, none⟩) (l.length + 3) cap]) w7 (by omega) (by omega) kp7 ?_
      have hil' : (ls.take (i + 1)).length = i + 1 := by rw [List.length_take]; omega
      refine ⟨?_, ?_, ?_, ?_⟩
      · rw [hil']; rw [hil] at hog7; exact hog7
      · rw [hil']; rw [hil] at hof7; exact hof7
      · intro x hx hxf
        rcases hbg with h | h
        · rw [h] at hx
          exact hfg x hxf hx
        · have h1 := h x hx
          have h2 := (owns_lt hof6 x hxf).2
          omega
      · intro j hj
        rw [hil'] at hj
        have hgl : gs.length = i := by have := hh.og.1; rw [hil] at this; simpa using this
        have hfl : fs.length = i := by have := hh.of.1; rw [hil] at this; simpa using this
        by_cases hji : j < i
        · obtain ⟨u, x, h1, h2, h3⟩ := hat5 j (by rw [hil]; omega)
          refine ⟨u, x, by rw [List.getElem?_append_left (by omega)]; exact h1, by rw [List.getElem?_append_left (by omega)]; exact h2, ?_⟩
          rw [getD_take hji] at h3
          rw [getD_take (by omega)]
          have h6 := h3.kp k6 (by simp)
          refine h6.kp k7 ?_
          obtain ⟨b, cap, rfl, rfl, h6⟩ := h6
          exact owns_apart h6 hog6 (by decide)
        · have : j = i := by omega
          subst this
          refine ⟨.slice (some ⟨b, 0, none⟩) l.length cap, .slice (some ⟨b, 0, none⟩) (l.length + 3) cap, by rw [List.getElem?_append_right (by omega), hgl]; simp, by rw [List.getElem?_append_right (by omega), hfl]; simp, ?_⟩
          rw [getD_take (by omega), hl]
          refine ⟨b, cap, rfl, rfl, ?_⟩
          have e : (bvs l ++ [Value.int .u8 165, Value.int .u8 90, Value.int .u8 ((UInt8.ofNat j).toNat : Int)]) = bvs (l ++ tail3 j) := by
            simp [tail3, bv]
          have := ho37
          simp only [List.nil_append] at this
          rw [e] at this
          simpa using this
    · have e : i = ls.length := by omega
      subst e
      rw [List.take_length] at hh
      exact hK g f gs fs w hh kp
theorem handed_c (ls : List (List UInt8)) (p : Value) (w : World) (hsm : Small ls) (hp : SS w p ls) : CallsR Tryd.prog 12 #[p] w fun v w' => ∃ g f gs fs, v = .tuple #[g, f] ∧ Handed w' w.heap.size g f ls gs fs ∧ Keep [] w w' := by
  apply witnesslaw1_handed.sound
  unfold witnesslaw1_handed.J witnesslaw1_handed.C1
  refine ⟨ls.length + 1, handed_loop ls p _ w hsm hp (fun g f gs fs w' h k => ⟨g, f, gs, fs, rfl, h, k⟩) _ 0 _ _ [] [] w rfl (by omega) (Keep.refl _ _) ?_⟩
  exact ⟨World.ownsRow_nil _ _ _ _, World.ownsRow_nil _ _ _ _, by simp [blkOf], fun i hi => by simp at hi⟩
theorem SS.getD {w : World} {v : Value} {ls : List (List UInt8)} {i : Nat} (h : SS w v ls) (hi : i < ls.length) : ∃ u, (∀ {K : KT}, (∀ a, ld1 a w = some u → K a w) → optW (ixS 1 v (.int .i64 (i : Int))) w K) ∧ SB w u (ls.getD i []) := by
  obtain ⟨vs, h1, h2, h3⟩ := h
  obtain ⟨u, hu, hs⟩ := h3 i hi
  exact ⟨u, fun hk => h1.get (u := u) (by omega) (by simpa using hu) hk, hs⟩
theorem kept_loop (ls : List (List UInt8)) (p f : Value) (g : Value) (gs fs : List Value) (B : Nat) (K : KT) (w0 : World) (hsm : Small ls) (hp : SS w0 p ls) (hh : Handed w0 B g f ls gs fs)
    (hK : ∀ w, Keep [] w0 w → K (.bool true) w) :
    ∀ (k i : Nat) (w : World), k + i = ls.length + 1 → 1 ≤ k → Keep [] w0 w → witnesslaw1_kept.L3 K (witnesslaw1_kept.C2 K) k p f (.int .i64 i) w := by
  intro k
  induction k with
  | zero => intro i _ _ h; omega
  | succ k ih =>
    intro i w hi _ kp
    unfold witnesslaw1_kept.L3 witnesslaw1_kept.C3
    have hs1 := hsm.1
    have hs2 := hsm.2 i
    refine (hp.kp0 kp).len ?_
    refine s_lss ?_
    refine s_cnd (fun hc => ?_) (fun hc => ?_)
    · have hi' : i < ls.length := by omega
      generalize hl : ls.getD i [] = l at hs2
      refine (hp.kp0 kp).get hi' ?_
      intro u hu
      rw [hl] at hu
      refine hu.len ?_
      rw [show (bvs l).length = l.length by simp]
      refine s_drw ?_
      have kd := kp.drew
      have hd := hh.kp kd
      obtain ⟨u1, x, hgi, hfi, hpart⟩ := hd.at_ i hi'
      rw [hl] at hpart
      have hsb := hpart.sb
      have hfull := hpart.full
      have hsf := owns_Sl hd.of
      obtain ⟨b, cap, rfl, rfl, ho⟩ := hpart
      have hcap : l.length + 3 ≤ cap := by
        rcases ho.2 with ⟨h, _⟩ | ⟨b', cap', cur, h, _, _, h2, _⟩
        · simp at h
        · simp at h
          omega
      have getf : ∀ {K : KT}, (∀ a, ld1 a w.drew = some (.slice (some ⟨b, 0, none⟩) (l.length + 3) cap) → K a w.drew) → optW (ixS 1 f (.int .i64 (i : Int))) w.drew K := fun hk => hsf.get (by omega) (by simpa using hfi) hk
      have getb : ∀ {K : KT} (j : Nat) (n : Int) (y : Value), n = (j : Int) → (bvs (l ++ tail3 i))[j]? = some y → (∀ a, ld1 a w.drew = some y → K a w.drew) → optW (ixS 1 (.slice (some ⟨b, 0, none⟩) (l.length + 3) cap) (.int .i64 n)) w.drew K := fun j n y hn hy hk => by
        subst hn
        exact hfull.get (by omega) (by simpa using hy) hk
      refine getf fun a ha => ?_
      refine s_opt ha ?_
      refine s_slTo (by omega) (by omega) ?_
      rw [show ((l.length : Int)).toNat = l.length by simp]
      refine SB.str hsb ?_
      obtain ⟨u2, hget, hsb2⟩ := (hp.kp0 kd).getD hi'
      rw [hl] at hsb2
      refine hget fun a ha => ?_
      refine s_opt ha ?_
      refine SB.str hsb2 ?_
      refine s_nes ?_
      simp only [ne_eq, not_true_eq_false, decide_false]
      have e0 : (bvs (l ++ tail3 i))[l.length]? = some (.int .u8 165) := by simp [tail3, bv]
      have e1 : (bvs (l ++ tail3 i))[l.length + 1]? = some (.int .u8 90) := by
        rw [bvs, List.getElem?_map, List.getElem?_append_right (by omega)]
        simp [tail3, bv]
      have e2 : (bvs (l ++ tail3 i))[l.length + 2]? = some (.int .u8 ((UInt8.ofNat i).toNat : Int)) := by
        rw [bvs, List.getElem?_map, List.getElem?_append_right (by omega)]
        simp [tail3, bv]
      refine s_gRun rfl ?_
      refine s_gRun rfl ?_
      refine s_gRun rfl ?_
      refine getf fun a ha => ?_
      refine s_gRun rfl ?_
      refine s_opt ha ?_
      refine s_gRun rfl ?_
      refine s_gRun rfl ?_
      refine getb l.length _ _ rfl e0 fun a ha => ?_
      refine s_gRun rfl ?_
      refine s_opt ha ?_
      refine s_gRun rfl ?_
      refine s_neq ?_
      simp only [ne_eq, not_true_eq_false, decide_false]
      refine s_opt (v := .bool false) rfl ?_
      refine s_gRun rfl ?_
      refine s_gRun rfl ?_
      refine s_gRun rfl ?_
      refine getf fun a ha => ?_
      refine s_gRun rfl ?_
      refine s_opt ha ?_
      refine s_gRun rfl ?_
      refine s_gRun rfl ?_
      refine s_addi (by rw [i64min, i64max]; omega) ?_
      refine s_gRun rfl ?_
      refine getb (l.length + 1) _ _ (by omega) e1 fun a ha => ?_
      refine s_gRun rfl ?_
      refine s_opt ha ?_
      refine s_gRun rfl ?_
      refine s_neq ?_
      simp only [ne_eq, not_true_eq_false, decide_false]
      refine s_opt (v := .bool false) rfl ?_
      refine s_gRun rfl ?_
      refine s_gRun rfl ?_
      refine s_gRun rfl ?_
      refine getf fun a ha => ?_
      refine s_gRun rfl ?_
      refine s_opt ha ?_
      refine s_gRun rfl ?_
      refine s_gRun rfl ?_
      refine s_addi (by rw [i64min, i64max]; omega) ?_
      refine s_gRun rfl ?_
      refine getb (l.length + 2) _ _ (by omega) e2 fun a ha => ?_
      refine s_gRun rfl ?_
      refine s_opt ha ?_
      refine s_gRun rfl ?_
      refine s_gRun rfl ?_
      refine s_cv ?_
      rw [u8_i]
      refine s_gRun rfl ?_
      refine s_neq ?_
      simp only [ne_eq, not_true_eq_false, decide_false]
      refine s_opt (v := .bool false) rfl ?_
      refine s_false ?_
      refine s_addi (by rw [i64min, i64max]; omega) ?_
      exact ih (i + 1) _ (by omega) (by omega) kd
    · exact hK w kp
theorem kept_c (ls : List (List UInt8)) (p f g : Value) (gs fs : List Value) (B : Nat) (w : World) (hsm : Small ls) (hp : SS w p ls) (hh : Handed w B g f ls gs fs) : CallsR Tryd.prog 15 #[p, f] w fun v w' => v = .bool true ∧ Keep [] w w' := by
  apply witnesslaw1_kept.sound
  unfold witnesslaw1_kept.J witnesslaw1_kept.C1
  exact ⟨ls.length + 1, kept_loop ls p f g gs fs B _ w hsm hp hh (fun w' k => ⟨rfl, k⟩) _ 0 w rfl (by omega) (Keep.refl _ _)⟩
/-! ### the law -/
theorem SS.one {w : World} {B : Nat} {v u : Value} {l : List UInt8} (h : w.ownsRow B 23 1 v 1 [u]) (hu : SB w u l) : SS w v [l] :=
  ⟨[u], owns_Sl h, rfl, fun i hi => by
    have : i = 0 := by simp at hi; omega
    subst this
    exact ⟨u, rfl, hu⟩⟩
theorem slice_cells {w : World} {v : Value} {vs : List Value} (h : Sl w v vs) : v.cells = #[v] := by
  rcases h with ⟨rfl, _⟩ | ⟨a, c, rfl, _⟩ <;> rfl
theorem small_one {l : List UInt8} (h : l.length ≤ 1073741824) : Small [l] := ⟨by simp, fun i => by
  cases i with
  | zero => simpa using h
  | succ i => simp⟩
theorem mores_c {w : World} (c : BitVec 32) (l : List UInt8) (v : Value) (hv : SB w v l) (hl : l.length ≤ 1048576) (ht : Tab w) (hg : 0 < w.heap.size) : CallsR Tryd.prog 3 #[uv c, v] w fun r w' => r = .bool true ∧ Keep [] w w' := by
  apply witnesslaw1_DigestMores.sound
  unfold witnesslaw1_DigestMores.J witnesslaw1_DigestMores.C1
  refine s_lit1 eBs (slice_cells hv) ?_
  intro w1 k1 ho
  have hv1 := hv.kp0 k1
  have hss := SS.one ho hv1
  refine (handed_c [l] _ w1 (small_one (by omega)) hss).mono ?_
  rintro r w2 ⟨g, f, gs, fs, rfl, hh, k2⟩
  have k12 := k1.tr k2
  refine s_ext rfl ?_
  refine s_ext rfl ?_
  refine hh.ss.get (i := 0) (by simp) ?_
  intro u hu
  refine (more_c c l u w2 hu (by omega) (ht.keep (k12.block _ hg (by simp)))).mono ?_
  rintro r w3 ⟨rfl, rfl⟩
  refine (rmore_c c l v w3 (hv.kp0 k12) (by omega)).mono ?_
  rintro r w4 ⟨rfl, rfl⟩
  refine s_eql32 ?_
  simp only [decide_true]
  refine s_gRun rfl ?_
  refine s_gRun rfl ?_
  refine s_gRun rfl ?_
  refine (kept_c [l] _ f g gs fs _ w4 (small_one (by omega)) (hss.kp0 k2) hh).mono ?_
  rintro r w5 ⟨rfl, k5⟩
  refine s_opt (v := .bool true) rfl ?_
  exact ⟨rfl, k12.tr k5⟩
end Go.Proofs.YtklieghmbhofnaaDoor
