/-
  Hashes by script: one step.
-/
import Derived.Test.YtklieghmbhofnaaDoorPieces2
import Derived.Test.YtklieghmbhofnaaDoorBursts
namespace Go.Proofs.YtklieghmbhofnaaDoor
open Go Go.Ev Go.RowKit
set_option maxRecDepth 100000
theorem slice_one {w : World} {v : Value} {vs : List Value} (h : Sl w v vs) : v.oneCell' = true := by
  rcases h with ⟨rfl, _⟩ | ⟨_, _, rfl, _⟩ <;> rfl
/-- The bytes that were handed in are written over. -/
theorem spoil {K : KT} {kx : V6} {script0 l3 t4 i5 o6 k7 f x : Value} {w0 : World} {b cap n : Nat} (hx : x = .slice (some ⟨b, 0, none⟩) n cap) {fs : List Value} (hf : Sl w0 f fs) (hf0 : fs[0]? = some x) (hfb : b ∉ blkOf f) (hn : n ≤ 1099511627776) (hK : ∀ w, Keep [b] w0 w → kx script0 l3 t4 i5 o6 k7 w) :
    ∀ (k j : Nat) (cs : List Value) (w : World), k + j = n + 1 → 1 ≤ k → n ≤ cs.length → Keep [b] w0 w → Blk w b cs 5 → witnesslaw1_DigestPieces.L15 K kx k script0 l3 t4 i5 o6 k7 f (.int .i64 (n : Int)) (.int .i64 j) w := by
  subst hx
  intro k
  induction k with
  | zero => intro j _ _ h; omega
  | succ k ih =>
    intro j cs w hj _ hcs kp hb
    unfold witnesslaw1_DigestPieces.L15 witnesslaw1_DigestPieces.C15
    refine s_lss ?_
    refine s_cnd (fun hc => ?_) (fun hc => hK w kp)
    have hfw : Sl w f fs := Sl.kp hf kp (fun y hy hyb => by simp at hyb; subst hyb; exact hfb hy)
    refine Sl.atC (i := 0) rfl hfw hf0 ?_
    intro a ha
    refine s_ldC (Keep.refl _ _) ha ?_
    refine s_ixS (by omega) (by omega) ?_
    refine s_stB hb (by simp; omega) rfl ?_
    intro w1 hb1 k1
    refine s_addi (by rw [i64min, i64max]; omega) ?_
    exact ih (j + 1) _ w1 (by omega) (by omega) (by rw [List.length_set]; exact hcs) (kp.tr k1) hb1
theorem getD_set_le {A : List (List UInt8)} {k n m : Nat} {T : List UInt8} (h : ∀ j, (A.getD j []).length ≤ n) (hT : T.length ≤ m) (hnm : n ≤ m) : ∀ j, ((A.set k T).getD j []).length ≤ m := by
  intro j
  rw [List.getD_eq_getElem?_getD, List.getElem?_set]
  split
  · split
    · exact hT
    · simp
  · have := h j
    rw [List.getD_eq_getElem?_getD] at this
    omega
theorem getD_push_le {A : List (List UInt8)} {n m : Nat} {T : List UInt8} (h : ∀ j, (A.getD j []).length ≤ n) (hT : T.length ≤ m) (hnm : n ≤ m) : ∀ j, ((A ++ [T]).getD j []).length ≤ m := by
  intro j
  by_cases hj : j < A.length
  · rw [List.getD_eq_getElem?_getD, List.getElem?_append_left hj, ← List.getD_eq_getElem?_getD]
    have := h j
    omega
  · rw [List.getD_eq_getElem?_getD, List.getElem?_append_right (by omega)]
    cases h2 : j - A.length with
    | zero => simpa using hT
    | succ i => simp
/-- What a step hands on. -/
def Next (w0 : World) (kn : V4) (script0 i5 : Value) (n m : Nat) : Prop := ∀ l3 t4 hs A us w, PI w0 w l3 t4 hs A us A → 1 ≤ A.length → A.length ≤ n → (∀ j, (A.getD j []).length ≤ m) → kn script0 l3 t4 i5 w
structure Step (w0 w : World) (l3 t4 : Value) (hs : List Nat) (A : List (List UInt8)) (us : List Value) (k n m : Nat) : Prop where
  h : PI w0 w l3 t4 hs A us A
  hk : k < A.length
  hn : A.length ≤ n
  hm : ∀ j, (A.getD j []).length ≤ m
  n1 : n ≤ 1048577
  m1 : m ≤ 1048576
  htab : Tabs w0
section
variable {K : KT} {kn : V4} {script0 i5 : Value} {w0 w : World} {l3 t4 : Value} {hs : List Nat} {A : List (List UInt8)} {us : List Value} {k n m : Nat}
theorem Sl.atW {w0 w : World} {K : KT} {v u : Value} {vs : List Value} {i : Nat} {n : Int} (hn : n = (i : Int)) (h : Sl w0 v vs) (hu : vs[i]? = some u) (hk : ∀ a, CellAt u a w0 → K a w) : optW (ixS 1 v (.int .i64 n)) w K :=
  Sl.atC (w := w0) (K := fun a _ => K a w) hn h hu hk
theorem Step.al (s : Step w0 w l3 t4 hs A us k n m) {w' : World} {K : KT} (hK : ∀ a, CellAt (ptr (hs.getD k 0)) a w → K a w') : optW (ixS 1 l3 (.int .i64 (k : Int))) w' K :=
  Sl.atW rfl (owns_Sl s.h.ol) (ptr_at (by have := s.h.la; have := s.hk; omega)) hK
theorem step_sum (s : Step w0 w l3 t4 hs A us k n m) (hN : Next w0 kn script0 i5 n m) : witnesslaw1_DigestPieces.C17 K kn script0 l3 t4 i5 (.int .i64 (k : Int)) w := by
  obtain ⟨u, hu, hut⟩ := s.h.text k s.hk
  have hh := s.h.hash k s.hk
  have hmk := s.hm k
  have m1 := s.m1
  unfold witnesslaw1_DigestPieces.C17 witnesslaw1_DigestPieces.D19
  refine ⟨fun w' => Keep [] w w', (Keep.refl _ _).drew, ?_⟩
  refine s_drw ?_
  have kd : Keep [] w w.drew := (Keep.refl _ _).drew
  refine s.al ?_
  intro a ha
  refine s_rdI (v := ptr (hs.getD k 0)) (fun w' hI => CellAt.rd hI ha) ?_
  refine (sum_c _ _ (by omega) w.drew (s.htab.kp (s.h.kp.tr kd) (by simp) (by simp)) (hh.kp kd (by simp))).mono ?_
  rintro r w1 ⟨rfl, k1⟩
  have k01 := kd.tr k1
  refine ⟨k01, ?_⟩
  refine Sl.atW rfl (owns_Sl s.h.ot) hu ?_
  intro a' ha'
  refine s_rdI (v := u) (fun w' hI => CellAt.rd hI ha') ?_
  refine (rof_c _ (by omega) u w1 (Sl.kp0 hut.sb k01)).mono ?_
  rintro r w2 ⟨rfl, k2⟩
  have k02 := k01.tr k2
  refine ⟨k02, ?_⟩
  refine s_neSum (sha_len _) (sha_len _) ?_
  rw [show decide (sha (A.getD k []) ≠ sha (A.getD k [])) = false by simp]
  refine ⟨k02, ?_⟩
  unfold witnesslaw1_DigestPieces.C18
  refine s_false ?_
  exact hN l3 t4 hs A us w2 (s.h.kp0 k02) (by have := s.hk; omega) s.hn s.hm
theorem step_size (s : Step w0 w l3 t4 hs A us k n m) (hN : Next w0 kn script0 i5 n m) : witnesslaw1_DigestPieces.C21 K kn script0 l3 t4 i5 (.int .i64 (k : Int)) w := by
  obtain ⟨u, hu, hut⟩ := s.h.text k s.hk
  have hh := s.h.hash k s.hk
  have hmk := s.hm k
  have m1 := s.m1
  unfold witnesslaw1_DigestPieces.C21 witnesslaw1_DigestPieces.D23
  refine ⟨fun w' => Keep [] w w', (Keep.refl _ _).drew, ?_⟩
  refine s_drw ?_
  have kd : Keep [] w w.drew := (Keep.refl _ _).drew
  refine s.al ?_
  intro a ha
  refine s_rdI (v := ptr (hs.getD k 0)) (fun w' hI => CellAt.rd hI ha) ?_
  refine (size_c _ _ w.drew (hh.kp kd (by simp))).mono ?_
  rintro r w1 ⟨rfl, rfl⟩
  refine ⟨kd, ?_⟩
  refine Sl.atW rfl (owns_Sl s.h.ot) hu ?_
  intro a' ha'
  refine s_rdI (v := u) (fun w' hI => CellAt.rd hI ha') ?_
  refine (Sl.kp0 hut.sb kd).len ?_
  rw [show (bvs (A.getD k [])).length = (A.getD k []).length by simp only [bvs, List.length_map]]
  refine s_cvi (by rw [u64min, u64max]; omega) ?_
  refine s_neq ?_
  rw [show decide (((A.getD k []).length : Int) ≠ ((A.getD k []).length : Int)) = false by simp]
  unfold witnesslaw1_DigestPieces.C22
  refine s_false ?_
  exact hN l3 t4 hs A us w.drew (s.h.kp0 kd) (by have := s.hk; omega) s.hn s.hm
theorem step_rest (s : Step w0 w l3 t4 hs A us k n m) (kind : Int) (hN : Next w0 kn script0 i5 (n + 1) m) : witnesslaw1_DigestPieces.C24 K kn script0 l3 t4 i5 (.int .i64 (k : Int)) (.int .i64 kind) w := by
  obtain ⟨u, hu, hut⟩ := s.h.text k s.hk
  have hh := s.h.hash k s.hk
  have hmk := s.hm k
  have hkA := s.hk
  have m1 := s.m1
  have hn := s.hn
  have n1 := s.n1
  have hfar : ∀ {x : Nat}, w.heap.size ≤ x → x ∉ hs := fun {x} hx hm => by
    obtain ⟨i, hi, rfl⟩ := List.mem_iff_getElem.1 hm
    have := (s.h.hash i (by have := s.h.la; omega)).lt
    rw [List.getD_eq_getElem?_getD, List.getElem?_eq_getElem hi] at this
    simp at this
    omega
  have hs0 := s.h.kp.size
  unfold witnesslaw1_DigestPieces.C24
  refine s_eql ?_
  refine s_cnd (fun _ => ?_) (fun _ => ?_)
  · refine s.al ?_
    intro a ha
    refine s_ldC (Keep.refl _ _) ha ?_
    refine (fork_c _ _ _ w hh).mono ?_
    rintro r w1 ⟨rfl, k1, hf⟩
    have h1 := s.h.kp0 k1
    exact h1.push hf (hfar (Nat.le_refl _)) hs0 (hut.kp k1 (by simp)) (slice_cells hut.sb) (slice_one hut.sb) (by omega)
      (K := fun a b w => kn script0 a b i5 w) (mid := fun _ w K => optW (ixS 1 t4 (.int .i64 (k : Int))) w fun v w => optW (ld1 v w) w K)
      (fun l3' t4' w' h' => hN _ _ _ _ _ _ h' (by simp) (by simp; omega) (getD_push_le s.hm hmk (Nat.le_refl _)))
      (fun l3' w' K' hsl hK' => Sl.atC rfl hsl hu fun a ha => s_ldC (Keep.refl _ _) ha (hK' w' (Keep.refl _ _)))
  · refine s_eql ?_
    refine s_cnd (fun _ => ?_) (fun _ => ?_)
    · refine s.al ?_
      intro a ha
      refine s_ldC (Keep.refl _ _) ha ?_
      refine (reset_c _ _ _ w (s.htab.kp s.h.kp (by simp) (by simp)) hh).mono ?_
      rintro r w1 ⟨rfl, k1, hf⟩
      have h1 := s.h.setHash hkA k1 hf
      exact h1.setText (k := k) hkA (Txt.nil w1) rfl (fun w' h' _ => hN _ _ _ _ _ _ h' (by rw [List.length_set]; omega) (by rw [List.length_set]; omega) (getD_set_le s.hm (by simp) (Nat.le_refl _)))
    · refine s_eql ?_
      refine s_cnd (fun _ => ?_) (fun _ => ?_)
      · refine (new_c w (s.htab.kp s.h.kp (by simp) (by simp))).mono ?_
        rintro r w1 ⟨rfl, k1, hf⟩
        have h1 := s.h.kp0 k1
        exact h1.push (T := []) hf (hfar (Nat.le_refl _)) hs0 (Txt.nil w1) rfl rfl (by omega)
          (K := fun a b w => kn script0 a b i5 w) (mid := fun _ w K => K (.slice none 0 0) w)
          (fun l3' t4' w' h' => hN _ _ _ _ _ _ h' (by simp) (by simp; omega) (getD_push_le s.hm (by simp) (Nat.le_refl _)))
          (fun l3' w' K' hsl hK' => hK' w' (Keep.refl _ _))
      · exact hN _ _ _ _ _ _ s.h (by omega) (by omega) s.hm
/-- Write: what was handed in is spoilt behind the call. -/
theorem step_write (s : Step w0 w l3 t4 hs A us k n m) {b6 : Nat} {kind which : Int} {v : Value} {text : List UInt8} (hb6 : Blk w b6 [.int .i64 kind, .int .i64 which, v] 39) (hv : SB w0 v text) (hbt : m + text.length ≤ 1048576) (hN : Next w0 kn script0 i5 n (m + text.length)) :
    witnesslaw1_DigestPieces.C13 K kn script0 l3 t4 i5 (ptr b6) (.int .i64 (k : Int)) w := by
  obtain ⟨u, hu, hut⟩ := s.h.text k s.hk
  have hh := s.h.hash k s.hk
  have hmk := s.hm k
  have hkA := s.hk
  have hs0 := s.h.kp.size
  have hlt := hh.lt
  have hkf := s.h.far_hk hkA
  have hlr := s.htab.lr
  have hlf := s.htab.lf
  unfold witnesslaw1_DigestPieces.C13
  have hvt : ∀ {w' : World}, Keep [] w0 w' → SB w' v text := fun k => Sl.kp0 hv k
  refine s_fad ?_
  refine s_ldB (o := 0) hb6 (v := v) rfl ?_
  refine s_lit1 eBs (slice_cells hv) ?_
  intro w2 k2 ho2
  have k02 := s.h.kp.tr k2
  have hsm := small_one (l := text) (by omega)
  refine (handed_c [text] _ w2 hsm (SS.one ho2 (hvt k02))).mono ?_
  rintro r w3 ⟨g, f, gs, fs, rfl, hhd, k3⟩
  refine s_ext rfl ?_
  refine s_ext rfl ?_
  refine s_drw ?_
  have kd : Keep [] w3 w3.drew := (Keep.refl _ _).drew
  have k13 : Keep [] w w3.drew := (k2.tr k3).tr kd
  have hhd' := hhd.kp kd
  obtain ⟨gu, fx, hgu, hfx, hpart⟩ := hhd'.at_ 0 (by simp)
  refine s.al ?_
  intro a ha
  refine s_ldC k13 ha ?_
  refine Sl.atC (i := 0) rfl (owns_Sl hhd'.og) hgu ?_
  intro a2 ha2
  refine s_ldC (Keep.refl _ _) ha2 ?_
  have hp0 := hpart
  obtain ⟨b, cap, rfl, rfl, hob⟩ := hpart
  have hB : w2.heap.size ≤ b := (owns_lt hob b (by simp [blkOf])).1
  have hs2 := k2.size
  refine (write_c (hs.getD k 0) (A.getD k []) text _ w3.drew (by omega) (by omega) (s.htab.kp (s.h.kp.tr k13) (by simp) (by simp)) (hh.kp k13 (by simp)) hp0.sb (fun _ hb => by simp [blkOf] at hb; simp at hlt hkf; omega) (by rw [List.length_append]; omega)).mono ?_
  rintro r w4 ⟨rfl, k4, hh4⟩
  have hhd4 := hhd'.kpS k4 (fun x hx => by simp at hx; subst hx; simp at hlt; omega)
  have k04 : Keep [] w0 w4 := keepNew (s.h.kp.tr k13) k4 (fun x hx => by simp at hx; subst hx; simpa using hkf)
  have ho24 : w4.ownsRow w.heap.size 23 1 (.slice (some ⟨w.heap.size, 0, none⟩) 1 1) 1 [v] := owns_kp (owns_kp ho2 (k3.tr kd) (by simp)) k4 (fun x hx hxs => by simp [blkOf] at hx; simp at hxs; simp at hlt; omega)
  refine (kept_c [text] _ f g gs fs _ w4 hsm (SS.one ho24 (hvt k04)) hhd4).mono ?_
  rintro r w5 ⟨rfl, k5⟩
  refine s_not ?_
  refine s_false ?_
  have hhd5 := hhd4.kp k5
  obtain ⟨_, fx5, _, hfx5, hpart5⟩ := hhd5.at_ 0 (by simp)
  obtain rfl : fx5 = .slice (some ⟨b, 0, none⟩) (text.length + 3) cap := by rw [hfx] at hfx5; exact (Option.some.inj hfx5).symm
  obtain ⟨b', cap', _, e5, hob5⟩ := hpart5
  obtain ⟨rfl, rfl⟩ : b = b' ∧ cap = cap' := by simpa using e5
  refine Sl.atC (i := 0) rfl (owns_Sl hhd5.of) hfx5 ?_
  intro a3 ha3
  refine s_ldC (Keep.refl _ _) ha3 ?_
  refine s_lenS ?_
  obtain ⟨g', cap2, rest, e6, _, _, hbk⟩ := owns_blk hob5 (by simp [tail3])
  obtain ⟨rfl, rfl⟩ : b = g' ∧ cap = cap2 := by simpa using e6
  have hbf : b ∉ blkOf f := by
    intro hbf
    obtain ⟨cs, hc⟩ := owns_ty hhd5.of b hbf
    unfold Blk at hbk
    rw [hc] at hbk
    simp at hbk
  refine ⟨text.length + 3 + 1, ?_⟩
  refine spoil (x := .slice (some ⟨b, 0, none⟩) (text.length + 3) cap) rfl (owns_Sl hhd5.of) hfx5 hbf (by omega) ?_ (text.length + 3 + 1) 0 _ w5 rfl (by omega) (by simp [tail3]) (Keep.refl _ _) hbk
  intro w6 k6
  have hne : hs.getD k 0 ≠ b := by omega
  have k16 : Keep [hs.getD k 0] w w6 := (k13.trans (k4.tr (k5.mono (by simp))) (by simp) (fun x hx _ => hx)).trans k6 (fun x hx _ => hx) (fun x hx hlt' => by simp at hx; subst hx; omega)
  have hh6 : HS w6 (hs.getD k 0) (A.getD k [] ++ text) (A.getD k [] ++ text).length := (hh4.kp k5 (by simp)).kp k6 (by simpa using hne)
  have h6 := s.h.setHash hkA k16 hh6
  obtain ⟨u6, hu6, hut6⟩ := h6.text k hkA
  obtain rfl : u = u6 := by rw [hu] at hu6; exact Option.some.inj hu6
  have hb66 : Blk w6 b6 [.int .i64 kind, .int .i64 which, v] 39 := hb6.kp k16 (fun hx => by
    simp only [List.mem_singleton] at hx
    obtain ⟨cs, hc⟩ := hh.ty
    unfold Blk at hb6
    rw [← hx, hb6] at hc
    simp at hc)
  unfold witnesslaw1_DigestPieces.C14
  refine Sl.atC rfl (owns_Sl h6.ot) hu ?_
  intro a4 ha4
  refine s_ldC (Keep.refl _ _) ha4 ?_
  refine s_app' (base := w6.heap.size) (n := 0) (xs := []) eU8 (World.ownsRow_nil _ _ _ _) hut6.sb (bvs_one _) (by simp only [bvs, List.length_map]; unfold maxLen; omega) (by simp only [bvs, List.length_map]; omega) (Nat.le_refl _) ?_
  intro v82 w7 ho7 k7 _
  have k67 : Keep [] w6 w7 := k7
  rw [List.nil_append, Nat.zero_add] at ho7
  refine s_fad ?_
  refine s_ldB (o := 0) (hb66.kp k67 (by simp)) (v := v) rfl ?_
  refine s_app' (base := w6.heap.size) eU8 ho7 (hvt (h6.kp.tr k67)) (bvs_one _) (by simp only [bvs, List.length_map]; unfold maxLen; omega) (by simp only [bvs, List.length_map]; omega) k67.size ?_
  intro v88 w8 ho8 k8 _
  have k68 : Keep [] w6 w8 := keepNew k67 k8 (fun x hx => (owns_lt ho7 x hx).1)
  rw [show bvs (A.getD k []) ++ bvs text = bvs (A.getD k [] ++ text) by simp only [bvs, List.map_append]] at ho8
  have h8 := h6.kp0 k68
  refine h8.setText (k := k) hkA (Txt.of_own ho8) (slice_one (owns_Sl ho8)) ?_
  intro w9 h9 _
  refine hN _ _ _ _ _ _ h9 (by rw [List.length_set]; omega) (by rw [List.length_set]; exact s.hn) (getD_set_le s.hm (by rw [List.length_append]; omega) (by omega))
end
end Go.Proofs.YtklieghmbhofnaaDoor
