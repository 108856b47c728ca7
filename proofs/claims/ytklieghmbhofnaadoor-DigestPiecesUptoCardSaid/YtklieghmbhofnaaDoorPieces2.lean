/-
  Hashes by script: every answer is that of the whole text that each has taken.
-/
import Derived.Test.YtklieghmbhofnaaDoorPieces
namespace Go.Proofs.YtklieghmbhofnaaDoor
open Go Go.Ev Go.RowKit
set_option maxRecDepth 100000
abbrev pieceTy : Ty := .pair (.int .i64) (.pair (.int .i64) .bytes)
theorem CellAt.rd {w w1 : World} {v x : Value} (k : Keep [] w1 w) (h : CellAt x v w1) : ld1 v w = some x := by
  obtain ⟨a, rfl, h⟩ := h
  have hb := World.block_lt_of_cell? w1 _ h
  simp only [ld1]
  rw [World.cell?_of_block (w := w1) (k.block _ hb (by simp))]
  exact h
theorem ptr_at {hs : List Nat} {k : Nat} (h : k < hs.length) : (hs.map ptr)[k]? = some (ptr (hs.getD k 0)) := by
  rw [List.getElem?_map, getD_of (d := 0) h]
  rfl
theorem Handed.kpS {w w' : World} {B : Nat} {g f : Value} {ls : List (List UInt8)} {gs fs : List Value} {S : List Nat} (h : Handed w B g f ls gs fs) (k : Keep S w w') (hS : ∀ b ∈ S, b < B) : Handed w' B g f ls gs fs := by
  have far : ∀ {e : TypeId} {n : Nat} {v : Value} {xs : List Value}, w.ownsRow B e 1 v n xs → ∀ b ∈ blkOf v, b ∉ S := fun ho b hb hs => by
    have := (owns_lt ho b hb).1
    have := hS b hs
    omega
  refine ⟨owns_kp h.og k (far h.og), owns_kp h.of k (far h.of), h.ap, fun i hi => ?_⟩
  obtain ⟨u, x, h1, h2, h3⟩ := h.at_ i hi
  refine ⟨u, x, h1, h2, ?_⟩
  obtain ⟨b, cap, rfl, rfl, ho⟩ := h3
  exact ⟨b, cap, rfl, rfl, owns_kp ho k (far ho)⟩
theorem Txt.nil (w : World) : Txt w (.slice none 0 0) [] := ⟨.inl ⟨rfl, rfl⟩, fun b hb => by simp [blkOf] at hb⟩
theorem Sl.one {w : World} {v : Value} {vs : List Value} (h : Sl w v vs) : v.oneCell' = true := by
  rcases h with ⟨rfl, _⟩ | ⟨_, _, rfl, _⟩ <;> rfl
def fullQ (T : List UInt8) (h : Nat) (l3 t4 k13 u : Value) : QTab := [
  (159, fun v _ => v = l3), (160, fun v _ => v = k13), (161, CellAt (ptr h)), (162, fun v _ => v = ptr h), (163, fun v _ => v = .bool false), (164, fun v _ => v = .bool false),
  (165, fun v _ => v = l3), (166, fun v _ => v = k13), (167, CellAt (ptr h)), (168, fun v _ => v = ptr h), (169, fun v _ => v = .agg (bvs (sha T)).toArray),
  (170, fun v _ => v = t4), (171, fun v _ => v = k13), (172, CellAt u), (173, fun v _ => v = u), (174, fun v _ => v = .agg (bvs (sha T)).toArray), (175, fun v _ => v = .bool false), (176, fun v _ => v = .bool false), (177, fun v _ => v = .bool false),
  (178, fun v _ => v = l3), (179, fun v _ => v = k13), (180, CellAt (ptr h)), (181, fun v _ => v = ptr h), (182, fun v _ => v = .int .u64 (T.length : Int)),
  (183, fun v _ => v = t4), (184, fun v _ => v = k13), (185, CellAt u), (186, fun v _ => v = u), (187, fun v _ => v = .int .i64 (T.length : Int)), (188, fun v _ => v = .int .u64 (T.length : Int)), (189, fun v _ => v = .bool false), (190, fun v _ => v = .bool false)]
theorem pieces_full {kn : V4} {w0 w : World} {l3 t4 : Value} {hs : List Nat} {A : List (List UInt8)} {us : List Value} (h : PI w0 w l3 t4 hs A us A) {k : Nat} (hk : k < A.length) (hl : (A.getD k []).length ≤ 1048576) (htab : Tabs w0) (hK : ∀ w', Keep [] w w' → kn l3 t4 (.int .i64 (k : Int)) (.bool false) w') :
    witnesslaw1_DigestPieces.D8 kn l3 t4 (.int .i64 (k : Int)) w := by
  obtain ⟨u, hu, hut⟩ := h.text k hk
  have hh := h.hash k hk
  have hla := h.la
  have tk : ∀ {w' : World}, Keep [] w w' → Tabs w' := fun k => htab.kp (h.kp.tr k) (by simp) (by simp)
  have al : ∀ {w' : World} {K : KT}, Keep [] w w' → (∀ a, CellAt (ptr (hs.getD k 0)) a w' → K a w') → optW (ixS 1 l3 (.int .i64 (k : Int))) w' K := fun kk hK => Sl.atC rfl ((owns_Sl h.ol).kp0 kk) (ptr_at (by omega)) hK
  have at4 : ∀ {w' : World} {K : KT}, Keep [] w w' → (∀ a, CellAt u a w' → K a w') → optW (ixS 1 t4 (.int .i64 (k : Int))) w' K := fun kk hK => Sl.atC rfl ((owns_Sl h.ot).kp0 kk) hu hK
  unfold witnesslaw1_DigestPieces.D8
  refine ⟨fun w' => Keep [] w w', fun x y => Keep [] x y, qt (fullQ (A.getD k []) (hs.getD k 0) l3 t4 (.int .i64 (k : Int)) u), (Keep.refl _ _).drew, fun _ _ k h => h.tr k, qt_stab, ?_⟩
  refine ⟨?_, ?_, ?_, ?_, ?_, ?_, ?_, ?_, ?_, ?_, ?_, ?_, ?_, ?_, ?_, ?_, ?_, ?_, ?_, ?_, ?_, ?_, ?_, ?_, ?_, ?_, ?_, ?_, ?_, ?_, ?_, ?_, ?_⟩
  · intro f w' hI _
    exact qt_mk (Keep.refl _ _) rfl
  · intro f w' hI _
    exact qt_mk (Keep.refl _ _) rfl
  · intro f w' hI ⟨h159, h160, _⟩
    rw [qt_eq h159 rfl, qt_eq h160 rfl]
    exact al hI fun a ha => qt_mk (Keep.refl _ _) ha
  · intro f w' hI ⟨h161, _⟩
    obtain ⟨w1, k1, hc⟩ := qt_get h161 rfl
    exact s_ldC k1 hc (qt_mk (Keep.refl _ _) rfl)
  · intro f w' hI ⟨h162, _⟩
    rw [qt_eq h162 rfl]
    exact ⟨.bool false, w', by unfold ptr; kernel_rfl, qt_mk (Keep.refl _ _) rfl⟩
  · intro f w' hI ⟨h163, _⟩
    exact qt_mk (Keep.refl _ _) (qt_eq h163 rfl)
  · intro f w' hI ⟨h164, _⟩
    exact rg_run h164 rfl (qt_mk (Keep.refl _ _) rfl)
  · intro f w' hI ⟨h164, _⟩
    exact rg_run h164 rfl (qt_mk (Keep.refl _ _) rfl)
  · intro f w' hI ⟨h164, h165, h166, _⟩
    refine rg_run h164 rfl ?_
    rw [qt_eq h165 rfl, qt_eq h166 rfl]
    exact al hI fun a ha => qt_mk (Keep.refl _ _) ha
  · intro f w' hI ⟨h164, h167, _⟩
    refine rg_run h164 rfl ?_
    obtain ⟨w1, k1, hc⟩ := qt_get h167 rfl
    exact s_ldC k1 hc (qt_mk (Keep.refl _ _) rfl)
  · intro f w' hI ⟨h164, h168, _⟩
    refine rg_run h164 rfl ?_
    rw [qt_eq h168 rfl]
    exact (sum_c _ _ (by omega) w' (tk hI) (hh.kp hI (by simp))).mono fun v w'' ⟨e, k⟩ => qt_mk k e
  · intro f w' hI ⟨h164, _⟩
    exact rg_run h164 rfl (qt_mk (Keep.refl _ _) rfl)
  · intro f w' hI ⟨h164, _⟩
    exact rg_run h164 rfl (qt_mk (Keep.refl _ _) rfl)
  · intro f w' hI ⟨h164, h170, h171, _⟩
    refine rg_run h164 rfl ?_
    rw [qt_eq h170 rfl, qt_eq h171 rfl]
    exact at4 hI fun a ha => qt_mk (Keep.refl _ _) ha
  · intro f w' hI ⟨h164, h172, _⟩
    refine rg_run h164 rfl ?_
    obtain ⟨w1, k1, hc⟩ := qt_get h172 rfl
    exact s_ldC k1 hc (qt_mk (Keep.refl _ _) rfl)
  · intro f w' hI ⟨h164, h173, _⟩
    refine rg_run h164 rfl ?_
    rw [qt_eq h173 rfl]
    exact (rof_c _ (by omega) u w' (Sl.kp0 hut.sb hI)).mono fun v w'' ⟨e, k⟩ => qt_mk k e
  · intro f w' hI ⟨h164, h169, h174, _⟩
    refine rg_run h164 rfl ?_
    rw [qt_eq h169 rfl, qt_eq h174 rfl]
    exact s_neSum (sha_len _) (sha_len _) (qt_mk (Keep.refl _ _) (by simp; rfl))
  · intro f w' hI ⟨h164, h175, _⟩
    rw [qt_eq h164 rfl, qt_eq h175 rfl]
    exact s_opt (v := .bool false) rfl (qt_mk (Keep.refl _ _) rfl)
  · intro f w' hI ⟨h176, _⟩
    exact qt_mk (Keep.refl _ _) (qt_eq h176 rfl)
  · intro f w' hI ⟨h177, _⟩
    exact rg_run h177 rfl (qt_mk (Keep.refl _ _) rfl)
  · intro f w' hI ⟨h177, _⟩
    exact rg_run h177 rfl (qt_mk (Keep.refl _ _) rfl)
  · intro f w' hI ⟨h177, h178, h179, _⟩
    refine rg_run h177 rfl ?_
    rw [qt_eq h178 rfl, qt_eq h179 rfl]
    exact al hI fun a ha => qt_mk (Keep.refl _ _) ha
  · intro f w' hI ⟨h177, h180, _⟩
    refine rg_run h177 rfl ?_
    obtain ⟨w1, k1, hc⟩ := qt_get h180 rfl
    exact s_ldC k1 hc (qt_mk (Keep.refl _ _) rfl)
  · intro f w' hI ⟨h177, h181, _⟩
    refine rg_run h177 rfl ?_
    rw [qt_eq h181 rfl]
    exact (size_c _ _ w' (hh.kp hI (by simp))).mono fun v w'' ⟨e, e2⟩ => by subst e2; exact qt_mk (Keep.refl _ _) e
  · intro f w' hI ⟨h177, _⟩
    exact rg_run h177 rfl (qt_mk (Keep.refl _ _) rfl)
  · intro f w' hI ⟨h177, _⟩
    exact rg_run h177 rfl (qt_mk (Keep.refl _ _) rfl)
  · intro f w' hI ⟨h177, h183, h184, _⟩
    refine rg_run h177 rfl ?_
    rw [qt_eq h183 rfl, qt_eq h184 rfl]
    exact at4 hI fun a ha => qt_mk (Keep.refl _ _) ha
  · intro f w' hI ⟨h177, h185, _⟩
    refine rg_run h177 rfl ?_
    obtain ⟨w1, k1, hc⟩ := qt_get h185 rfl
    exact s_ldC k1 hc (qt_mk (Keep.refl _ _) rfl)
  · intro f w' hI ⟨h177, h186, _⟩
    refine rg_run h177 rfl ?_
    rw [qt_eq h186 rfl]
    exact (Sl.kp0 hut.sb hI).len (qt_mk (Keep.refl _ _) (by rw [show (bvs (A.getD k [])).length = (A.getD k []).length by simp only [bvs, List.length_map]]; rfl))
  · intro f w' hI ⟨h177, h187, _⟩
    refine rg_run h177 rfl ?_
    rw [qt_eq h187 rfl]
    exact s_cvi (by rw [u64min, u64max]; omega) (qt_mk (Keep.refl _ _) rfl)
  · intro f w' hI ⟨h177, h182, h188, _⟩
    refine rg_run h177 rfl ?_
    rw [qt_eq h182 rfl, qt_eq h188 rfl]
    exact s_neq (qt_mk (Keep.refl _ _) (by simp; rfl))
  · intro f w' hI ⟨h177, h189, _⟩
    rw [qt_eq h177 rfl, qt_eq h189 rfl]
    exact s_opt (v := .bool false) rfl (qt_mk (Keep.refl _ _) rfl)
  · intro f w' hI hq
    have h190 := hq.2.2.2.2.2.2.2.2.2.2.2.2.2.2.2.2.2.2.2.2.2.2.2.2.2.2.2.2.2.2.2.1
    rw [qt_eq h190 rfl]
    exact hK w' hI
theorem pieces_fin {K : KT} {w0 w : World} {l3 t4 : Value} {hs : List Nat} {A : List (List UInt8)} {us : List Value} (h : PI w0 w l3 t4 hs A us A) (hl : ∀ k, (A.getD k []).length ≤ 1048576) (hn : A.length ≤ 1048577) (htab : Tabs w0) (hK : ∀ w', Keep [] w0 w' → K (.bool true) w') :
    witnesslaw1_DigestPieces.C2 K l3 t4 w := by
  unfold witnesslaw1_DigestPieces.C2
  have loop : ∀ (k i : Nat) (w' : World), k + i = A.length + 1 → 1 ≤ k → Keep [] w w' → witnesslaw1_DigestPieces.L4 K (witnesslaw1_DigestPieces.C3 K) k l3 t4 (.int .i64 i) w' := by
    intro k
    induction k with
    | zero => intro i _ h; omega
    | succ k ih =>
      intro i w' hi _ kk
      unfold witnesslaw1_DigestPieces.L4 witnesslaw1_DigestPieces.C4
      have hlen : (hs.map ptr).length = A.length := by simp [h.la]
      refine (Sl.kp0 (owns_Sl h.ol) kk).len ?_
      rw [hlen]
      refine s_lss ?_
      refine s_cnd (fun hc => ?_) (fun hc => ?_)
      · unfold witnesslaw1_DigestPieces.C6
        refine pieces_full (h.kp0 kk) (by omega) (hl i) htab ?_
        intro w2 k2
        unfold witnesslaw1_DigestPieces.C7
        refine s_false ?_
        unfold witnesslaw1_DigestPieces.C5
        refine s_addi (by rw [i64min, i64max]; omega) ?_
        exact ih (i + 1) w2 (by omega) (by omega) (kk.tr k2)
      · unfold witnesslaw1_DigestPieces.C3
        exact hK w' (h.kp.tr kk)
  exact ⟨A.length + 1, loop _ 0 w rfl (by omega) (Keep.refl _ _)⟩
end Go.Proofs.YtklieghmbhofnaaDoor
