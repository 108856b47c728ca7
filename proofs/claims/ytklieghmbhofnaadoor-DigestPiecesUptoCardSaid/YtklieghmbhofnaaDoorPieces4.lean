/-
  Hashes by script: the whole law.
-/
import Derived.Test.YtklieghmbhofnaaDoorPieces3
namespace Go.Proofs.YtklieghmbhofnaaDoor
open Go Go.Ev Go.RowKit
set_option maxRecDepth 100000
def plen (x : pieceTy.El) : Nat := (x : Int × Int × List UInt8).2.2.length
def tl (l : List pieceTy.El) : Nat := Ty.bulks plen l
theorem tl_take {l : List pieceTy.El} {i : Nat} (h : i < l.length) : tl (l.take (i + 1)) = tl (l.take i) + plen l[i] := by
  unfold tl
  rw [List.take_add_one, List.getElem?_eq_getElem h, bulks_append]
  simp [Ty.bulks]
theorem tl_le (l : List pieceTy.El) (i : Nat) : tl (l.take i) ≤ tl l := by
  have e : tl l = tl (l.take i ++ l.drop i) := by rw [List.take_append_drop]
  rw [e]
  unfold tl
  rw [bulks_append]
  omega
theorem tl_bulk : ∀ l : List pieceTy.El, tl l + l.length ≤ Ty.bulks (Ty.bulk pieceTy) l
  | [] => by simp [tl, Ty.bulks]
  | x :: l => by
    have ih := tl_bulk l
    have e : Ty.bulk pieceTy x = 1 + (1 + (plen x + 1)) := rfl
    simp only [tl, Ty.bulks, List.length_cons] at ih ⊢
    omega
theorem pieces_step {K : KT} {kn : V4} {w0 w : World} {script0 i5 l3 t4 : Value} {hs : List Nat} {A : List (List UInt8)} {us : List Value} {k n m b6 : Nat} {kind which : Int} {v : Value} {text : List UInt8} (s : Step w0 w l3 t4 hs A us k n m) (hb6 : Blk w b6 [.int .i64 kind, .int .i64 which, v] 39) (hv : SB w0 v text) (hbt : m + text.length ≤ 1048576)
    (hN : Next w0 kn script0 i5 (n + 1) (m + text.length)) : witnesslaw1_DigestPieces.C12 K kn script0 l3 t4 i5 (ptr b6) (.int .i64 (k : Int)) (.int .i64 kind) w := by
  have hN1 : Next w0 kn script0 i5 n m := fun l3 t4 hs A us w h h1 h2 h3 => hN l3 t4 hs A us w h h1 (by omega) (fun j => by have := h3 j; omega)
  have hN2 : Next w0 kn script0 i5 n (m + text.length) := fun l3 t4 hs A us w h h1 h2 h3 => hN l3 t4 hs A us w h h1 (by omega) h3
  have hN3 : Next w0 kn script0 i5 (n + 1) m := fun l3 t4 hs A us w h h1 h2 h3 => hN l3 t4 hs A us w h h1 h2 (fun j => by have := h3 j; omega)
  unfold witnesslaw1_DigestPieces.C12
  refine s_eql ?_
  refine s_cnd (fun _ => step_write s hb6 hv hbt hN2) (fun _ => ?_)
  unfold witnesslaw1_DigestPieces.C16
  refine s_eql ?_
  refine s_cnd (fun _ => step_sum s hN1) (fun _ => ?_)
  unfold witnesslaw1_DigestPieces.C20
  refine s_eql ?_
  exact s_cnd (fun _ => step_size s hN1) (fun _ => step_rest s kind hN3)
theorem pieces_loop {K : KT} {w0 : World} {script0 : Value} {script : List pieceTy.El} (hsc : Is w0 (.slice pieceTy) script [script0]) (hb : tl script ≤ 1048576) (hn : script.length ≤ 1048576) (htab : Tabs w0) (hK : ∀ w, Keep [] w0 w → K (.bool true) w) :
    ∀ (k i : Nat) (l3 t4 : Value) (hs : List Nat) (A : List (List UInt8)) (us : List Value) (w : World), k + i = script.length + 1 → 1 ≤ k → PI w0 w l3 t4 hs A us A → 1 ≤ A.length → A.length ≤ i + 1 → (∀ j, (A.getD j []).length ≤ tl (script.take i)) →
      witnesslaw1_DigestPieces.L9 K (witnesslaw1_DigestPieces.C2 K) k script0 l3 t4 (.int .i64 i) w := by
  intro k
  induction k with
  | zero => intro i _ _ _ _ _ _ h; omega
  | succ k ih =>
    intro i l3 t4 hs A us w hi _ h h1 h2 h3
    have htl := tl_le script i
    obtain ⟨cv, cvs, ec, hcs, hcx⟩ := hsc
    obtain rfl : script0 = cv := by simpa using ec
    have hsc : Is w0 (.slice pieceTy) script [script0] := ⟨script0, cvs, rfl, hcs, hcx⟩
    have hlen : (hs.map ptr).length = A.length := by simp [h.la]
    unfold witnesslaw1_DigestPieces.L9 witnesslaw1_DigestPieces.C9
    refine (hcs.kp0 h.kp).len ?_
    refine s_lss ?_
    refine s_cnd (fun hc => ?_) (fun hc => ?_)
    · have hc' : (i : Int) < ((script.length : Nat) : Int) := hc
      have hi' : i < script.length := by omega
      unfold witnesslaw1_DigestPieces.C11
      refine SlN.at (hcs.kp0 h.kp) (by omega) (show (i : Int).toNat < script.length by omega) ?_
      intro a ha _
      have hx := hcx i script[i] (List.getElem?_eq_getElem hi')
      rw [Int.toNat_natCast] at ha
      change HasA w a ((cvs.drop (i * 3)).take 3) at ha
      change Is w0 pieceTy script[i] ((cvs.drop (i * 3)).take 3) at hx
      have hvl : cvs.length = script.length * 3 := hcs.length
      have hcl : ((cvs.drop (i * 3)).take 3).length = 3 := by
        rw [List.length_take, List.length_drop]
        omega
      have hts := tl_take hi'
      have htl1 := tl_le script (i + 1)
      generalize (cvs.drop (i * 3)).take 3 = cs at ha hx hcl
      generalize script[i] = rec at hx hts
      obtain ⟨⟨hx1, _⟩, ⟨hx2, _⟩, v, hx3, hv⟩ := hx
      have hpl : plen rec = (rec : Int × Int × List UInt8).2.2.length := rfl
      rw [hpl] at hts
      have ecs : cs = [.int .i64 (rec : Int × Int × List UInt8).1, .int .i64 (rec : Int × Int × List UInt8).2.1, v] := by
        match cs, hcl with
        | [x, y, z], _ =>
          simp [Ty.sz] at hx1 hx2 hx3
          rw [hx1, hx2, hx3]
      subst ecs
      refine s_ldNA ha rfl ?_
      refine s_newB (l := [.int .i64 0, .int .i64 0, .slice none 0 0]) (by kernel_rfl) ?_
      intro w1 hb1 k1 hs1
      refine s_stNB0 hb1 rfl rfl (by
        intro u hu
        simp at hu
        rcases hu with rfl | rfl | rfl
        · rfl
        · rfl
        · exact slice_one hv) ?_
      intro w2 hb2 k2
      have k02 : Keep [] w w2 := keep2 k1 k2 (Nat.le_refl _)
      have hP := h.kp0 k02
      refine s_fad ?_
      refine s_ldB (o := 0) hb2 (v := .int .i64 (rec : Int × Int × List UInt8).2.1) rfl ?_
      refine s_cv ?_
      refine (owns_Sl hP.ol).len ?_
      rw [hlen]
      refine s_cvi (by rw [u64min, u64max]; omega) ?_
      refine s_remi (u64_nonneg _) (by omega) ?_
      obtain ⟨q, hq, e⟩ := u64_rem (rec : Int × Int × List UInt8).2.1 (n := A.length) (by omega)
      rw [e]
      refine s_cvi (by rw [i64min, i64max]; omega) ?_
      have s : Step w0 w2 l3 t4 hs A us q (i + 1) (tl (script.take i)) := ⟨hP, hq, h2, h3, by omega, by omega, htab⟩
      refine s.al ?_
      intro a2 ha2
      refine s_ldC (Keep.refl _ _) ha2 ?_
      refine ⟨.bool false, w2, by unfold ptr; kernel_rfl, ?_⟩
      refine s_false ?_
      refine s_fad ?_
      refine s_ldB (o := 0) hb2 (v := .int .i64 (rec : Int × Int × List UInt8).1) rfl ?_
      refine pieces_step s hb2 hv (by omega) ?_
      intro l3' t4' hs' A' us' w' h' g1 g2 g3
      unfold witnesslaw1_DigestPieces.C10
      refine s_addi (by rw [i64min, i64max]; omega) ?_
      exact ih (i + 1) l3' t4' hs' A' us' w' (by omega) (by omega) h' g1 g2 (by rw [hts]; exact g3)
    · exact pieces_fin h (fun j => by have := h3 j; omega) (by omega) htab hK
theorem pieces_c {w : World} (script : List pieceTy.El) (script0 : Value) (hsc : Is w (.slice pieceTy) script [script0]) (hb : Ty.bulk (.slice pieceTy) script ≤ 1048576)
    (hr : HasL w 2 0 (uvs rounds)) (_ : 2 < w.heap.size) (hf : HasL w 1 0 (uvs first)) (_ : 1 < w.heap.size) :
    CallsR Tryd.prog 5 #[script0] w fun r w' => r = .bool true ∧ Keep [] w w' := by
  have htab : Tabs w := ⟨hr, hf⟩
  have hbk : Ty.bulks (Ty.bulk pieceTy) script + 1 ≤ 1048576 := hb
  have htb := tl_bulk script
  apply witnesslaw1_DigestPieces.sound
  unfold witnesslaw1_DigestPieces.J witnesslaw1_DigestPieces.C1
  refine (new_c w htab).mono ?_
  rintro r w1 ⟨rfl, k1, hh⟩
  refine s_lit1 eHs rfl ?_
  intro w2 k2 ho2
  refine s_lit1 eBs rfl ?_
  intro w3 k3 ho3
  have k23 := k2.tr k3
  have hs1 := k1.size
  have hs2 := k2.size
  have hlt := hh.lt
  refine ⟨script.length + 1, pieces_loop hsc (by omega) (by omega) htab (fun w' k' => ⟨rfl, k'⟩) _ 0 _ _ [w.heap.size] [[]] [.slice none 0 0] w3 rfl (by omega) ?_ (by simp) (by simp) (fun j => by cases j <;> simp)⟩
  have grow : ∀ {e : TypeId} {base n : Nat} {v : Value} {xs : List Value} {w' : World}, w'.ownsRow base e 1 v n xs → w.heap.size ≤ base → w'.ownsRow w.heap.size e 1 v n xs := by
    intro e base n v xs w' ho hle
    refine ⟨ho.1, ?_⟩
    rcases ho.2 with h | ⟨g, cap, cur, h1, h2, h3⟩
    · exact .inl h
    · exact .inr ⟨g, cap, cur, h1, by omega, h3⟩
  refine ⟨k1.tr k23, rfl, rfl, rfl, grow (owns_kp ho2 k3 (by simp)) (by omega), grow ho3 (by omega), by simp, by simp, fun i hi => ?_, fun i hi => ?_⟩
  · have : i = 0 := by simp at hi; omega
    subst this
    exact hh.kp k23 (by simp)
  · have : i = 0 := by simp at hi; omega
    subst this
    exact ⟨_, rfl, Txt.nil _⟩
end Go.Proofs.YtklieghmbhofnaaDoor
