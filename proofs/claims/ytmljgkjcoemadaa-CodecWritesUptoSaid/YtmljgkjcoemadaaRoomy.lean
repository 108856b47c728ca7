/-
  Copies with room behind them, and whether they are what they were.
-/
import Derived.Test.YtmljgkjcoemadaaCmp
namespace Go.Proofs.Ytmljgkjcoemadaa
open Go Go.Ev Go.RowKit
set_option maxRecDepth 100000
theorem own_blk {w : World} {B b n : Nat} {l : List UInt8} (h : Blk w b (bvs l) 5) (hn : l.length = n) (hB : B ≤ b) (hm : n ≤ 1099511627776) : w.ownsRow B 5 1 (.slice (some ⟨b, 0, none⟩) n n) n (bvs l) := by
  subst hn
  refine ⟨by simp, .inr ⟨b, l.length, (bvs l).toArray, rfl, hB, h, Nat.le_refl _, by unfold maxLen; omega, by simp, ?_⟩⟩
  rw [List.take_of_length_le (by simp)]
theorem copyB_c (l : List UInt8) (x : Value) (w : World) (hx : SB w x l) (hl : l.length ≤ 1099511627776) : CallsR Try.prog 11 #[x] w fun r w' => r = .slice (some ⟨w.heap.size, 0, none⟩) l.length l.length ∧ Keep [] w w' ∧ Blk w' w.heap.size (bvs l) 5 := by
  apply witnessplain_CopyBytes.sound
  unfold witnessplain_CopyBytes.J witnessplain_CopyBytes.C1
  refine SB.len hx ?_
  refine s_makeB eU8 rfl rfl (by omega) ?_
  intro w1 k1 hs1 hb1
  refine s_copyB eU8 hb1 (by simp) (hx.kp0 k1) ?_
  intro w2 hb2 k2
  have e1 : l.take l.length ++ (List.replicate l.length 0).drop l.length = l := by simp
  rw [e1] at hb2
  exact ⟨rfl, keepNew k1 k2 (by simp), hb2⟩
/-- What Roomy hands out: the front of a row of one's own, two marks behind it. -/
def Room (w : World) (B : Nat) (g a : Value) (l : List UInt8) : Prop := ∃ b cap, g = .slice (some ⟨b, 0, none⟩) l.length cap ∧ a = .slice (some ⟨b, 0, none⟩) (l.length + 2) cap ∧ w.ownsRow B 5 1 a (l.length + 2) (bvs (l ++ [165, 90]))
theorem Room.kp {w w' : World} {B : Nat} {g a : Value} {l : List UInt8} {S : List Nat} (h : Room w B g a l) (k : Keep S w w') (hS : ∀ b ∈ S, b < B) : Room w' B g a l := by
  obtain ⟨b, cap, rfl, rfl, ho⟩ := h
  exact ⟨b, cap, rfl, rfl, owns_kp ho k (fun x hx hxs => by have := (owns_lt ho x hx).1; have := hS x hxs; omega)⟩
theorem Room.kpF {w w' : World} {B : Nat} {g a : Value} {l : List UInt8} {S : List Nat} (h : Room w B g a l) (k : Keep S w w') (hS : ∀ b ∈ blkOf a, b ∉ S) : Room w' B g a l := by
  obtain ⟨b, cap, rfl, rfl, ho⟩ := h
  exact ⟨b, cap, rfl, rfl, owns_kp ho k hS⟩
theorem Room.lt {w : World} {B : Nat} {g a : Value} {l : List UInt8} (h : Room w B g a l) : (∀ b ∈ blkOf a, B ≤ b ∧ b < w.heap.size) ∧ (∀ b ∈ blkOf g, B ≤ b ∧ b < w.heap.size) := by
  obtain ⟨b, cap, rfl, rfl, ho⟩ := h
  have := owns_lt ho
  exact ⟨this, fun x hx => this x (by simpa [blkOf] using hx)⟩
theorem Room.whole {w : World} {B : Nat} {g a : Value} {l : List UInt8} (h : Room w B g a l) : SB w a (l ++ [165, 90]) := by
  obtain ⟨b, cap, rfl, rfl, ho⟩ := h
  exact owns_Sl ho
theorem SB.take {w : World} {a : Option Addr} {n c m : Nat} {l : List UInt8} (h : SB w (.slice a n c) l) (hm : m ≤ l.length) : SB w (.slice a m c) (l.take m) := by
  rcases h with ⟨h1, hx⟩ | ⟨ad, c', h1, hc, hh⟩
  · have hl : l = [] := by simpa using hx
    subst hl
    have : m = 0 := by simpa using hm
    subst this
    cases h1
    exact .inl ⟨rfl, rfl⟩
  · cases h1
    simp only [List.length_map] at hc
    refine .inr ⟨ad, c, by simp; omega, by simp; omega, fun j u hj => hh j u ?_⟩
    rw [bvs, List.map_take, List.getElem?_take] at hj
    split at hj
    · exact hj
    · cases hj
theorem Room.front {w : World} {B : Nat} {g a : Value} {l : List UInt8} (h : Room w B g a l) : SB w g l := by
  obtain ⟨b, cap, rfl, rfl, ho⟩ := h
  have := SB.take (m := l.length) (owns_Sl ho) (by simp)
  simpa using this
theorem roomy_c (l : List UInt8) (x : Value) (w : World) (hx : SB w x l) (hl : l.length ≤ 1099511627776) : CallsR Try.prog 4 #[x] w fun r w' => ∃ g a, r = .tuple #[g, a] ∧ Room w' w.heap.size g a l ∧ Keep [] w w' := by
  apply witnessplain_Roomy.sound
  unfold witnessplain_Roomy.J witnessplain_Roomy.C1
  refine (copyB_c l x w hx hl).mono ?_
  rintro r w1 ⟨rfl, k1, hb1⟩
  refine s_bs2' eU8 (u := bv 165) (v := bv 90) rfl rfl ?_
  intro w2 k2 ho2
  have ho := own_blk (B := w.heap.size) (hb1.kp k2 (by simp)) rfl (Nat.le_refl _) hl
  refine s_appB ho (r := [165, 90]) (owns_Sl ho2) (Keep.refl _ _) (by simp; omega) (k1.tr k2).size ?_
  intro v w3 ho3 k3 _
  have k13 := keepNew (k1.tr k2) k3 (fun b hb => (owns_lt ho b hb).1)
  refine SB.len hx ?_
  obtain ⟨g, cap, rest, rfl, hcap, hg, hbk⟩ := owns_blk ho3 (by simp)
  rw [List.length_append] at hcap ho3 ⊢
  simp only [List.length_cons, List.length_nil] at hcap ho3 ⊢
  refine s_slTo (by omega) (by omega) ?_
  rw [Int.toNat_natCast]
  exact ⟨_, _, rfl, ⟨g, cap, rfl, rfl, ho3⟩, k13⟩
theorem untouched_c (l : List UInt8) (g a x : Value) (B : Nat) (w : World) (hr : Room w B g a l) (hx : SB w x l) (hl : l.length ≤ 1099511627776) : CallsR Try.prog 6 #[a, x] w fun r w' => r = .bool true ∧ Keep [] w w' := by
  have hw := hr.whole
  obtain ⟨b, cap, rfl, rfl, ho⟩ := hr
  apply witnessplain_Untouched.sound
  unfold witnessplain_Untouched.J witnessplain_Untouched.C1
  refine SB.len hx ?_
  refine s_lenS ?_
  refine s_addi (by rw [i64min, i64max]; omega) ?_
  refine s_eql ?_
  rw [show decide (((l.length + 2 : Nat) : Int) = (l.length : Int) + 2) = true from decide_eq_true (by omega)]
  refine s_gRun rfl ?_
  refine s_gRun rfl ?_
  refine s_gRun rfl ?_
  refine s_slToB (n := l.length) rfl hw (by simp) ?_
  intro v hv _
  rw [List.take_left'] at hv
  · refine s_gRun rfl ?_
    refine s_gRun rfl ?_
    refine (same_c l l v x w hv hx (by omega)).mono ?_
    rintro r w1 ⟨rfl, k1⟩
    simp only [decide_true]
    refine s_opt (v := .bool true) rfl ?_
    have hw1 := hw.kp0 k1
    refine s_gRun rfl ?_
    refine s_gRun rfl ?_
    refine s_gRun rfl ?_
    refine SB.get rfl hw1 (by simp) ?_
    intro p hp
    have e1 : (l ++ [165, 90]).getD l.length 0 = 165 := by rw [List.getD_eq_getElem?_getD, List.getElem?_append_right (Nat.le_refl _)]; simp
    rw [e1] at hp
    refine s_gRun rfl ?_
    refine s_opt hp ?_
    refine s_gRun rfl ?_
    refine s_opt (v := .bool true) (by kernel_rfl) ?_
    refine s_opt (v := .bool true) rfl ?_
    refine s_gRun rfl ?_
    refine s_gRun rfl ?_
    refine s_gRun rfl ?_
    refine s_addi (by rw [i64min, i64max]; omega) ?_
    refine s_gRun rfl ?_
    refine SB.get (i := l.length + 1) (by omega) hw1 (by simp) ?_
    intro q hq
    have e2 : (l ++ [165, 90]).getD (l.length + 1) 0 = 90 := by rw [List.getD_eq_getElem?_getD, List.getElem?_append_right (by omega)]; simp
    rw [e2] at hq
    refine s_gRun rfl ?_
    refine s_opt hq ?_
    refine s_gRun rfl ?_
    refine s_opt (v := .bool true) (by kernel_rfl) ?_
    refine s_opt (v := .bool true) rfl ?_
    exact ⟨rfl, k1⟩
  · rfl
end Go.Proofs.Ytmljgkjcoemadaa
