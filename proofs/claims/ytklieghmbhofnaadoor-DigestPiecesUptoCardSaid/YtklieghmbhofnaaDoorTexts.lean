/-
  The digest of parts is the document's digest of the whole.
-/
import Derived.Test.YtklieghmbhofnaaDoorD4
import Derived.Test.YtklieghmbhofnaaDoorHash5
namespace Go.Proofs.YtklieghmbhofnaaDoor
open Go Go.Ev Go.RowKit
set_option maxRecDepth 100000
theorem tByte : ∃ i, Tryd.prog.info? 5 = some i := by
  have : (Tryd.prog.info? 5).isSome = true := by kernel_rfl
  exact Option.isSome_iff_exists.1 this
theorem s_eqSum {w : World} {K : Value → World → Prop} {x y : Operand} {a b : List UInt8} (ha : a.length = 32) (hb : b.length = 32) (h : K (.bool (decide (a = b))) w) : semW Tryd.prog (do eqGuard .eql 43 x y (.agg (bvs a).toArray) (.agg (bvs b).toArray); binOp .eql 43 (.agg (bvs a).toArray) (.agg (bvs b).toArray)) w K :=
  let ⟨_, hi⟩ := tByte
  s_eqBytes Tryd.underlying43 Tryd.underlying5 hi (by kernel_rfl) (by kernel_rfl) ha hb h
theorem s_neSum {w : World} {K : Value → World → Prop} {x y : Operand} {a b : List UInt8} (ha : a.length = 32) (hb : b.length = 32) (h : K (.bool (decide (a ≠ b))) w) : semW Tryd.prog (do eqGuard .neq 43 x y (.agg (bvs a).toArray) (.agg (bvs b).toArray); binOp .neq 43 (.agg (bvs a).toArray) (.agg (bvs b).toArray)) w K :=
  let ⟨_, hi⟩ := tByte
  s_neBytes Tryd.underlying43 Tryd.underlying5 hi (by kernel_rfl) (by kernel_rfl) ha hb h
theorem texts_c {w : World} (ls : List (List UInt8)) (p : Value) (hp : SS w p ls) (hn : ls.length ≤ 1048576 ∧ ls.flatten.length ≤ 1048576) (hr : HasL w 2 0 (uvs rounds)) (_ : 2 < w.heap.size) (hf : HasL w 1 0 (uvs first)) (_ : 1 < w.heap.size) :
    CallsR Tryd.prog 6 #[p] w fun r w' => r = .bool true ∧ Keep [] w w' := by
  have hsm : Small ls := small_of (n := 1048576) (by omega) hn.1 hn.2
  have ht : Tabs w := ⟨hr, hf⟩
  apply witnesslaw1_DigestTexts.sound
  unfold witnesslaw1_DigestTexts.J witnesslaw1_DigestTexts.C1
  refine (handed_c ls p w hsm hp).mono ?_
  rintro r w1 ⟨g, f, gs, fs, rfl, hh, k1⟩
  refine s_ext rfl ?_
  refine s_ext rfl ?_
  refine (dof_c ls g w1 hsm (by omega) hh.ss (ht.kp k1 (by simp) (by simp))).mono ?_
  rintro r w2 ⟨rfl, k2⟩
  refine (join_c ls p w2 hsm (by omega) (hp.kp0 (k1.tr k2))).mono ?_
  rintro r w3 ⟨ho, k3⟩
  refine (rof_c ls.flatten (by omega) r w3 (owns_Sl ho)).mono ?_
  rintro r w4 ⟨rfl, k4⟩
  have k24 : Keep [] w1 w4 := (k2.tr k3).tr k4
  refine s_eqSum (sha_len _) (sha_len _) ?_
  simp only [decide_true]
  refine s_gRun rfl ?_
  refine s_gRun rfl ?_
  refine s_gRun rfl ?_
  refine (kept_c ls p f g gs fs _ w4 hsm (hp.kp0 (k1.tr k24)) (hh.kp k24)).mono ?_
  rintro r w5 ⟨rfl, k5⟩
  refine s_opt (v := .bool true) rfl ?_
  exact ⟨rfl, (k1.tr k24).tr k5⟩
end Go.Proofs.YtklieghmbhofnaaDoor
