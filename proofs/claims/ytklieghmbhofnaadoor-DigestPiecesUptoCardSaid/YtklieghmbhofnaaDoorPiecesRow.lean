/-
  The statement DigestPiecesUpto and its card, out of what the functions compute.
-/
import Derived.Test.YtklieghmbhofnaaDoorCards
import Derived.Test.YtklieghmbhofnaaDoorTie
import Derived.Test.YtklieghmbhofnaaDoorTab
import Derived.Test.YtklieghmbhofnaaDoorPieces4
import Derived.WalkKit
import Derived.ProofKit
import Derived.OpenShut
import Derived.Deep.DeepHandedRow
import Derived.Lib.LaidTab
namespace Go.Proofs.YtklieghmbhofnaaDoor.digestPiecesRow
open Go Go.ChangeShapes Go.WideShapes Go.ChangeAt Go.RowKit
open Go.Ev Go.Proofs.YtklieghmbhofnaaDoor
set_option linter.unusedVariables false
theorem own : ownKnob Tryd.prog.godebug = none := by kernel_rfl
theorem laidOut : laidOutB Tryd.prog = true := by kernel_rfl
theorem u32_of {n : Int} (h : (Lit.int .u32 n).wf = true) : ∃ c : BitVec 32, Value.int .u32 n = uv c := by
  simp [Lit.wf, IntKind.min, IntKind.max, IntKind.signed, IntKind.bits] at h
  refine ⟨BitVec.ofNat 32 n.toNat, ?_⟩
  unfold uv
  rw [BitVec.toNat_ofNat]
  congr 1
  omega
theorem bulk_le {H : Type} {ds : List (DataW H)} {d : DataW H} (hk : ∀ k, (Rows.OpenSpec.upto Rows.digestPiecesSpec).cond = some k → k H ds = true) (h : d ∈ ds) : Rows.uptoBulk d ≤ 1048576 :=
  Nat.le_trans (bulk_part h) (bulk_bound (hk _ rfl))
theorem tab_rounds {W : World} (h : laidMetH Tryd.prog Rows.digestPiecesUptoRow.laid W) : HasL W 2 0 (rounds.map uv) :=
  tab_has (g := 2) (zs := rounds.map fun x => ((x : BitVec 32).toNat : Int)) (k := .u32) (Lib.tabIs_of_head (g := 2) (by kernel_rfl) (by kernel_rfl) Tryd.underlying63 Tryd.underlying22 (by kernel_rfl) (by kernel_rfl) (show laidMet Tryd.prog _ W from h)) (by kernel_rfl) (by kernel_rfl)
theorem lt_rounds {W : World} (h : laidMetH Tryd.prog Rows.digestPiecesUptoRow.laid W) : 2 < W.heap.size := HasL.lt (v := uv (rounds.getD 0 0)) (vs := (rounds.drop 1).map uv) (tab_rounds h)
theorem tab_first {W : World} (h : laidMetH Tryd.prog Rows.digestPiecesUptoRow.laid W) : HasL W 1 0 (first.map uv) :=
  tab_has (g := 1) (zs := first.map fun x => ((x : BitVec 32).toNat : Int)) (k := .u32) (Lib.tabIs_of_head (g := 1) (by kernel_rfl) (by kernel_rfl) Tryd.underlying59 Tryd.underlying22 (by kernel_rfl) (by kernel_rfl) (show laidMet Tryd.prog _ W from (laidMet_tail h))) (by kernel_rfl) (by kernel_rfl)
theorem lt_first {W : World} (h : laidMetH Tryd.prog Rows.digestPiecesUptoRow.laid W) : 1 < W.heap.size := HasL.lt (v := uv (first.getD 0 0)) (vs := (first.drop 1).map uv) (tab_first h)
noncomputable def laidWorld (os : Os) : World := { World.holding Tryd.prog os ⟨#[], #[], []⟩ with heap := ((((World.holding Tryd.prog os ⟨#[], #[], []⟩).heap.modify 2 (fun
      | .cells _ t frozen => .cells (rounds.map uv).toArray t frozen
      | o => o)).modify 1 (fun
      | .cells _ t frozen => .cells (first.map uv).toArray t frozen
      | o => o))) }
theorem laid_met (os : Os) : laidMet Tryd.prog Rows.digestPiecesUptoRow.laid ((laidWorld os).forCall (fun _ _ => 0) ⟨#[], #[.slice none 0 0], []⟩).memory :=
  laidMet_of_run' 8 (by kernel_rfl) (by kernel_rfl)
theorem reads (os : Os) {H : Type} (enc : TypeId × Value → H) : ∃ places, DataW.whole enc Tryd.prog ((laidWorld os).forCall (fun _ _ => 0) ⟨#[], #[.slice none 0 0], []⟩).memory Tryd.f5.params.toList Rows.digestPiecesSpec.vars false (#[.slice none 0 0] : Array Value).toList 8 = some ([.nil], [], places) ∧ Rows.uptoSmall H [.nil] = true :=
  ⟨[], by kernel_rfl, by kernel_rfl⟩
set_option maxRecDepth 100000 in
theorem lifted (os : Os) (started : os.Started) (H : Type) (enc : TypeId × Value → H) (F0 : Stop.Interp) :
    ReturnsInHanded {} Tryd.checked os 5 .any ((Rows.OpenSpec.upto Rows.digestPiecesSpec).preRow enc Tryd.prog Tryd.f5 Rows.digestPiecesUptoRow.domain false Rows.digestPiecesUptoRow.laid) (((Rows.OpenSpec.upto Rows.digestPiecesSpec).at F0).post enc Tryd.prog Tryd.f5 false true false false) := by
  obtain ⟨places, hx, hsm⟩ := reads os enc
  refine returnsInHanded_of_row (C := Tryd.checked) (s := Rows.OpenSpec.upto Rows.digestPiecesSpec) own started (by kernel_rfl) Tryd.func5
    (witness_row_at (enc := enc) (C := Tryd.checked) false (laidWorld os) #[.slice none 0 0] rfl (by kernel_rfl) (by kernel_rfl) (by kernel_rfl)
      (OpenSpec.preRow_of_cond 8 hx (by kernel_rfl) (fun k hk => by cases hk; simpa using hsm) (by kernel_rfl) (laid_met os))) ?_
  intro W base args ds gs before hval0 hW _ hk0 _ hL _ _
  have hval : ∀ (j : Nat) t v, Tryd.f5.params[j]? = some t → args[j]? = some v → Value.okWide Tryd.prog W .any base t v := hval0
  have hW' := hW
  obtain ⟨p, q, hA0, hV, rfl, hfz, hnd⟩ := hW
  have hA : DataW.TrodAll enc Tryd.prog W 0 (fun _ => true) true Tryd.f5.params.toList args.toList ds p := hA0
  rw [Tryd.params5] at hA hval
  obtain ⟨v0, vs0, d0, ds1, p0, q0, hargs, rfl, rfl, h0, r0⟩ := trodAll_cons hA
  obtain ⟨rfl, rfl, rfl⟩ := trodAll_nil r0
  obtain rfl : args = #[v0] := by cases args; simp_all
  obtain ⟨rfl, rfl⟩ := trodVars_none hV
  have hk : ∀ k, (Rows.OpenSpec.upto Rows.digestPiecesSpec).cond = some k → k H [d0] = true := fun k hc => by simpa using hk0 k hc
  have lt0 : ∀ x ∈ p0, x.block < W.heap.size := by obtain ⟨m, hm⟩ := h0; exact DataW.trod_lt m _ _ _ hm
  have k0 := h0
  have z0 := bulk_le hk (d := d0) (by simp)
  obtain ⟨ad0, le0, ca0, rfl⟩ := okWide_slice Tryd.underlying34 (hval 0 _ v0 rfl rfl)
  obtain ⟨l0, s0, b0⟩ := open_arg1 (ty := .slice pieceTy) (n := 12) (by kernel_rfl) rfl h0
  clear hA0 hval0
  have hc := pieces_c (w := W) l0 _ s0 (Nat.le_trans b0 z0) (tab_rounds hL) (lt_rounds hL) (tab_first hL) (lt_first hL)
  refine Calls.mono hc fun e W' ⟨v, he, hv, kp⟩ => ?_
  subst he
  subst hv
  have bel := kp.below
  exact ⟨_, rfl, _, _, _, [], _, [], hW', trodAll_mk1 (shut_bool Tryd.underlying4 _), (trodAll_cons_mk (Below.trod laidOut (by kernel_rfl) (of_decide_eq_true (by kernel_rfl)) k0 bel lt0) trodAll_mk0), rfl, bel.frame _, fun h => by cases h⟩
theorem saidUpto : Rows.DigestPiecesUptoSaid :=
  OpenClaim.holds_of_cond 5 Tryd.f5 rfl rfl rfl rfl rfl rfl rfl ⟨rfl, rfl, rfl, rfl, rfl⟩ rfl rfl rfl rfl rfl (by kernel_rfl) Tryd.func5 (by kernel_rfl)
    (of_decide_eq_true (by kernel_rfl)) (by unfold Func.isWrapper; first | (rw [if_pos (by decide +kernel)]; kernel_rfl) | (rw [if_neg (by decide +kernel)]; exact ⟨rfl, rfl⟩))
    (fun os started H enc _ F0 => by rw [OpenClaim.pre_eq_preRow]; exact lifted os started H enc F0)
theorem plain (f : FuncId) (fn : Func) (hf : Tryd.pinned.checked.prog.funcNamed "witness/witnesslaw1.DigestPieces" = some f) (hfn : Tryd.pinned.checked.prog.funcs[f]? = some fn) :
    false = Tryd.pinned.checked.prog.looks [] ∧ ∀ (j : Nat) t, fn.params[j]? = some t → Tryd.pinned.checked.prog.wantsStandIn t = false := by
  obtain rfl : f = 5 := Option.some.inj ((show Tryd.prog.funcNamed "witness/witnesslaw1.DigestPieces" = some 5 by kernel_rfl).symm.trans hf) |>.symm
  obtain rfl : fn = Tryd.f5 := (Option.some.inj (Tryd.func5.symm.trans hfn)).symm
  refine ⟨by kernel_rfl, fun j t ht => ?_⟩
  rw [Tryd.params5] at ht
  have hall : (#[34] : Array TypeId).all (fun t => Tryd.prog.wantsStandIn t == false) = true := by kernel_rfl
  rw [Array.all_eq_true_iff_forall_mem] at hall
  show Tryd.prog.wantsStandIn t = false
  simpa using hall t (Array.mem_of_getElem? ht)
theorem cardUpto : Rows.DigestPiecesUptoCardSaid :=
  Claim7.holds_tied_plain_at .later [] _ _ _ _ saidUpto (fun _ h => by cases h) (by kernel_rfl) (fun _ h => by cases h) digestPiecesUpto_row_tie rfl ⟨rfl, rfl⟩ (by kernel_rfl) rfl plain (by kernel_rfl)
#print axioms cardUpto
end Go.Proofs.YtklieghmbhofnaaDoor.digestPiecesRow
