/-
  Two writers in turns: the whole law.
-/
import Derived.Test.YtmljgkjcoemadaaWrites4
namespace Go.Proofs.Ytmljgkjcoemadaa
open Go Go.Ev Go.RowKit
set_option maxRecDepth 100000
abbrev stepTy : Ty := .pair (.int .i64) (.pair (.int .i64) (.pair (.int .u64) (.pair (.int .i64) (.pair .bytes (.pair (.arr8 32) (.int .u8))))))
def stepText (x : stepTy.El) : List UInt8 := (x : Int × Int × Int × Int × List UInt8 × List UInt8 × Int).2.2.2.2.1
theorem step_bulk (x : stepTy.El) : Ty.bulk stepTy x = (stepText x).length + 38 := by
  show 1 + (1 + (1 + (1 + ((stepText x).length + 1 + (32 + 1))))) = _
  omega
/-- The cells of a step. -/
theorem step_cells {w : World} {x : stepTy.El} {cs : List Value} (h : Is w stepTy x cs) (hl : cs.length = 38) : ∃ (kind who m : Int) (n : Nat) (vb : Value) (sum : List UInt8) (nth : UInt8), cs = stepCells kind who n m vb sum nth ∧ n < 18446744073709551616 ∧ sum.length = 32 ∧ SB w vb (stepText x) := by
  obtain ⟨⟨h1, _⟩, ⟨h2, _⟩, ⟨h3, w3⟩, ⟨h4, _⟩, ⟨vb, h5, hv⟩, ⟨h6, hl6⟩, ⟨h7, w7⟩⟩ := h
  obtain ⟨l, e7, l7⟩ := u8_ints [(x : Int × Int × Int × Int × List UInt8 × List UInt8 × Int).2.2.2.2.2.2] (by intro i hi; rw [List.mem_singleton.1 hi]; exact w7)
  match l, l7 with
  | [c], _ =>
    obtain ⟨n, hn⟩ : ∃ n : Nat, (x : Int × Int × Int × Int × List UInt8 × List UInt8 × Int).2.2.1 = (n : Int) ∧ n < 18446744073709551616 := by
      have key : ∀ z : Int, (Lit.int .u64 z).wf = true → ∃ n : Nat, z = (n : Int) ∧ n < 18446744073709551616 := by
        intro z hz
        simp only [Lit.wf, decide_eq_true_eq, Bool.and_eq_true, u64min, u64max] at hz
        exact ⟨z.toNat, by omega, by omega⟩
      exact key _ w3
    refine ⟨(x : Int × Int × Int × Int × List UInt8 × List UInt8 × Int).1, (x : Int × Int × Int × Int × List UInt8 × List UInt8 × Int).2.1, (x : Int × Int × Int × Int × List UInt8 × List UInt8 × Int).2.2.2.1, n, vb, (x : Int × Int × Int × Int × List UInt8 × List UInt8 × Int).2.2.2.2.2.1, c, ?_, hn.2, hl6, hv⟩
    have cut : ∀ (k : Nat) (l : List Value), l = l.take k ++ l.drop k := fun k l => (List.take_append_drop k l).symm
    simp only [List.map_cons, List.map_nil, bvs] at e7
    have g7 : (cs.drop 37) = [bv c] := by
      have := h7
      simp only [List.drop_drop, Ty.sz] at this
      rw [this]
      exact e7
    have g6 : (cs.drop 5).take 32 = bvs (x : Int × Int × Int × Int × List UInt8 × List UInt8 × Int).2.2.2.2.2.1 := by
      have := h6
      simp only [List.drop_drop, Ty.sz] at this
      exact this
    have g5 : (cs.drop 4).take 1 = [vb] := by
      have := h5
      simp only [List.drop_drop, Ty.sz] at this
      exact this
    have g4 : (cs.drop 3).take 1 = [.int .i64 (x : Int × Int × Int × Int × List UInt8 × List UInt8 × Int).2.2.2.1] := by
      have := h4
      simp only [List.drop_drop, Ty.sz] at this
      exact this
    have g3 : (cs.drop 2).take 1 = [.int .u64 (n : Int)] := by
      have := h3
      simp only [List.drop_drop, Ty.sz] at this
      rw [← hn.1]
      exact this
    have g2 : (cs.drop 1).take 1 = [.int .i64 (x : Int × Int × Int × Int × List UInt8 × List UInt8 × Int).2.1] := h2
    have g1 : cs.take 1 = [.int .i64 (x : Int × Int × Int × Int × List UInt8 × List UInt8 × Int).1] := h1
    rw [cut 1 cs, g1, cut 1 (cs.drop 1), g2, List.drop_drop, cut 1 (cs.drop 2), g3, List.drop_drop, cut 1 (cs.drop 3), g4, List.drop_drop, cut 1 (cs.drop 4), g5, List.drop_drop, cut 32 (cs.drop 5), g6, List.drop_drop, g7]
    rfl
abbrev wl (l : List stepTy.El) : Nat := Ty.bulks (Ty.bulk stepTy) l
theorem wl_take {l : List stepTy.El} {i : Nat} (h : i < l.length) : wl (l.take (i + 1)) = wl (l.take i) + ((stepText l[i]).length + 38) := by
  unfold wl
  rw [List.take_add_one, List.getElem?_eq_getElem h, bulks_append, ← step_bulk]
  simp [Ty.bulks]
theorem wl_le (l : List stepTy.El) (i : Nat) : wl (l.take i) ≤ wl l := by
  have e : wl l = wl (l.take i ++ l.drop i) := by rw [List.take_append_drop]
  rw [e]
  unfold wl
  rw [bulks_append]
  omega
theorem writes_loop {K : KT} {w0 : World} {script0 : Value} {script : List stepTy.El} {bw bl : Nat} {vs : List Value} (hcs : SlN 38 w0 script0 script.length vs) (hcx : ∀ (i : Nat) x, script[i]? = some x → Is w0 stepTy x ((vs.drop (i * 38)).take 38)) (hb : wl script ≤ 1048576) (hn : script.length ≤ 1048576) (hK : ∀ w, Keep [] w0 w → K (.bool true) w) :
    ∀ (k i : Nat) (A C O : List Rw) (out : Value) (w : World), k + i = script.length + 1 → 1 ≤ k → CW w0 w bw bl A C O out → A.map (·.2) = C.map (·.2) → (∀ p ∈ A, (p : Rw).2.length ≤ wl (script.take i)) → (∀ p ∈ O, (p : Rw).2.length ≤ 1099511627776) → O.length ≤ 2 * i →
      witnesslaw2_CodecWrites.L3 K (witnesslaw2_CodecWrites.C2 K) k script0 (pB bw) (pB bl) out script0 (.int .i64 (script.length : Int)) (.int .i64 (i : Int)) w := by
  intro k
  induction k with
  | zero => intro i _ _ _ _ _ _ h; omega
  | succ k ih =>
    intro i A C O out w hi _ h heq hm hl hO
    have hlen : lenS script0 = some (.int .i64 (script.length : Int)) := by
      rcases hcs with ⟨rfl, e, _⟩ | ⟨a, c, rfl, _⟩
      · rw [e]; rfl
      · rfl
    unfold witnesslaw2_CodecWrites.L3 witnesslaw2_CodecWrites.C3
    refine s_lss ?_
    refine s_cnd (fun hc => ?_) (fun hc => hK w h.kp)
    have hi' : i < script.length := by omega
    have htl := wl_le script (i + 1)
    have htk := wl_take hi'
    have hx := hcx i script[i] (List.getElem?_eq_getElem hi')
    have hsm : (stepText script[i]).length ≤ 1048576 := by omega
    unfold witnesslaw2_CodecWrites.C5
    refine SlN.at (hcs.kp0 h.kp) (by omega) (show (i : Int).toNat < script.length by omega) ?_
    intro a ha _
    rw [Int.toNat_natCast] at ha
    have hvl : vs.length = script.length * 38 := hcs.length
    have hcl : ((vs.drop (i * 38)).take 38).length = 38 := by
      rw [List.length_take, List.length_drop]
      omega
    obtain ⟨kind, who, mm, n, vb, sum, nth, ecs, hnn, hsum, hv⟩ := step_cells hx hcl
    rw [ecs] at ha
    have hsl : (stepCells kind who n mm vb sum nth).length = 38 := by simp [stepCells, hsum]
    refine s_ldNA ha hsl ?_
    refine s_newB (l := [.int .i64 0, .int .i64 0, .int .u64 0, .int .i64 0, .slice none 0 0] ++ List.replicate 33 (.int .u8 0)) (by kernel_rfl) ?_
    intro w1 hb1 k1 hs1
    refine s_stNB0 (vs := stepCells kind who n mm vb sum nth) hb1 hsl (by simp) ?_ ?_
    · intro u hu
      simp only [stepCells, List.mem_append, List.mem_cons, List.not_mem_nil, or_false, List.mem_map] at hu
      rcases hu with (rfl | rfl | rfl | rfl | rfl) | (⟨x, _, rfl⟩ | rfl)
      · rfl
      · rfl
      · rfl
      · rfl
      · exact slice_one hv
      · rfl
      · rfl
    intro w2 hb2 k2
    have k02 : Keep [] w w2 := keep2 k1 k2 (Nat.le_refl _)
    have h2 := h.step k02
    have f7 := h.far (b := w.heap.size) (Nat.le_refl _)
    refine s_fad ?_
    refine s_ldB (o := 0) (i := 1) hb2 (v := .int .i64 who) rfl ?_
    refine s_neq ?_
    have hmw : wl (script.take i) ≤ 1099500000000 := by omega
    have hmw2 : wl (script.take i) + (stepText script[i]).length + 33 ≤ wl (script.take (i + 1)) := by omega
    generalize wl (script.take i) = mi at *
    generalize stepText script[i] = ti at *
    have hN : ∀ m, m ≤ wl (script.take (i + 1)) → NextW w0 bw bl (witnesslaw2_CodecWrites.C4 K (witnesslaw2_CodecWrites.L3 K (witnesslaw2_CodecWrites.C2 K) k)) script0 script0 (.int .i64 (script.length : Int)) (.int .i64 (i : Int)) (2 * i + 2) m := by
      intro m hmm A' C' O' out' w' h' heq' hm' hl' hO'
      unfold witnesslaw2_CodecWrites.C4
      refine s_addi (by rw [i64min, i64max]; omega) ?_
      exact ih (i + 1) A' C' O' out' w' (by omega) (by omega) h' heq' (fun p hp => Nat.le_trans (hm' p hp) hmm) hl' (by omega)
    have go : ∀ k' : Nat, k' < 2 → witnesslaw2_CodecWrites.C6 K (witnesslaw2_CodecWrites.C4 K (witnesslaw2_CodecWrites.L3 K (witnesslaw2_CodecWrites.C2 K) k)) (witnesslaw2_CodecWrites.C4 K (witnesslaw2_CodecWrites.L3 K (witnesslaw2_CodecWrites.C2 K) k)) script0 (pB bw) (pB bl) out (.int .i64 (i : Int)) (pB w.heap.size) (.int .i64 (k' : Int)) script0 (.int .i64 (script.length : Int)) (.int .i64 (i : Int)) w2 := fun k' hk' =>
      
      step_c (m := mi) (n := 2 * i) (t := ti) h2 hk' hnn hsum hv hsm heq hm hmw hl hO (by omega) hb2 f7 hlen (by omega) (by omega) (hN _ hmw2) (hN _ hmw2)
    exact s_cnd (fun _ => go 1 (by omega)) (fun _ => go 0 (by omega))
theorem writes_c {w : World} (script : List stepTy.El) (script0 : Value) (hsc : Is w (.slice stepTy) script [script0]) (hb : Ty.bulk (.slice stepTy) script ≤ 1048576) :
    CallsR Try.prog 3 #[script0] w fun r w' => r = .bool true ∧ Keep [] w w' := by
  have hbk : wl script + 1 ≤ 1048576 := hb
  have hlb : script.length ≤ wl script := bulks_len _ (fun x => by rw [step_bulk]; omega) script
  obtain ⟨cv, vs, ec, hcs, hcx⟩ := hsc
  obtain rfl : script0 = cv := by simpa using ec
  apply witnesslaw2_CodecWrites.sound
  unfold witnesslaw2_CodecWrites.J witnesslaw2_CodecWrites.C1
  refine s_newB (l := [.slice none 0 0, .slice none 0 0]) (by kernel_rfl) ?_
  intro w1 hb1 k1 hs1
  refine s_newB (l := [.slice none 0 0, .slice none 0 0]) (by kernel_rfl) ?_
  intro w2 hb2 k2 hs2
  refine (hcs.kp0 (k1.tr k2)).len ?_
  have nil : ∀ (i : Nat) (p : Rw), ([(.slice none 0 0, []), (.slice none 0 0, [])] ++ [(.slice none 0 0, []), (.slice none 0 0, [])] ++ [] : List Rw)[i]? = some p → p = (.slice none 0 0, []) := by
    intro i p hp
    have := List.mem_of_getElem? hp
    simpa using this
  have hln : script.length ≤ 1048576 := by omega
  refine ⟨script.length + 1, writes_loop (script := script) hcs hcx (Nat.le_of_succ_le hbk) hln (fun w' k' => ⟨rfl, k'⟩) _ 0 [(.slice none 0 0, []), (.slice none 0 0, [])] [(.slice none 0 0, []), (.slice none 0 0, [])] [] _ w2 rfl (by omega) ?_ rfl (by simp) (by simp) (by simp)⟩
  refine ⟨k1.tr k2, rfl, rfl, hb1.kp k2 (by simp), hb2, Nat.le_refl _, by omega, ⟨fun i p hp => ?_, fun i j p q hp hq _ b hbp => ?_⟩, World.ownsRow_nil _ _ _ _, by simp⟩
  · rw [nil i p hp]
    exact World.ownsRow_nil _ _ _ _
  · rw [nil i p hp] at hbp
    simp [blkOf] at hbp
end Go.Proofs.Ytmljgkjcoemadaa
