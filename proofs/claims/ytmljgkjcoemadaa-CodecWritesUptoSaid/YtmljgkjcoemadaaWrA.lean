/-
  The writer's Addr and Len.
-/
import Derived.Test.YtmljgkjcoemadaaWr
namespace Go.Proofs.Ytmljgkjcoemadaa
open Go Go.Ev Go.RowKit
set_option maxRecDepth 100000
theorem waddr_c {w : World} {B b o : Nat} {e : TypeId} {cs : List Value} {v : Value} {l s : List UInt8} {c : UInt8} (h : WS w B b o e cs v l) (hs : s.length = 32) (hl : l.length + 33 ≤ 1099511627776) :
    CallsR Try.prog 19 #[.pointer (some ⟨b, o, none⟩), .agg (bvs s ++ [bv c]).toArray] w fun q w' => q = .tuple #[] ∧ ∃ v', WS w' B b o e (cs.set o v') v' (l ++ (s ++ [c])) ∧ WT w w' b v v' := by
  apply codec_Writer_Addr.sound
  unfold codec_Writer_Addr.J codec_Writer_Addr.C1
  refine s_newB (l := bvs s ++ [bv c]) rfl ?_
  intro w1 hb1 k1 _
  have hlt := h.blk.lt
  have hvl := owns_lt h.own
  refine s_fad ?_
  rw [add_mid]
  refine s_ldNB (vs := bvs s) hb1 (by simp [hs]) (fun j u hj => by
    rw [Nat.zero_add, List.getElem?_append_left (by
      by_cases hx : j < (bvs s).length
      · exact hx
      · rw [List.getElem?_eq_none (by omega)] at hj; cases hj)]
    exact hj) ?_
  refine (wsum_c (h.kp k1) hs (by omega)).mono ?_
  rintro r w2 ⟨rfl, v2, h2, t2⟩
  have hb2 := hb1.kp t2.kp (by
    intro hx
    rcases List.mem_cons.1 hx with e | hx
    · omega
    · have := (hvl _ hx).2; omega)
  refine s_fad ?_
  refine s_ldB (o := 0) hb2 (v := bv c) (by rw [List.getElem?_append_right (by simp [hs])]; simp [hs]) ?_
  refine (wbyte_c h2 (by simp [hs]; omega) c).mono ?_
  rintro r w3 ⟨rfl, v3, h3, t3⟩
  refine ⟨rfl, v3, ?_, ((WT.k0 k1 b v).tr t2).tr t3⟩
  simpa using h3
theorem wlen_c {w : World} {B b o : Nat} {e : TypeId} {cs : List Value} {v : Value} {l : List UInt8} (h : WS w B b o e cs v l) :
    CallsR Try.prog 9 #[.pointer (some ⟨b, o, none⟩)] w fun r w' => r = .int .i64 (l.length : Int) ∧ w' = w := by
  apply codec_Writer_Len.sound
  unfold codec_Writer_Len.J codec_Writer_Len.C1
  refine h.ld ?_
  have hsb : SB w v l := owns_Sl h.own
  refine SB.len hsb ?_
  exact ⟨rfl, rfl⟩
end Go.Proofs.Ytmljgkjcoemadaa
