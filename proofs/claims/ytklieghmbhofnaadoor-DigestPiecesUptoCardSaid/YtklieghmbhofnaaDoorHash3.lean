/-
  SHA-256: the program's hash, written piece by piece.
-/
import Derived.Test.YtklieghmbhofnaaDoorHash2
import Derived.Laws.CopyRow
namespace Go.Proofs.YtklieghmbhofnaaDoor
open Go Go.Ev Go.RowKit
set_option maxRecDepth 100000
theorem u8Size : (Tryd.prog.info? 5).map (·.size) = some 1 := by kernel_rfl
theorem s_copy {w : World} {K : KT} {g o dLen dCap : Nat} {l vs : List Value} {e : TypeId} {v : Value} (hb : Blk w g l e) (hv : Sl w v vs) (hne : vs ≠ []) (h1 : ∀ u ∈ vs, u.oneCell' = true) (hfit : o + dLen ≤ l.length)
    (h : ∀ w', Blk w' g (l.take o ++ vs.take (min vs.length dLen) ++ l.drop (o + min vs.length dLen)) e → Keep [g] w w' → K (.int .i64 ((min vs.length dLen : Nat) : Int)) w') : semW Tryd.prog (bltS .copy #[23, 23] 3 #[.slice (some ⟨g, o, none⟩) dLen dCap, v]) w K := by
  rcases hv with ⟨_, hx⟩ | ⟨a, c, rfl, hc, hh⟩
  · exact absurd hx hne
  have hcs : (vs.take (min vs.length dLen)).length = min vs.length dLen := by rw [List.length_take]; omega
  have hr := run_copy_row (P := Tryd.prog) w 23 23 3 5 g o dLen dCap a vs.length c l.toArray e (vs.take (min vs.length dLen)) Tryd.underlying23 u8Size hb (by rw [hcs])
    (fun j u hj => hh j u (by rw [List.getElem?_take] at hj; split at hj; exact hj; simp at hj)) (by rw [hcs]; simp; omega) (fun u hu => h1 u (List.mem_of_mem_take hu))
  refine ⟨_, _, hr, ?_⟩
  rw [hcs] at *
  refine h _ ?_ ?_
  · unfold Blk
    exact setRow_heap w g l.toArray _ e _ hb
  · exact ⟨rfl, rfl, rfl, by simp, fun k _ hk => setRow_other w g k _ (fun e => hk (by simp [e]))⟩
theorem s_slFrom {w : World} {K : KT} {k : IntKind} {v : Value} {vs : List Value} {n : Nat} {m : Int} (hm : m = (n : Int)) (hv : Sl w v vs) (hn : n ≤ vs.length) (h : ∀ v', Sl w v' (vs.drop n) → (∀ b ∈ blkOf v', b ∈ blkOf v) → K v' w) : optW (slS 1 v (some (.int k m)) none none) w K := by
  subst hm
  rcases hv with ⟨rfl, rfl⟩ | ⟨a, c, rfl, hc, hh⟩
  · have : n = 0 := by simpa using hn
    subst this
    refine s_opt (v := .slice none 0 0) rfl (h _ (.inl ⟨rfl, rfl⟩) (fun b hb => hb))
  · have e2 : bndO (.int k (n : Int)) vs.length = some n := by simp [bndO]; omega
    have e3 : bndsO vs.length c (some (.int k (n : Int))) none none = some (n, vs.length, c) := by
      delta bndsO
      simp only [e2]
    refine s_opt (v := .slice (if c = n then some a else some (a.add n)) (vs.length - n) (c - n)) ?_ ?_
    · simp only [slS, e3, Nat.mul_one, Option.map_some]
    · by_cases hcn : c = n
      · rw [if_pos hcn]
        have hd : vs.drop n = [] := by rw [List.drop_eq_nil_iff]; omega
        refine h _ (.inr ⟨a, c - n, by rw [List.length_drop], by rw [List.length_drop]; omega, by rw [hd]; intro j u hj; simp at hj⟩) (fun b hb => hb)
      · rw [if_neg hcn]
        refine h _ (.inr ⟨a.add n, c - n, by rw [List.length_drop], by rw [List.length_drop]; omega, ?_⟩) (fun b hb => ?_)
        · intro j u hj
          rw [List.getElem?_drop] at hj
          have := hh (n + j) u hj
          have e : (a.add n).add j = a.add (n + j) := by
            unfold Addr.add
            by_cases hj0 : j = 0
            · subst hj0; simp
            · by_cases hn0 : n = 0
              · subst hn0; simp
              · simp [hj0, hn0, Nat.add_assoc]
          rw [e]
          exact this
        · simp only [blkOf, List.mem_singleton] at hb ⊢
          rw [add_block] at hb
          exact hb
theorem Sl.kp' {w w' : World} {v : Value} {vs : List Value} {S : List Nat} (h : Sl w v vs) (k : Keep S w w') (hn : vs ≠ [] → ∀ b ∈ blkOf v, b ∉ S) : Sl w' v vs := by
  by_cases hv : vs = []
  · subst hv
    rcases h with h | ⟨a, c, rfl, hc, h⟩
    · exact .inl h
    · exact .inr ⟨a, c, rfl, hc, fun j u hj => by simp at hj⟩
  · exact h.kp k (hn hv)
theorem Sl.lt {w : World} {v : Value} {vs : List Value} (h : Sl w v vs) (hv : vs ≠ []) : ∀ b ∈ blkOf v, b < w.heap.size := by
  rcases h with ⟨_, h⟩ | ⟨a, c, rfl, hc, h⟩
  · exact absurd h hv
  · intro b hb
    simp only [blkOf, List.mem_singleton] at hb
    subst hb
    cases vs with
    | nil => exact absurd rfl hv
    | cons x xs =>
      have := World.block_lt_of_cell? w _ (h 0 x rfl)
      rwa [add_block] at this
/-- A hash in block 'h' that has taken 'T', its size cell as told. -/
def HS (w : World) (h : Nat) (T : List UInt8) (size : Nat) : Prop := ∃ rest, rest.length = 64 ∧ Blk w h (hcells (full T (T.length / 64)).l rest size) 62 ∧ rest.take (T.length % 64) = T.drop (64 * (T.length / 64))
theorem HS.lt {w : World} {h size : Nat} {T : List UInt8} (hs : HS w h T size) : h < w.heap.size := by
  obtain ⟨_, _, hb, _⟩ := hs
  exact hb.lt
theorem HS.kp {w w' : World} {h size : Nat} {T : List UInt8} {S : List Nat} (hs : HS w h T size) (k : Keep S w w') (hn : h ∉ S) : HS w' h T size := by
  obtain ⟨rest, h1, hb, h2⟩ := hs
  exact ⟨rest, h1, hb.kp k hn, h2⟩
theorem hc_copy {st : List (BitVec 32)} {rest r : List UInt8} {size at_ : Nat} (h8 : st.length = 8) (h64 : rest.length = 64) (h : at_ + r.length ≤ 64) :
    (hcells st rest size).take (8 + at_) ++ bvs r ++ (hcells st rest size).drop (8 + at_ + r.length) = hcells st (rest.take at_ ++ r ++ rest.drop (at_ + r.length)) size := by
  unfold hcells
  have hl : (uvs st).length = 8 := by simp [h8]
  rw [List.append_assoc (uvs st), List.take_append, List.take_of_length_le (by omega), hl, show 8 + at_ - 8 = at_ by omega, List.take_append_of_le_length (by simp; omega)]
  rw [show 8 + at_ + r.length = 8 + (at_ + r.length) by omega, ← List.drop_drop, List.drop_append_of_le_length (by omega), List.drop_of_length_le (l := uvs st) (by omega), List.nil_append, List.drop_append_of_le_length (by simp; omega)]
  simp only [bvs, List.map_append, List.map_take, List.map_drop, List.append_assoc]
theorem write_loop (h : Nat) (size : Nat) (Kn : V0) (K : KT) (w0 : World) (hgr : 2 ≠ h) (hgf : 1 ≠ h) (F : List UInt8) (hK : ∀ w, Keep [h] w0 w → HS w h F size → Kn w) :
    ∀ (k : Nat) (T r : List UInt8) (v : Value) (w : World), r.length < k → F = T ++ r → F.length ≤ 1099511627776 → Keep [h] w0 w → Tabs w → HS w h T size → SB w v r → (r ≠ [] → h ∉ blkOf v) →
      digest_Hash_Write.L2 K Kn k (.pointer (some ⟨h, 0, none⟩)) v (.int .i64 ((T.length % 64 : Nat) : Int)) w := by
  intro k
  induction k with
  | zero => intro T r v w h; omega
  | succ k ih =>
    intro T r v w hk hF hFl kp ht hs hv hnb
    have hFl' : T.length + r.length ≤ 1099511627776 := by rw [hF, List.length_append] at hFl; exact hFl
    unfold digest_Hash_Write.L2 digest_Hash_Write.C2
    refine hv.len ?_
    rw [show (bvs r).length = r.length by simp only [bvs, List.length_map]]
    refine s_gtr ?_
    refine s_cnd (fun hc => ?_) (fun hc => ?_)
    · have hrne : r ≠ [] := by
        rintro rfl
        simp at hc
      have hnb := hnb hrne
      obtain ⟨rest, h64, hb, hrest⟩ := hs
      generalize hat : T.length % 64 = a at *
      generalize hq : T.length / 64 = q at *
      have hTq : T.length = 64 * q + a := by omega
      have ha : a < 64 := by omega
      have hn : min r.length (64 - a) ≤ r.length := Nat.min_le_left _ _
      generalize hnn : min r.length (64 - a) = n at *
      have hn0 : 0 < n := by omega
      unfold digest_Hash_Write.C3
      refine s_nilP (s_fad ?_); rw [add_mid]
      refine s_slA64' (lo := a) rfl (by omega) ?_
      rw [add_mid]
      refine s_copy (hb) hv (fun h0 => hrne (by simpa using h0)) (bvs_one _) (by rw [hc_len (stl_len _) h64]; omega) ?_
      rw [show (bvs r).length = r.length by simp only [bvs, List.length_map], hnn]
      intro w1 hb1 k1
      have e1 : (bvs r).take n = bvs (r.take n) := by simp only [bvs, List.map_take]
      have e2 : (r.take n).length = n := by rw [List.length_take]; omega
      rw [show 0 + 8 + a * 1 = 8 + a by omega, e1] at hb1
      have e3 := hc_copy (st := (full T q).l) (rest := rest) (r := r.take n) (size := size) (at_ := a) (stl_len _) h64 (by rw [e2]; omega)
      rw [e2] at e3
      rw [e3] at hb1
      generalize hr' : rest.take a ++ r.take n ++ rest.drop (a + n) = rest' at hb1
      have hr'l : rest'.length = 64 := by rw [← hr']; simp only [List.length_append, List.length_take, List.length_drop]; omega
      have hv1 : SB w1 v r := Sl.kp hv k1 (fun b hx => by simp; rintro rfl; exact hnb hx)
      refine s_slFrom (n := n) rfl hv1 (by simp only [bvs, List.length_map]; exact hn) ?_
      intro v' hv' hbl
      have hv'' : SB w1 v' (r.drop n) := by
        have : (bvs r).drop n = bvs (r.drop n) := by simp only [bvs, List.map_drop]
        unfold SB
        rw [← this]
        exact hv'
      have hnb' : h ∉ blkOf v' := fun hx => hnb (hbl h hx)
      refine s_addi (by rw [i64min, i64max]; omega) ?_
      refine s_eql ?_
      have hTd : (T ++ r.take n).drop (64 * q) = rest.take a ++ r.take n := by
        rw [List.drop_append_of_le_length (by omega), hrest]
      have hF' : F = (T ++ r.take n) ++ r.drop n := by rw [List.append_assoc, List.take_append_drop, hF]
      have hlen' : (r.drop n).length < k := by rw [List.length_drop]; omega
      have hkk : Keep [h] w0 w1 := kp.tr k1
      refine s_cnd (fun hfull => ?_) (fun hpart => ?_)
      · have han : a + n = 64 := by omega
        refine (hblock_c (full T q) rest' size hr'l h w1 (ht.kp k1 (by simpa using hgr) (by simpa using hgf)) hb1).mono ?_
        rintro x w2 ⟨rfl, k2, hb2⟩
        have hd : rest.drop (a + n) = [] := by rw [List.drop_eq_nil_iff]; omega
        rw [hd, List.append_nil] at hr'
        have hTl : (T ++ r.take n).length = 64 * (q + 1) := by rw [List.length_append, e2]; omega
        have hm := ih (T ++ r.take n) (r.drop n) v' w2 hlen' hF' hFl (hkk.tr k2) ((ht.kp k1 (by simpa using hgr) (by simpa using hgf)).kp k2 (by simpa using hgr) (by simpa using hgf)) ?_ (Sl.kp hv'' k2 (fun b hx => by simp; rintro rfl; exact hnb' hx)) (fun _ => hnb')
        · rw [hTl, Nat.mul_mod_right] at hm
          exact hm
        · refine ⟨rest', hr'l, ?_, ?_⟩
          · rw [hTl, Nat.mul_div_cancel_left _ (by omega), full_succ, full_append T (r.take n) q (by omega), hTd, hr', List.take_of_length_le (by omega)]
            exact hb2
          · rw [hTl, Nat.mul_mod_right, Nat.mul_div_cancel_left _ (by omega), List.take_zero, List.drop_of_length_le (by omega)]
      · have han : a + n < 64 := by omega
        have hTl : (T ++ r.take n).length = 64 * q + (a + n) := by rw [List.length_append, e2]; omega
        have hmod : (T ++ r.take n).length % 64 = a + n := by rw [hTl]; omega
        have hdiv : (T ++ r.take n).length / 64 = q := by rw [hTl]; omega
        have hm := ih (T ++ r.take n) (r.drop n) v' w1 hlen' hF' hFl hkk (ht.kp k1 (by simpa using hgr) (by simpa using hgf)) ?_ hv'' (fun _ => hnb')
        · rw [hmod] at hm
          rw [show (a : Int) + (n : Int) = ((a + n : Nat) : Int) by omega]
          exact hm
        · refine ⟨rest', hr'l, ?_, ?_⟩
          · rw [hdiv, full_append T (r.take n) q (by omega)]
            exact hb1
          · rw [hmod, hdiv, hTd, ← hr', List.append_assoc, ← List.append_assoc]
            rw [List.take_append_of_le_length (by simp only [List.length_append, List.length_take]; omega), List.take_of_length_le (by simp only [List.length_append, List.length_take]; omega)]
    · have hr0 : r = [] := by
        have : r.length = 0 := by omega
        exact List.eq_nil_of_length_eq_zero this
      subst hr0
      rw [List.append_nil] at hF
      subst hF
      exact hK w kp hs
end Go.Proofs.YtklieghmbhofnaaDoor
