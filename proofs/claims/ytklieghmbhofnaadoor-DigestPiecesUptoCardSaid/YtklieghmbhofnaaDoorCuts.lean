/-
  The cut is not seen: by parts, piece by piece, with sums between, by forks taken at the cuts.
-/
import Derived.Test.YtklieghmbhofnaaDoorLinear
import Derived.Test.YtklieghmbhofnaaDoorTy
namespace Go.Proofs.YtklieghmbhofnaaDoor
open Go Go.Ev Go.RowKit
set_option maxRecDepth 100000
/-- v[lo:hi], the bytes known in another world. -/
theorem s_slAB {w0 w : World} {K : KT} {v : Value} {l : List UInt8} {k k' : IntKind} {lo hi : Nat} {m m' : Int} (hm : m = (lo : Int)) (hm' : m' = (hi : Int)) (hv : SB w0 v l) (h1 : lo ≤ hi) (h2 : hi ≤ l.length) (h : ∀ v', SB w0 v' ((l.take hi).drop lo) → (∀ b ∈ blkOf v', b ∈ blkOf v) → K v' w) : optW (slS 1 v (some (.int k m)) (some (.int k' m')) none) w K := by
  subst hm hm'
  rcases hv with ⟨rfl, hx⟩ | ⟨a, c, rfl, hc, hh⟩
  · have hl : l = [] := by simpa using hx
    subst hl
    have e1 : hi = 0 := by simpa using h2
    subst e1
    have e2 : lo = 0 := by omega
    subst e2
    exact s_opt (v := .slice none 0 0) rfl (h _ (.inl ⟨rfl, rfl⟩) (fun b hb => hb))
  · simp only [List.length_map] at hc
    have e1 : bndO (.int k' (hi : Int)) c = some hi := by simp [bndO]; omega
    have e2 : bndO (.int k (lo : Int)) hi = some lo := by simp [bndO]; omega
    have e3 : bndsO (List.length (bvs l)) c (some (.int k (lo : Int))) (some (.int k' (hi : Int))) none = some (lo, hi, c) := by
      delta bndsO
      simp only [e1, e2]
    refine s_opt (v := .slice (if c = lo then some a else some (a.add lo)) (hi - lo) (c - lo)) ?_ ?_
    · simp only [slS, e3, Nat.mul_one, Option.map_some]
    · have hl : ((l.take hi).drop lo).length = hi - lo := by simp; omega
      by_cases hcn : c = lo
      · rw [if_pos hcn]
        have hd : (l.take hi).drop lo = [] := by rw [List.drop_eq_nil_iff]; simp; omega
        refine h _ (.inr ⟨a, c - lo, by simp; omega, by simp; omega, by rw [hd]; intro j u hj; simp at hj⟩) (fun b hb => hb)
      · rw [if_neg hcn]
        refine h _ (.inr ⟨a.add lo, c - lo, by simp; omega, by simp; omega, ?_⟩) (fun b hb => ?_)
        · intro j u hj
          rw [bvs, List.map_drop, List.map_take, List.getElem?_drop, List.getElem?_take] at hj
          split at hj
          · have := hh (lo + j) u hj
            have e : (a.add lo).add j = a.add (lo + j) := by
              unfold Addr.add
              by_cases hj0 : j = 0
              · subst hj0; simp
              · by_cases hn0 : lo = 0
                · subst hn0; simp
                · simp [hj0, hn0, Nat.add_assoc]
            rw [e]
            exact this
          · cases hj
        · simp only [blkOf, List.mem_singleton] at hb ⊢
          rw [add_block] at hb
          exact hb
theorem seg_app {l : List UInt8} {a b : Nat} (h : a ≤ b) : l.take a ++ (l.take b).drop a = l.take b := by
  have e : l.take a = (l.take b).take a := by rw [List.take_take, Nat.min_eq_left h]
  rw [e, List.take_append_drop]
theorem Is.int_at {w : World} {q k : IntKind} {xs : List Int} {v : Value} {K : KT} (h : Is w (.slice (.int q)) xs [v]) {i : Nat} {n : Int} (hn : n = (i : Int)) (hi : i < xs.length) (hk : ∀ a, ld1 a w = some (.int q (xs.getD i 0)) → K a w) : optW (ixS 1 v (.int k n)) w K := by
  subst hn
  obtain ⟨v', vs, e, hs, hx⟩ := h
  obtain rfl : v = v' := by simpa using e
  have hi0 : ((i : Nat) : Int).toNat < (Ty.lst (e := .int q) xs).length := by rw [Int.toNat_natCast]; exact hi
  refine SlN.at hs (by omega) hi0 ?_
  intro a ha _
  refine hk _ ?_
  have hx' := hx i (xs.getD i 0) (show (xs : List Int)[i]? = some (xs.getD i 0) from getD_of hi)
  simp only [Ty.sz] at hx'
  rw [Int.toNat_natCast, hx'.1] at ha
  have := ha 0 _ rfl
  simp only [ld1]
  rwa [show a.add 0 = a by simp [Addr.add]] at this
/-- Parts that lie in a text. -/
structure PartsIn (w0 w : World) (v : Value) (ls : List (List UInt8)) (xs : List Value) : Prop where
  own : w.ownsRow w0.heap.size 23 1 v ls.length xs
  part : ∀ i, i < ls.length → ∃ u, xs[i]? = some u ∧ SB w0 u (ls.getD i [])
theorem PartsIn.ss {w0 w : World} {v : Value} {ls : List (List UInt8)} {xs : List Value} (h : PartsIn w0 w v ls xs) (k : Keep [] w0 w) : SS w v ls := by
  refine ⟨xs, owns_Sl h.own, by have := h.own.1; simpa using this, fun i hi => ?_⟩
  obtain ⟨u, hu, hs⟩ := h.part i hi
  exact ⟨u, hu, Sl.kp0 hs k⟩
def cutsQ (text : List UInt8) (parts7 text0 h6 : Value) : QTab := [
  (111, fun v _ => v = .bool true), (112, fun v _ => v = .bool true), (113, fun v _ => v = parts7), (114, fun v _ => v = .agg (bvs (sha text)).toArray), (115, fun v _ => v = .agg (bvs (sha text)).toArray),
  (116, fun v _ => v = .bool true), (117, fun v _ => v = .bool true), (118, fun v _ => v = .bool true), (119, fun v _ => v = parts7), (120, fun v _ => v = uv (more 0 text)), (121, fun v _ => v = text0),
  (122, fun v w => SS w v [text]), (123, fun v _ => v = uv (more 0 text)), (124, fun v _ => v = .bool true), (125, fun v _ => v = .bool true), (126, fun v _ => v = .bool true), (127, fun v _ => v = h6),
  (128, fun v _ => v = .agg (bvs (sha text)).toArray), (129, fun v _ => v = .agg (bvs (sha text)).toArray), (130, fun v _ => v = .bool true), (131, fun v _ => v = .bool true), (4, fun v _ => v = .bool true)]
theorem cuts_end {K : KT} {w0 : World} {text0 parts7 : Value} {b5 h : Nat} {text : List UInt8} {ls : List (List UInt8)} (ht : SB w0 text0 text) (h5 : Blk w0 b5 (bvs (sha text)) 43) (hh : HS w0 h text text.length) (hp : SS w0 parts7 ls) (hsm : Small ls) (hfl : ls.flatten = text) (n1 : text.length ≤ 1048576) (htab : Tabs w0) (htb : Tab w0) (hg : 0 < w0.heap.size)
    (hK : ∀ w, Keep [] w0 w → K (.bool true) w) : witnesslaw1_DigestCuts.C2 K text0 (.pointer (some ⟨b5, 0, none⟩)) (.pointer (some ⟨h, 0, none⟩)) parts7 w0 := by
  unfold witnesslaw1_DigestCuts.C2 witnesslaw1_DigestCuts.D4
  have tb : ∀ {w' : World}, Keep [] w0 w' → Tab w' := fun k => htb.keep (k.block _ hg (by simp))
  have tk : ∀ {w' : World}, Keep [] w0 w' → Tabs w' := fun k => htab.kp k (by simp) (by simp)
  refine ⟨fun w' => Keep [] w0 w', fun x y => Keep [] x y, qt (cutsQ text parts7 text0 (.pointer (some ⟨h, 0, none⟩))), (Keep.refl _ _).drew, fun _ _ k h => h.tr k, qt_stab, ?_⟩
  refine ⟨?_, ?_, ?_, ?_, ?_, ?_, ?_, ?_, ?_, ?_, ?_, ?_, ?_, ?_, ?_, ?_, ?_, ?_, ?_, ?_, ?_, ?_, ?_⟩
  · intro f w' hI _
    exact (known_c w' (tk hI) (tb hI) (by have := hI.size; omega)).mono fun v w'' ⟨e, k⟩ => qt_mk k e
  · intro f w' hI ⟨h111, _⟩
    exact qt_mk (Keep.refl _ _) (qt_eq h111 rfl)
  · intro f w' hI ⟨h112, _⟩
    exact rg_run h112 rfl (qt_mk (Keep.refl _ _) rfl)
  · intro f w' hI ⟨h112, h113, _⟩
    refine rg_run h112 rfl ?_
    rw [qt_eq h113 rfl]
    exact (dof_c ls parts7 w' hsm (by rw [hfl]; omega) (hp.kp0 hI) (tk hI)).mono fun v w'' ⟨e, k⟩ => qt_mk k (by rw [hfl] at e; exact e)
  · intro f w' hI ⟨h112, _⟩
    refine rg_run h112 rfl ?_
    exact s_ldNB (vs := bvs (sha text)) (h5.kp hI (by simp)) (by simp [sha_len]) (by simp) (qt_mk (Keep.refl _ _) rfl)
  · intro f w' hI ⟨h112, h114, h115, _⟩
    refine rg_run h112 rfl ?_
    rw [qt_eq h114 rfl, qt_eq h115 rfl]
    exact s_eqSum (sha_len _) (sha_len _) (qt_mk (Keep.refl _ _) (by simp; rfl))
  · intro f w' hI ⟨h112, h116, _⟩
    rw [qt_eq h112 rfl, qt_eq h116 rfl]
    exact s_opt (v := .bool true) rfl (qt_mk (Keep.refl _ _) rfl)
  · intro f w' hI ⟨h117, _⟩
    exact qt_mk (Keep.refl _ _) (qt_eq h117 rfl)
  · intro f w' hI ⟨h118, _⟩
    exact rg_run h118 rfl (qt_mk (Keep.refl _ _) rfl)
  · intro f w' hI ⟨h118, h119, _⟩
    refine rg_run h118 rfl ?_
    rw [qt_eq h119 rfl]
    exact (check_c ls parts7 w' hsm (hp.kp0 hI) (tb hI)).mono fun v w'' ⟨e, e2⟩ => by subst e2; exact qt_mk (Keep.refl _ _) (by rw [hfl] at e; exact e)
  · intro f w' hI ⟨h118, _⟩
    exact rg_run h118 rfl (qt_mk (Keep.refl _ _) rfl)
  · intro f w' hI ⟨h118, h121, _⟩
    refine rg_run h118 rfl ?_
    rw [qt_eq h121 rfl]
    refine s_lit1 eBs (slice_cells ht) ?_
    intro w1 k1 ho
    exact qt_mk k1 (SS.one ho (ht.kp0 (hI.tr k1)))
  · intro f w' hI ⟨h118, h122, _⟩
    refine rg_run h118 rfl ?_
    obtain ⟨w1, k1, hss⟩ := qt_get h122 rfl
    exact check1 k1 hss (by omega) (tb hI) (qt_mk (Keep.refl _ _) rfl)
  · intro f w' hI ⟨h118, h120, h123, _⟩
    refine rg_run h118 rfl ?_
    rw [qt_eq h120 rfl, qt_eq h123 rfl]
    exact s_eql32 (qt_mk (Keep.refl _ _) (by simp; rfl))
  · intro f w' hI ⟨h118, h124, _⟩
    rw [qt_eq h118 rfl, qt_eq h124 rfl]
    exact s_opt (v := .bool true) rfl (qt_mk (Keep.refl _ _) rfl)
  · intro f w' hI ⟨h125, _⟩
    exact qt_mk (Keep.refl _ _) (qt_eq h125 rfl)
  · intro f w' hI ⟨h126, _⟩
    exact rg_run h126 rfl (qt_mk (Keep.refl _ _) rfl)
  · intro f w' hI ⟨h126, h127, _⟩
    refine rg_run h126 rfl ?_
    rw [qt_eq h127 rfl]
    exact (sum_c h text (by omega) w' (tk hI) (hh.kp hI (by simp))).mono fun v w'' ⟨e, k⟩ => qt_mk k e
  · intro f w' hI ⟨h126, _⟩
    refine rg_run h126 rfl ?_
    exact s_ldNB (vs := bvs (sha text)) (h5.kp hI (by simp)) (by simp [sha_len]) (by simp) (qt_mk (Keep.refl _ _) rfl)
  · intro f w' hI ⟨h126, h128, h129, _⟩
    refine rg_run h126 rfl ?_
    rw [qt_eq h128 rfl, qt_eq h129 rfl]
    exact s_eqSum (sha_len _) (sha_len _) (qt_mk (Keep.refl _ _) (by simp; rfl))
  · intro f w' hI ⟨h126, h130, _⟩
    rw [qt_eq h126 rfl, qt_eq h130 rfl]
    exact s_opt (v := .bool true) rfl (qt_mk (Keep.refl _ _) rfl)
  · intro f w' hI ⟨h131, _⟩
    exact qt_mk (Keep.refl _ _) (qt_eq h131 rfl)
  · intro f w' hI ⟨_, _, _, _, _, _, _, _, _, _, _, _, _, _, _, _, _, _, _, _, _, h4, _⟩
    rw [qt_eq h4 rfl]
    exact hK w' hI
/-- What one round does, once the cut is known. -/
def midQ (T : List UInt8) (h6 text0 end11 : Value) : QTab := [
  (82, fun v _ => v = h6), (83, fun v _ => v = .agg (bvs (sha T)).toArray), (84, fun v _ => v = text0), (85, fun v _ => v = end11), (86, fun v w => SB w v T), (87, fun v w => SS w v [T]), (88, fun v _ => v = .agg (bvs (sha T)).toArray),
  (89, fun v _ => v = .bool false), (90, fun v _ => v = .bool false), (91, fun v _ => v = h6), (92, fun v _ => v = .int .u64 (T.length : Int)), (93, fun v _ => v = end11), (94, fun v _ => v = .int .u64 (T.length : Int)), (95, fun v _ => v = .bool false), (96, fun v _ => v = .bool false)]
theorem cuts_mid {kn : V10} {w0 : World} {text0 cuts1 whole5 parts7 at8 c9 i10 : Value} {h e : Nat} {text : List UInt8} (he : e ≤ text.length) (ht : SB w0 text0 text) (hh : HS w0 h (text.take e) e) (n1 : text.length ≤ 1048576) (htab : Tabs w0)
    (hK : ∀ w, Keep [] w0 w → kn text0 cuts1 whole5 (.pointer (some ⟨h, 0, none⟩)) parts7 at8 c9 i10 (.int .i64 (e : Int)) (.bool false) w) : witnesslaw1_DigestCuts.D11 kn text0 cuts1 whole5 (.pointer (some ⟨h, 0, none⟩)) parts7 at8 c9 i10 (.int .i64 (e : Int)) w0 := by
  have hle : (text.take e).length = e := by simp; omega
  have tk : ∀ {w' : World}, Keep [] w0 w' → Tabs w' := fun k => htab.kp k (by simp) (by simp)
  have hh' : HS w0 h (text.take e) (text.take e).length := by rw [hle]; exact hh
  unfold witnesslaw1_DigestCuts.D11
  refine ⟨fun w' => Keep [] w0 w', fun x y => Keep [] x y, qt (midQ (text.take e) (.pointer (some ⟨h, 0, none⟩)) text0 (.int .i64 (e : Int))), (Keep.refl _ _).drew, fun _ _ k h => h.tr k, qt_stab, ?_⟩
  refine ⟨?_, ?_, ?_, ?_, ?_, ?_, ?_, ?_, ?_, ?_, ?_, ?_, ?_, ?_, ?_, ?_⟩
  · intro f w' hI _
    exact qt_mk (Keep.refl _ _) rfl
  · intro f w' hI ⟨h82, _⟩
    rw [qt_eq h82 rfl]
    exact (sum_c h (text.take e) (by omega) w' (tk hI) (hh'.kp hI (by simp))).mono fun v w'' ⟨e, k⟩ => qt_mk k e
  · intro f w' hI _
    exact qt_mk (Keep.refl _ _) rfl
  · intro f w' hI _
    exact qt_mk (Keep.refl _ _) rfl
  · intro f w' hI ⟨h84, h85, _⟩
    rw [qt_eq h84 rfl, qt_eq h85 rfl]
    exact s_slToB rfl (ht.kp0 hI) he fun v hv _ => qt_mk (Keep.refl _ _) hv
  · intro f w' hI ⟨h86, _⟩
    obtain ⟨w1, k1, hv⟩ := qt_get h86 rfl
    have hv' : SB w' (f 86) (text.take e) := Sl.kp0 hv k1
    refine s_lit1 eBs (slice_cells hv') ?_
    intro w2 k2 ho
    exact qt_mk k2 (SS.one ho (hv'.kp0 k2))
  · intro f w' hI ⟨h87, _⟩
    obtain ⟨w1, k1, hss⟩ := qt_get h87 rfl
    exact (dof_c [text.take e] _ w' (small_one (by omega)) (by simp; omega) (SS.kp0 hss k1) (tk hI)).mono fun v w'' ⟨e1, k⟩ => qt_mk k (by rw [show [text.take e].flatten = text.take e by simp] at e1; exact e1)
  · intro f w' hI ⟨h83, h88, _⟩
    rw [qt_eq h83 rfl, qt_eq h88 rfl]
    exact s_neSum (sha_len _) (sha_len _) (qt_mk (Keep.refl _ _) (by simp; rfl))
  · intro f w' hI ⟨h89, _⟩
    exact qt_mk (Keep.refl _ _) (qt_eq h89 rfl)
  · intro f w' hI ⟨h90, _⟩
    exact rg_run h90 rfl (qt_mk (Keep.refl _ _) rfl)
  · intro f w' hI ⟨h90, h91, _⟩
    refine rg_run h90 rfl ?_
    rw [qt_eq h91 rfl]
    exact (size_c h (text.take e) w' (hh'.kp hI (by simp))).mono fun v w'' ⟨e, e2⟩ => by subst e2; exact qt_mk (Keep.refl _ _) e
  · intro f w' hI ⟨h90, _⟩
    exact rg_run h90 rfl (qt_mk (Keep.refl _ _) rfl)
  · intro f w' hI ⟨h90, h93, _⟩
    refine rg_run h90 rfl ?_
    rw [qt_eq h93 rfl]
    exact s_cvi (by rw [u64min, u64max]; omega) (qt_mk (Keep.refl _ _) (by show Value.int .u64 (e : Int) = .int .u64 ((text.take e).length : Int); rw [hle]))
  · intro f w' hI ⟨h90, h92, h94, _⟩
    refine rg_run h90 rfl ?_
    rw [qt_eq h92 rfl, qt_eq h94 rfl]
    exact s_neq (qt_mk (Keep.refl _ _) (by simp; rfl))
  · intro f w' hI ⟨h90, h95, _⟩
    rw [qt_eq h90 rfl, qt_eq h95 rfl]
    exact s_opt (v := .bool false) rfl (qt_mk (Keep.refl _ _) rfl)
  · intro f w' hI ⟨_, _, _, _, _, _, _, _, _, _, _, _, _, _, h96, _⟩
    rw [qt_eq h96 rfl]
    exact hK w' hI
theorem seg_flat {text : List UInt8} {ls : List (List UInt8)} {a e : Nat} (h : a ≤ e) (hfl : ls.flatten = text.take a) : (ls ++ [(text.take e).drop a]).flatten = text.take e := by
  rw [List.flatten_append, hfl]
  simp only [List.flatten_cons, List.flatten_nil, List.append_nil]
  exact seg_app h
theorem small_flat {ls : List (List UInt8)} (h1 : ls.length ≤ 1073741824) (h2 : ls.flatten.length ≤ 1073741824) : Small ls := ⟨h1, fun i => by have := flat_part (ls := ls) i; omega⟩
theorem cuts_round {K : KT} {kn : V8} {w0 : World} {text0 cuts1 i10 : Value} {text : List UInt8} {b5 h : Nat} (h5 : w0.heap.size ≤ b5) (hh5 : w0.heap.size ≤ h) (hne : h ≠ b5) (ht : SB w0 text0 text) (n1 : text.length ≤ 1048576) (htab : Tabs w0) (htb : Tab w0) (hg : 0 < w0.heap.size)
    {a e : Nat} (hae : a ≤ e) (he : e ≤ text.length) {parts7 : Value} {ls : List (List UInt8)} {xs : List Value} (hls : ls.length ≤ 1048576) (w : World) (kp : Keep [] w0 w) (hb5 : Blk w b5 (bvs (sha text)) 43) (hh : HS w h (text.take a) a) (hp : PartsIn w0 w parts7 ls xs)
    (hK : ∀ v xs' w', Keep [] w0 w' → Blk w' b5 (bvs (sha text)) 43 → HS w' h (text.take e) e → PartsIn w0 w' v (ls ++ [(text.take e).drop a]) xs' → kn text0 cuts1 (.pointer (some ⟨b5, 0, none⟩)) (.pointer (some ⟨h, 0, none⟩)) v (.int .i64 (e : Int)) (uv (more 0 (text.take e))) i10 w') :
    witnesslaw1_DigestCuts.C8 K kn text0 cuts1 (.pointer (some ⟨b5, 0, none⟩)) (.pointer (some ⟨h, 0, none⟩)) parts7 (.int .i64 (a : Int)) (uv (more 0 (text.take a))) i10 (.int .i64 (e : Int)) w := by
  have hlr := htab.lr
  have hlf := htab.lf
  have hseg : ((text.take e).drop a).length = e - a := by simp; omega
  have hla : (text.take a).length = a := by simp; omega
  have hle : (text.take e).length = e := by simp; omega
  have tk : ∀ {w' : World}, Keep [] w0 w' → Tabs w' := fun k => htab.kp k (by simp) (by simp)
  have tb : ∀ {w' : World}, Keep [] w0 w' → Tab w' := fun k => htb.keep (k.block _ hg (by simp))
  have far : ∀ {v : Value}, (∀ b ∈ blkOf v, b ∈ blkOf text0) → text ≠ [] → ∀ b ∈ blkOf v, b < w0.heap.size := fun hb hx b hbv => Sl.lt ht (by simpa using hx) b (hb b hbv)
  unfold witnesslaw1_DigestCuts.C8
  refine s_slAB rfl rfl ht hae he ?_
  intro v54 hv54 _
  refine s_lit1 eBs (slice_cells hv54) ?_
  intro w1 k1 ho1
  have kp1 := kp.tr k1
  have hop := owns_kp hp.own k1 (by simp)
  refine s_app' (base := w0.heap.size) eBs hop (owns_Sl ho1) (by intro u hu; simp at hu; subst hu; rcases hv54 with ⟨rfl, _⟩ | ⟨_, _, rfl, _⟩ <;> rfl) (by simp; unfold maxLen; omega) (by simp; omega) kp1.size ?_
  intro v56 w2 ho2 k2 _
  have kp2 : Keep [] w0 w2 := keepNew kp1 k2 (fun b hb => (owns_lt hop b hb).1)
  have hown : ∀ b ∈ blkOf parts7, b ≠ h ∧ b ≠ b5 := by
    intro b hb
    constructor
    · rintro rfl
      have h1 := owns_lt hp.own
      rcases hp.own.2 with ⟨rfl, _⟩ | ⟨g, cap, cur, rfl, _, hgg, _⟩
      · simp [blkOf] at hb
      · simp [blkOf] at hb
        subst hb
        obtain ⟨rest, _, hbk, _⟩ := hh
        unfold Blk at hbk
        rw [hgg] at hbk
        simp at hbk
    · rintro rfl
      rcases hp.own.2 with ⟨rfl, _⟩ | ⟨g, cap, cur, rfl, _, hgg, _⟩
      · simp [blkOf] at hb
      · simp [blkOf] at hb
        subst hb
        unfold Blk at hb5
        rw [hgg] at hb5
        simp at hb5
  have hb52 : Blk w2 b5 (bvs (sha text)) 43 := (hb5.kp k1 (by simp)).kp k2 (fun hb => (hown _ hb).2 rfl)
  have hh2 : HS w2 h (text.take a) a := (hh.kp k1 (by simp)).kp k2 (fun hb => (hown _ hb).1 rfl)
  have hp2 : PartsIn w0 w2 v56 (ls ++ [(text.take e).drop a]) (xs ++ [v54]) := by
    refine ⟨by simpa using ho2, fun i hi => ?_⟩
    have hxl : xs.length = ls.length := by have := hp.own.1; simpa using this
    by_cases hil : i < ls.length
    · obtain ⟨u, hu, hs⟩ := hp.part i hil
      refine ⟨u, by rw [List.getElem?_append_left (by omega)]; exact hu, ?_⟩
      rw [List.getD_eq_getElem?_getD, List.getElem?_append_left (by omega), ← List.getD_eq_getElem?_getD]
      exact hs
    · have : i = ls.length := by simp at hi; omega
      subst this
      refine ⟨v54, by rw [List.getElem?_append_right (by omega), hxl]; simp, ?_⟩
      rw [List.getD_eq_getElem?_getD, List.getElem?_append_right (by omega)]
      simpa using hv54
  refine (fork_c h (text.take a) a w2 hh2).mono ?_
  rintro r w3 ⟨rfl, k3, hf3⟩
  have kp3 := kp2.tr k3
  refine s_slFrom (n := a) rfl (ht.kp0 kp3) (by simp; omega) ?_
  intro v62 hv62 hb62
  have hv62' : SB w3 v62 (text.drop a) := by
    have : (bvs text).drop a = bvs (text.drop a) := by simp only [bvs, List.map_drop]
    unfold SB
    rw [← this]
    exact hv62
  have hs2 := kp2.size
  have hs3 := hf3.lt
  refine (write_c w2.heap.size (text.take a) (text.drop a) v62 w3 (by omega) (by omega) (tk kp3) (by rw [hla]; exact hf3) hv62' (fun hx hb => by have := far hb62 (by rintro rfl; simp at hx) _ hb; omega) (by rw [List.take_append_drop]; omega)).mono ?_
  rintro r w4 ⟨rfl, k4, hf4⟩
  rw [List.take_append_drop] at hf4
  have k24 : Keep [] w2 w4 := keep2 k3 k4 (Nat.le_refl _)
  have kp4 := kp2.tr k24
  have hb54 := hb52.kp k24 (by simp)
  have hh4 := hh2.kp k24 (by simp)
  unfold witnesslaw1_DigestCuts.D12
  refine ⟨fun w' => Keep [] w4 w', (Keep.refl _ _).drew, ?_⟩
  refine s_drw ?_
  have k5 : Keep [] w4 w4.drew := (Keep.refl _ _).drew
  refine (sum_c w2.heap.size text (by omega) w4.drew (tk (kp4.tr k5)) (hf4.kp k5 (by simp))).mono ?_
  rintro r w6 ⟨rfl, k6⟩
  have k46 : Keep [] w4 w6 := k5.tr k6
  refine ⟨k46, ?_⟩
  refine s_rdI (v := .agg (bvs (sha text)).toArray) (fun w' hI => ldN_blk (hb54.kp hI (by simp)) (by simp [sha_len]) (by simp)) ?_
  refine s_neSum (sha_len _) (sha_len _) ?_
  rw [show decide (sha text ≠ sha text) = false by simp]
  refine ⟨k46, ?_⟩
  refine s_gRun rfl ?_
  refine s_gRun rfl ?_
  refine (size_c w2.heap.size text w6 (hf4.kp k46 (by simp))).mono ?_
  rintro r w7 ⟨rfl, rfl⟩
  refine ⟨k46, ?_⟩
  refine s_gRun rfl ?_
  refine s_gRun rfl ?_
  refine (ht.kp0 (kp4.tr k46)).len ?_
  rw [show (bvs text).length = text.length by simp only [bvs, List.length_map]]
  refine s_gRun rfl ?_
  refine s_cvi (by rw [u64min, u64max]; omega) ?_
  refine s_gRun rfl ?_
  refine s_neq ?_
  rw [show decide ((text.length : Int) ≠ (text.length : Int)) = false by simp]
  refine s_opt (v := .bool false) rfl ?_
  have kp7 := kp4.tr k46
  have hh7 := hh4.kp k46 (by simp)
  have hb57 := hb54.kp k46 (by simp)
  have hp7 : PartsIn w0 w7 v56 (ls ++ [(text.take e).drop a]) (xs ++ [v54]) := ⟨owns_kp hp2.own (k24.tr k46) (by simp), hp2.part⟩
  unfold witnesslaw1_DigestCuts.C9
  refine s_false ?_
  refine s_slAB rfl rfl ht hae he ?_
  intro v80 hv80 hb80
  refine (write_c h (text.take a) ((text.take e).drop a) v80 w7 (by omega) (by omega) (tk kp7) (by rw [hla]; exact hh7) (Sl.kp0 hv80 kp7) (fun hx hb => by have := far hb80 (by rintro rfl; simp at hx) _ hb; omega) (by rw [seg_app hae, hle]; omega)).mono ?_
  rintro r w8 ⟨rfl, k8, hh8⟩
  rw [seg_app hae, hle] at hh8
  have kp8 : Keep [] w0 w8 := keep2 kp7 k8 hh5
  have hb58 := hb57.kp k8 (by simp; exact hne.symm)
  have hp8 : PartsIn w0 w8 v56 (ls ++ [(text.take e).drop a]) (xs ++ [v54]) := by
    refine ⟨owns_kp hp7.own k8 ?_, hp7.part⟩
    intro b hb hbh
    simp at hbh
    subst hbh
    rcases hp7.own.2 with ⟨h0, _⟩ | ⟨g, cap, cur, h0, _, hgg, _⟩
    · rw [h0] at hb; simp [blkOf] at hb
    · rw [h0] at hb
      simp [blkOf] at hb
      subst hb
      obtain ⟨rest, _, hbk, _⟩ := hh7
      unfold Blk at hbk
      rw [hgg] at hbk
      simp at hbk
  refine cuts_mid he (ht.kp0 kp8) hh8 n1 (tk kp8) ?_
  intro w9 k9
  have kp9 := kp8.tr k9
  unfold witnesslaw1_DigestCuts.C10
  refine s_false ?_
  refine s_slAB rfl rfl ht hae he ?_
  intro v101 hv101 _
  refine (more_c (more 0 (text.take a)) ((text.take e).drop a) v101 w9 (Sl.kp0 hv101 kp9) (by omega) (tb kp9)).mono ?_
  rintro r w10 ⟨rfl, rfl⟩
  rw [more_append, seg_app hae]
  refine s_slToB rfl (ht.kp0 kp9) he ?_
  intro v106 hv106 _
  refine s_lit1 eBs (slice_cells hv106) ?_
  intro w11 k11 ho11
  have kp11 := kp9.tr k11
  refine check1 (Keep.refl _ _) (SS.one ho11 (Sl.kp0 hv106 k11)) (by omega) (tb kp11) ?_
  refine s_neq32 ?_
  refine s_cndF (fun hx => hx rfl) ?_
  have k811 := k9.tr k11
  exact hK v56 _ w11 kp11 (hb58.kp k811 (by simp)) (hh8.kp k811 (by simp)) ⟨owns_kp hp8.own k811 (by simp), hp8.part⟩
theorem cuts_loop {K : KT} {w0 : World} {text0 cuts1 : Value} {text : List UInt8} {cuts : List Int} {b5 h : Nat} (h5 : w0.heap.size ≤ b5) (hh5 : w0.heap.size ≤ h) (hne : h ≠ b5) (ht : SB w0 text0 text) (n1 : text.length ≤ 1048576) (hcu : Is w0 (.slice (.int .i64)) cuts [cuts1]) (n2 : cuts.length ≤ 1048576) (htab : Tabs w0) (htb : Tab w0) (hg : 0 < w0.heap.size) (hK : ∀ w, Keep [] w0 w → K (.bool true) w) :
    ∀ (k i a : Nat) (parts7 : Value) (ls : List (List UInt8)) (xs : List Value) (w : World), k + i = cuts.length + 2 → 1 ≤ k → a ≤ text.length → (i = cuts.length + 1 → a = text.length) → ls.length = i → Keep [] w0 w → Blk w b5 (bvs (sha text)) 43 → HS w h (text.take a) a → PartsIn w0 w parts7 ls xs → ls.flatten = text.take a →
      witnesslaw1_DigestCuts.L5 K (witnesslaw1_DigestCuts.C2 K) k text0 cuts1 (.pointer (some ⟨b5, 0, none⟩)) (.pointer (some ⟨h, 0, none⟩)) parts7 (.int .i64 (a : Int)) (uv (more 0 (text.take a))) (.int .i64 i) w := by
  intro k
  induction k with
  | zero => intro i _ _ _ _ _ _ h; omega
  | succ k ih =>
    intro i a parts7 ls xs w hi _ ha hend hli kp hb5 hh hp hfl
    obtain ⟨cv, cvs, ec, hcs, hcx⟩ := hcu
    obtain rfl : cuts1 = cv := by simpa using ec
    have hcu : Is w0 (.slice (.int .i64)) cuts [cuts1] := ⟨cuts1, cvs, rfl, hcs, hcx⟩
    have hcl : ∀ {w' : World} {K' : KT}, Keep [] w0 w' → K' (.int .i64 cuts.length) w' → optW (lenS cuts1) w' K' := fun k' hk => (hcs.kp0 k').len hk
    have htl : ∀ {w' : World} {K' : KT}, Keep [] w0 w' → K' (.int .i64 text.length) w' → optW (lenS text0) w' K' := fun k' hk => (ht.kp0 k').len (by rw [show (bvs text).length = text.length by simp only [bvs, List.length_map]]; exact hk)
    unfold witnesslaw1_DigestCuts.L5 witnesslaw1_DigestCuts.C5
    refine hcl kp ?_
    refine s_leq ?_
    by_cases hic : i ≤ cuts.length
    · rw [show decide ((i : Int) ≤ (cuts.length : Int)) = true from decide_eq_true (by omega)]
      refine s_gRun rfl ?_
      refine s_gRun rfl ?_
      refine s_gRun rfl ?_
      refine htl kp ?_
      refine s_gRun rfl ?_
      refine s_leq ?_
      rw [show decide ((a : Int) ≤ (text.length : Int)) = true from decide_eq_true (by omega)]
      refine s_opt (v := .bool true) rfl ?_
      refine s_true ?_
      have next : ∀ e : Nat, a ≤ e → e ≤ text.length → (i = cuts.length → e = text.length) → witnesslaw1_DigestCuts.C8 K (witnesslaw1_DigestCuts.C6 K (witnesslaw1_DigestCuts.L5 K (witnesslaw1_DigestCuts.C2 K) k)) text0 cuts1 (.pointer (some ⟨b5, 0, none⟩)) (.pointer (some ⟨h, 0, none⟩)) parts7 (.int .i64 (a : Int)) (uv (more 0 (text.take a))) (.int .i64 i) (.int .i64 (e : Int)) w := by
        intro e hae he hie
        refine cuts_round h5 hh5 hne ht n1 htab htb hg hae he (by omega) w kp hb5 hh hp ?_
        intro v xs' w' kp' hb5' hh' hp'
        unfold witnesslaw1_DigestCuts.C6
        refine s_addi (by rw [i64min, i64max]; omega) ?_
        exact ih (i + 1) e v _ xs' w' (by omega) (by omega) he (fun hx => hie (by omega)) (by simp [hli]) kp' hb5' hh' hp' (seg_flat hae hfl)
      unfold witnesslaw1_DigestCuts.C7
      refine htl kp ?_
      refine hcl kp ?_
      refine s_lss ?_
      refine s_cnd (fun hc => ?_) (fun hc => next text.length ha (Nat.le_refl _) (fun _ => rfl))
      have hi' : i < cuts.length := by omega
      have hcu' : Is w (.slice (.int .i64)) cuts [cuts1] := ⟨cuts1, cvs, rfl, hcs.kp0 kp, hcx⟩
      refine Is.int_at hcu' rfl hi' ?_
      intro p hpl
      refine s_opt hpl ?_
      refine s_cv ?_
      refine htl kp ?_
      refine s_subi (by rw [i64min, i64max]; omega) ?_
      refine s_addi (by rw [i64min, i64max]; omega) ?_
      refine s_cvi (by rw [u64min, u64max]; omega) ?_
      have hnn : 0 ≤ IntKind.u64.wrap (cuts.getD i 0) := by
        simp [IntKind.wrap, IntKind.bits, IntKind.signed]
        omega
      refine s_remi hnn (by omega) ?_
      obtain ⟨q, hq, e⟩ : ∃ q : Nat, q < text.length - a + 1 ∧ IntKind.u64.wrap (cuts.getD i 0) % ((text.length : Int) - (a : Int) + 1) = (q : Int) := by
        have h1 := Int.emod_nonneg (IntKind.u64.wrap (cuts.getD i 0)) (by omega : (text.length : Int) - (a : Int) + 1 ≠ 0)
        have h2 := Int.emod_lt_of_pos (IntKind.u64.wrap (cuts.getD i 0)) (by omega : 0 < (text.length : Int) - (a : Int) + 1)
        exact ⟨(IntKind.u64.wrap (cuts.getD i 0) % ((text.length : Int) - (a : Int) + 1)).toNat, by omega, by omega⟩
      rw [e]
      refine s_cvi (by rw [i64min, i64max]; omega) ?_
      refine s_addi (by rw [i64min, i64max]; omega) ?_
      rw [show (a : Int) + (q : Int) = ((a + q : Nat) : Int) by omega]
      exact next (a + q) (by omega) (by omega) (by omega)
    · rw [show decide ((i : Int) ≤ (cuts.length : Int)) = false from decide_eq_false (by omega)]
      refine s_gSkip (y := false) rfl (by decide) ?_
      refine s_gSkip (y := false) rfl (by decide) ?_
      refine s_gSkip (y := false) rfl (by decide) ?_
      refine s_gSkip (y := false) rfl (by decide) ?_
      refine s_opt (v := .bool false) rfl ?_
      refine s_false ?_
      have e := hend (by omega)
      subst e
      rw [List.take_length] at hh hfl
      exact cuts_end (ht.kp0 kp) hb5 hh (hp.ss kp) (small_flat (by omega) (by rw [hfl]; omega)) hfl n1 (htab.kp kp (by simp) (by simp)) (htb.keep (kp.block _ hg (by simp))) (by have := kp.size; omega) (fun w' k' => hK w' (kp.tr k'))
theorem cuts_c {w : World} (text : List UInt8) (text0 : Value) (ht : SB w text0 text) (n1 : text.length ≤ 1048576) (cuts : List Int) (cuts1 : Value) (hcu : Is w (.slice (.int .i64)) cuts [cuts1]) (hcb : Ty.bulk (.slice (.int .i64)) cuts ≤ 1048576)
    (hr : HasL w 2 0 (uvs rounds)) (_ : 2 < w.heap.size) (hf : HasL w 1 0 (uvs first)) (_ : 1 < w.heap.size) (htb : Tab w) (hg : 0 < w.heap.size) :
    CallsR Tryd.prog 10 #[text0, cuts1] w fun r w' => r = .bool true ∧ Keep [] w w' := by
  have htab : Tabs w := ⟨hr, hf⟩
  have hlr := htab.lr
  have hlf := htab.lf
  have n2 : cuts.length ≤ 1048576 := by
    have h1 : cuts.length ≤ Ty.bulks (fun _ => 1) cuts := bulks_len _ (fun _ => Nat.le_refl _) cuts
    have h2 : Ty.bulks (fun _ => 1) cuts + 1 ≤ 1048576 := hcb
    omega
  apply witnesslaw1_DigestCuts.sound
  unfold witnesslaw1_DigestCuts.J witnesslaw1_DigestCuts.C1
  refine s_lit1 eBs (slice_cells ht) ?_
  intro w1 k1 ho1
  refine (dof_c [text] _ w1 (small_one (by omega)) (by simp; omega) (SS.one ho1 (ht.kp0 k1)) (htab.kp k1 (by simp) (by simp))).mono ?_
  rintro r w2 ⟨rfl, k2⟩
  rw [show [text].flatten = text by simp]
  refine s_newB (l := bvs (List.replicate 32 0)) (by kernel_rfl) ?_
  intro w3 hb3 k3 hs3
  refine s_stNB0 hb3 (by simp [sha_len]) (by simp) (bvs_one _) ?_
  intro w4 hb4 k4
  have k04 : Keep [] w w4 := (k1.tr k2).tr (keep2 k3 k4 (Nat.le_refl _))
  have hs2 := (k1.tr k2).size
  have hs4 := hb4.lt
  refine (new_c w4 (htab.kp k04 (by simp) (by simp))).mono ?_
  rintro r w5 ⟨rfl, k5, hs5⟩
  refine ⟨cuts.length + 2, ?_⟩
  have := cuts_loop (K := fun r w' => r = .bool true ∧ Keep [] w w') (w0 := w) (b5 := w2.heap.size) (h := w4.heap.size) (by omega) (by omega) (by omega) ht n1 hcu n2 htab htb hg (fun w' k' => ⟨rfl, k'⟩) (cuts.length + 2) 0 0 (.slice none 0 0) [] [] w5 rfl (by omega) (by omega) (by omega) rfl (k04.tr k5) (hb4.kp k5 (by simp)) hs5 ⟨World.ownsRow_nil _ _ _ _, fun i hi => by simp at hi⟩ (by simp)
  have e : uv (more 0 (text.take 0)) = Value.int .u32 0 := by
    rw [List.take_zero, more, crc, List.foldl_nil, BitVec.not_not]
    rfl
  rw [e] at this
  exact this
end Go.Proofs.YtklieghmbhofnaaDoor
