-- PRINTED: what each function asks ahead of a call, and that it is enough (wip/tools/dec.py)
import Derived.Test.YtklieghmbhofnaaDoorBase
namespace Go.Proofs.YtklieghmbhofnaaDoor
open Go Go.Ev
set_option maxRecDepth 100000
/- witness/witnesslaw1.DigestPieces -/
namespace witnesslaw1_DigestPieces
noncomputable abbrev B : Code := flat (bodyC Tryd.f5)
noncomputable abbrev R (K : KT) : Fr → World → Prop := fnPost Tryd.prog Tryd.f5.results.toList K .ret
variable {K : KT}
def C3 (K : KT) (w : World) : Prop :=
  K (.bool true) w
theorem C3.sound {Q : QT} (hr : ∀ f w, R K f w → Q .ret f w) {f : Fr} {w : World} (h : C3 K w) : W Tryd.prog ext (subC B [1, 1, 1, 1, 1, 1, 1]) Q f w :=
  W_exq (n := fun _ _ => False) (r := R K) (xs := []) (gs := []) (Eq.mp (by kernel_rfl) h) (fun _ _ h => h.elim) hr trivial trivial
def C5 (K : KT) (kn : V3) (l3 texts4 k13 : Value) (w : World) : Prop :=
  optW (arO .add k13 (.int .i64 1)) w fun v158 w =>
  kn l3 texts4 v158 w
theorem C5.sound {kn : V3} {Q : QT} (hkn : ∀ f w, kn (f 3) (f 4) (f 13) w → Q .normal f w) (hr : ∀ f w, R K f w → Q .ret f w) {f : Fr} {w : World} (h : C5 K kn (f 3) (f 4) (f 13) w) : W Tryd.prog ext (subC B [1, 1, 1, 1, 1, 1, 0, 0, 0, 1, 1, 1]) Q f w :=
  W_exq (n := fun f w => kn (f 3) (f 4) (f 13) w) (r := R K) (xs := []) (gs := []) (Eq.mp (by kernel_rfl) h) hkn hr trivial trivial
def C7 (K : KT) (kn : V3) (l3 texts4 k13 v190 : Value) (w : World) : Prop :=
  Cnd v190 (
  K (.bool false) w) (
  kn l3 texts4 k13 w)
theorem C7.sound {kn : V3} {Q : QT} (hkn : ∀ f w, kn (f 3) (f 4) (f 13) w → Q .normal f w) (hr : ∀ f w, R K f w → Q .ret f w) {f : Fr} {w : World} (h : C7 K kn (f 3) (f 4) (f 13) (f 190) w) : W Tryd.prog ext (subC B [1, 1, 1, 1, 1, 1, 0, 0, 0, 1, 1, 0, 0, 1]) Q f w :=
  W_exq (n := fun f w => kn (f 3) (f 4) (f 13) w) (r := R K) (xs := []) (gs := []) (Eq.mp (by kernel_rfl) h) hkn hr trivial trivial
def D8 (kn : V4) (l3 texts4 k13 : Value) (w : World) : Prop :=
  ∃ (I : World → Prop) (S : World → World → Prop) (q : Nat → Value → World → Prop), I w.drew ∧ (∀ w w', S w w' → I w → I w') ∧ (∀ s v w w', S w w' → q s v w → q s v w') ∧
  (∀ (f : Fr) (w : World), I w → (True) →
    S w w ∧ q 159 l3 w) ∧
  (∀ (f : Fr) (w : World), I w → (True) →
    S w w ∧ q 160 k13 w) ∧
  (∀ (f : Fr) (w : World), I w → (q 159 (f 159) w ∧ q 160 (f 160) w ∧ True) →
    optW (ixS 1 (f 159) (f 160)) w fun v w' => S w w' ∧ q 161 v w') ∧
  (∀ (f : Fr) (w : World), I w → (q 161 (f 161) w ∧ True) →
    optW (ld1 (f 161) w) w fun v w' => S w w' ∧ q 162 v w') ∧
  (∀ (f : Fr) (w : World), I w → (q 162 (f 162) w ∧ True) →
    semW Tryd.prog (do eqGuard .eql 35 (.tmp 0) (.const undef) (f 162) (.pointer none); binOp .eql 35 (f 162) (.pointer none)) w fun v w' => S w w' ∧ q 163 v w') ∧
  (∀ (f : Fr) (w : World), I w → (q 163 (f 163) w ∧ True) →
    S w w ∧ q 164 (f 163) w) ∧
  (∀ (f : Fr) (w : World), I w → (q 164 (f 164) w ∧ True) →
    gOp (f 164) false w (fun K => K l3 w) fun v w' => S w w' ∧ q 165 v w') ∧
  (∀ (f : Fr) (w : World), I w → (q 164 (f 164) w ∧ True) →
    gOp (f 164) false w (fun K => K k13 w) fun v w' => S w w' ∧ q 166 v w') ∧
  (∀ (f : Fr) (w : World), I w → (q 164 (f 164) w ∧ q 165 (f 165) w ∧ q 166 (f 166) w ∧ True) →
    gOp (f 164) false w (fun K => optW (ixS 1 (f 165) (f 166)) w K) fun v w' => S w w' ∧ q 167 v w') ∧
  (∀ (f : Fr) (w : World), I w → (q 164 (f 164) w ∧ q 167 (f 167) w ∧ True) →
    gOp (f 164) false w (fun K => optW (ld1 (f 167) w) w K) fun v w' => S w w' ∧ q 168 v w') ∧
  (∀ (f : Fr) (w : World), I w → (q 164 (f 164) w ∧ q 168 (f 168) w ∧ True) →
    gOp (f 164) false w (fun K => CallsR Tryd.prog 21 #[(f 168)] w K) fun v w' => S w w' ∧ q 169 v w') ∧
  (∀ (f : Fr) (w : World), I w → (q 164 (f 164) w ∧ True) →
    gOp (f 164) false w (fun K => K texts4 w) fun v w' => S w w' ∧ q 170 v w') ∧
  (∀ (f : Fr) (w : World), I w → (q 164 (f 164) w ∧ True) →
    gOp (f 164) false w (fun K => K k13 w) fun v w' => S w w' ∧ q 171 v w') ∧
  (∀ (f : Fr) (w : World), I w → (q 164 (f 164) w ∧ q 170 (f 170) w ∧ q 171 (f 171) w ∧ True) →
    gOp (f 164) false w (fun K => optW (ixS 1 (f 170) (f 171)) w K) fun v w' => S w w' ∧ q 172 v w') ∧
  (∀ (f : Fr) (w : World), I w → (q 164 (f 164) w ∧ q 172 (f 172) w ∧ True) →
    gOp (f 164) false w (fun K => optW (ld1 (f 172) w) w K) fun v w' => S w w' ∧ q 173 v w') ∧
  (∀ (f : Fr) (w : World), I w → (q 164 (f 164) w ∧ q 173 (f 173) w ∧ True) →
    gOp (f 164) false w (fun K => CallsR Tryd.prog 22 #[(f 173)] w K) fun v w' => S w w' ∧ q 174 v w') ∧
  (∀ (f : Fr) (w : World), I w → (q 164 (f 164) w ∧ q 169 (f 169) w ∧ q 174 (f 174) w ∧ True) →
    gOp (f 164) false w (fun K => semW Tryd.prog (do eqGuard .neq 43 (.tmp 0) (.tmp 0) (f 169) (f 174); binOp .neq 43 (f 169) (f 174)) w K) fun v w' => S w w' ∧ q 175 v w') ∧
  (∀ (f : Fr) (w : World), I w → (q 164 (f 164) w ∧ q 175 (f 175) w ∧ True) →
    optW (pickO (f 164) (.bool true) (f 175)) w fun v w' => S w w' ∧ q 176 v w') ∧
  (∀ (f : Fr) (w : World), I w → (q 176 (f 176) w ∧ True) →
    S w w ∧ q 177 (f 176) w) ∧
  (∀ (f : Fr) (w : World), I w → (q 177 (f 177) w ∧ True) →
    gOp (f 177) false w (fun K => K l3 w) fun v w' => S w w' ∧ q 178 v w') ∧
  (∀ (f : Fr) (w : World), I w → (q 177 (f 177) w ∧ True) →
    gOp (f 177) false w (fun K => K k13 w) fun v w' => S w w' ∧ q 179 v w') ∧
  (∀ (f : Fr) (w : World), I w → (q 177 (f 177) w ∧ q 178 (f 178) w ∧ q 179 (f 179) w ∧ True) →
    gOp (f 177) false w (fun K => optW (ixS 1 (f 178) (f 179)) w K) fun v w' => S w w' ∧ q 180 v w') ∧
  (∀ (f : Fr) (w : World), I w → (q 177 (f 177) w ∧ q 180 (f 180) w ∧ True) →
    gOp (f 177) false w (fun K => optW (ld1 (f 180) w) w K) fun v w' => S w w' ∧ q 181 v w') ∧
  (∀ (f : Fr) (w : World), I w → (q 177 (f 177) w ∧ q 181 (f 181) w ∧ True) →
    gOp (f 177) false w (fun K => CallsR Tryd.prog 23 #[(f 181)] w K) fun v w' => S w w' ∧ q 182 v w') ∧
  (∀ (f : Fr) (w : World), I w → (q 177 (f 177) w ∧ True) →
    gOp (f 177) false w (fun K => K texts4 w) fun v w' => S w w' ∧ q 183 v w') ∧
  (∀ (f : Fr) (w : World), I w → (q 177 (f 177) w ∧ True) →
    gOp (f 177) false w (fun K => K k13 w) fun v w' => S w w' ∧ q 184 v w') ∧
  (∀ (f : Fr) (w : World), I w → (q 177 (f 177) w ∧ q 183 (f 183) w ∧ q 184 (f 184) w ∧ True) →
    gOp (f 177) false w (fun K => optW (ixS 1 (f 183) (f 184)) w K) fun v w' => S w w' ∧ q 185 v w') ∧
  (∀ (f : Fr) (w : World), I w → (q 177 (f 177) w ∧ q 185 (f 185) w ∧ True) →
    gOp (f 177) false w (fun K => optW (ld1 (f 185) w) w K) fun v w' => S w w' ∧ q 186 v w') ∧
  (∀ (f : Fr) (w : World), I w → (q 177 (f 177) w ∧ q 186 (f 186) w ∧ True) →
    gOp (f 177) false w (fun K => optW (lenS (f 186)) w K) fun v w' => S w w' ∧ q 187 v w') ∧
  (∀ (f : Fr) (w : World), I w → (q 177 (f 177) w ∧ q 187 (f 187) w ∧ True) →
    gOp (f 177) false w (fun K => optW (cvO .u64 (f 187)) w K) fun v w' => S w w' ∧ q 188 v w') ∧
  (∀ (f : Fr) (w : World), I w → (q 177 (f 177) w ∧ q 182 (f 182) w ∧ q 188 (f 188) w ∧ True) →
    gOp (f 177) false w (fun K => optW (eqO true (f 182) (f 188)) w K) fun v w' => S w w' ∧ q 189 v w') ∧
  (∀ (f : Fr) (w : World), I w → (q 177 (f 177) w ∧ q 189 (f 189) w ∧ True) →
    optW (pickO (f 177) (.bool true) (f 189)) w fun v w' => S w w' ∧ q 190 v w') ∧
(∀ (f : Fr) (w : World), I w → (q 159 (f 159) w ∧ q 160 (f 160) w ∧ q 161 (f 161) w ∧ q 162 (f 162) w ∧ q 163 (f 163) w ∧ q 164 (f 164) w ∧ q 165 (f 165) w ∧ q 166 (f 166) w ∧ q 167 (f 167) w ∧ q 168 (f 168) w ∧ q 169 (f 169) w ∧ q 170 (f 170) w ∧ q 171 (f 171) w ∧ q 172 (f 172) w ∧ q 173 (f 173) w ∧ q 174 (f 174) w ∧ q 175 (f 175) w ∧ q 176 (f 176) w ∧ q 177 (f 177) w ∧ q 178 (f 178) w ∧ q 179 (f 179) w ∧ q 180 (f 180) w ∧ q 181 (f 181) w ∧ q 182 (f 182) w ∧ q 183 (f 183) w ∧ q 184 (f 184) w ∧ q 185 (f 185) w ∧ q 186 (f 186) w ∧ q 187 (f 187) w ∧ q 188 (f 188) w ∧ q 189 (f 189) w ∧ q 190 (f 190) w ∧ True) →
    kn l3 texts4 k13 (f 190) w)
def C6 (K : KT) (kn : V3) (l3 texts4 k13 : Value) (w : World) : Prop :=
  D8 (C7 K kn) l3 texts4 k13 w
theorem C6.sound {kn : V3} {Q : QT} (hkn : ∀ f w, kn (f 3) (f 4) (f 13) w → Q .normal f w) (hr : ∀ f w, R K f w → Q .ret f w) {f : Fr} {w : World} (h : C6 K kn (f 3) (f 4) (f 13) w) : W Tryd.prog ext (subC B [1, 1, 1, 1, 1, 1, 0, 0, 0, 1, 1, 0, 0]) Q f w :=
  W_seq' (a := (subC B [1, 1, 1, 1, 1, 1, 0, 0, 0, 1, 1, 0, 0, 0])) (b := (subC B [1, 1, 1, 1, 1, 1, 0, 0, 0, 1, 1, 0, 0, 1])) (by kernel_rfl) (W_drawR' (id := 43) (ops := (opsC (subC B [1, 1, 1, 1, 1, 1, 0, 0, 0, 1, 1, 0, 0, 0]))) (N := fun f w => (C7 K kn) (f 3) (f 4) (f 13) (f 190) w) (by kernel_rfl) (by kernel_rfl) (by kernel_rfl) (Eq.mp (by kernel_rfl) h) (fun f w h => seq_n (C7.sound (K := K) (Q := Q) (kn := kn) hkn hr h)))
def C4 (K : KT) (kx5 : V0) (kn : V3) (l3 texts4 k13 : Value) (w : World) : Prop :=
  optW (lenS l3) w fun v155 w =>
  optW (arO .lss k13 v155) w fun v156 w =>
  Cnd v156 (
  C6 K (C5 K kn) l3 texts4 k13 w) (
  kx5 w)
theorem C4.sound {kx5 : V0} {kn : V3} {Q : QT} (hkx5 : ∀ f w, kx5 w → Q (.exit 5) f w) (hkn : ∀ f w, kn (f 3) (f 4) (f 13) w → Q .normal f w) (hr : ∀ f w, R K f w → Q .ret f w) {f : Fr} {w : World} (h : C4 K kx5 kn (f 3) (f 4) (f 13) w) : W Tryd.prog ext (subC B [1, 1, 1, 1, 1, 1, 0, 0, 0]) Q f w :=
  W_pre 2 (c2 := (subC B [1, 1, 1, 1, 1, 1, 0, 0, 0, 1, 1])) (by kernel_rfl) (n := fun f w => C6 K (C5 K kn) (f 3) (f 4) (f 13) w) (r := R K) (xs := [(5, fun f w => kx5 w)]) (gs := []) (Eq.mp (by kernel_rfl) h) (fun f w h => W_seq' (a := (subC B [1, 1, 1, 1, 1, 1, 0, 0, 0, 1, 1, 0])) (b := (subC B [1, 1, 1, 1, 1, 1, 0, 0, 0, 1, 1, 1])) (by kernel_rfl) (W_block' (id := 6) (c := (subC B [1, 1, 1, 1, 1, 1, 0, 0, 0, 1, 1, 0, 0])) (by kernel_rfl) (C6.sound (K := K) (Q := (blkQ 6 (seqQ (W Tryd.prog ext (subC B [1, 1, 1, 1, 1, 1, 0, 0, 0, 1, 1, 1]) Q) Q))) (kn := (C5 K kn)) (fun f w h => blk_n ((fun f w h => seq_n (C5.sound (K := K) (Q := Q) (kn := kn) hkn hr h)) f w h)) hr h))) hr ⟨hkx5, trivial⟩ trivial
def L4 (K : KT) (kx5 : V0) : Nat → V3
  | 0, _, _, _, _ => False
  | k + 1, l3, texts4, k13, w => C4 K kx5 (L4 K kx5 k) l3 texts4 k13 w
theorem L4.sound {kx5 : V0} {Q : QT} (hkx5 : ∀ f w, kx5 w → Q (.exit 5) f w) (hr : ∀ f w, R K f w → Q .ret f w) : ∀ (k : Nat) (f : Fr) (w : World), L4 K kx5 k (f 3) (f 4) (f 13) w → It (W Tryd.prog ext (subC B [1, 1, 1, 1, 1, 1, 0, 0, 0])) Q k f w
  | 0, _, _, h => h
  | k + 1, _, _, h => C4.sound (K := K) (Q := seqQ (It (W Tryd.prog ext (subC B [1, 1, 1, 1, 1, 1, 0, 0, 0])) Q k) Q) hkx5 (fun f w h => seq_n (L4.sound hkx5 hr k f w h)) hr h
def C2 (K : KT) (l3 texts4 : Value) (w : World) : Prop :=
  ∃ k, L4 K (C3 K) k l3 texts4 (.int .i64 0) w
theorem C2.sound {Q : QT} (hr : ∀ f w, R K f w → Q .ret f w) {f : Fr} {w : World} (h : C2 K (f 3) (f 4) w) : W Tryd.prog ext (subC B [1, 1, 1, 1, 1]) Q f w :=
  W_pre 1 (c2 := (subC B [1, 1, 1, 1, 1, 1])) (by kernel_rfl) (n := fun f w => ∃ k, L4 K (C3 K) k (f 3) (f 4) (f 13) w) (r := R K) (xs := []) (gs := []) (Eq.mp (by kernel_rfl) h) (fun f w h => W_seq' (a := (subC B [1, 1, 1, 1, 1, 1, 0])) (b := (subC B [1, 1, 1, 1, 1, 1, 1])) (by kernel_rfl) (W_block' (id := 5) (c := (subC B [1, 1, 1, 1, 1, 1, 0, 0])) (by kernel_rfl) (W_loop' (c := (subC B [1, 1, 1, 1, 1, 1, 0, 0, 0])) (by kernel_rfl) (h.elim fun k h => ⟨k, L4.sound (K := K) (Q := (blkQ 5 (seqQ (W Tryd.prog ext (subC B [1, 1, 1, 1, 1, 1, 1]) Q) Q))) (kx5 := (C3 K)) (fun f w h => blk_x ((fun f w h => seq_n (C3.sound (K := K) (Q := Q) hr h)) f w h)) hr k _ _ h⟩)))) hr trivial trivial
def C10 (K : KT) (kn : V4) (script0 l3 texts4 i5 : Value) (w : World) : Prop :=
  optW (arO .add i5 (.int .i64 1)) w fun v22 w =>
  kn script0 l3 texts4 v22 w
theorem C10.sound {kn : V4} {Q : QT} (hkn : ∀ f w, kn (f 0) (f 3) (f 4) (f 5) w → Q .normal f w) (hr : ∀ f w, R K f w → Q .ret f w) {f : Fr} {w : World} (h : C10 K kn (f 0) (f 3) (f 4) (f 5) w) : W Tryd.prog ext (subC B [1, 1, 1, 1, 0, 0, 0, 1, 1, 1]) Q f w :=
  W_exq (n := fun f w => kn (f 0) (f 3) (f 4) (f 5) w) (r := R K) (xs := []) (gs := []) (Eq.mp (by kernel_rfl) h) hkn hr trivial trivial
def C14 (K : KT) (kn : V4) (script0 l3 texts4 i5 o6 k7 : Value) (w : World) : Prop :=
  optW (ixS 1 texts4 k7) w fun v80 w =>
  optW (ld1 v80 w) w fun v81 w =>
  semW Tryd.prog (bltS .append #[23, 23] 23 #[(.slice none 0 0), v81]) w fun v82 w =>
  optW (fadO 2 o6) w fun v86 w =>
  optW (ld1 v86 w) w fun v87 w =>
  semW Tryd.prog (bltS .append #[23, 23] 23 #[v82, v87]) w fun v88 w =>
  optW (ixS 1 texts4 k7) w fun v89 w =>
  st1 v89 v88 w fun w =>
  kn script0 l3 texts4 i5 w
theorem C14.sound {kn : V4} {Q : QT} (hkn : ∀ f w, kn (f 0) (f 3) (f 4) (f 5) w → Q .normal f w) (hr : ∀ f w, R K f w → Q .ret f w) {f : Fr} {w : World} (h : C14 K kn (f 0) (f 3) (f 4) (f 5) (f 6) (f 7) w) : W Tryd.prog ext (subC B [1, 1, 1, 1, 0, 0, 0, 1, 1, 0, 0, 1, 1, 1, 1, 1, 0, 1, 0, 1, 1, 1, 1, 1, 1, 1]) Q f w :=
  W_exq (n := fun f w => kn (f 0) (f 3) (f 4) (f 5) w) (r := R K) (xs := []) (gs := []) (Eq.mp (by kernel_rfl) h) hkn hr trivial trivial
def C15 (K : KT) (kx3 : V6) (kn : V9) (script0 l3 texts4 i5 o6 k7 full10 v67 v68 : Value) (w : World) : Prop :=
  optW (arO .lss v68 v67) w fun v69 w =>
  Cnd v69 (
  optW (ixS 1 full10 (.int .i64 0)) w fun v72 w =>
  optW (ld1 v72 w) w fun v73 w =>
  optW (ixS 1 v73 v68) w fun v75 w =>
  st1 v75 (.int .u8 119) w fun w =>
  optW (arO .add v68 (.int .i64 1)) w fun v76 w =>
  kn script0 l3 texts4 i5 o6 k7 full10 v67 v76 w) (
  kx3 script0 l3 texts4 i5 o6 k7 w)
theorem C15.sound {kx3 : V6} {kn : V9} {Q : QT} (hkx3 : ∀ f w, kx3 (f 0) (f 3) (f 4) (f 5) (f 6) (f 7) w → Q (.exit 3) f w) (hkn : ∀ f w, kn (f 0) (f 3) (f 4) (f 5) (f 6) (f 7) (f 10) (f 67) (f 68) w → Q .normal f w) (hr : ∀ f w, R K f w → Q .ret f w) {f : Fr} {w : World} (h : C15 K kx3 kn (f 0) (f 3) (f 4) (f 5) (f 6) (f 7) (f 10) (f 67) (f 68) w) : W Tryd.prog ext (subC B [1, 1, 1, 1, 0, 0, 0, 1, 1, 0, 0, 1, 1, 1, 1, 1, 0, 1, 0, 1, 1, 1, 1, 1, 1, 0, 0, 0]) Q f w :=
  W_exq (n := fun f w => kn (f 0) (f 3) (f 4) (f 5) (f 6) (f 7) (f 10) (f 67) (f 68) w) (r := R K) (xs := [(3, fun f w => kx3 (f 0) (f 3) (f 4) (f 5) (f 6) (f 7) w)]) (gs := []) (Eq.mp (by kernel_rfl) h) hkn hr ⟨hkx3, trivial⟩ trivial
def L15 (K : KT) (kx3 : V6) : Nat → V9
  | 0, _, _, _, _, _, _, _, _, _, _ => False
  | k + 1, script0, l3, texts4, i5, o6, k7, full10, v67, v68, w => C15 K kx3 (L15 K kx3 k) script0 l3 texts4 i5 o6 k7 full10 v67 v68 w
theorem L15.sound {kx3 : V6} {Q : QT} (hkx3 : ∀ f w, kx3 (f 0) (f 3) (f 4) (f 5) (f 6) (f 7) w → Q (.exit 3) f w) (hr : ∀ f w, R K f w → Q .ret f w) : ∀ (k : Nat) (f : Fr) (w : World), L15 K kx3 k (f 0) (f 3) (f 4) (f 5) (f 6) (f 7) (f 10) (f 67) (f 68) w → It (W Tryd.prog ext (subC B [1, 1, 1, 1, 0, 0, 0, 1, 1, 0, 0, 1, 1, 1, 1, 1, 0, 1, 0, 1, 1, 1, 1, 1, 1, 0, 0, 0])) Q k f w
  | 0, _, _, h => h
  | k + 1, _, _, h => C15.sound (K := K) (Q := seqQ (It (W Tryd.prog ext (subC B [1, 1, 1, 1, 0, 0, 0, 1, 1, 0, 0, 1, 1, 1, 1, 1, 0, 1, 0, 1, 1, 1, 1, 1, 1, 0, 0, 0])) Q k) Q) hkx3 (fun f w h => seq_n (L15.sound hkx3 hr k f w h)) hr h
def C13 (K : KT) (kn : V4) (script0 l3 texts4 i5 o6 k7 : Value) (w : World) : Prop :=
  optW (fadO 2 o6) w fun v44 w =>
  optW (ld1 v44 w) w fun v45 w =>
  semW Tryd.prog (Instr.buildSlice 24 1 #[(0, v45)]) w fun v46 w =>
  CallsR Tryd.prog 12 #[v46] w fun v49 w =>
  optW (extO v49 0) w fun v50 w =>
  optW (extO v49 1) w fun v51 w =>
  drw w fun w =>
  optW (ixS 1 l3 k7) w fun v54 w =>
  optW (ld1 v54 w) w fun v55 w =>
  optW (ixS 1 v50 (.int .i64 0)) w fun v57 w =>
  optW (ld1 v57 w) w fun v58 w =>
  CallsR Tryd.prog 20 #[v55, v58] w fun v59 w =>
  CallsR Tryd.prog 15 #[v46, v51] w fun v62 w =>
  optW (unO .not v62) w fun v63 w =>
  Cnd v63 (
  K (.bool false) w) (
  optW (ixS 1 v51 (.int .i64 0)) w fun v65 w =>
  optW (ld1 v65 w) w fun v66 w =>
  optW (lenS v66) w fun v67 w =>
  ∃ k, L15 K (C14 K kn) k script0 l3 texts4 i5 o6 k7 v51 v67 (.int .i64 0) w)
theorem C13.sound {kn : V4} {Q : QT} (hkn : ∀ f w, kn (f 0) (f 3) (f 4) (f 5) w → Q .normal f w) (hr : ∀ f w, R K f w → Q .ret f w) {f : Fr} {w : World} (h : C13 K kn (f 0) (f 3) (f 4) (f 5) (f 6) (f 7) w) : W Tryd.prog ext (subC B [1, 1, 1, 1, 0, 0, 0, 1, 1, 0, 0, 1, 1, 1, 1, 1, 0, 1, 0]) Q f w :=
  W_pre 6 (c2 := (subC B [1, 1, 1, 1, 0, 0, 0, 1, 1, 0, 0, 1, 1, 1, 1, 1, 0, 1, 0, 1, 1, 1, 1, 1, 1])) (by kernel_rfl) (n := fun f w => ∃ k, L15 K (C14 K kn) k (f 0) (f 3) (f 4) (f 5) (f 6) (f 7) (f 10) (f 67) (f 68) w) (r := R K) (xs := []) (gs := []) (Eq.mp (by kernel_rfl) h) (fun f w h => W_seq' (a := (subC B [1, 1, 1, 1, 0, 0, 0, 1, 1, 0, 0, 1, 1, 1, 1, 1, 0, 1, 0, 1, 1, 1, 1, 1, 1, 0])) (b := (subC B [1, 1, 1, 1, 0, 0, 0, 1, 1, 0, 0, 1, 1, 1, 1, 1, 0, 1, 0, 1, 1, 1, 1, 1, 1, 1])) (by kernel_rfl) (W_block' (id := 3) (c := (subC B [1, 1, 1, 1, 0, 0, 0, 1, 1, 0, 0, 1, 1, 1, 1, 1, 0, 1, 0, 1, 1, 1, 1, 1, 1, 0, 0])) (by kernel_rfl) (W_loop' (c := (subC B [1, 1, 1, 1, 0, 0, 0, 1, 1, 0, 0, 1, 1, 1, 1, 1, 0, 1, 0, 1, 1, 1, 1, 1, 1, 0, 0, 0])) (by kernel_rfl) (h.elim fun k h => ⟨k, L15.sound (K := K) (Q := (blkQ 3 (seqQ (W Tryd.prog ext (subC B [1, 1, 1, 1, 0, 0, 0, 1, 1, 0, 0, 1, 1, 1, 1, 1, 0, 1, 0, 1, 1, 1, 1, 1, 1, 1]) Q) Q))) (kx3 := (C14 K kn)) (fun f w h => blk_x ((fun f w h => seq_n (C14.sound (K := K) (Q := Q) (kn := kn) hkn hr h)) f w h)) hr k _ _ h⟩)))) hr trivial trivial
def C18 (K : KT) (kn : V4) (script0 l3 texts4 i5 v102 : Value) (w : World) : Prop :=
  Cnd v102 (
  K (.bool false) w) (
  kn script0 l3 texts4 i5 w)
theorem C18.sound {kn : V4} {Q : QT} (hkn : ∀ f w, kn (f 0) (f 3) (f 4) (f 5) w → Q .normal f w) (hr : ∀ f w, R K f w → Q .ret f w) {f : Fr} {w : World} (h : C18 K kn (f 0) (f 3) (f 4) (f 5) (f 102) w) : W Tryd.prog ext (subC B [1, 1, 1, 1, 0, 0, 0, 1, 1, 0, 0, 1, 1, 1, 1, 1, 0, 1, 1, 1, 0, 1]) Q f w :=
  W_exq (n := fun f w => kn (f 0) (f 3) (f 4) (f 5) w) (r := R K) (xs := []) (gs := []) (Eq.mp (by kernel_rfl) h) hkn hr trivial trivial
def D19 (kn : V5) (script0 l3 texts4 i5 k7 : Value) (w : World) : Prop :=
  ∃ I : World → Prop, I w.drew ∧ drw w fun w =>
  optW (ixS 1 l3 k7) w fun v94 w => 
  rdI I (fun w => ld1 v94 w) fun v95 =>
  CallsR Tryd.prog 21 #[v95] w fun v96 w => I w ∧
  optW (ixS 1 texts4 k7) w fun v99 w => 
  rdI I (fun w => ld1 v99 w) fun v100 =>
  CallsR Tryd.prog 22 #[v100] w fun v101 w => I w ∧
  semW Tryd.prog (do eqGuard .neq 43 (.tmp 0) (.tmp 0) v96 v101; binOp .neq 43 v96 v101) w fun v102 w => I w ∧
  kn script0 l3 texts4 i5 v102 w
def C17 (K : KT) (kn : V4) (script0 l3 texts4 i5 k7 : Value) (w : World) : Prop :=
  D19 (C18 K kn) script0 l3 texts4 i5 k7 w
theorem C17.sound {kn : V4} {Q : QT} (hkn : ∀ f w, kn (f 0) (f 3) (f 4) (f 5) w → Q .normal f w) (hr : ∀ f w, R K f w → Q .ret f w) {f : Fr} {w : World} (h : C17 K kn (f 0) (f 3) (f 4) (f 5) (f 7) w) : W Tryd.prog ext (subC B [1, 1, 1, 1, 0, 0, 0, 1, 1, 0, 0, 1, 1, 1, 1, 1, 0, 1, 1, 1, 0]) Q f w :=
  W_seq' (a := (subC B [1, 1, 1, 1, 0, 0, 0, 1, 1, 0, 0, 1, 1, 1, 1, 1, 0, 1, 1, 1, 0, 0])) (b := (subC B [1, 1, 1, 1, 0, 0, 0, 1, 1, 0, 0, 1, 1, 1, 1, 1, 0, 1, 1, 1, 0, 1])) (by kernel_rfl) (W_drawI' (id := 26) (ops := (opsC (subC B [1, 1, 1, 1, 0, 0, 0, 1, 1, 0, 0, 1, 1, 1, 1, 1, 0, 1, 1, 1, 0, 0]))) (N := fun f w => (C18 K kn) (f 0) (f 3) (f 4) (f 5) (f 102) w) (by kernel_rfl) (by kernel_rfl) (by kernel_rfl) (Eq.mp (by kernel_rfl) h) (fun f w h => seq_n (C18.sound (K := K) (Q := Q) (kn := kn) hkn hr h)))
def C22 (K : KT) (kn : V4) (script0 l3 texts4 i5 v116 : Value) (w : World) : Prop :=
  Cnd v116 (
  K (.bool false) w) (
  kn script0 l3 texts4 i5 w)
theorem C22.sound {kn : V4} {Q : QT} (hkn : ∀ f w, kn (f 0) (f 3) (f 4) (f 5) w → Q .normal f w) (hr : ∀ f w, R K f w → Q .ret f w) {f : Fr} {w : World} (h : C22 K kn (f 0) (f 3) (f 4) (f 5) (f 116) w) : W Tryd.prog ext (subC B [1, 1, 1, 1, 0, 0, 0, 1, 1, 0, 0, 1, 1, 1, 1, 1, 0, 1, 1, 1, 1, 1, 0, 1]) Q f w :=
  W_exq (n := fun f w => kn (f 0) (f 3) (f 4) (f 5) w) (r := R K) (xs := []) (gs := []) (Eq.mp (by kernel_rfl) h) hkn hr trivial trivial
def D23 (kn : V5) (script0 l3 texts4 i5 k7 : Value) (w : World) : Prop :=
  ∃ I : World → Prop, I w.drew ∧ drw w fun w =>
  optW (ixS 1 l3 k7) w fun v107 w => 
  rdI I (fun w => ld1 v107 w) fun v108 =>
  CallsR Tryd.prog 23 #[v108] w fun v109 w => I w ∧
  optW (ixS 1 texts4 k7) w fun v112 w => 
  rdI I (fun w => ld1 v112 w) fun v113 =>
  optW (lenS v113) w fun v114 w => 
  optW (cvO .u64 v114) w fun v115 w => 
  optW (eqO true v109 v115) w fun v116 w => 
  kn script0 l3 texts4 i5 v116 w
def C21 (K : KT) (kn : V4) (script0 l3 texts4 i5 k7 : Value) (w : World) : Prop :=
  D23 (C22 K kn) script0 l3 texts4 i5 k7 w
theorem C21.sound {kn : V4} {Q : QT} (hkn : ∀ f w, kn (f 0) (f 3) (f 4) (f 5) w → Q .normal f w) (hr : ∀ f w, R K f w → Q .ret f w) {f : Fr} {w : World} (h : C21 K kn (f 0) (f 3) (f 4) (f 5) (f 7) w) : W Tryd.prog ext (subC B [1, 1, 1, 1, 0, 0, 0, 1, 1, 0, 0, 1, 1, 1, 1, 1, 0, 1, 1, 1, 1, 1, 0]) Q f w :=
  W_seq' (a := (subC B [1, 1, 1, 1, 0, 0, 0, 1, 1, 0, 0, 1, 1, 1, 1, 1, 0, 1, 1, 1, 1, 1, 0, 0])) (b := (subC B [1, 1, 1, 1, 0, 0, 0, 1, 1, 0, 0, 1, 1, 1, 1, 1, 0, 1, 1, 1, 1, 1, 0, 1])) (by kernel_rfl) (W_drawI' (id := 29) (ops := (opsC (subC B [1, 1, 1, 1, 0, 0, 0, 1, 1, 0, 0, 1, 1, 1, 1, 1, 0, 1, 1, 1, 1, 1, 0, 0]))) (N := fun f w => (C22 K kn) (f 0) (f 3) (f 4) (f 5) (f 116) w) (by kernel_rfl) (by kernel_rfl) (by kernel_rfl) (Eq.mp (by kernel_rfl) h) (fun f w h => seq_n (C22.sound (K := K) (Q := Q) (kn := kn) hkn hr h)))
def C24 (K : KT) (kn : V4) (script0 l3 texts4 i5 k7 v41 : Value) (w : World) : Prop :=
  optW (eqO false v41 (.int .i64 4)) w fun v118 w =>
  Cnd v118 (
  optW (ixS 1 l3 k7) w fun v122 w =>
  optW (ld1 v122 w) w fun v123 w =>
  CallsR Tryd.prog 24 #[v123] w fun v124 w =>
  semW Tryd.prog (Instr.buildSlice 37 1 #[(0, v124)]) w fun v125 w =>
  semW Tryd.prog (bltS .append #[37, 37] 37 #[l3, v125]) w fun v126 w =>
  optW (ixS 1 texts4 k7) w fun v130 w =>
  optW (ld1 v130 w) w fun v131 w =>
  semW Tryd.prog (Instr.buildSlice 24 1 #[(0, v131)]) w fun v132 w =>
  semW Tryd.prog (bltS .append #[24, 24] 24 #[texts4, v132]) w fun v133 w =>
  kn script0 v126 v133 i5 w) (
  optW (eqO false v41 (.int .i64 5)) w fun v135 w =>
  Cnd v135 (
  optW (ixS 1 l3 k7) w fun v138 w =>
  optW (ld1 v138 w) w fun v139 w =>
  CallsR Tryd.prog 25 #[v139] w fun v140 w =>
  optW (ixS 1 texts4 k7) w fun v143 w =>
  st1 v143 (.slice none 0 0) w fun w =>
  kn script0 l3 texts4 i5 w) (
  optW (eqO false v41 (.int .i64 6)) w fun v145 w =>
  Cnd v145 (
  CallsR Tryd.prog 19 #[] w fun v147 w =>
  semW Tryd.prog (Instr.buildSlice 37 1 #[(0, v147)]) w fun v148 w =>
  semW Tryd.prog (bltS .append #[37, 37] 37 #[l3, v148]) w fun v149 w =>
  semW Tryd.prog (Instr.buildSlice 24 1 #[(0, (.slice none 0 0))]) w fun v151 w =>
  semW Tryd.prog (bltS .append #[24, 24] 24 #[texts4, v151]) w fun v152 w =>
  kn script0 v149 v152 i5 w) (
  kn script0 l3 texts4 i5 w)))
theorem C24.sound {kn : V4} {Q : QT} (hkn : ∀ f w, kn (f 0) (f 3) (f 4) (f 5) w → Q .normal f w) (hr : ∀ f w, R K f w → Q .ret f w) {f : Fr} {w : World} (h : C24 K kn (f 0) (f 3) (f 4) (f 5) (f 7) (f 41) w) : W Tryd.prog ext (subC B [1, 1, 1, 1, 0, 0, 0, 1, 1, 0, 0, 1, 1, 1, 1, 1, 0, 1, 1, 1, 1, 1, 1]) Q f w :=
  W_exq (n := fun f w => kn (f 0) (f 3) (f 4) (f 5) w) (r := R K) (xs := []) (gs := []) (Eq.mp (by kernel_rfl) h) hkn hr trivial trivial
def C20 (K : KT) (kn : V4) (script0 l3 texts4 i5 k7 v41 : Value) (w : World) : Prop :=
  optW (eqO false v41 (.int .i64 3)) w fun v104 w =>
  Cnd v104 (C21 K kn script0 l3 texts4 i5 k7 w) (C24 K kn script0 l3 texts4 i5 k7 v41 w)
theorem C20.sound {kn : V4} {Q : QT} (hkn : ∀ f w, kn (f 0) (f 3) (f 4) (f 5) w → Q .normal f w) (hr : ∀ f w, R K f w → Q .ret f w) {f : Fr} {w : World} (h : C20 K kn (f 0) (f 3) (f 4) (f 5) (f 7) (f 41) w) : W Tryd.prog ext (subC B [1, 1, 1, 1, 0, 0, 0, 1, 1, 0, 0, 1, 1, 1, 1, 1, 0, 1, 1, 1, 1]) Q f w :=
  W_pre 1 (c2 := (subC B [1, 1, 1, 1, 0, 0, 0, 1, 1, 0, 0, 1, 1, 1, 1, 1, 0, 1, 1, 1, 1, 1])) (by kernel_rfl) (n := fun f w => Cnd (f 103) (C21 K kn (f 0) (f 3) (f 4) (f 5) (f 7) w) (C24 K kn (f 0) (f 3) (f 4) (f 5) (f 7) (f 41) w)) (r := R K) (xs := []) (gs := []) (Eq.mp (by kernel_rfl) h) (fun f w h => W_cond' (c := (.tmp 103)) (a := (subC B [1, 1, 1, 1, 0, 0, 0, 1, 1, 0, 0, 1, 1, 1, 1, 1, 0, 1, 1, 1, 1, 1, 0])) (b := (subC B [1, 1, 1, 1, 0, 0, 0, 1, 1, 0, 0, 1, 1, 1, 1, 1, 0, 1, 1, 1, 1, 1, 1])) (by kernel_rfl) h (fun h => C21.sound (K := K) (Q := Q) (kn := kn) hkn hr h) (fun h => C24.sound (K := K) (Q := Q) (kn := kn) hkn hr h)) hr trivial trivial
def C16 (K : KT) (kn : V4) (script0 l3 texts4 i5 k7 v41 : Value) (w : World) : Prop :=
  optW (eqO false v41 (.int .i64 2)) w fun v91 w =>
  Cnd v91 (C17 K kn script0 l3 texts4 i5 k7 w) (C20 K kn script0 l3 texts4 i5 k7 v41 w)
theorem C16.sound {kn : V4} {Q : QT} (hkn : ∀ f w, kn (f 0) (f 3) (f 4) (f 5) w → Q .normal f w) (hr : ∀ f w, R K f w → Q .ret f w) {f : Fr} {w : World} (h : C16 K kn (f 0) (f 3) (f 4) (f 5) (f 7) (f 41) w) : W Tryd.prog ext (subC B [1, 1, 1, 1, 0, 0, 0, 1, 1, 0, 0, 1, 1, 1, 1, 1, 0, 1, 1]) Q f w :=
  W_pre 1 (c2 := (subC B [1, 1, 1, 1, 0, 0, 0, 1, 1, 0, 0, 1, 1, 1, 1, 1, 0, 1, 1, 1])) (by kernel_rfl) (n := fun f w => Cnd (f 90) (C17 K kn (f 0) (f 3) (f 4) (f 5) (f 7) w) (C20 K kn (f 0) (f 3) (f 4) (f 5) (f 7) (f 41) w)) (r := R K) (xs := []) (gs := []) (Eq.mp (by kernel_rfl) h) (fun f w h => W_cond' (c := (.tmp 90)) (a := (subC B [1, 1, 1, 1, 0, 0, 0, 1, 1, 0, 0, 1, 1, 1, 1, 1, 0, 1, 1, 1, 0])) (b := (subC B [1, 1, 1, 1, 0, 0, 0, 1, 1, 0, 0, 1, 1, 1, 1, 1, 0, 1, 1, 1, 1])) (by kernel_rfl) h (fun h => C17.sound (K := K) (Q := Q) (kn := kn) hkn hr h) (fun h => C20.sound (K := K) (Q := Q) (kn := kn) hkn hr h)) hr trivial trivial
def C12 (K : KT) (kn : V4) (script0 l3 texts4 i5 o6 k7 v41 : Value) (w : World) : Prop :=
  optW (eqO false v41 (.int .i64 1)) w fun v43 w =>
  Cnd v43 (C13 K kn script0 l3 texts4 i5 o6 k7 w) (C16 K kn script0 l3 texts4 i5 k7 v41 w)
theorem C12.sound {kn : V4} {Q : QT} (hkn : ∀ f w, kn (f 0) (f 3) (f 4) (f 5) w → Q .normal f w) (hr : ∀ f w, R K f w → Q .ret f w) {f : Fr} {w : World} (h : C12 K kn (f 0) (f 3) (f 4) (f 5) (f 6) (f 7) (f 41) w) : W Tryd.prog ext (subC B [1, 1, 1, 1, 0, 0, 0, 1, 1, 0, 0, 1, 1, 1, 1, 1, 0]) Q f w :=
  W_pre 1 (c2 := (subC B [1, 1, 1, 1, 0, 0, 0, 1, 1, 0, 0, 1, 1, 1, 1, 1, 0, 1])) (by kernel_rfl) (n := fun f w => Cnd (f 42) (C13 K kn (f 0) (f 3) (f 4) (f 5) (f 6) (f 7) w) (C16 K kn (f 0) (f 3) (f 4) (f 5) (f 7) (f 41) w)) (r := R K) (xs := []) (gs := []) (Eq.mp (by kernel_rfl) h) (fun f w h => W_cond' (c := (.tmp 42)) (a := (subC B [1, 1, 1, 1, 0, 0, 0, 1, 1, 0, 0, 1, 1, 1, 1, 1, 0, 1, 0])) (b := (subC B [1, 1, 1, 1, 0, 0, 0, 1, 1, 0, 0, 1, 1, 1, 1, 1, 0, 1, 1])) (by kernel_rfl) h (fun h => C13.sound (K := K) (Q := Q) (kn := kn) hkn hr h) (fun h => C16.sound (K := K) (Q := Q) (kn := kn) hkn hr h)) hr trivial trivial
def C11 (K : KT) (kn : V4) (script0 l3 texts4 i5 : Value) (w : World) : Prop :=
  optW (ixS 3 script0 i5) w fun v25 w =>
  optW (ldN 3 v25 w) w fun v26 w =>
  newW (zCells Tryd.prog 39) 39 w fun o6 w =>
  stN 3 o6 v26 w fun w =>
  optW (fadO 1 o6) w fun v27 w =>
  optW (ld1 v27 w) w fun v28 w =>
  optW (cvO .u64 v28) w fun v29 w =>
  optW (lenS l3) w fun v31 w =>
  optW (cvO .u64 v31) w fun v32 w =>
  optW (arO .rem v29 v32) w fun v33 w =>
  optW (cvO .i64 v33) w fun v34 w =>
  optW (ixS 1 l3 v34) w fun v37 w =>
  optW (ld1 v37 w) w fun v38 w =>
  semW Tryd.prog (do eqGuard .eql 35 (.tmp 0) (.const undef) v38 (.pointer none); binOp .eql 35 v38 (.pointer none)) w fun v39 w =>
  Cnd v39 (
  K (.bool false) w) (
  optW (fadO 0 o6) w fun v40 w =>
  optW (ld1 v40 w) w fun v41 w =>
  C12 K kn script0 l3 texts4 i5 o6 v34 v41 w)
theorem C11.sound {kn : V4} {Q : QT} (hkn : ∀ f w, kn (f 0) (f 3) (f 4) (f 5) w → Q .normal f w) (hr : ∀ f w, R K f w → Q .ret f w) {f : Fr} {w : World} (h : C11 K kn (f 0) (f 3) (f 4) (f 5) w) : W Tryd.prog ext (subC B [1, 1, 1, 1, 0, 0, 0, 1, 1, 0, 0]) Q f w :=
  W_pre 5 (c2 := (subC B [1, 1, 1, 1, 0, 0, 0, 1, 1, 0, 0, 1, 1, 1, 1, 1])) (by kernel_rfl) (n := fun f w => C12 K kn (f 0) (f 3) (f 4) (f 5) (f 6) (f 7) (f 41) w) (r := R K) (xs := []) (gs := []) (Eq.mp (by kernel_rfl) h) (fun f w h => W_block' (id := 2) (c := (subC B [1, 1, 1, 1, 0, 0, 0, 1, 1, 0, 0, 1, 1, 1, 1, 1, 0])) (by kernel_rfl) (C12.sound (K := K) (Q := (blkQ 2 Q)) (kn := kn) (fun f w h => blk_n (hkn f w h)) hr h)) hr trivial trivial
def C9 (K : KT) (kx0 : V2) (kn : V4) (script0 l3 texts4 i5 : Value) (w : World) : Prop :=
  optW (lenS script0) w fun v19 w =>
  optW (arO .lss i5 v19) w fun v20 w =>
  Cnd v20 (
  C11 K (C10 K kn) script0 l3 texts4 i5 w) (
  kx0 l3 texts4 w)
theorem C9.sound {kx0 : V2} {kn : V4} {Q : QT} (hkx0 : ∀ f w, kx0 (f 3) (f 4) w → Q (.exit 0) f w) (hkn : ∀ f w, kn (f 0) (f 3) (f 4) (f 5) w → Q .normal f w) (hr : ∀ f w, R K f w → Q .ret f w) {f : Fr} {w : World} (h : C9 K kx0 kn (f 0) (f 3) (f 4) (f 5) w) : W Tryd.prog ext (subC B [1, 1, 1, 1, 0, 0, 0]) Q f w :=
  W_pre 2 (c2 := (subC B [1, 1, 1, 1, 0, 0, 0, 1, 1])) (by kernel_rfl) (n := fun f w => C11 K (C10 K kn) (f 0) (f 3) (f 4) (f 5) w) (r := R K) (xs := [(0, fun f w => kx0 (f 3) (f 4) w)]) (gs := []) (Eq.mp (by kernel_rfl) h) (fun f w h => W_seq' (a := (subC B [1, 1, 1, 1, 0, 0, 0, 1, 1, 0])) (b := (subC B [1, 1, 1, 1, 0, 0, 0, 1, 1, 1])) (by kernel_rfl) (W_block' (id := 1) (c := (subC B [1, 1, 1, 1, 0, 0, 0, 1, 1, 0, 0])) (by kernel_rfl) (C11.sound (K := K) (Q := (blkQ 1 (seqQ (W Tryd.prog ext (subC B [1, 1, 1, 1, 0, 0, 0, 1, 1, 1]) Q) Q))) (kn := (C10 K kn)) (fun f w h => blk_n ((fun f w h => seq_n (C10.sound (K := K) (Q := Q) (kn := kn) hkn hr h)) f w h)) hr h))) hr ⟨hkx0, trivial⟩ trivial
def L9 (K : KT) (kx0 : V2) : Nat → V4
  | 0, _, _, _, _, _ => False
  | k + 1, script0, l3, texts4, i5, w => C9 K kx0 (L9 K kx0 k) script0 l3 texts4 i5 w
theorem L9.sound {kx0 : V2} {Q : QT} (hkx0 : ∀ f w, kx0 (f 3) (f 4) w → Q (.exit 0) f w) (hr : ∀ f w, R K f w → Q .ret f w) : ∀ (k : Nat) (f : Fr) (w : World), L9 K kx0 k (f 0) (f 3) (f 4) (f 5) w → It (W Tryd.prog ext (subC B [1, 1, 1, 1, 0, 0, 0])) Q k f w
  | 0, _, _, h => h
  | k + 1, _, _, h => C9.sound (K := K) (Q := seqQ (It (W Tryd.prog ext (subC B [1, 1, 1, 1, 0, 0, 0])) Q k) Q) hkx0 (fun f w h => seq_n (L9.sound hkx0 hr k f w h)) hr h
def C1 (K : KT) (script0 : Value) (w : World) : Prop :=
  CallsR Tryd.prog 19 #[] w fun v14 w =>
  semW Tryd.prog (Instr.buildSlice 37 1 #[(0, v14)]) w fun v15 w =>
  semW Tryd.prog (Instr.buildSlice 24 1 #[(0, (.slice none 0 0))]) w fun v16 w =>
  ∃ k, L9 K (C2 K) k script0 v15 v16 (.int .i64 0) w
theorem C1.sound {Q : QT} (hr : ∀ f w, R K f w → Q .ret f w) {f : Fr} {w : World} (h : C1 K (f 0) w) : W Tryd.prog ext (subC B []) Q f w :=
  W_pre 4 (c2 := (subC B [1, 1, 1, 1])) (by kernel_rfl) (n := fun f w => ∃ k, L9 K (C2 K) k (f 0) (f 3) (f 4) (f 5) w) (r := R K) (xs := []) (gs := []) (Eq.mp (by kernel_rfl) h) (fun f w h => W_seq' (a := (subC B [1, 1, 1, 1, 0])) (b := (subC B [1, 1, 1, 1, 1])) (by kernel_rfl) (W_block' (id := 0) (c := (subC B [1, 1, 1, 1, 0, 0])) (by kernel_rfl) (W_loop' (c := (subC B [1, 1, 1, 1, 0, 0, 0])) (by kernel_rfl) (h.elim fun k h => ⟨k, L9.sound (K := K) (Q := (blkQ 0 (seqQ (W Tryd.prog ext (subC B [1, 1, 1, 1, 1]) Q) Q))) (kx0 := (C2 K)) (fun f w h => blk_x ((fun f w h => seq_n (C2.sound (K := K) (Q := Q) hr h)) f w h)) hr k _ _ h⟩)))) hr trivial trivial
def J (script0 : Value) (w : World) (K : KT) : Prop := C1 K script0 w
theorem sound {script0 : Value} {w : World} (h : J script0 w K) : CallsR Tryd.prog 5 #[script0] w K :=
  calls_of_W (ext := ext) (args := [script0]) (fn := Tryd.f5) (c := bodyC Tryd.f5) mixedOk Tryd.func5 rfl (by kernel_rfl) (Nat.le_of_ble_eq_true (by kernel_rfl)) (W_flat _ _ _ _ (C1.sound (fun _ _ h => h) h))
end witnesslaw1_DigestPieces
/- witness/witnesslaw1.DigestBursts -/
namespace witnesslaw1_DigestBursts
noncomputable abbrev B : Code := flat (bodyC Tryd.f8)
noncomputable abbrev R (K : KT) : Fr → World → Prop := fnPost Tryd.prog Tryd.f8.results.toList K .ret
variable {K : KT}
def C2 (K : KT) (text0 other8 changed9 : Value) (w : World) : Prop :=
  CallsR Tryd.prog 29 #[] w fun v61 w =>
  gOp v61 true w (fun K => K text0 w) fun v63 w =>
  gOp v61 true w (fun K => semW Tryd.prog (Instr.buildSlice 24 1 #[(0, v63)]) w K) fun v64 w =>
  gOp v61 true w (fun K => CallsR Tryd.prog 16 #[v64] w K) fun v65 w =>
  gOp v61 true w (fun K => K other8 w) fun v66 w =>
  gOp v61 true w (fun K => semW Tryd.prog (Instr.buildSlice 24 1 #[(0, v66)]) w K) fun v67 w =>
  gOp v61 true w (fun K => CallsR Tryd.prog 16 #[v67] w K) fun v68 w =>
  gOp v61 true w (fun K => optW (eqO true v65 v68) w K) fun v69 w =>
  gOp v61 true w (fun K => K changed9 w) fun v70 w =>
  gOp v61 true w (fun K => optW (eqB false v69 v70) w K) fun v71 w =>
  optW (pickO v61 v71 (.bool false)) w fun v72 w =>
  K v72 w
theorem C2.sound {Q : QT} (hr : ∀ f w, R K f w → Q .ret f w) {f : Fr} {w : World} (h : C2 K (f 0) (f 8) (f 9) w) : W Tryd.prog ext (subC B [1, 1, 1, 1, 1, 1, 1, 1, 1, 1]) Q f w :=
  W_exq (n := fun _ _ => False) (r := R K) (xs := []) (gs := []) (Eq.mp (by kernel_rfl) h) (fun _ _ h => h.elim) hr trivial trivial
def C4 (K : KT) (kn : V7) (text0 at1 bits2 n7 other8 changed9 i10 : Value) (w : World) : Prop :=
  optW (arO .add i10 (.int .i64 1)) w fun v36 w =>
  kn text0 at1 bits2 n7 other8 changed9 v36 w
theorem C4.sound {kn : V7} {Q : QT} (hkn : ∀ f w, kn (f 0) (f 1) (f 2) (f 7) (f 8) (f 9) (f 10) w → Q .normal f w) (hr : ∀ f w, R K f w → Q .ret f w) {f : Fr} {w : World} (h : C4 K kn (f 0) (f 1) (f 2) (f 7) (f 8) (f 9) (f 10) w) : W Tryd.prog ext (subC B [1, 1, 1, 1, 1, 1, 1, 1, 1, 0, 0, 0, 1, 1, 1]) Q f w :=
  W_exq (n := fun f w => kn (f 0) (f 1) (f 2) (f 7) (f 8) (f 9) (f 10) w) (r := R K) (xs := []) (gs := []) (Eq.mp (by kernel_rfl) h) hkn hr trivial trivial
def C5 (K : KT) (kn : V7) (text0 at1 bits2 n7 other8 changed9 i10 : Value) (w : World) : Prop :=
  optW (shO .shr bits2 i10) w fun v39 w =>
  optW (arO .and v39 (.int .u32 1)) w fun v40 w =>
  optW (eqO false v40 (.int .u32 1)) w fun v41 w =>
  Cnd v41 (
  drw w fun w =>
  optW (arO .add at1 i10) w fun v45 w =>
  optW (arO .quo v45 (.int .i64 8)) w fun v46 w =>
  optW (arO .add at1 i10) w fun v50 w =>
  optW (arO .quo v50 (.int .i64 8)) w fun v51 w =>
  optW (ixS 1 other8 v51) w fun v52 w =>
  optW (ld1 v52 w) w fun v53 w =>
  optW (arO .add at1 i10) w fun v56 w =>
  optW (arO .rem v56 (.int .i64 8)) w fun v57 w =>
  optW (shO .shl (.int .u8 1) v57) w fun v58 w =>
  optW (arO .xor v53 v58) w fun v59 w =>
  optW (ixS 1 other8 v46) w fun v60 w =>
  st1 v60 v59 w fun w =>
  kn text0 at1 bits2 n7 other8 (.bool true) i10 w) (
  kn text0 at1 bits2 n7 other8 changed9 i10 w)
theorem C5.sound {kn : V7} {Q : QT} (hkn : ∀ f w, kn (f 0) (f 1) (f 2) (f 7) (f 8) (f 9) (f 10) w → Q .normal f w) (hr : ∀ f w, R K f w → Q .ret f w) {f : Fr} {w : World} (h : C5 K kn (f 0) (f 1) (f 2) (f 7) (f 8) (f 9) (f 10) w) : W Tryd.prog ext (subC B [1, 1, 1, 1, 1, 1, 1, 1, 1, 0, 0, 0, 1, 1, 0, 0]) Q f w :=
  W_exq (n := fun f w => kn (f 0) (f 1) (f 2) (f 7) (f 8) (f 9) (f 10) w) (r := R K) (xs := []) (gs := []) (Eq.mp (by kernel_rfl) h) hkn hr trivial trivial
def C3 (K : KT) (kx0 : V3) (kn : V7) (text0 at1 bits2 n7 other8 changed9 i10 : Value) (w : World) : Prop :=
  optW (arO .lss i10 (.int .i64 32)) w fun v27 w =>
  gOp v27 true w (fun K => K at1 w) fun v29 w =>
  gOp v27 true w (fun K => K i10 w) fun v30 w =>
  gOp v27 true w (fun K => optW (arO .add v29 v30) w K) fun v31 w =>
  gOp v27 true w (fun K => K n7 w) fun v32 w =>
  gOp v27 true w (fun K => optW (arO .lss v31 v32) w K) fun v33 w =>
  optW (pickO v27 v33 (.bool false)) w fun v34 w =>
  Cnd v34 (
  C5 K (C4 K kn) text0 at1 bits2 n7 other8 changed9 i10 w) (
  kx0 text0 other8 changed9 w)
theorem C3.sound {kx0 : V3} {kn : V7} {Q : QT} (hkx0 : ∀ f w, kx0 (f 0) (f 8) (f 9) w → Q (.exit 0) f w) (hkn : ∀ f w, kn (f 0) (f 1) (f 2) (f 7) (f 8) (f 9) (f 10) w → Q .normal f w) (hr : ∀ f w, R K f w → Q .ret f w) {f : Fr} {w : World} (h : C3 K kx0 kn (f 0) (f 1) (f 2) (f 7) (f 8) (f 9) (f 10) w) : W Tryd.prog ext (subC B [1, 1, 1, 1, 1, 1, 1, 1, 1, 0, 0, 0]) Q f w :=
  W_pre 2 (c2 := (subC B [1, 1, 1, 1, 1, 1, 1, 1, 1, 0, 0, 0, 1, 1])) (by kernel_rfl) (n := fun f w => C5 K (C4 K kn) (f 0) (f 1) (f 2) (f 7) (f 8) (f 9) (f 10) w) (r := R K) (xs := [(0, fun f w => kx0 (f 0) (f 8) (f 9) w)]) (gs := []) (Eq.mp (by kernel_rfl) h) (fun f w h => W_seq' (a := (subC B [1, 1, 1, 1, 1, 1, 1, 1, 1, 0, 0, 0, 1, 1, 0])) (b := (subC B [1, 1, 1, 1, 1, 1, 1, 1, 1, 0, 0, 0, 1, 1, 1])) (by kernel_rfl) (W_block' (id := 1) (c := (subC B [1, 1, 1, 1, 1, 1, 1, 1, 1, 0, 0, 0, 1, 1, 0, 0])) (by kernel_rfl) (C5.sound (K := K) (Q := (blkQ 1 (seqQ (W Tryd.prog ext (subC B [1, 1, 1, 1, 1, 1, 1, 1, 1, 0, 0, 0, 1, 1, 1]) Q) Q))) (kn := (C4 K kn)) (fun f w h => blk_n ((fun f w h => seq_n (C4.sound (K := K) (Q := Q) (kn := kn) hkn hr h)) f w h)) hr h))) hr ⟨hkx0, trivial⟩ trivial
def L3 (K : KT) (kx0 : V3) : Nat → V7
  | 0, _, _, _, _, _, _, _, _ => False
  | k + 1, text0, at1, bits2, n7, other8, changed9, i10, w => C3 K kx0 (L3 K kx0 k) text0 at1 bits2 n7 other8 changed9 i10 w
theorem L3.sound {kx0 : V3} {Q : QT} (hkx0 : ∀ f w, kx0 (f 0) (f 8) (f 9) w → Q (.exit 0) f w) (hr : ∀ f w, R K f w → Q .ret f w) : ∀ (k : Nat) (f : Fr) (w : World), L3 K kx0 k (f 0) (f 1) (f 2) (f 7) (f 8) (f 9) (f 10) w → It (W Tryd.prog ext (subC B [1, 1, 1, 1, 1, 1, 1, 1, 1, 0, 0, 0])) Q k f w
  | 0, _, _, h => h
  | k + 1, _, _, h => C3.sound (K := K) (Q := seqQ (It (W Tryd.prog ext (subC B [1, 1, 1, 1, 1, 1, 1, 1, 1, 0, 0, 0])) Q k) Q) hkx0 (fun f w h => seq_n (L3.sound hkx0 hr k f w h)) hr h
def C1 (K : KT) (text0 at1 bits2 : Value) (w : World) : Prop :=
  optW (lenS text0) w fun v12 w =>
  optW (arO .mul (.int .i64 8) v12) w fun v13 w =>
  optW (eqO false v13 (.int .i64 0)) w fun v15 w =>
  Cnd v15 (
  CallsR Tryd.prog 29 #[] w fun v16 w =>
  K v16 w) (
  optW (cvO .u64 at1) w fun v18 w =>
  optW (cvO .u64 v13) w fun v20 w =>
  optW (arO .rem v18 v20) w fun v21 w =>
  optW (cvO .i64 v21) w fun v22 w =>
  semW Tryd.prog (bltS .append #[23, 23] 23 #[(.slice none 0 0), text0]) w fun v25 w =>
  ∃ k, L3 K (C2 K) k text0 v22 bits2 v13 v25 (.bool false) (.int .i64 0) w)
theorem C1.sound {Q : QT} (hr : ∀ f w, R K f w → Q .ret f w) {f : Fr} {w : World} (h : C1 K (f 0) (f 1) (f 2) w) : W Tryd.prog ext (subC B []) Q f w :=
  W_pre 9 (c2 := (subC B [1, 1, 1, 1, 1, 1, 1, 1, 1])) (by kernel_rfl) (n := fun f w => ∃ k, L3 K (C2 K) k (f 0) (f 1) (f 2) (f 7) (f 8) (f 9) (f 10) w) (r := R K) (xs := []) (gs := []) (Eq.mp (by kernel_rfl) h) (fun f w h => W_seq' (a := (subC B [1, 1, 1, 1, 1, 1, 1, 1, 1, 0])) (b := (subC B [1, 1, 1, 1, 1, 1, 1, 1, 1, 1])) (by kernel_rfl) (W_block' (id := 0) (c := (subC B [1, 1, 1, 1, 1, 1, 1, 1, 1, 0, 0])) (by kernel_rfl) (W_loop' (c := (subC B [1, 1, 1, 1, 1, 1, 1, 1, 1, 0, 0, 0])) (by kernel_rfl) (h.elim fun k h => ⟨k, L3.sound (K := K) (Q := (blkQ 0 (seqQ (W Tryd.prog ext (subC B [1, 1, 1, 1, 1, 1, 1, 1, 1, 1]) Q) Q))) (kx0 := (C2 K)) (fun f w h => blk_x ((fun f w h => seq_n (C2.sound (K := K) (Q := Q) hr h)) f w h)) hr k _ _ h⟩)))) hr trivial trivial
def J (text0 at1 bits2 : Value) (w : World) (K : KT) : Prop := C1 K text0 at1 bits2 w
theorem sound {text0 at1 bits2 : Value} {w : World} (h : J text0 at1 bits2 w K) : CallsR Tryd.prog 8 #[text0, at1, bits2] w K :=
  calls_of_W (ext := ext) (args := [text0, at1, bits2]) (fn := Tryd.f8) (c := bodyC Tryd.f8) mixedOk Tryd.func8 rfl (by kernel_rfl) (Nat.le_of_ble_eq_true (by kernel_rfl)) (W_flat _ _ _ _ (C1.sound (fun _ _ h => h) h))
end witnesslaw1_DigestBursts
/- witness/witnesslaw1.DigestLinear -/
namespace witnesslaw1_DigestLinear
noncomputable abbrev B : Code := flat (bodyC Tryd.f9)
noncomputable abbrev R (K : KT) : Fr → World → Prop := fnPost Tryd.prog Tryd.f9.results.toList K .ret
variable {K : KT}
def C3 (K : KT) (v6 : Value) (w : World) : Prop :=
  K v6 w
theorem C3.sound {Q : QT} (hr : ∀ f w, R K f w → Q .ret f w) {f : Fr} {w : World} (h : C3 K (f 6) w) : W Tryd.prog ext (subC B [1, 1, 1, 1, 1, 1]) Q f w :=
  W_exq (n := fun _ _ => False) (r := R K) (xs := []) (gs := []) (Eq.mp (by kernel_rfl) h) (fun _ _ h => h.elim) hr trivial trivial
def D4 (kn : V1) (a0 b1 c2 n7 x8 : Value) (w : World) : Prop :=
  ∃ (I : World → Prop) (S : World → World → Prop) (q : Nat → Value → World → Prop), I w.drew ∧ (∀ w w', S w w' → I w → I w') ∧ (∀ s v w w', S w w' → q s v w → q s v w') ∧
  (∀ (f : Fr) (w : World), I w → (True) →
    CallsR Tryd.prog 29 #[] w fun v w' => S w w' ∧ q 41 v w') ∧
  (∀ (f : Fr) (w : World), I w → (q 41 (f 41) w ∧ True) →
    S w w ∧ q 42 (f 41) w) ∧
  (∀ (f : Fr) (w : World), I w → (q 42 (f 42) w ∧ True) →
    gOp (f 42) true w (fun K => K x8 w) fun v w' => S w w' ∧ q 43 v w') ∧
  (∀ (f : Fr) (w : World), I w → (q 42 (f 42) w ∧ q 43 (f 43) w ∧ True) →
    gOp (f 42) true w (fun K => semW Tryd.prog (Instr.buildSlice 24 1 #[(0, (f 43))]) w K) fun v w' => S w w' ∧ q 44 v w') ∧
  (∀ (f : Fr) (w : World), I w → (q 42 (f 42) w ∧ q 44 (f 44) w ∧ True) →
    gOp (f 42) true w (fun K => CallsR Tryd.prog 16 #[(f 44)] w K) fun v w' => S w w' ∧ q 45 v w') ∧
  (∀ (f : Fr) (w : World), I w → (q 42 (f 42) w ∧ True) →
    gOp (f 42) true w (fun K => K a0 w) fun v w' => S w w' ∧ q 46 v w') ∧
  (∀ (f : Fr) (w : World), I w → (q 42 (f 42) w ∧ True) →
    gOp (f 42) true w (fun K => K n7 w) fun v w' => S w w' ∧ q 47 v w') ∧
  (∀ (f : Fr) (w : World), I w → (q 42 (f 42) w ∧ q 46 (f 46) w ∧ q 47 (f 47) w ∧ True) →
    gOp (f 42) true w (fun K => optW (slS 1 (f 46) none (some (f 47)) none) w K) fun v w' => S w w' ∧ q 48 v w') ∧
  (∀ (f : Fr) (w : World), I w → (q 42 (f 42) w ∧ q 48 (f 48) w ∧ True) →
    gOp (f 42) true w (fun K => semW Tryd.prog (Instr.buildSlice 24 1 #[(0, (f 48))]) w K) fun v w' => S w w' ∧ q 49 v w') ∧
  (∀ (f : Fr) (w : World), I w → (q 42 (f 42) w ∧ q 49 (f 49) w ∧ True) →
    gOp (f 42) true w (fun K => CallsR Tryd.prog 16 #[(f 49)] w K) fun v w' => S w w' ∧ q 50 v w') ∧
  (∀ (f : Fr) (w : World), I w → (q 42 (f 42) w ∧ True) →
    gOp (f 42) true w (fun K => K b1 w) fun v w' => S w w' ∧ q 51 v w') ∧
  (∀ (f : Fr) (w : World), I w → (q 42 (f 42) w ∧ True) →
    gOp (f 42) true w (fun K => K n7 w) fun v w' => S w w' ∧ q 52 v w') ∧
  (∀ (f : Fr) (w : World), I w → (q 42 (f 42) w ∧ q 51 (f 51) w ∧ q 52 (f 52) w ∧ True) →
    gOp (f 42) true w (fun K => optW (slS 1 (f 51) none (some (f 52)) none) w K) fun v w' => S w w' ∧ q 53 v w') ∧
  (∀ (f : Fr) (w : World), I w → (q 42 (f 42) w ∧ q 53 (f 53) w ∧ True) →
    gOp (f 42) true w (fun K => semW Tryd.prog (Instr.buildSlice 24 1 #[(0, (f 53))]) w K) fun v w' => S w w' ∧ q 54 v w') ∧
  (∀ (f : Fr) (w : World), I w → (q 42 (f 42) w ∧ q 54 (f 54) w ∧ True) →
    gOp (f 42) true w (fun K => CallsR Tryd.prog 16 #[(f 54)] w K) fun v w' => S w w' ∧ q 55 v w') ∧
  (∀ (f : Fr) (w : World), I w → (q 42 (f 42) w ∧ q 50 (f 50) w ∧ q 55 (f 55) w ∧ True) →
    gOp (f 42) true w (fun K => optW (arO .xor (f 50) (f 55)) w K) fun v w' => S w w' ∧ q 56 v w') ∧
  (∀ (f : Fr) (w : World), I w → (q 42 (f 42) w ∧ True) →
    gOp (f 42) true w (fun K => K c2 w) fun v w' => S w w' ∧ q 57 v w') ∧
  (∀ (f : Fr) (w : World), I w → (q 42 (f 42) w ∧ True) →
    gOp (f 42) true w (fun K => K n7 w) fun v w' => S w w' ∧ q 58 v w') ∧
  (∀ (f : Fr) (w : World), I w → (q 42 (f 42) w ∧ q 57 (f 57) w ∧ q 58 (f 58) w ∧ True) →
    gOp (f 42) true w (fun K => optW (slS 1 (f 57) none (some (f 58)) none) w K) fun v w' => S w w' ∧ q 59 v w') ∧
  (∀ (f : Fr) (w : World), I w → (q 42 (f 42) w ∧ q 59 (f 59) w ∧ True) →
    gOp (f 42) true w (fun K => semW Tryd.prog (Instr.buildSlice 24 1 #[(0, (f 59))]) w K) fun v w' => S w w' ∧ q 60 v w') ∧
  (∀ (f : Fr) (w : World), I w → (q 42 (f 42) w ∧ q 60 (f 60) w ∧ True) →
    gOp (f 42) true w (fun K => CallsR Tryd.prog 16 #[(f 60)] w K) fun v w' => S w w' ∧ q 61 v w') ∧
  (∀ (f : Fr) (w : World), I w → (q 42 (f 42) w ∧ q 56 (f 56) w ∧ q 61 (f 61) w ∧ True) →
    gOp (f 42) true w (fun K => optW (arO .xor (f 56) (f 61)) w K) fun v w' => S w w' ∧ q 62 v w') ∧
  (∀ (f : Fr) (w : World), I w → (q 42 (f 42) w ∧ q 45 (f 45) w ∧ q 62 (f 62) w ∧ True) →
    gOp (f 42) true w (fun K => optW (eqO false (f 45) (f 62)) w K) fun v w' => S w w' ∧ q 63 v w') ∧
  (∀ (f : Fr) (w : World), I w → (q 42 (f 42) w ∧ q 63 (f 63) w ∧ True) →
    optW (pickO (f 42) (f 63) (.bool false)) w fun v w' => S w w' ∧ q 64 v w') ∧
  (∀ (f : Fr) (w : World), I w → (q 64 (f 64) w ∧ True) →
    S w w ∧ q 6 (f 64) w) ∧
(∀ (f : Fr) (w : World), I w → (q 41 (f 41) w ∧ q 42 (f 42) w ∧ q 43 (f 43) w ∧ q 44 (f 44) w ∧ q 45 (f 45) w ∧ q 46 (f 46) w ∧ q 47 (f 47) w ∧ q 48 (f 48) w ∧ q 49 (f 49) w ∧ q 50 (f 50) w ∧ q 51 (f 51) w ∧ q 52 (f 52) w ∧ q 53 (f 53) w ∧ q 54 (f 54) w ∧ q 55 (f 55) w ∧ q 56 (f 56) w ∧ q 57 (f 57) w ∧ q 58 (f 58) w ∧ q 59 (f 59) w ∧ q 60 (f 60) w ∧ q 61 (f 61) w ∧ q 62 (f 62) w ∧ q 63 (f 63) w ∧ q 64 (f 64) w ∧ q 6 (f 6) w ∧ True) →
    kn (f 6) w)
def C2 (K : KT) (a0 b1 c2 n7 x8 : Value) (w : World) : Prop :=
  D4 (C3 K) a0 b1 c2 n7 x8 w
theorem C2.sound {Q : QT} (hr : ∀ f w, R K f w → Q .ret f w) {f : Fr} {w : World} (h : C2 K (f 0) (f 1) (f 2) (f 7) (f 8) w) : W Tryd.prog ext (subC B [1, 1, 1, 1, 1]) Q f w :=
  W_seq' (a := (subC B [1, 1, 1, 1, 1, 0])) (b := (subC B [1, 1, 1, 1, 1, 1])) (by kernel_rfl) (W_drawR' (id := 7) (ops := (opsC (subC B [1, 1, 1, 1, 1, 0]))) (N := fun f w => (C3 K) (f 6) w) (by kernel_rfl) (by kernel_rfl) (by kernel_rfl) (Eq.mp (by kernel_rfl) h) (fun f w h => seq_n (C3.sound (K := K) (Q := Q) hr h)))
def C5 (K : KT) (kx0 : V5) (kn : V6) (a0 b1 c2 n7 x8 i9 : Value) (w : World) : Prop :=
  optW (arO .lss i9 n7) w fun v21 w =>
  Cnd v21 (
  drw w fun w =>
  optW (ixS 1 a0 i9) w fun v28 w =>
  optW (ld1 v28 w) w fun v29 w =>
  optW (ixS 1 b1 i9) w fun v32 w =>
  optW (ld1 v32 w) w fun v33 w =>
  optW (arO .xor v29 v33) w fun v34 w =>
  optW (ixS 1 c2 i9) w fun v37 w =>
  optW (ld1 v37 w) w fun v38 w =>
  optW (arO .xor v34 v38) w fun v39 w =>
  optW (ixS 1 x8 i9) w fun v40 w =>
  st1 v40 v39 w fun w =>
  optW (arO .add i9 (.int .i64 1)) w fun v23 w =>
  kn a0 b1 c2 n7 x8 v23 w) (
  kx0 a0 b1 c2 n7 x8 w)
theorem C5.sound {kx0 : V5} {kn : V6} {Q : QT} (hkx0 : ∀ f w, kx0 (f 0) (f 1) (f 2) (f 7) (f 8) w → Q (.exit 0) f w) (hkn : ∀ f w, kn (f 0) (f 1) (f 2) (f 7) (f 8) (f 9) w → Q .normal f w) (hr : ∀ f w, R K f w → Q .ret f w) {f : Fr} {w : World} (h : C5 K kx0 kn (f 0) (f 1) (f 2) (f 7) (f 8) (f 9) w) : W Tryd.prog ext (subC B [1, 1, 1, 1, 0, 0, 0]) Q f w :=
  W_exq (n := fun f w => kn (f 0) (f 1) (f 2) (f 7) (f 8) (f 9) w) (r := R K) (xs := [(0, fun f w => kx0 (f 0) (f 1) (f 2) (f 7) (f 8) w)]) (gs := []) (Eq.mp (by kernel_rfl) h) hkn hr ⟨hkx0, trivial⟩ trivial
def L5 (K : KT) (kx0 : V5) : Nat → V6
  | 0, _, _, _, _, _, _, _ => False
  | k + 1, a0, b1, c2, n7, x8, i9, w => C5 K kx0 (L5 K kx0 k) a0 b1 c2 n7 x8 i9 w
theorem L5.sound {kx0 : V5} {Q : QT} (hkx0 : ∀ f w, kx0 (f 0) (f 1) (f 2) (f 7) (f 8) w → Q (.exit 0) f w) (hr : ∀ f w, R K f w → Q .ret f w) : ∀ (k : Nat) (f : Fr) (w : World), L5 K kx0 k (f 0) (f 1) (f 2) (f 7) (f 8) (f 9) w → It (W Tryd.prog ext (subC B [1, 1, 1, 1, 0, 0, 0])) Q k f w
  | 0, _, _, h => h
  | k + 1, _, _, h => C5.sound (K := K) (Q := seqQ (It (W Tryd.prog ext (subC B [1, 1, 1, 1, 0, 0, 0])) Q k) Q) hkx0 (fun f w h => seq_n (L5.sound hkx0 hr k f w h)) hr h
def C1 (K : KT) (a0 b1 c2 : Value) (w : World) : Prop :=
  optW (lenS a0) w fun v11 w =>
  optW (lenS b1) w fun v13 w =>
  optW (lenS c2) w fun v15 w =>
  semW Tryd.prog (bltS .min #[3, 3, 3] 3 #[v11, v13, v15]) w fun v16 w =>
  semW Tryd.prog (Instr.makeSlice 23 v16 v16) w fun v18 w =>
  ∃ k, L5 K (C2 K) k a0 b1 c2 v16 v18 (.int .i64 0) w
theorem C1.sound {Q : QT} (hr : ∀ f w, R K f w → Q .ret f w) {f : Fr} {w : World} (h : C1 K (f 0) (f 1) (f 2) w) : W Tryd.prog ext (subC B []) Q f w :=
  W_pre 4 (c2 := (subC B [1, 1, 1, 1])) (by kernel_rfl) (n := fun f w => ∃ k, L5 K (C2 K) k (f 0) (f 1) (f 2) (f 7) (f 8) (f 9) w) (r := R K) (xs := []) (gs := []) (Eq.mp (by kernel_rfl) h) (fun f w h => W_seq' (a := (subC B [1, 1, 1, 1, 0])) (b := (subC B [1, 1, 1, 1, 1])) (by kernel_rfl) (W_block' (id := 0) (c := (subC B [1, 1, 1, 1, 0, 0])) (by kernel_rfl) (W_loop' (c := (subC B [1, 1, 1, 1, 0, 0, 0])) (by kernel_rfl) (h.elim fun k h => ⟨k, L5.sound (K := K) (Q := (blkQ 0 (seqQ (W Tryd.prog ext (subC B [1, 1, 1, 1, 1]) Q) Q))) (kx0 := (C2 K)) (fun f w h => blk_x ((fun f w h => seq_n (C2.sound (K := K) (Q := Q) hr h)) f w h)) hr k _ _ h⟩)))) hr trivial trivial
def J (a0 b1 c2 : Value) (w : World) (K : KT) : Prop := C1 K a0 b1 c2 w
theorem sound {a0 b1 c2 : Value} {w : World} (h : J a0 b1 c2 w K) : CallsR Tryd.prog 9 #[a0, b1, c2] w K :=
  calls_of_W (ext := ext) (args := [a0, b1, c2]) (fn := Tryd.f9) (c := bodyC Tryd.f9) mixedOk Tryd.func9 rfl (by kernel_rfl) (Nat.le_of_ble_eq_true (by kernel_rfl)) (W_flat _ _ _ _ (C1.sound (fun _ _ h => h) h))
end witnesslaw1_DigestLinear
/- witness/witnesslaw1.DigestCuts -/
namespace witnesslaw1_DigestCuts
noncomputable abbrev B : Code := flat (bodyC Tryd.f10)
noncomputable abbrev R (K : KT) : Fr → World → Prop := fnPost Tryd.prog Tryd.f10.results.toList K .ret
variable {K : KT}
def C3 (K : KT) (v4 : Value) (w : World) : Prop :=
  K v4 w
theorem C3.sound {Q : QT} (hr : ∀ f w, R K f w → Q .ret f w) {f : Fr} {w : World} (h : C3 K (f 4) w) : W Tryd.prog ext (subC B [1, 1, 1, 1, 1, 1, 1, 1, 1]) Q f w :=
  W_exq (n := fun _ _ => False) (r := R K) (xs := []) (gs := []) (Eq.mp (by kernel_rfl) h) (fun _ _ h => h.elim) hr trivial trivial
def D4 (kn : V1) (text0 whole5 h6 parts7 : Value) (w : World) : Prop :=
  ∃ (I : World → Prop) (S : World → World → Prop) (q : Nat → Value → World → Prop), I w.drew ∧ (∀ w w', S w w' → I w → I w') ∧ (∀ s v w w', S w w' → q s v w → q s v w') ∧
  (∀ (f : Fr) (w : World), I w → (True) →
    CallsR Tryd.prog 29 #[] w fun v w' => S w w' ∧ q 111 v w') ∧
  (∀ (f : Fr) (w : World), I w → (q 111 (f 111) w ∧ True) →
    S w w ∧ q 112 (f 111) w) ∧
  (∀ (f : Fr) (w : World), I w → (q 112 (f 112) w ∧ True) →
    gOp (f 112) true w (fun K => K parts7 w) fun v w' => S w w' ∧ q 113 v w') ∧
  (∀ (f : Fr) (w : World), I w → (q 112 (f 112) w ∧ q 113 (f 113) w ∧ True) →
    gOp (f 112) true w (fun K => CallsR Tryd.prog 26 #[(f 113)] w K) fun v w' => S w w' ∧ q 114 v w') ∧
  (∀ (f : Fr) (w : World), I w → (q 112 (f 112) w ∧ True) →
    gOp (f 112) true w (fun K => optW (ldN 32 whole5 w) w K) fun v w' => S w w' ∧ q 115 v w') ∧
  (∀ (f : Fr) (w : World), I w → (q 112 (f 112) w ∧ q 114 (f 114) w ∧ q 115 (f 115) w ∧ True) →
    gOp (f 112) true w (fun K => semW Tryd.prog (do eqGuard .eql 43 (.tmp 0) (.tmp 0) (f 114) (f 115); binOp .eql 43 (f 114) (f 115)) w K) fun v w' => S w w' ∧ q 116 v w') ∧
  (∀ (f : Fr) (w : World), I w → (q 112 (f 112) w ∧ q 116 (f 116) w ∧ True) →
    optW (pickO (f 112) (f 116) (.bool false)) w fun v w' => S w w' ∧ q 117 v w') ∧
  (∀ (f : Fr) (w : World), I w → (q 117 (f 117) w ∧ True) →
    S w w ∧ q 118 (f 117) w) ∧
  (∀ (f : Fr) (w : World), I w → (q 118 (f 118) w ∧ True) →
    gOp (f 118) true w (fun K => K parts7 w) fun v w' => S w w' ∧ q 119 v w') ∧
  (∀ (f : Fr) (w : World), I w → (q 118 (f 118) w ∧ q 119 (f 119) w ∧ True) →
    gOp (f 118) true w (fun K => CallsR Tryd.prog 16 #[(f 119)] w K) fun v w' => S w w' ∧ q 120 v w') ∧
  (∀ (f : Fr) (w : World), I w → (q 118 (f 118) w ∧ True) →
    gOp (f 118) true w (fun K => K text0 w) fun v w' => S w w' ∧ q 121 v w') ∧
  (∀ (f : Fr) (w : World), I w → (q 118 (f 118) w ∧ q 121 (f 121) w ∧ True) →
    gOp (f 118) true w (fun K => semW Tryd.prog (Instr.buildSlice 24 1 #[(0, (f 121))]) w K) fun v w' => S w w' ∧ q 122 v w') ∧
  (∀ (f : Fr) (w : World), I w → (q 118 (f 118) w ∧ q 122 (f 122) w ∧ True) →
    gOp (f 118) true w (fun K => CallsR Tryd.prog 16 #[(f 122)] w K) fun v w' => S w w' ∧ q 123 v w') ∧
  (∀ (f : Fr) (w : World), I w → (q 118 (f 118) w ∧ q 120 (f 120) w ∧ q 123 (f 123) w ∧ True) →
    gOp (f 118) true w (fun K => optW (eqO false (f 120) (f 123)) w K) fun v w' => S w w' ∧ q 124 v w') ∧
  (∀ (f : Fr) (w : World), I w → (q 118 (f 118) w ∧ q 124 (f 124) w ∧ True) →
    optW (pickO (f 118) (f 124) (.bool false)) w fun v w' => S w w' ∧ q 125 v w') ∧
  (∀ (f : Fr) (w : World), I w → (q 125 (f 125) w ∧ True) →
    S w w ∧ q 126 (f 125) w) ∧
  (∀ (f : Fr) (w : World), I w → (q 126 (f 126) w ∧ True) →
    gOp (f 126) true w (fun K => K h6 w) fun v w' => S w w' ∧ q 127 v w') ∧
  (∀ (f : Fr) (w : World), I w → (q 126 (f 126) w ∧ q 127 (f 127) w ∧ True) →
    gOp (f 126) true w (fun K => CallsR Tryd.prog 21 #[(f 127)] w K) fun v w' => S w w' ∧ q 128 v w') ∧
  (∀ (f : Fr) (w : World), I w → (q 126 (f 126) w ∧ True) →
    gOp (f 126) true w (fun K => optW (ldN 32 whole5 w) w K) fun v w' => S w w' ∧ q 129 v w') ∧
  (∀ (f : Fr) (w : World), I w → (q 126 (f 126) w ∧ q 128 (f 128) w ∧ q 129 (f 129) w ∧ True) →
    gOp (f 126) true w (fun K => semW Tryd.prog (do eqGuard .eql 43 (.tmp 0) (.tmp 0) (f 128) (f 129); binOp .eql 43 (f 128) (f 129)) w K) fun v w' => S w w' ∧ q 130 v w') ∧
  (∀ (f : Fr) (w : World), I w → (q 126 (f 126) w ∧ q 130 (f 130) w ∧ True) →
    optW (pickO (f 126) (f 130) (.bool false)) w fun v w' => S w w' ∧ q 131 v w') ∧
  (∀ (f : Fr) (w : World), I w → (q 131 (f 131) w ∧ True) →
    S w w ∧ q 4 (f 131) w) ∧
(∀ (f : Fr) (w : World), I w → (q 111 (f 111) w ∧ q 112 (f 112) w ∧ q 113 (f 113) w ∧ q 114 (f 114) w ∧ q 115 (f 115) w ∧ q 116 (f 116) w ∧ q 117 (f 117) w ∧ q 118 (f 118) w ∧ q 119 (f 119) w ∧ q 120 (f 120) w ∧ q 121 (f 121) w ∧ q 122 (f 122) w ∧ q 123 (f 123) w ∧ q 124 (f 124) w ∧ q 125 (f 125) w ∧ q 126 (f 126) w ∧ q 127 (f 127) w ∧ q 128 (f 128) w ∧ q 129 (f 129) w ∧ q 130 (f 130) w ∧ q 131 (f 131) w ∧ q 4 (f 4) w ∧ True) →
    kn (f 4) w)
def C2 (K : KT) (text0 whole5 h6 parts7 : Value) (w : World) : Prop :=
  D4 (C3 K) text0 whole5 h6 parts7 w
theorem C2.sound {Q : QT} (hr : ∀ f w, R K f w → Q .ret f w) {f : Fr} {w : World} (h : C2 K (f 0) (f 5) (f 6) (f 7) w) : W Tryd.prog ext (subC B [1, 1, 1, 1, 1, 1, 1, 1]) Q f w :=
  W_seq' (a := (subC B [1, 1, 1, 1, 1, 1, 1, 1, 0])) (b := (subC B [1, 1, 1, 1, 1, 1, 1, 1, 1])) (by kernel_rfl) (W_drawR' (id := 24) (ops := (opsC (subC B [1, 1, 1, 1, 1, 1, 1, 1, 0]))) (N := fun f w => (C3 K) (f 4) w) (by kernel_rfl) (by kernel_rfl) (by kernel_rfl) (Eq.mp (by kernel_rfl) h) (fun f w h => seq_n (C3.sound (K := K) (Q := Q) hr h)))
def C6 (K : KT) (kn : V8) (text0 cuts1 whole5 h6 parts7 at8 c9 i10 : Value) (w : World) : Prop :=
  optW (arO .add i10 (.int .i64 1)) w fun v28 w =>
  kn text0 cuts1 whole5 h6 parts7 at8 c9 v28 w
theorem C6.sound {kn : V8} {Q : QT} (hkn : ∀ f w, kn (f 0) (f 1) (f 5) (f 6) (f 7) (f 8) (f 9) (f 10) w → Q .normal f w) (hr : ∀ f w, R K f w → Q .ret f w) {f : Fr} {w : World} (h : C6 K kn (f 0) (f 1) (f 5) (f 6) (f 7) (f 8) (f 9) (f 10) w) : W Tryd.prog ext (subC B [1, 1, 1, 1, 1, 1, 1, 0, 0, 0, 1, 1, 1]) Q f w :=
  W_exq (n := fun f w => kn (f 0) (f 1) (f 5) (f 6) (f 7) (f 8) (f 9) (f 10) w) (r := R K) (xs := []) (gs := []) (Eq.mp (by kernel_rfl) h) hkn hr trivial trivial
def C10 (K : KT) (kn : V8) (text0 cuts1 whole5 h6 parts7 at8 c9 i10 end11 v96 : Value) (w : World) : Prop :=
  Cnd v96 (
  K (.bool false) w) (
  optW (slS 1 text0 (some at8) (some end11) none) w fun v101 w =>
  CallsR Tryd.prog 13 #[c9, v101] w fun v102 w =>
  optW (slS 1 text0 none (some end11) none) w fun v106 w =>
  semW Tryd.prog (Instr.buildSlice 24 1 #[(0, v106)]) w fun v107 w =>
  CallsR Tryd.prog 16 #[v107] w fun v108 w =>
  optW (eqO true v102 v108) w fun v109 w =>
  Cnd v109 (
  K (.bool false) w) (
  kn text0 cuts1 whole5 h6 parts7 end11 v102 i10 w))
theorem C10.sound {kn : V8} {Q : QT} (hkn : ∀ f w, kn (f 0) (f 1) (f 5) (f 6) (f 7) (f 8) (f 9) (f 10) w → Q .normal f w) (hr : ∀ f w, R K f w → Q .ret f w) {f : Fr} {w : World} (h : C10 K kn (f 0) (f 1) (f 5) (f 6) (f 7) (f 8) (f 9) (f 10) (f 11) (f 96) w) : W Tryd.prog ext (subC B [1, 1, 1, 1, 1, 1, 1, 0, 0, 0, 1, 1, 0, 0, 1, 1, 1, 1, 1, 1, 1, 1, 1, 1]) Q f w :=
  W_exq (n := fun f w => kn (f 0) (f 1) (f 5) (f 6) (f 7) (f 8) (f 9) (f 10) w) (r := R K) (xs := []) (gs := []) (Eq.mp (by kernel_rfl) h) hkn hr trivial trivial
def D11 (kn : V10) (text0 cuts1 whole5 h6 parts7 at8 c9 i10 end11 : Value) (w : World) : Prop :=
  ∃ (I : World → Prop) (S : World → World → Prop) (q : Nat → Value → World → Prop), I w.drew ∧ (∀ w w', S w w' → I w → I w') ∧ (∀ s v w w', S w w' → q s v w → q s v w') ∧
  (∀ (f : Fr) (w : World), I w → (True) →
    S w w ∧ q 82 h6 w) ∧
  (∀ (f : Fr) (w : World), I w → (q 82 (f 82) w ∧ True) →
    CallsR Tryd.prog 21 #[(f 82)] w fun v w' => S w w' ∧ q 83 v w') ∧
  (∀ (f : Fr) (w : World), I w → (True) →
    S w w ∧ q 84 text0 w) ∧
  (∀ (f : Fr) (w : World), I w → (True) →
    S w w ∧ q 85 end11 w) ∧
  (∀ (f : Fr) (w : World), I w → (q 84 (f 84) w ∧ q 85 (f 85) w ∧ True) →
    optW (slS 1 (f 84) none (some (f 85)) none) w fun v w' => S w w' ∧ q 86 v w') ∧
  (∀ (f : Fr) (w : World), I w → (q 86 (f 86) w ∧ True) →
    semW Tryd.prog (Instr.buildSlice 24 1 #[(0, (f 86))]) w fun v w' => S w w' ∧ q 87 v w') ∧
  (∀ (f : Fr) (w : World), I w → (q 87 (f 87) w ∧ True) →
    CallsR Tryd.prog 26 #[(f 87)] w fun v w' => S w w' ∧ q 88 v w') ∧
  (∀ (f : Fr) (w : World), I w → (q 83 (f 83) w ∧ q 88 (f 88) w ∧ True) →
    semW Tryd.prog (do eqGuard .neq 43 (.tmp 0) (.tmp 0) (f 83) (f 88); binOp .neq 43 (f 83) (f 88)) w fun v w' => S w w' ∧ q 89 v w') ∧
  (∀ (f : Fr) (w : World), I w → (q 89 (f 89) w ∧ True) →
    S w w ∧ q 90 (f 89) w) ∧
  (∀ (f : Fr) (w : World), I w → (q 90 (f 90) w ∧ True) →
    gOp (f 90) false w (fun K => K h6 w) fun v w' => S w w' ∧ q 91 v w') ∧
  (∀ (f : Fr) (w : World), I w → (q 90 (f 90) w ∧ q 91 (f 91) w ∧ True) →
    gOp (f 90) false w (fun K => CallsR Tryd.prog 23 #[(f 91)] w K) fun v w' => S w w' ∧ q 92 v w') ∧
  (∀ (f : Fr) (w : World), I w → (q 90 (f 90) w ∧ True) →
    gOp (f 90) false w (fun K => K end11 w) fun v w' => S w w' ∧ q 93 v w') ∧
  (∀ (f : Fr) (w : World), I w → (q 90 (f 90) w ∧ q 93 (f 93) w ∧ True) →
    gOp (f 90) false w (fun K => optW (cvO .u64 (f 93)) w K) fun v w' => S w w' ∧ q 94 v w') ∧
  (∀ (f : Fr) (w : World), I w → (q 90 (f 90) w ∧ q 92 (f 92) w ∧ q 94 (f 94) w ∧ True) →
    gOp (f 90) false w (fun K => optW (eqO true (f 92) (f 94)) w K) fun v w' => S w w' ∧ q 95 v w') ∧
  (∀ (f : Fr) (w : World), I w → (q 90 (f 90) w ∧ q 95 (f 95) w ∧ True) →
    optW (pickO (f 90) (.bool true) (f 95)) w fun v w' => S w w' ∧ q 96 v w') ∧
(∀ (f : Fr) (w : World), I w → (q 82 (f 82) w ∧ q 83 (f 83) w ∧ q 84 (f 84) w ∧ q 85 (f 85) w ∧ q 86 (f 86) w ∧ q 87 (f 87) w ∧ q 88 (f 88) w ∧ q 89 (f 89) w ∧ q 90 (f 90) w ∧ q 91 (f 91) w ∧ q 92 (f 92) w ∧ q 93 (f 93) w ∧ q 94 (f 94) w ∧ q 95 (f 95) w ∧ q 96 (f 96) w ∧ True) →
    kn text0 cuts1 whole5 h6 parts7 at8 c9 i10 end11 (f 96) w)
def C9 (K : KT) (kn : V8) (text0 cuts1 whole5 h6 parts7 at8 c9 i10 end11 v75 : Value) (w : World) : Prop :=
  Cnd v75 (
  K (.bool false) w) (
  optW (slS 1 text0 (some at8) (some end11) none) w fun v80 w =>
  CallsR Tryd.prog 20 #[h6, v80] w fun v81 w =>
  D11 (C10 K kn) text0 cuts1 whole5 h6 parts7 at8 c9 i10 end11 w)
theorem C9.sound {kn : V8} {Q : QT} (hkn : ∀ f w, kn (f 0) (f 1) (f 5) (f 6) (f 7) (f 8) (f 9) (f 10) w → Q .normal f w) (hr : ∀ f w, R K f w → Q .ret f w) {f : Fr} {w : World} (h : C9 K kn (f 0) (f 1) (f 5) (f 6) (f 7) (f 8) (f 9) (f 10) (f 11) (f 75) w) : W Tryd.prog ext (subC B [1, 1, 1, 1, 1, 1, 1, 0, 0, 0, 1, 1, 0, 0, 1, 1, 1, 1, 1, 1, 1]) Q f w :=
  W_pre 2 (c2 := (subC B [1, 1, 1, 1, 1, 1, 1, 0, 0, 0, 1, 1, 0, 0, 1, 1, 1, 1, 1, 1, 1, 1, 1])) (by kernel_rfl) (n := fun f w => D11 (C10 K kn) (f 0) (f 1) (f 5) (f 6) (f 7) (f 8) (f 9) (f 10) (f 11) w) (r := R K) (xs := []) (gs := []) (Eq.mp (by kernel_rfl) h) (fun f w h => W_seq' (a := (subC B [1, 1, 1, 1, 1, 1, 1, 0, 0, 0, 1, 1, 0, 0, 1, 1, 1, 1, 1, 1, 1, 1, 1, 0])) (b := (subC B [1, 1, 1, 1, 1, 1, 1, 0, 0, 0, 1, 1, 0, 0, 1, 1, 1, 1, 1, 1, 1, 1, 1, 1])) (by kernel_rfl) (W_drawR' (id := 18) (ops := (opsC (subC B [1, 1, 1, 1, 1, 1, 1, 0, 0, 0, 1, 1, 0, 0, 1, 1, 1, 1, 1, 1, 1, 1, 1, 0]))) (N := fun f w => (C10 K kn) (f 0) (f 1) (f 5) (f 6) (f 7) (f 8) (f 9) (f 10) (f 11) (f 96) w) (by kernel_rfl) (by kernel_rfl) (by kernel_rfl) (Eq.mp (by kernel_rfl) h) (fun f w h => seq_n (C10.sound (K := K) (Q := Q) (kn := kn) hkn hr h)))) hr trivial trivial
def D12 (kn : V10) (text0 cuts1 whole5 h6 parts7 at8 c9 i10 end11 f12 : Value) (w : World) : Prop :=
  ∃ I : World → Prop, I w.drew ∧ drw w fun w =>
  CallsR Tryd.prog 21 #[f12] w fun v65 w => I w ∧
  rdI I (fun w => ldN 32 whole5 w) fun v66 =>
  semW Tryd.prog (do eqGuard .neq 43 (.tmp 0) (.tmp 0) v65 v66; binOp .neq 43 v65 v66) w fun v67 w => I w ∧
  gOp v67 false w (fun K => K f12 w) fun v69 w => 
  gOp v67 false w (fun K => CallsR Tryd.prog 23 #[v69] w K) fun v70 w => I w ∧
  gOp v67 false w (fun K => K text0 w) fun v71 w => 
  gOp v67 false w (fun K => optW (lenS v71) w K) fun v72 w => 
  gOp v67 false w (fun K => optW (cvO .u64 v72) w K) fun v73 w => 
  gOp v67 false w (fun K => optW (eqO true v70 v73) w K) fun v74 w => 
  optW (pickO v67 (.bool true) v74) w fun v75 w => 
  kn text0 cuts1 whole5 h6 parts7 at8 c9 i10 end11 v75 w
def C8 (K : KT) (kn : V8) (text0 cuts1 whole5 h6 parts7 at8 c9 i10 end11 : Value) (w : World) : Prop :=
  optW (slS 1 text0 (some at8) (some end11) none) w fun v54 w =>
  semW Tryd.prog (Instr.buildSlice 24 1 #[(0, v54)]) w fun v55 w =>
  semW Tryd.prog (bltS .append #[24, 24] 24 #[parts7, v55]) w fun v56 w =>
  CallsR Tryd.prog 24 #[h6] w fun v58 w =>
  optW (slS 1 text0 (some at8) none none) w fun v62 w =>
  CallsR Tryd.prog 20 #[v58, v62] w fun v63 w =>
  D12 (C9 K kn) text0 cuts1 whole5 h6 v56 at8 c9 i10 end11 v58 w
theorem C8.sound {kn : V8} {Q : QT} (hkn : ∀ f w, kn (f 0) (f 1) (f 5) (f 6) (f 7) (f 8) (f 9) (f 10) w → Q .normal f w) (hr : ∀ f w, R K f w → Q .ret f w) {f : Fr} {w : World} (h : C8 K kn (f 0) (f 1) (f 5) (f 6) (f 7) (f 8) (f 9) (f 10) (f 11) w) : W Tryd.prog ext (subC B [1, 1, 1, 1, 1, 1, 1, 0, 0, 0, 1, 1, 0, 0, 1, 1, 1]) Q f w :=
  W_pre 3 (c2 := (subC B [1, 1, 1, 1, 1, 1, 1, 0, 0, 0, 1, 1, 0, 0, 1, 1, 1, 1, 1, 1])) (by kernel_rfl) (n := fun f w => D12 (C9 K kn) (f 0) (f 1) (f 5) (f 6) (f 7) (f 8) (f 9) (f 10) (f 11) (f 12) w) (r := R K) (xs := []) (gs := []) (Eq.mp (by kernel_rfl) h) (fun f w h => W_seq' (a := (subC B [1, 1, 1, 1, 1, 1, 1, 0, 0, 0, 1, 1, 0, 0, 1, 1, 1, 1, 1, 1, 0])) (b := (subC B [1, 1, 1, 1, 1, 1, 1, 0, 0, 0, 1, 1, 0, 0, 1, 1, 1, 1, 1, 1, 1])) (by kernel_rfl) (W_drawI' (id := 15) (ops := (opsC (subC B [1, 1, 1, 1, 1, 1, 1, 0, 0, 0, 1, 1, 0, 0, 1, 1, 1, 1, 1, 1, 0]))) (N := fun f w => (C9 K kn) (f 0) (f 1) (f 5) (f 6) (f 7) (f 8) (f 9) (f 10) (f 11) (f 75) w) (by kernel_rfl) (by kernel_rfl) (by kernel_rfl) (Eq.mp (by kernel_rfl) h) (fun f w h => seq_n (C9.sound (K := K) (Q := Q) (kn := kn) hkn hr h)))) hr trivial trivial
def C7 (K : KT) (kn : V8) (text0 cuts1 whole5 h6 parts7 at8 c9 i10 : Value) (w : World) : Prop :=
  optW (lenS text0) w fun v30 w =>
  optW (lenS cuts1) w fun v33 w =>
  optW (arO .lss i10 v33) w fun v34 w =>
  Cnd v34 (
  optW (ixS 1 cuts1 i10) w fun v38 w =>
  optW (ld1 v38 w) w fun v39 w =>
  optW (cvO .u64 v39) w fun v40 w =>
  optW (lenS text0) w fun v42 w =>
  optW (arO .sub v42 at8) w fun v44 w =>
  optW (arO .add v44 (.int .i64 1)) w fun v45 w =>
  optW (cvO .u64 v45) w fun v46 w =>
  optW (arO .rem v40 v46) w fun v47 w =>
  optW (cvO .i64 v47) w fun v48 w =>
  optW (arO .add at8 v48) w fun v49 w =>
  C8 K kn text0 cuts1 whole5 h6 parts7 at8 c9 i10 v49 w) (
  C8 K kn text0 cuts1 whole5 h6 parts7 at8 c9 i10 v30 w)
theorem C7.sound {kn : V8} {Q : QT} (hkn : ∀ f w, kn (f 0) (f 1) (f 5) (f 6) (f 7) (f 8) (f 9) (f 10) w → Q .normal f w) (hr : ∀ f w, R K f w → Q .ret f w) {f : Fr} {w : World} (h : C7 K kn (f 0) (f 1) (f 5) (f 6) (f 7) (f 8) (f 9) (f 10) w) : W Tryd.prog ext (subC B [1, 1, 1, 1, 1, 1, 1, 0, 0, 0, 1, 1, 0, 0]) Q f w :=
  W_pre 3 (c2 := (subC B [1, 1, 1, 1, 1, 1, 1, 0, 0, 0, 1, 1, 0, 0, 1, 1, 1])) (by kernel_rfl) (n := fun f w => C8 K kn (f 0) (f 1) (f 5) (f 6) (f 7) (f 8) (f 9) (f 10) (f 11) w) (r := R K) (xs := []) (gs := []) (Eq.mp (by kernel_rfl) h) (fun f w h => C8.sound (K := K) (Q := Q) (kn := kn) hkn hr h) hr trivial trivial
def C5 (K : KT) (kx0 : V4) (kn : V8) (text0 cuts1 whole5 h6 parts7 at8 c9 i10 : Value) (w : World) : Prop :=
  optW (lenS cuts1) w fun v19 w =>
  optW (arO .leq i10 v19) w fun v20 w =>
  gOp v20 true w (fun K => K at8 w) fun v22 w =>
  gOp v20 true w (fun K => K text0 w) fun v23 w =>
  gOp v20 true w (fun K => optW (lenS v23) w K) fun v24 w =>
  gOp v20 true w (fun K => optW (arO .leq v22 v24) w K) fun v25 w =>
  optW (pickO v20 v25 (.bool false)) w fun v26 w =>
  Cnd v26 (
  C7 K (C6 K kn) text0 cuts1 whole5 h6 parts7 at8 c9 i10 w) (
  kx0 text0 whole5 h6 parts7 w)
theorem C5.sound {kx0 : V4} {kn : V8} {Q : QT} (hkx0 : ∀ f w, kx0 (f 0) (f 5) (f 6) (f 7) w → Q (.exit 0) f w) (hkn : ∀ f w, kn (f 0) (f 1) (f 5) (f 6) (f 7) (f 8) (f 9) (f 10) w → Q .normal f w) (hr : ∀ f w, R K f w → Q .ret f w) {f : Fr} {w : World} (h : C5 K kx0 kn (f 0) (f 1) (f 5) (f 6) (f 7) (f 8) (f 9) (f 10) w) : W Tryd.prog ext (subC B [1, 1, 1, 1, 1, 1, 1, 0, 0, 0]) Q f w :=
  W_pre 2 (c2 := (subC B [1, 1, 1, 1, 1, 1, 1, 0, 0, 0, 1, 1])) (by kernel_rfl) (n := fun f w => C7 K (C6 K kn) (f 0) (f 1) (f 5) (f 6) (f 7) (f 8) (f 9) (f 10) w) (r := R K) (xs := [(0, fun f w => kx0 (f 0) (f 5) (f 6) (f 7) w)]) (gs := []) (Eq.mp (by kernel_rfl) h) (fun f w h => W_seq' (a := (subC B [1, 1, 1, 1, 1, 1, 1, 0, 0, 0, 1, 1, 0])) (b := (subC B [1, 1, 1, 1, 1, 1, 1, 0, 0, 0, 1, 1, 1])) (by kernel_rfl) (W_block' (id := 1) (c := (subC B [1, 1, 1, 1, 1, 1, 1, 0, 0, 0, 1, 1, 0, 0])) (by kernel_rfl) (C7.sound (K := K) (Q := (blkQ 1 (seqQ (W Tryd.prog ext (subC B [1, 1, 1, 1, 1, 1, 1, 0, 0, 0, 1, 1, 1]) Q) Q))) (kn := (C6 K kn)) (fun f w h => blk_n ((fun f w h => seq_n (C6.sound (K := K) (Q := Q) (kn := kn) hkn hr h)) f w h)) hr h))) hr ⟨hkx0, trivial⟩ trivial
def L5 (K : KT) (kx0 : V4) : Nat → V8
  | 0, _, _, _, _, _, _, _, _, _ => False
  | k + 1, text0, cuts1, whole5, h6, parts7, at8, c9, i10, w => C5 K kx0 (L5 K kx0 k) text0 cuts1 whole5 h6 parts7 at8 c9 i10 w
theorem L5.sound {kx0 : V4} {Q : QT} (hkx0 : ∀ f w, kx0 (f 0) (f 5) (f 6) (f 7) w → Q (.exit 0) f w) (hr : ∀ f w, R K f w → Q .ret f w) : ∀ (k : Nat) (f : Fr) (w : World), L5 K kx0 k (f 0) (f 1) (f 5) (f 6) (f 7) (f 8) (f 9) (f 10) w → It (W Tryd.prog ext (subC B [1, 1, 1, 1, 1, 1, 1, 0, 0, 0])) Q k f w
  | 0, _, _, h => h
  | k + 1, _, _, h => C5.sound (K := K) (Q := seqQ (It (W Tryd.prog ext (subC B [1, 1, 1, 1, 1, 1, 1, 0, 0, 0])) Q k) Q) hkx0 (fun f w h => seq_n (L5.sound hkx0 hr k f w h)) hr h
def C1 (K : KT) (text0 cuts1 : Value) (w : World) : Prop :=
  semW Tryd.prog (Instr.buildSlice 24 1 #[(0, text0)]) w fun v14 w =>
  CallsR Tryd.prog 26 #[v14] w fun v15 w =>
  newW (zCells Tryd.prog 43) 43 w fun whole5 w =>
  stN 32 whole5 v15 w fun w =>
  CallsR Tryd.prog 19 #[] w fun v16 w =>
  ∃ k, L5 K (C2 K) k text0 cuts1 whole5 v16 (.slice none 0 0) (.int .i64 0) (.int .u32 0) (.int .i64 0) w
theorem C1.sound {Q : QT} (hr : ∀ f w, R K f w → Q .ret f w) {f : Fr} {w : World} (h : C1 K (f 0) (f 1) w) : W Tryd.prog ext (subC B []) Q f w :=
  W_pre 7 (c2 := (subC B [1, 1, 1, 1, 1, 1, 1])) (by kernel_rfl) (n := fun f w => ∃ k, L5 K (C2 K) k (f 0) (f 1) (f 5) (f 6) (f 7) (f 8) (f 9) (f 10) w) (r := R K) (xs := []) (gs := []) (Eq.mp (by kernel_rfl) h) (fun f w h => W_seq' (a := (subC B [1, 1, 1, 1, 1, 1, 1, 0])) (b := (subC B [1, 1, 1, 1, 1, 1, 1, 1])) (by kernel_rfl) (W_block' (id := 0) (c := (subC B [1, 1, 1, 1, 1, 1, 1, 0, 0])) (by kernel_rfl) (W_loop' (c := (subC B [1, 1, 1, 1, 1, 1, 1, 0, 0, 0])) (by kernel_rfl) (h.elim fun k h => ⟨k, L5.sound (K := K) (Q := (blkQ 0 (seqQ (W Tryd.prog ext (subC B [1, 1, 1, 1, 1, 1, 1, 1]) Q) Q))) (kx0 := (C2 K)) (fun f w h => blk_x ((fun f w h => seq_n (C2.sound (K := K) (Q := Q) hr h)) f w h)) hr k _ _ h⟩)))) hr trivial trivial
def J (text0 cuts1 : Value) (w : World) (K : KT) : Prop := C1 K text0 cuts1 w
theorem sound {text0 cuts1 : Value} {w : World} (h : J text0 cuts1 w K) : CallsR Tryd.prog 10 #[text0, cuts1] w K :=
  calls_of_W (ext := ext) (args := [text0, cuts1]) (fn := Tryd.f10) (c := bodyC Tryd.f10) mixedOk Tryd.func10 rfl (by kernel_rfl) (Nat.le_of_ble_eq_true (by kernel_rfl)) (W_flat _ _ _ _ (C1.sound (fun _ _ h => h) h))
end witnesslaw1_DigestCuts
/- witness/witnesslaw1.DigestKeyed -/
namespace witnesslaw1_DigestKeyed
noncomputable abbrev B : Code := flat (bodyC Tryd.f11)
noncomputable abbrev R (K : KT) : Fr → World → Prop := fnPost Tryd.prog Tryd.f11.results.toList K .ret
variable {K : KT}
def C4 (K : KT) (v6 : Value) (w : World) : Prop :=
  K v6 w
theorem C4.sound {Q : QT} (hr : ∀ f w, R K f w → Q .ret f w) {f : Fr} {w : World} (h : C4 K (f 6) w) : W Tryd.prog ext (subC B [1, 1, 1, 1, 1, 1, 1, 1, 1, 1]) Q f w :=
  W_exq (n := fun _ _ => False) (r := R K) (xs := []) (gs := []) (Eq.mp (by kernel_rfl) h) (fun _ _ h => h.elim) hr trivial trivial
def D5 (kn : V1) (key0 text1 outer11 s13 : Value) (w : World) : Prop :=
  ∃ (I : World → Prop) (S : World → World → Prop) (q : Nat → Value → World → Prop), I w.drew ∧ (∀ w w', S w w' → I w → I w') ∧ (∀ s v w w', S w w' → q s v w → q s v w') ∧
  (∀ (f : Fr) (w : World), I w → (True) →
    CallsR Tryd.prog 29 #[] w fun v w' => S w w' ∧ q 80 v w') ∧
  (∀ (f : Fr) (w : World), I w → (q 80 (f 80) w ∧ True) →
    S w w ∧ q 81 (f 80) w) ∧
  (∀ (f : Fr) (w : World), I w → (q 81 (f 81) w ∧ True) →
    gOp (f 81) true w (fun K => K key0 w) fun v w' => S w w' ∧ q 82 v w') ∧
  (∀ (f : Fr) (w : World), I w → (q 81 (f 81) w ∧ True) →
    gOp (f 81) true w (fun K => K text1 w) fun v w' => S w w' ∧ q 83 v w') ∧
  (∀ (f : Fr) (w : World), I w → (q 81 (f 81) w ∧ q 82 (f 82) w ∧ q 83 (f 83) w ∧ True) →
    gOp (f 81) true w (fun K => CallsR Tryd.prog 27 #[(f 82), (f 83)] w K) fun v w' => S w w' ∧ q 84 v w') ∧
  (∀ (f : Fr) (w : World), I w → (q 81 (f 81) w ∧ True) →
    gOp (f 81) true w (fun K => K outer11 w) fun v w' => S w w' ∧ q 85 v w') ∧
  (∀ (f : Fr) (w : World), I w → (q 81 (f 81) w ∧ True) →
    gOp (f 81) true w (fun K => optW (slA 32 1 s13 none none none) w K) fun v w' => S w w' ∧ q 86 v w') ∧
  (∀ (f : Fr) (w : World), I w → (q 81 (f 81) w ∧ q 85 (f 85) w ∧ q 86 (f 86) w ∧ True) →
    gOp (f 81) true w (fun K => semW Tryd.prog (Instr.buildSlice 24 2 #[(0, (f 85)), (1, (f 86))]) w K) fun v w' => S w w' ∧ q 87 v w') ∧
  (∀ (f : Fr) (w : World), I w → (q 81 (f 81) w ∧ q 87 (f 87) w ∧ True) →
    gOp (f 81) true w (fun K => CallsR Tryd.prog 26 #[(f 87)] w K) fun v w' => S w w' ∧ q 88 v w') ∧
  (∀ (f : Fr) (w : World), I w → (q 81 (f 81) w ∧ q 84 (f 84) w ∧ q 88 (f 88) w ∧ True) →
    gOp (f 81) true w (fun K => semW Tryd.prog (do eqGuard .eql 43 (.tmp 0) (.tmp 0) (f 84) (f 88); binOp .eql 43 (f 84) (f 88)) w K) fun v w' => S w w' ∧ q 89 v w') ∧
  (∀ (f : Fr) (w : World), I w → (q 81 (f 81) w ∧ q 89 (f 89) w ∧ True) →
    optW (pickO (f 81) (f 89) (.bool false)) w fun v w' => S w w' ∧ q 90 v w') ∧
  (∀ (f : Fr) (w : World), I w → (q 90 (f 90) w ∧ True) →
    S w w ∧ q 6 (f 90) w) ∧
(∀ (f : Fr) (w : World), I w → (q 80 (f 80) w ∧ q 81 (f 81) w ∧ q 82 (f 82) w ∧ q 83 (f 83) w ∧ q 84 (f 84) w ∧ q 85 (f 85) w ∧ q 86 (f 86) w ∧ q 87 (f 87) w ∧ q 88 (f 88) w ∧ q 89 (f 89) w ∧ q 90 (f 90) w ∧ q 6 (f 6) w ∧ True) →
    kn (f 6) w)
def C3 (K : KT) (key0 text1 inner10 outer11 : Value) (w : World) : Prop :=
  semW Tryd.prog (Instr.buildSlice 24 2 #[(0, inner10), (1, text1)]) w fun v78 w =>
  CallsR Tryd.prog 26 #[v78] w fun v79 w =>
  newW (zCells Tryd.prog 43) 43 w fun s13 w =>
  stN 32 s13 v79 w fun w =>
  D5 (C4 K) key0 text1 outer11 s13 w
theorem C3.sound {Q : QT} (hr : ∀ f w, R K f w → Q .ret f w) {f : Fr} {w : World} (h : C3 K (f 0) (f 1) (f 10) (f 11) w) : W Tryd.prog ext (subC B [1, 1, 1, 1, 1, 1, 1, 1]) Q f w :=
  W_pre 1 (c2 := (subC B [1, 1, 1, 1, 1, 1, 1, 1, 1])) (by kernel_rfl) (n := fun f w => D5 (C4 K) (f 0) (f 1) (f 11) (f 13) w) (r := R K) (xs := []) (gs := []) (Eq.mp (by kernel_rfl) h) (fun f w h => W_seq' (a := (subC B [1, 1, 1, 1, 1, 1, 1, 1, 1, 0])) (b := (subC B [1, 1, 1, 1, 1, 1, 1, 1, 1, 1])) (by kernel_rfl) (W_drawR' (id := 21) (ops := (opsC (subC B [1, 1, 1, 1, 1, 1, 1, 1, 1, 0]))) (N := fun f w => (C4 K) (f 6) w) (by kernel_rfl) (by kernel_rfl) (by kernel_rfl) (Eq.mp (by kernel_rfl) h) (fun f w h => seq_n (C4.sound (K := K) (Q := Q) hr h)))) hr trivial trivial
def C6 (K : KT) (kx0 : V4) (kn : V6) (key0 text1 k7 inner10 outer11 i12 : Value) (w : World) : Prop :=
  optW (arO .lss i12 (.int .i64 64)) w fun v57 w =>
  Cnd v57 (
  optW (ixS 1 k7 i12) w fun v64 w =>
  optW (ld1 v64 w) w fun v65 w =>
  optW (arO .xor v65 (.int .u8 54)) w fun v66 w =>
  optW (ixS 1 inner10 i12) w fun v67 w =>
  st1 v67 v66 w fun w =>
  optW (ixS 1 k7 i12) w fun v72 w =>
  optW (ld1 v72 w) w fun v73 w =>
  optW (arO .xor v73 (.int .u8 92)) w fun v74 w =>
  optW (ixS 1 outer11 i12) w fun v75 w =>
  st1 v75 v74 w fun w =>
  optW (arO .add i12 (.int .i64 1)) w fun v59 w =>
  kn key0 text1 k7 inner10 outer11 v59 w) (
  kx0 key0 text1 inner10 outer11 w)
theorem C6.sound {kx0 : V4} {kn : V6} {Q : QT} (hkx0 : ∀ f w, kx0 (f 0) (f 1) (f 10) (f 11) w → Q (.exit 0) f w) (hkn : ∀ f w, kn (f 0) (f 1) (f 7) (f 10) (f 11) (f 12) w → Q .normal f w) (hr : ∀ f w, R K f w → Q .ret f w) {f : Fr} {w : World} (h : C6 K kx0 kn (f 0) (f 1) (f 7) (f 10) (f 11) (f 12) w) : W Tryd.prog ext (subC B [1, 1, 1, 1, 1, 1, 1, 0, 0, 0]) Q f w :=
  W_exq (n := fun f w => kn (f 0) (f 1) (f 7) (f 10) (f 11) (f 12) w) (r := R K) (xs := [(0, fun f w => kx0 (f 0) (f 1) (f 10) (f 11) w)]) (gs := []) (Eq.mp (by kernel_rfl) h) hkn hr ⟨hkx0, trivial⟩ trivial
def L6 (K : KT) (kx0 : V4) : Nat → V6
  | 0, _, _, _, _, _, _, _ => False
  | k + 1, key0, text1, k7, inner10, outer11, i12, w => C6 K kx0 (L6 K kx0 k) key0 text1 k7 inner10 outer11 i12 w
theorem L6.sound {kx0 : V4} {Q : QT} (hkx0 : ∀ f w, kx0 (f 0) (f 1) (f 10) (f 11) w → Q (.exit 0) f w) (hr : ∀ f w, R K f w → Q .ret f w) : ∀ (k : Nat) (f : Fr) (w : World), L6 K kx0 k (f 0) (f 1) (f 7) (f 10) (f 11) (f 12) w → It (W Tryd.prog ext (subC B [1, 1, 1, 1, 1, 1, 1, 0, 0, 0])) Q k f w
  | 0, _, _, h => h
  | k + 1, _, _, h => C6.sound (K := K) (Q := seqQ (It (W Tryd.prog ext (subC B [1, 1, 1, 1, 1, 1, 1, 0, 0, 0])) Q k) Q) hkx0 (fun f w h => seq_n (L6.sound hkx0 hr k f w h)) hr h
def C2 (K : KT) (key0 text1 k7 : Value) (w : World) : Prop :=
  semW Tryd.prog (Instr.makeSlice 23 (.int .i64 64) (.int .i64 64)) w fun v54 w =>
  semW Tryd.prog (Instr.makeSlice 23 (.int .i64 64) (.int .i64 64)) w fun v55 w =>
  ∃ k, L6 K (C3 K) k key0 text1 k7 v54 v55 (.int .i64 0) w
theorem C2.sound {Q : QT} (hr : ∀ f w, R K f w → Q .ret f w) {f : Fr} {w : World} (h : C2 K (f 0) (f 1) (f 7) w) : W Tryd.prog ext (subC B [1, 1, 1, 1]) Q f w :=
  W_pre 3 (c2 := (subC B [1, 1, 1, 1, 1, 1, 1])) (by kernel_rfl) (n := fun f w => ∃ k, L6 K (C3 K) k (f 0) (f 1) (f 7) (f 10) (f 11) (f 12) w) (r := R K) (xs := []) (gs := []) (Eq.mp (by kernel_rfl) h) (fun f w h => W_seq' (a := (subC B [1, 1, 1, 1, 1, 1, 1, 0])) (b := (subC B [1, 1, 1, 1, 1, 1, 1, 1])) (by kernel_rfl) (W_block' (id := 0) (c := (subC B [1, 1, 1, 1, 1, 1, 1, 0, 0])) (by kernel_rfl) (W_loop' (c := (subC B [1, 1, 1, 1, 1, 1, 1, 0, 0, 0])) (by kernel_rfl) (h.elim fun k h => ⟨k, L6.sound (K := K) (Q := (blkQ 0 (seqQ (W Tryd.prog ext (subC B [1, 1, 1, 1, 1, 1, 1, 1]) Q) Q))) (kx0 := (C3 K)) (fun f w h => blk_x ((fun f w h => seq_n (C3.sound (K := K) (Q := Q) hr h)) f w h)) hr k _ _ h⟩)))) hr trivial trivial
def C1 (K : KT) (key0 text1 zeros2 : Value) (w : World) : Prop :=
  semW Tryd.prog (Instr.makeSlice 23 (.int .i64 64) (.int .i64 64)) w fun v14 w =>
  optW (lenS key0) w fun v16 w =>
  optW (arO .gtr v16 (.int .i64 64)) w fun v17 w =>
  Cnd v17 (
  semW Tryd.prog (Instr.buildSlice 24 1 #[(0, key0)]) w fun v19 w =>
  CallsR Tryd.prog 26 #[v19] w fun v20 w =>
  newW (zCells Tryd.prog 43) 43 w fun s8 w =>
  stN 32 s8 v20 w fun w =>
  optW (slA 32 1 s8 none none none) w fun v22 w =>
  semW Tryd.prog (bltS .copy #[23, 23] 3 #[v14, v22]) w fun v23 w =>
  optW (slA 32 1 s8 none none none) w fun v24 w =>
  CallsR Tryd.prog 27 #[v24, text1] w fun v26 w =>
  CallsR Tryd.prog 27 #[key0, text1] w fun v29 w =>
  semW Tryd.prog (do eqGuard .neq 43 (.tmp 0) (.tmp 0) v26 v29; binOp .neq 43 v26 v29) w fun v30 w =>
  Cnd v30 (
  K (.bool false) w) (
  C2 K key0 text1 v14 w)) (
  semW Tryd.prog (bltS .copy #[23, 23] 3 #[v14, key0]) w fun v33 w =>
  semW Tryd.prog (bltS .append #[23, 23] 23 #[(.slice none 0 0), key0]) w fun v36 w =>
  optW (cvO .u64 zeros2) w fun v39 w =>
  optW (lenS key0) w fun v41 w =>
  optW (arO .sub (.int .i64 65) v41) w fun v42 w =>
  optW (cvO .u64 v42) w fun v43 w =>
  optW (arO .rem v39 v43) w fun v44 w =>
  optW (cvO .i64 v44) w fun v45 w =>
  semW Tryd.prog (bltS .append #[23, 3] 23 #[v36, v45]) w fun v46 w =>
  CallsR Tryd.prog 27 #[v46, text1] w fun v49 w =>
  CallsR Tryd.prog 27 #[key0, text1] w fun v52 w =>
  semW Tryd.prog (do eqGuard .neq 43 (.tmp 0) (.tmp 0) v49 v52; binOp .neq 43 v49 v52) w fun v53 w =>
  Cnd v53 (
  K (.bool false) w) (
  C2 K key0 text1 v14 w))
theorem C1.sound {Q : QT} (hr : ∀ f w, R K f w → Q .ret f w) {f : Fr} {w : World} (h : C1 K (f 0) (f 1) (f 2) w) : W Tryd.prog ext (subC B []) Q f w :=
  W_pre 4 (c2 := (subC B [1, 1, 1, 1])) (by kernel_rfl) (n := fun f w => C2 K (f 0) (f 1) (f 7) w) (r := R K) (xs := []) (gs := []) (Eq.mp (by kernel_rfl) h) (fun f w h => C2.sound (K := K) (Q := Q) hr h) hr trivial trivial
def J (key0 text1 zeros2 : Value) (w : World) (K : KT) : Prop := C1 K key0 text1 zeros2 w
theorem sound {key0 text1 zeros2 : Value} {w : World} (h : J key0 text1 zeros2 w K) : CallsR Tryd.prog 11 #[key0, text1, zeros2] w K :=
  calls_of_W (ext := ext) (args := [key0, text1, zeros2]) (fn := Tryd.f11) (c := bodyC Tryd.f11) mixedOk Tryd.func11 rfl (by kernel_rfl) (Nat.le_of_ble_eq_true (by kernel_rfl)) (W_flat _ _ _ _ (C1.sound (fun _ _ h => h) h))
end witnesslaw1_DigestKeyed
/- witness/witnesslaw1.known -/
namespace witnesslaw1_known
noncomputable abbrev B : Code := flat (bodyC Tryd.f29)
noncomputable abbrev R (K : KT) : Fr → World → Prop := fnPost Tryd.prog Tryd.f29.results.toList K .ret
variable {K : KT}
def C1 (K : KT) (w : World) : Prop :=
  semW Tryd.prog (Instr.buildSlice 23 3 #[(0, (.int .u8 97)), (1, (.int .u8 98)), (2, (.int .u8 99))]) w fun v1 w =>
  semW Tryd.prog (convert 23 23 v1) w fun v2 w =>
  semW Tryd.prog (Instr.buildSlice 24 1 #[(0, v2)]) w fun v3 w =>
  CallsR Tryd.prog 26 #[v3] w fun v4 w =>
  CallsR Tryd.prog 35 #[v4] w fun v5 w =>
  optW (eqO false v5 (.string { data := #[98, 97, 55, 56, 49, 54, 98, 102, 56, 102, 48, 49, 99, 102, 101, 97, 52, 49, 52, 49, 52, 48, 100, 101, 53, 100, 97, 101, 50, 50, 50, 51, 98, 48, 48, 51, 54, 49, 97, 51, 57, 54, 49, 55, 55, 97, 57, 99, 98, 52, 49, 48, 102, 102, 54, 49, 102, 50, 48, 48, 49, 53, 97, 100] })) w fun v6 w =>
  gOp v6 true w (fun K => semW Tryd.prog (Instr.buildSlice 23 9 #[(0, (.int .u8 49)), (1, (.int .u8 50)), (2, (.int .u8 51)), (3, (.int .u8 52)), (4, (.int .u8 53)), (5, (.int .u8 54)), (6, (.int .u8 55)), (7, (.int .u8 56)), (8, (.int .u8 57))]) w K) fun v8 w =>
  gOp v6 true w (fun K => semW Tryd.prog (convert 23 23 v8) w K) fun v9 w =>
  gOp v6 true w (fun K => semW Tryd.prog (Instr.buildSlice 24 1 #[(0, v9)]) w K) fun v10 w =>
  gOp v6 true w (fun K => CallsR Tryd.prog 16 #[v10] w K) fun v11 w =>
  gOp v6 true w (fun K => optW (eqO false v11 (.int .u32 3808858755)) w K) fun v12 w =>
  optW (pickO v6 v12 (.bool false)) w fun v13 w =>
  K v13 w
theorem C1.sound {Q : QT} (hr : ∀ f w, R K f w → Q .ret f w) {f : Fr} {w : World} (h : C1 K w) : W Tryd.prog ext (subC B []) Q f w :=
  W_exq (n := fun _ _ => False) (r := R K) (xs := []) (gs := []) (Eq.mp (by kernel_rfl) h) (fun _ _ h => h.elim) hr trivial trivial
def J (w : World) (K : KT) : Prop := C1 K w
theorem sound {w : World} (h : J w K) : CallsR Tryd.prog 29 #[] w K :=
  calls_of_W (ext := ext) (args := []) (fn := Tryd.f29) (c := bodyC Tryd.f29) mixedOk Tryd.func29 rfl (by kernel_rfl) (Nat.le_of_ble_eq_true (by kernel_rfl)) (W_flat _ _ _ _ (C1.sound (fun _ _ h => h) h))
end witnesslaw1_known
/- witness/digest.Hex -/
namespace digest_Hex
noncomputable abbrev B : Code := flat (bodyC Tryd.f35)
noncomputable abbrev R (K : KT) : Fr → World → Prop := fnPost Tryd.prog Tryd.f35.results.toList K .ret
variable {K : KT}
def C2 (K : KT) (b3 : Value) (w : World) : Prop :=
  CallsR Tryd.prog 39 #[b3] w fun v19 w =>
  K v19 w
theorem C2.sound {Q : QT} (hr : ∀ f w, R K f w → Q .ret f w) {f : Fr} {w : World} (h : C2 K (f 3) w) : W Tryd.prog ext (subC B [1, 1, 1, 1]) Q f w :=
  W_exq (n := fun _ _ => False) (r := R K) (xs := []) (gs := []) (Eq.mp (by kernel_rfl) h) (fun _ _ h => h.elim) hr trivial trivial
def C3 (K : KT) (kx0 : V1) (kn : V3) (b3 v6 v7 : Value) (w : World) : Prop :=
  optW (arO .lss v7 (.int .i64 32)) w fun v8 w =>
  Cnd v8 (
  optW (idxO false 32 1 v6 v7) w fun v9 w =>
  optW (shO .shr v9 (.int .u64 4)) w fun v11 w =>
  optW (idxT (.string { data := #[48, 49, 50, 51, 52, 53, 54, 55, 56, 57, 97, 98, 99, 100, 101, 102] }) v11) w fun v12 w =>
  CallsR Tryd.prog 38 #[b3, v12] w fun v13 w =>
  optW (arO .and v9 (.int .u8 15)) w fun v15 w =>
  optW (idxT (.string { data := #[48, 49, 50, 51, 52, 53, 54, 55, 56, 57, 97, 98, 99, 100, 101, 102] }) v15) w fun v16 w =>
  CallsR Tryd.prog 38 #[b3, v16] w fun v17 w =>
  optW (arO .add v7 (.int .i64 1)) w fun v18 w =>
  kn b3 v6 v18 w) (
  kx0 b3 w)
theorem C3.sound {kx0 : V1} {kn : V3} {Q : QT} (hkx0 : ∀ f w, kx0 (f 3) w → Q (.exit 0) f w) (hkn : ∀ f w, kn (f 3) (f 6) (f 7) w → Q .normal f w) (hr : ∀ f w, R K f w → Q .ret f w) {f : Fr} {w : World} (h : C3 K kx0 kn (f 3) (f 6) (f 7) w) : W Tryd.prog ext (subC B [1, 1, 1, 0, 0, 0]) Q f w :=
  W_exq (n := fun f w => kn (f 3) (f 6) (f 7) w) (r := R K) (xs := [(0, fun f w => kx0 (f 3) w)]) (gs := []) (Eq.mp (by kernel_rfl) h) hkn hr ⟨hkx0, trivial⟩ trivial
def L3 (K : KT) (kx0 : V1) : Nat → V3
  | 0, _, _, _, _ => False
  | k + 1, b3, v6, v7, w => C3 K kx0 (L3 K kx0 k) b3 v6 v7 w
theorem L3.sound {kx0 : V1} {Q : QT} (hkx0 : ∀ f w, kx0 (f 3) w → Q (.exit 0) f w) (hr : ∀ f w, R K f w → Q .ret f w) : ∀ (k : Nat) (f : Fr) (w : World), L3 K kx0 k (f 3) (f 6) (f 7) w → It (W Tryd.prog ext (subC B [1, 1, 1, 0, 0, 0])) Q k f w
  | 0, _, _, h => h
  | k + 1, _, _, h => C3.sound (K := K) (Q := seqQ (It (W Tryd.prog ext (subC B [1, 1, 1, 0, 0, 0])) Q k) Q) hkx0 (fun f w h => seq_n (L3.sound hkx0 hr k f w h)) hr h
def C1 (K : KT) (s0 : Value) (w : World) : Prop :=
  newW (Value.cells s0) 43 w fun s1 w =>
  newW (zCells Tryd.prog 72) 72 w fun b3 w =>
  optW (ldN 32 s1 w) w fun v6 w =>
  ∃ k, L3 K (C2 K) k b3 v6 (.int .i64 0) w
theorem C1.sound {Q : QT} (hr : ∀ f w, R K f w → Q .ret f w) {f : Fr} {w : World} (h : C1 K (f 0) w) : W Tryd.prog ext (subC B []) Q f w :=
  W_pre 3 (c2 := (subC B [1, 1, 1])) (by kernel_rfl) (n := fun f w => ∃ k, L3 K (C2 K) k (f 3) (f 6) (f 7) w) (r := R K) (xs := []) (gs := []) (Eq.mp (by kernel_rfl) h) (fun f w h => W_seq' (a := (subC B [1, 1, 1, 0])) (b := (subC B [1, 1, 1, 1])) (by kernel_rfl) (W_block' (id := 0) (c := (subC B [1, 1, 1, 0, 0])) (by kernel_rfl) (W_loop' (c := (subC B [1, 1, 1, 0, 0, 0])) (by kernel_rfl) (h.elim fun k h => ⟨k, L3.sound (K := K) (Q := (blkQ 0 (seqQ (W Tryd.prog ext (subC B [1, 1, 1, 1]) Q) Q))) (kx0 := (C2 K)) (fun f w h => blk_x ((fun f w h => seq_n (C2.sound (K := K) (Q := Q) hr h)) f w h)) hr k _ _ h⟩)))) hr trivial trivial
def J (s0 : Value) (w : World) (K : KT) : Prop := C1 K s0 w
theorem sound {s0 : Value} {w : World} (h : J s0 w K) : CallsR Tryd.prog 35 #[s0] w K :=
  calls_of_W (ext := ext) (args := [s0]) (fn := Tryd.f35) (c := bodyC Tryd.f35) mixedOk Tryd.func35 rfl (by kernel_rfl) (Nat.le_of_ble_eq_true (by kernel_rfl)) (W_flat _ _ _ _ (C1.sound (fun _ _ h => h) h))
end digest_Hex
/- (*strings.Builder).WriteByte -/
namespace strings_Builder_WriteByte
noncomputable abbrev B : Code := flat (bodyC Tryd.f38)
noncomputable abbrev R (K : KT) : Fr → World → Prop := fnPost Tryd.prog Tryd.f38.results.toList K .ret
variable {K : KT}
def C1 (K : KT) (b0 c1 : Value) (w : World) : Prop :=
  CallsR Tryd.prog 40 #[b0] w fun v6 w =>
  optW (nilO b0) w fun v9 w =>
  optW (fadO 1 v9) w fun v10 w =>
  optW (ld1 v10 w) w fun v11 w =>
  semW Tryd.prog (Instr.buildSlice 23 1 #[(0, c1)]) w fun v13 w =>
  semW Tryd.prog (bltS .append #[23, 23] 23 #[v11, v13]) w fun v14 w =>
  optW (nilO b0) w fun v15 w =>
  optW (fadO 1 v15) w fun v16 w =>
  st1 v16 v14 w fun w =>
  K .nilIface w
theorem C1.sound {Q : QT} (hr : ∀ f w, R K f w → Q .ret f w) {f : Fr} {w : World} (h : C1 K (f 0) (f 1) w) : W Tryd.prog ext (subC B []) Q f w :=
  W_exq (n := fun _ _ => False) (r := R K) (xs := []) (gs := []) (Eq.mp (by kernel_rfl) h) (fun _ _ h => h.elim) hr trivial trivial
def J (b0 c1 : Value) (w : World) (K : KT) : Prop := C1 K b0 c1 w
theorem sound {b0 c1 : Value} {w : World} (h : J b0 c1 w K) : CallsR Tryd.prog 38 #[b0, c1] w K :=
  calls_of_W (ext := ext) (args := [b0, c1]) (fn := Tryd.f38) (c := bodyC Tryd.f38) mixedOk Tryd.func38 rfl (by kernel_rfl) (Nat.le_of_ble_eq_true (by kernel_rfl)) (W_flat _ _ _ _ (C1.sound (fun _ _ h => h) h))
end strings_Builder_WriteByte
/- (*strings.Builder).String -/
namespace strings_Builder_String
noncomputable abbrev B : Code := flat (bodyC Tryd.f39)
noncomputable abbrev R (K : KT) : Fr → World → Prop := fnPost Tryd.prog Tryd.f39.results.toList K .ret
variable {K : KT}
def C2 (K : KT) (v2 : Value) (w : World) : Prop :=
  K v2 w
theorem C2.sound {Q : QT} (hr : ∀ f w, R K f w → Q .ret f w) {f : Fr} {w : World} (h : C2 K (f 2) w) : W Tryd.prog ext (subC B [1, 1]) Q f w :=
  W_exq (n := fun _ _ => False) (r := R K) (xs := []) (gs := []) (Eq.mp (by kernel_rfl) h) (fun _ _ h => h.elim) hr trivial trivial
def D3 (kn : V1) (b0 : Value) (w : World) : Prop :=
  ∃ I : World → Prop, I w.drew ∧ drw w fun w =>
  optW (nilO b0) w fun v4 w => 
  optW (fadO 1 v4) w fun v5 w => 
  rdI I (fun w => ld1 v5 w) fun v6 =>
  semW Tryd.prog (bltS .unsafeSliceData #[23] 77 #[v6]) w fun v7 w => I w ∧
  optW (nilO b0) w fun v9 w => 
  optW (fadO 1 v9) w fun v10 w => 
  rdI I (fun w => ld1 v10 w) fun v11 =>
  optW (lenS v11) w fun v12 w => 
  semW Tryd.prog (bltS .unsafeString #[77, 3] 9 #[v7, v12]) w fun v13 w => I w ∧
  kn v13 w
def C1 (K : KT) (b0 : Value) (w : World) : Prop :=
  D3 (C2 K) b0 w
theorem C1.sound {Q : QT} (hr : ∀ f w, R K f w → Q .ret f w) {f : Fr} {w : World} (h : C1 K (f 0) w) : W Tryd.prog ext (subC B []) Q f w :=
  W_pre 1 (c2 := (subC B [1])) (by kernel_rfl) (n := fun f w => D3 (C2 K) (f 0) w) (r := R K) (xs := []) (gs := []) (Eq.mp (by kernel_rfl) h) (fun f w h => W_seq' (a := (subC B [1, 0])) (b := (subC B [1, 1])) (by kernel_rfl) (W_drawI' (id := 1) (ops := (opsC (subC B [1, 0]))) (N := fun f w => (C2 K) (f 2) w) (by kernel_rfl) (by kernel_rfl) (by kernel_rfl) (Eq.mp (by kernel_rfl) h) (fun f w h => seq_n (C2.sound (K := K) (Q := Q) hr h)))) hr trivial trivial
def J (b0 : Value) (w : World) (K : KT) : Prop := C1 K b0 w
theorem sound {b0 : Value} {w : World} (h : J b0 w K) : CallsR Tryd.prog 39 #[b0] w K :=
  calls_of_W (ext := ext) (args := [b0]) (fn := Tryd.f39) (c := bodyC Tryd.f39) mixedOk Tryd.func39 rfl (by kernel_rfl) (Nat.le_of_ble_eq_true (by kernel_rfl)) (W_flat _ _ _ _ (C1.sound (fun _ _ h => h) h))
end strings_Builder_String
/- (*strings.Builder).copyCheck -/
namespace strings_Builder_copyCheck
noncomputable abbrev B : Code := flat (bodyC Tryd.f40)
noncomputable abbrev R (K : KT) : Fr → World → Prop := fnPost Tryd.prog Tryd.f40.results.toList K .ret
variable {K : KT}
def C1 (K : KT) (kn : V0) (b0 : Value) (w : World) : Prop :=
  optW (nilO b0) w fun v3 w =>
  optW (fadO 0 v3) w fun v4 w =>
  optW (ld1 v4 w) w fun v5 w =>
  semW Tryd.prog (do eqGuard .eql 70 (.tmp 0) (.const undef) v5 (.pointer none); binOp .eql 70 v5 (.pointer none)) w fun v6 w =>
  Cnd v6 (
  semW Tryd.prog (convert 70 78 b0) w fun v9 w =>
  semW Tryd.prog (valueN (callFunc 41 #[v9])) w fun v10 w =>
  semW Tryd.prog (convert 78 70 v10) w fun v11 w =>
  optW (nilO b0) w fun v12 w =>
  optW (fadO 0 v12) w fun v13 w =>
  st1 v13 v11 w fun w =>
  kn w) (
  optW (nilO b0) w fun v15 w =>
  optW (fadO 0 v15) w fun v16 w =>
  optW (ld1 v16 w) w fun v17 w =>
  semW Tryd.prog (do eqGuard .neq 70 (.tmp 0) (.tmp 0) v17 b0; binOp .neq 70 v17 b0) w fun v19 w =>
  Cnd v19 (
  False) (
  kn w))
theorem C1.sound {kn : V0} {Q : QT} (hkn : ∀ f w, kn w → Q .normal f w) (hr : ∀ f w, R K f w → Q .ret f w) {f : Fr} {w : World} (h : C1 K kn (f 0) w) : W Tryd.prog ext (subC B []) Q f w :=
  W_exq (n := fun f w => kn w) (r := R K) (xs := []) (gs := []) (Eq.mp (by kernel_rfl) h) hkn hr trivial trivial
def J (b0 : Value) (w : World) (K : KT) : Prop := C1 K (fun w => K (.tuple #[]) w) b0 w
theorem sound {b0 : Value} {w : World} (h : J b0 w K) : CallsR Tryd.prog 40 #[b0] w K :=
  calls_of_W (ext := ext) (args := [b0]) (fn := Tryd.f40) (c := bodyC Tryd.f40) mixedOk Tryd.func40 rfl (by kernel_rfl) (Nat.le_of_ble_eq_true (by kernel_rfl)) (W_flat _ _ _ _ (C1.sound (fun f w h => Eq.mp (by kernel_rfl) h) (fun _ _ h => h) h))
end strings_Builder_copyCheck
end Go.Proofs.YtklieghmbhofnaaDoor
