-- PRINTED: what each function asks ahead of a call, and that it is enough (wip/tools/dec.py)
import Derived.Test.YtklieghmbhofnaaDoorBase
namespace Go.Proofs.YtklieghmbhofnaaDoor
open Go Go.Ev
set_option maxRecDepth 100000
/- witness/digest.New -/
namespace digest_New
noncomputable abbrev B : Code := flat (bodyC Tryd.f19)
noncomputable abbrev R (K : KT) : Fr → World → Prop := fnPost Tryd.prog Tryd.f19.results.toList K .ret
variable {K : KT}
def C1 (K : KT) (w : World) : Prop :=
  optW (ldN 8 (.pointer (some ⟨1, 0, none⟩)) w) w fun v1 w =>
  semW Tryd.prog (Instr.build 62 #[(0, v1)]) w fun v2 w =>
  newW (Value.cells v2) 62 w fun v3 w =>
  K v3 w
theorem C1.sound {Q : QT} (hr : ∀ f w, R K f w → Q .ret f w) {f : Fr} {w : World} (h : C1 K w) : W Tryd.prog ext (subC B []) Q f w :=
  W_exq (n := fun _ _ => False) (r := R K) (xs := []) (gs := []) (Eq.mp (by kernel_rfl) h) (fun _ _ h => h.elim) hr trivial trivial
def J (w : World) (K : KT) : Prop := C1 K w
theorem sound {w : World} (h : J w K) : CallsR Tryd.prog 19 #[] w K :=
  calls_of_W (ext := ext) (args := []) (fn := Tryd.f19) (c := bodyC Tryd.f19) mixedOk Tryd.func19 rfl (by kernel_rfl) (Nat.le_of_ble_eq_true (by kernel_rfl)) (W_flat _ _ _ _ (C1.sound (fun _ _ h => h) h))
end digest_New
/- (*witness/digest.Hash).Write -/
namespace digest_Hash_Write
noncomputable abbrev B : Code := flat (bodyC Tryd.f20)
noncomputable abbrev R (K : KT) : Fr → World → Prop := fnPost Tryd.prog Tryd.f20.results.toList K .ret
variable {K : KT}
def C3 (K : KT) (kn : V3) (h0 b1 at4 : Value) (w : World) : Prop :=
  optW (nilO h0) w fun v26 w =>
  optW (fadO 8 v26) w fun v27 w =>
  optW (slA 64 1 v27 (some at4) none none) w fun v29 w =>
  semW Tryd.prog (bltS .copy #[23, 23] 3 #[v29, b1]) w fun v31 w =>
  optW (slS 1 b1 (some v31) none none) w fun v34 w =>
  optW (arO .add at4 v31) w fun v37 w =>
  optW (eqO false v37 (.int .i64 64)) w fun v39 w =>
  Cnd v39 (
  CallsR Tryd.prog 30 #[h0] w fun v41 w =>
  kn h0 v34 (.int .i64 0) w) (
  kn h0 v34 v37 w)
theorem C3.sound {kn : V3} {Q : QT} (hkn : ∀ f w, kn (f 0) (f 1) (f 4) w → Q .normal f w) (hr : ∀ f w, R K f w → Q .ret f w) {f : Fr} {w : World} (h : C3 K kn (f 0) (f 1) (f 4) w) : W Tryd.prog ext (subC B [1, 1, 0, 0, 1, 1, 0]) Q f w :=
  W_exq (n := fun f w => kn (f 0) (f 1) (f 4) w) (r := R K) (xs := []) (gs := []) (Eq.mp (by kernel_rfl) h) hkn hr trivial trivial
def C2 (K : KT) (kx0 : V0) (kn : V3) (h0 b1 at4 : Value) (w : World) : Prop :=
  optW (lenS b1) w fun v23 w =>
  optW (arO .gtr v23 (.int .i64 0)) w fun v24 w =>
  Cnd v24 (
  C3 K kn h0 b1 at4 w) (
  kx0 w)
theorem C2.sound {kx0 : V0} {kn : V3} {Q : QT} (hkx0 : ∀ f w, kx0 w → Q (.exit 0) f w) (hkn : ∀ f w, kn (f 0) (f 1) (f 4) w → Q .normal f w) (hr : ∀ f w, R K f w → Q .ret f w) {f : Fr} {w : World} (h : C2 K kx0 kn (f 0) (f 1) (f 4) w) : W Tryd.prog ext (subC B [1, 1, 0, 0]) Q f w :=
  W_pre 2 (c2 := (subC B [1, 1, 0, 0, 1, 1])) (by kernel_rfl) (n := fun f w => C3 K kn (f 0) (f 1) (f 4) w) (r := R K) (xs := [(0, fun f w => kx0 w)]) (gs := []) (Eq.mp (by kernel_rfl) h) (fun f w h => W_block' (id := 1) (c := (subC B [1, 1, 0, 0, 1, 1, 0])) (by kernel_rfl) (C3.sound (K := K) (Q := (blkQ 1 Q)) (kn := kn) (fun f w h => blk_n (hkn f w h)) hr h)) hr ⟨hkx0, trivial⟩ trivial
def L2 (K : KT) (kx0 : V0) : Nat → V3
  | 0, _, _, _, _ => False
  | k + 1, h0, b1, at4, w => C2 K kx0 (L2 K kx0 k) h0 b1 at4 w
theorem L2.sound {kx0 : V0} {Q : QT} (hkx0 : ∀ f w, kx0 w → Q (.exit 0) f w) (hr : ∀ f w, R K f w → Q .ret f w) : ∀ (k : Nat) (f : Fr) (w : World), L2 K kx0 k (f 0) (f 1) (f 4) w → It (W Tryd.prog ext (subC B [1, 1, 0, 0])) Q k f w
  | 0, _, _, h => h
  | k + 1, _, _, h => C2.sound (K := K) (Q := seqQ (It (W Tryd.prog ext (subC B [1, 1, 0, 0])) Q k) Q) hkx0 (fun f w h => seq_n (L2.sound hkx0 hr k f w h)) hr h
def C1 (K : KT) (kn : V0) (h0 b1 : Value) (w : World) : Prop :=
  optW (nilO h0) w fun v7 w =>
  optW (fadO 72 v7) w fun v8 w =>
  optW (ld1 v8 w) w fun v9 w =>
  optW (arO .rem v9 (.int .u64 64)) w fun v10 w =>
  optW (cvO .i64 v10) w fun v11 w =>
  optW (nilO h0) w fun v13 w =>
  optW (fadO 72 v13) w fun v14 w =>
  optW (ld1 v14 w) w fun v15 w =>
  optW (lenS b1) w fun v17 w =>
  optW (cvO .u64 v17) w fun v18 w =>
  optW (arO .add v15 v18) w fun v19 w =>
  optW (nilO h0) w fun v20 w =>
  optW (fadO 72 v20) w fun v21 w =>
  st1 v21 v19 w fun w =>
  ∃ k, L2 K kn k h0 b1 v11 w
theorem C1.sound {kn : V0} {Q : QT} (hkn : ∀ f w, kn w → Q .normal f w) (hr : ∀ f w, R K f w → Q .ret f w) {f : Fr} {w : World} (h : C1 K kn (f 0) (f 1) w) : W Tryd.prog ext (subC B []) Q f w :=
  W_pre 2 (c2 := (subC B [1, 1])) (by kernel_rfl) (n := fun f w => ∃ k, L2 K kn k (f 0) (f 1) (f 4) w) (r := R K) (xs := []) (gs := []) (Eq.mp (by kernel_rfl) h) (fun f w h => W_block' (id := 0) (c := (subC B [1, 1, 0])) (by kernel_rfl) (W_loop' (c := (subC B [1, 1, 0, 0])) (by kernel_rfl) (h.elim fun k h => ⟨k, L2.sound (K := K) (Q := (blkQ 0 Q)) (kx0 := kn) (fun f w h => blk_x (hkn f w h)) hr k _ _ h⟩))) hr trivial trivial
def J (h0 b1 : Value) (w : World) (K : KT) : Prop := C1 K (fun w => K (.tuple #[]) w) h0 b1 w
theorem sound {h0 b1 : Value} {w : World} (h : J h0 b1 w K) : CallsR Tryd.prog 20 #[h0, b1] w K :=
  calls_of_W (ext := ext) (args := [h0, b1]) (fn := Tryd.f20) (c := bodyC Tryd.f20) mixedOk Tryd.func20 rfl (by kernel_rfl) (Nat.le_of_ble_eq_true (by kernel_rfl)) (W_flat _ _ _ _ (C1.sound (fun f w h => Eq.mp (by kernel_rfl) h) (fun _ _ h => h) h))
end digest_Hash_Write
/- (*witness/digest.Hash).Sum -/
namespace digest_Hash_Sum
noncomputable abbrev B : Code := flat (bodyC Tryd.f21)
noncomputable abbrev R (K : KT) : Fr → World → Prop := fnPost Tryd.prog Tryd.f21.results.toList K .ret
variable {K : KT}
def C4 (K : KT) (v2 s7 : Value) (w : World) : Prop :=
  optW (ldN 32 s7 w) w fun v78 w =>
  stN 32 v2 v78 w fun w =>
  resC Tryd.prog v2 43 w fun r0 =>
  K r0 w
theorem C4.sound {Q : QT} (hr : ∀ f w, R K f w → Q .ret f w) {f : Fr} {w : World} (h : C4 K (f 2) (f 7) w) : W Tryd.prog ext (subC B [1, 1, 1, 1, 1, 1, 1, 1, 1, 1, 1]) Q f w :=
  W_exq (n := fun _ _ => False) (r := R K) (xs := []) (gs := []) (Eq.mp (by kernel_rfl) h) (fun _ _ h => h.elim) hr trivial trivial
def C5 (K : KT) (kx4 : V2) (kn : V4) (v2 s7 v46 v47 : Value) (w : World) : Prop :=
  optW (arO .lss v47 (.int .i64 8)) w fun v48 w =>
  Cnd v48 (
  optW (idxO false 8 1 v46 v47) w fun v50 w =>
  optW (arO .mul (.int .i64 4) v47) w fun v52 w =>
  optW (arO .mul (.int .i64 4) v47) w fun v54 w =>
  optW (arO .add v54 (.int .i64 1)) w fun v55 w =>
  optW (arO .mul (.int .i64 4) v47) w fun v57 w =>
  optW (arO .add v57 (.int .i64 2)) w fun v58 w =>
  optW (arO .mul (.int .i64 4) v47) w fun v60 w =>
  optW (arO .add v60 (.int .i64 3)) w fun v61 w =>
  optW (shO .shr v50 (.int .u64 24)) w fun v63 w =>
  optW (cvO .u8 v63) w fun v64 w =>
  optW (shO .shr v50 (.int .u64 16)) w fun v66 w =>
  optW (cvO .u8 v66) w fun v67 w =>
  optW (shO .shr v50 (.int .u64 8)) w fun v69 w =>
  optW (cvO .u8 v69) w fun v70 w =>
  optW (cvO .u8 v50) w fun v72 w =>
  optW (ixA 32 1 s7 v52) w fun v73 w =>
  st1 v73 v64 w fun w =>
  optW (ixA 32 1 s7 v55) w fun v74 w =>
  st1 v74 v67 w fun w =>
  optW (ixA 32 1 s7 v58) w fun v75 w =>
  st1 v75 v70 w fun w =>
  optW (ixA 32 1 s7 v61) w fun v76 w =>
  st1 v76 v72 w fun w =>
  optW (arO .add v47 (.int .i64 1)) w fun v77 w =>
  kn v2 s7 v46 v77 w) (
  kx4 v2 s7 w)
theorem C5.sound {kx4 : V2} {kn : V4} {Q : QT} (hkx4 : ∀ f w, kx4 (f 2) (f 7) w → Q (.exit 4) f w) (hkn : ∀ f w, kn (f 2) (f 7) (f 46) (f 47) w → Q .normal f w) (hr : ∀ f w, R K f w → Q .ret f w) {f : Fr} {w : World} (h : C5 K kx4 kn (f 2) (f 7) (f 46) (f 47) w) : W Tryd.prog ext (subC B [1, 1, 1, 1, 1, 1, 1, 1, 1, 1, 0, 0, 0]) Q f w :=
  W_exq (n := fun f w => kn (f 2) (f 7) (f 46) (f 47) w) (r := R K) (xs := [(4, fun f w => kx4 (f 2) (f 7) w)]) (gs := []) (Eq.mp (by kernel_rfl) h) hkn hr ⟨hkx4, trivial⟩ trivial
def L5 (K : KT) (kx4 : V2) : Nat → V4
  | 0, _, _, _, _, _ => False
  | k + 1, v2, s7, v46, v47, w => C5 K kx4 (L5 K kx4 k) v2 s7 v46 v47 w
theorem L5.sound {kx4 : V2} {Q : QT} (hkx4 : ∀ f w, kx4 (f 2) (f 7) w → Q (.exit 4) f w) (hr : ∀ f w, R K f w → Q .ret f w) : ∀ (k : Nat) (f : Fr) (w : World), L5 K kx4 k (f 2) (f 7) (f 46) (f 47) w → It (W Tryd.prog ext (subC B [1, 1, 1, 1, 1, 1, 1, 1, 1, 1, 0, 0, 0])) Q k f w
  | 0, _, _, h => h
  | k + 1, _, _, h => C5.sound (K := K) (Q := seqQ (It (W Tryd.prog ext (subC B [1, 1, 1, 1, 1, 1, 1, 1, 1, 1, 0, 0, 0])) Q k) Q) hkx4 (fun f w h => seq_n (L5.sound hkx4 hr k f w h)) hr h
def C3 (K : KT) (v2 c3 pad5 : Value) (w : World) : Prop :=
  CallsR Tryd.prog 20 #[c3, pad5] w fun v44 w =>
  newW (zCells Tryd.prog 43) 43 w fun s7 w =>
  optW (fadO 0 c3) w fun v45 w =>
  optW (ldN 8 v45 w) w fun v46 w =>
  ∃ k, L5 K (C4 K) k v2 s7 v46 (.int .i64 0) w
theorem C3.sound {Q : QT} (hr : ∀ f w, R K f w → Q .ret f w) {f : Fr} {w : World} (h : C3 K (f 2) (f 3) (f 5) w) : W Tryd.prog ext (subC B [1, 1, 1, 1, 1, 1, 1]) Q f w :=
  W_pre 3 (c2 := (subC B [1, 1, 1, 1, 1, 1, 1, 1, 1, 1])) (by kernel_rfl) (n := fun f w => ∃ k, L5 K (C4 K) k (f 2) (f 7) (f 46) (f 47) w) (r := R K) (xs := []) (gs := []) (Eq.mp (by kernel_rfl) h) (fun f w h => W_seq' (a := (subC B [1, 1, 1, 1, 1, 1, 1, 1, 1, 1, 0])) (b := (subC B [1, 1, 1, 1, 1, 1, 1, 1, 1, 1, 1])) (by kernel_rfl) (W_block' (id := 4) (c := (subC B [1, 1, 1, 1, 1, 1, 1, 1, 1, 1, 0, 0])) (by kernel_rfl) (W_loop' (c := (subC B [1, 1, 1, 1, 1, 1, 1, 1, 1, 1, 0, 0, 0])) (by kernel_rfl) (h.elim fun k h => ⟨k, L5.sound (K := K) (Q := (blkQ 4 (seqQ (W Tryd.prog ext (subC B [1, 1, 1, 1, 1, 1, 1, 1, 1, 1, 1]) Q) Q))) (kx4 := (C4 K)) (fun f w h => blk_x ((fun f w h => seq_n (C4.sound (K := K) (Q := Q) hr h)) f w h)) hr k _ _ h⟩)))) hr trivial trivial
def C6 (K : KT) (kx2 : V3) (kn : V5) (v2 c3 n4 pad5 i6 : Value) (w : World) : Prop :=
  optW (arO .geq i6 (.int .i64 0)) w fun v33 w =>
  Cnd v33 (
  optW (shO .shr n4 i6) w fun v39 w =>
  optW (cvO .u8 v39) w fun v40 w =>
  semW Tryd.prog (Instr.buildSlice 23 1 #[(0, v40)]) w fun v41 w =>
  semW Tryd.prog (bltS .append #[23, 23] 23 #[pad5, v41]) w fun v42 w =>
  optW (arO .sub i6 (.int .i64 8)) w fun v35 w =>
  kn v2 c3 n4 v42 v35 w) (
  kx2 v2 c3 pad5 w)
theorem C6.sound {kx2 : V3} {kn : V5} {Q : QT} (hkx2 : ∀ f w, kx2 (f 2) (f 3) (f 5) w → Q (.exit 2) f w) (hkn : ∀ f w, kn (f 2) (f 3) (f 4) (f 5) (f 6) w → Q .normal f w) (hr : ∀ f w, R K f w → Q .ret f w) {f : Fr} {w : World} (h : C6 K kx2 kn (f 2) (f 3) (f 4) (f 5) (f 6) w) : W Tryd.prog ext (subC B [1, 1, 1, 1, 1, 1, 0, 0, 0]) Q f w :=
  W_exq (n := fun f w => kn (f 2) (f 3) (f 4) (f 5) (f 6) w) (r := R K) (xs := [(2, fun f w => kx2 (f 2) (f 3) (f 5) w)]) (gs := []) (Eq.mp (by kernel_rfl) h) hkn hr ⟨hkx2, trivial⟩ trivial
def L6 (K : KT) (kx2 : V3) : Nat → V5
  | 0, _, _, _, _, _, _ => False
  | k + 1, v2, c3, n4, pad5, i6, w => C6 K kx2 (L6 K kx2 k) v2 c3 n4 pad5 i6 w
theorem L6.sound {kx2 : V3} {Q : QT} (hkx2 : ∀ f w, kx2 (f 2) (f 3) (f 5) w → Q (.exit 2) f w) (hr : ∀ f w, R K f w → Q .ret f w) : ∀ (k : Nat) (f : Fr) (w : World), L6 K kx2 k (f 2) (f 3) (f 4) (f 5) (f 6) w → It (W Tryd.prog ext (subC B [1, 1, 1, 1, 1, 1, 0, 0, 0])) Q k f w
  | 0, _, _, h => h
  | k + 1, _, _, h => C6.sound (K := K) (Q := seqQ (It (W Tryd.prog ext (subC B [1, 1, 1, 1, 1, 1, 0, 0, 0])) Q k) Q) hkx2 (fun f w h => seq_n (L6.sound hkx2 hr k f w h)) hr h
def C2 (K : KT) (v2 c3 n4 pad5 : Value) (w : World) : Prop :=
  ∃ k, L6 K (C3 K) k v2 c3 n4 pad5 (.int .i64 56) w
theorem C2.sound {Q : QT} (hr : ∀ f w, R K f w → Q .ret f w) {f : Fr} {w : World} (h : C2 K (f 2) (f 3) (f 4) (f 5) w) : W Tryd.prog ext (subC B [1, 1, 1, 1, 1]) Q f w :=
  W_pre 1 (c2 := (subC B [1, 1, 1, 1, 1, 1])) (by kernel_rfl) (n := fun f w => ∃ k, L6 K (C3 K) k (f 2) (f 3) (f 4) (f 5) (f 6) w) (r := R K) (xs := []) (gs := []) (Eq.mp (by kernel_rfl) h) (fun f w h => W_seq' (a := (subC B [1, 1, 1, 1, 1, 1, 0])) (b := (subC B [1, 1, 1, 1, 1, 1, 1])) (by kernel_rfl) (W_block' (id := 2) (c := (subC B [1, 1, 1, 1, 1, 1, 0, 0])) (by kernel_rfl) (W_loop' (c := (subC B [1, 1, 1, 1, 1, 1, 0, 0, 0])) (by kernel_rfl) (h.elim fun k h => ⟨k, L6.sound (K := K) (Q := (blkQ 2 (seqQ (W Tryd.prog ext (subC B [1, 1, 1, 1, 1, 1, 1]) Q) Q))) (kx2 := (C3 K)) (fun f w h => blk_x ((fun f w h => seq_n (C3.sound (K := K) (Q := Q) hr h)) f w h)) hr k _ _ h⟩)))) hr trivial trivial
def C7 (K : KT) (kx0 : V4) (kn : V5) (h0 v2 c3 n4 pad5 : Value) (w : World) : Prop :=
  optW (nilO h0) w fun v20 w =>
  optW (fadO 72 v20) w fun v21 w =>
  optW (ld1 v21 w) w fun v22 w =>
  optW (lenS pad5) w fun v24 w =>
  optW (cvO .u64 v24) w fun v25 w =>
  optW (arO .add v22 v25) w fun v26 w =>
  optW (arO .rem v26 (.int .u64 64)) w fun v27 w =>
  optW (eqO true v27 (.int .u64 56)) w fun v28 w =>
  Cnd v28 (
  semW Tryd.prog (Instr.buildSlice 23 1 #[(0, (.int .u8 0))]) w fun v30 w =>
  semW Tryd.prog (bltS .append #[23, 23] 23 #[pad5, v30]) w fun v31 w =>
  kn h0 v2 c3 n4 v31 w) (
  kx0 v2 c3 n4 pad5 w)
theorem C7.sound {kx0 : V4} {kn : V5} {Q : QT} (hkx0 : ∀ f w, kx0 (f 2) (f 3) (f 4) (f 5) w → Q (.exit 0) f w) (hkn : ∀ f w, kn (f 0) (f 2) (f 3) (f 4) (f 5) w → Q .normal f w) (hr : ∀ f w, R K f w → Q .ret f w) {f : Fr} {w : World} (h : C7 K kx0 kn (f 0) (f 2) (f 3) (f 4) (f 5) w) : W Tryd.prog ext (subC B [1, 1, 1, 1, 0, 0, 0]) Q f w :=
  W_exq (n := fun f w => kn (f 0) (f 2) (f 3) (f 4) (f 5) w) (r := R K) (xs := [(0, fun f w => kx0 (f 2) (f 3) (f 4) (f 5) w)]) (gs := []) (Eq.mp (by kernel_rfl) h) hkn hr ⟨hkx0, trivial⟩ trivial
def L7 (K : KT) (kx0 : V4) : Nat → V5
  | 0, _, _, _, _, _, _ => False
  | k + 1, h0, v2, c3, n4, pad5, w => C7 K kx0 (L7 K kx0 k) h0 v2 c3 n4 pad5 w
theorem L7.sound {kx0 : V4} {Q : QT} (hkx0 : ∀ f w, kx0 (f 2) (f 3) (f 4) (f 5) w → Q (.exit 0) f w) (hr : ∀ f w, R K f w → Q .ret f w) : ∀ (k : Nat) (f : Fr) (w : World), L7 K kx0 k (f 0) (f 2) (f 3) (f 4) (f 5) w → It (W Tryd.prog ext (subC B [1, 1, 1, 1, 0, 0, 0])) Q k f w
  | 0, _, _, h => h
  | k + 1, _, _, h => C7.sound (K := K) (Q := seqQ (It (W Tryd.prog ext (subC B [1, 1, 1, 1, 0, 0, 0])) Q k) Q) hkx0 (fun f w h => seq_n (L7.sound hkx0 hr k f w h)) hr h
def C1 (K : KT) (h0 : Value) (w : World) : Prop :=
  newW (zCells Tryd.prog 43) 43 w fun v2 w =>
  optW (nilO h0) w fun v11 w =>
  optW (ldN 73 v11 w) w fun v12 w =>
  newW (zCells Tryd.prog 62) 62 w fun c3 w =>
  stN 73 c3 v12 w fun w =>
  optW (nilO h0) w fun v14 w =>
  optW (fadO 72 v14) w fun v15 w =>
  optW (ld1 v15 w) w fun v16 w =>
  optW (arO .mul v16 (.int .u64 8)) w fun v17 w =>
  semW Tryd.prog (Instr.buildSlice 23 1 #[(0, (.int .u8 128))]) w fun v18 w =>
  ∃ k, L7 K (C2 K) k h0 v2 c3 v17 v18 w
theorem C1.sound {Q : QT} (hr : ∀ f w, R K f w → Q .ret f w) {f : Fr} {w : World} (h : C1 K (f 0) w) : W Tryd.prog ext (subC B []) Q f w :=
  W_pre 4 (c2 := (subC B [1, 1, 1, 1])) (by kernel_rfl) (n := fun f w => ∃ k, L7 K (C2 K) k (f 0) (f 2) (f 3) (f 4) (f 5) w) (r := R K) (xs := []) (gs := []) (Eq.mp (by kernel_rfl) h) (fun f w h => W_seq' (a := (subC B [1, 1, 1, 1, 0])) (b := (subC B [1, 1, 1, 1, 1])) (by kernel_rfl) (W_block' (id := 0) (c := (subC B [1, 1, 1, 1, 0, 0])) (by kernel_rfl) (W_loop' (c := (subC B [1, 1, 1, 1, 0, 0, 0])) (by kernel_rfl) (h.elim fun k h => ⟨k, L7.sound (K := K) (Q := (blkQ 0 (seqQ (W Tryd.prog ext (subC B [1, 1, 1, 1, 1]) Q) Q))) (kx0 := (C2 K)) (fun f w h => blk_x ((fun f w h => seq_n (C2.sound (K := K) (Q := Q) hr h)) f w h)) hr k _ _ h⟩)))) hr trivial trivial
def J (h0 : Value) (w : World) (K : KT) : Prop := C1 K h0 w
theorem sound {h0 : Value} {w : World} (h : J h0 w K) : CallsR Tryd.prog 21 #[h0] w K :=
  calls_of_W (ext := ext) (args := [h0]) (fn := Tryd.f21) (c := bodyC Tryd.f21) mixedOk Tryd.func21 rfl (by kernel_rfl) (Nat.le_of_ble_eq_true (by kernel_rfl)) (W_flat _ _ _ _ (C1.sound (fun _ _ h => h) h))
end digest_Hash_Sum
/- witness/witnessref1.Of -/
namespace witnessref1_Of
noncomputable abbrev B : Code := flat (bodyC Tryd.f22)
noncomputable abbrev R (K : KT) : Fr → World → Prop := fnPost Tryd.prog Tryd.f22.results.toList K .ret
variable {K : KT}
def C5 (K : KT) (v2 s10 : Value) (w : World) : Prop :=
  optW (ldN 32 s10 w) w fun v71 w =>
  stN 32 v2 v71 w fun w =>
  resC Tryd.prog v2 43 w fun r0 =>
  K r0 w
theorem C5.sound {Q : QT} (hr : ∀ f w, R K f w → Q .ret f w) {f : Fr} {w : World} (h : C5 K (f 2) (f 10) w) : W Tryd.prog ext (subC B [1, 1, 1, 1, 1, 1, 1, 1, 1, 1, 1, 1, 1, 1, 1]) Q f w :=
  W_exq (n := fun _ _ => False) (r := R K) (xs := []) (gs := []) (Eq.mp (by kernel_rfl) h) (fun _ _ h => h.elim) hr trivial trivial
def C6 (K : KT) (kx6 : V2) (kn : V4) (v2 state7 s10 i11 : Value) (w : World) : Prop :=
  optW (arO .lss i11 (.int .i64 32)) w fun v56 w =>
  Cnd v56 (
  optW (arO .quo i11 (.int .i64 4)) w fun v61 w =>
  optW (ixA 8 1 state7 v61) w fun v62 w =>
  optW (ld1 v62 w) w fun v63 w =>
  optW (arO .rem i11 (.int .i64 4)) w fun v65 w =>
  optW (arO .mul (.int .i64 8) v65) w fun v66 w =>
  optW (arO .sub (.int .i64 24) v66) w fun v67 w =>
  optW (shO .shr v63 v67) w fun v68 w =>
  optW (cvO .u8 v68) w fun v69 w =>
  optW (ixA 32 1 s10 i11) w fun v70 w =>
  st1 v70 v69 w fun w =>
  optW (arO .add i11 (.int .i64 1)) w fun v58 w =>
  kn v2 state7 s10 v58 w) (
  kx6 v2 s10 w)
theorem C6.sound {kx6 : V2} {kn : V4} {Q : QT} (hkx6 : ∀ f w, kx6 (f 2) (f 10) w → Q (.exit 6) f w) (hkn : ∀ f w, kn (f 2) (f 7) (f 10) (f 11) w → Q .normal f w) (hr : ∀ f w, R K f w → Q .ret f w) {f : Fr} {w : World} (h : C6 K kx6 kn (f 2) (f 7) (f 10) (f 11) w) : W Tryd.prog ext (subC B [1, 1, 1, 1, 1, 1, 1, 1, 1, 1, 1, 1, 1, 1, 0, 0, 0]) Q f w :=
  W_exq (n := fun f w => kn (f 2) (f 7) (f 10) (f 11) w) (r := R K) (xs := [(6, fun f w => kx6 (f 2) (f 10) w)]) (gs := []) (Eq.mp (by kernel_rfl) h) hkn hr ⟨hkx6, trivial⟩ trivial
def L6 (K : KT) (kx6 : V2) : Nat → V4
  | 0, _, _, _, _, _ => False
  | k + 1, v2, state7, s10, i11, w => C6 K kx6 (L6 K kx6 k) v2 state7 s10 i11 w
theorem L6.sound {kx6 : V2} {Q : QT} (hkx6 : ∀ f w, kx6 (f 2) (f 10) w → Q (.exit 6) f w) (hr : ∀ f w, R K f w → Q .ret f w) : ∀ (k : Nat) (f : Fr) (w : World), L6 K kx6 k (f 2) (f 7) (f 10) (f 11) w → It (W Tryd.prog ext (subC B [1, 1, 1, 1, 1, 1, 1, 1, 1, 1, 1, 1, 1, 1, 0, 0, 0])) Q k f w
  | 0, _, _, h => h
  | k + 1, _, _, h => C6.sound (K := K) (Q := seqQ (It (W Tryd.prog ext (subC B [1, 1, 1, 1, 1, 1, 1, 1, 1, 1, 1, 1, 1, 1, 0, 0, 0])) Q k) Q) hkx6 (fun f w h => seq_n (L6.sound hkx6 hr k f w h)) hr h
def C4 (K : KT) (v2 state7 : Value) (w : World) : Prop :=
  newW (zCells Tryd.prog 43) 43 w fun s10 w =>
  ∃ k, L6 K (C5 K) k v2 state7 s10 (.int .i64 0) w
theorem C4.sound {Q : QT} (hr : ∀ f w, R K f w → Q .ret f w) {f : Fr} {w : World} (h : C4 K (f 2) (f 7) w) : W Tryd.prog ext (subC B [1, 1, 1, 1, 1, 1, 1, 1, 1, 1, 1, 1]) Q f w :=
  W_pre 2 (c2 := (subC B [1, 1, 1, 1, 1, 1, 1, 1, 1, 1, 1, 1, 1, 1])) (by kernel_rfl) (n := fun f w => ∃ k, L6 K (C5 K) k (f 2) (f 7) (f 10) (f 11) w) (r := R K) (xs := []) (gs := []) (Eq.mp (by kernel_rfl) h) (fun f w h => W_seq' (a := (subC B [1, 1, 1, 1, 1, 1, 1, 1, 1, 1, 1, 1, 1, 1, 0])) (b := (subC B [1, 1, 1, 1, 1, 1, 1, 1, 1, 1, 1, 1, 1, 1, 1])) (by kernel_rfl) (W_block' (id := 6) (c := (subC B [1, 1, 1, 1, 1, 1, 1, 1, 1, 1, 1, 1, 1, 1, 0, 0])) (by kernel_rfl) (W_loop' (c := (subC B [1, 1, 1, 1, 1, 1, 1, 1, 1, 1, 1, 1, 1, 1, 0, 0, 0])) (by kernel_rfl) (h.elim fun k h => ⟨k, L6.sound (K := K) (Q := (blkQ 6 (seqQ (W Tryd.prog ext (subC B [1, 1, 1, 1, 1, 1, 1, 1, 1, 1, 1, 1, 1, 1, 1]) Q) Q))) (kx6 := (C5 K)) (fun f w h => blk_x ((fun f w h => seq_n (C5.sound (K := K) (Q := Q) hr h)) f w h)) hr k _ _ h⟩)))) hr trivial trivial
def C7 (K : KT) (kx4 : V2) (kn : V5) (v2 b3 k6 state7 at8 : Value) (w : World) : Prop :=
  optW (lenS b3) w fun v44 w =>
  optW (arO .lss at8 v44) w fun v45 w =>
  Cnd v45 (
  CallsR Tryd.prog 33 #[b3, at8] w fun v50 w =>
  newW (zCells Tryd.prog 63) 63 w fun w9 w =>
  stN 64 w9 v50 w fun w =>
  optW (ldN 8 state7 w) w fun v51 w =>
  optW (ldN 64 w9 w) w fun v52 w =>
  optW (ldN 64 k6 w) w fun v53 w =>
  CallsR Tryd.prog 34 #[v51, v52, v53] w fun v54 w =>
  stN 8 state7 v54 w fun w =>
  optW (arO .add at8 (.int .i64 64)) w fun v47 w =>
  kn v2 b3 k6 state7 v47 w) (
  kx4 v2 state7 w)
theorem C7.sound {kx4 : V2} {kn : V5} {Q : QT} (hkx4 : ∀ f w, kx4 (f 2) (f 7) w → Q (.exit 4) f w) (hkn : ∀ f w, kn (f 2) (f 3) (f 6) (f 7) (f 8) w → Q .normal f w) (hr : ∀ f w, R K f w → Q .ret f w) {f : Fr} {w : World} (h : C7 K kx4 kn (f 2) (f 3) (f 6) (f 7) (f 8) w) : W Tryd.prog ext (subC B [1, 1, 1, 1, 1, 1, 1, 1, 1, 1, 1, 0, 0, 0]) Q f w :=
  W_exq (n := fun f w => kn (f 2) (f 3) (f 6) (f 7) (f 8) w) (r := R K) (xs := [(4, fun f w => kx4 (f 2) (f 7) w)]) (gs := []) (Eq.mp (by kernel_rfl) h) hkn hr ⟨hkx4, trivial⟩ trivial
def L7 (K : KT) (kx4 : V2) : Nat → V5
  | 0, _, _, _, _, _, _ => False
  | k + 1, v2, b3, k6, state7, at8, w => C7 K kx4 (L7 K kx4 k) v2 b3 k6 state7 at8 w
theorem L7.sound {kx4 : V2} {Q : QT} (hkx4 : ∀ f w, kx4 (f 2) (f 7) w → Q (.exit 4) f w) (hr : ∀ f w, R K f w → Q .ret f w) : ∀ (k : Nat) (f : Fr) (w : World), L7 K kx4 k (f 2) (f 3) (f 6) (f 7) (f 8) w → It (W Tryd.prog ext (subC B [1, 1, 1, 1, 1, 1, 1, 1, 1, 1, 1, 0, 0, 0])) Q k f w
  | 0, _, _, h => h
  | k + 1, _, _, h => C7.sound (K := K) (Q := seqQ (It (W Tryd.prog ext (subC B [1, 1, 1, 1, 1, 1, 1, 1, 1, 1, 1, 0, 0, 0])) Q k) Q) hkx4 (fun f w h => seq_n (L7.sound hkx4 hr k f w h)) hr h
def C3 (K : KT) (v2 b3 : Value) (w : World) : Prop :=
  CallsR Tryd.prog 31 #[] w fun v40 w =>
  newW (zCells Tryd.prog 63) 63 w fun k6 w =>
  stN 64 k6 v40 w fun w =>
  CallsR Tryd.prog 32 #[] w fun v41 w =>
  newW (zCells Tryd.prog 59) 59 w fun state7 w =>
  stN 8 state7 v41 w fun w =>
  ∃ k, L7 K (C4 K) k v2 b3 k6 state7 (.int .i64 0) w
theorem C3.sound {Q : QT} (hr : ∀ f w, R K f w → Q .ret f w) {f : Fr} {w : World} (h : C3 K (f 2) (f 3) w) : W Tryd.prog ext (subC B [1, 1, 1, 1, 1, 1, 1, 1]) Q f w :=
  W_pre 3 (c2 := (subC B [1, 1, 1, 1, 1, 1, 1, 1, 1, 1, 1])) (by kernel_rfl) (n := fun f w => ∃ k, L7 K (C4 K) k (f 2) (f 3) (f 6) (f 7) (f 8) w) (r := R K) (xs := []) (gs := []) (Eq.mp (by kernel_rfl) h) (fun f w h => W_seq' (a := (subC B [1, 1, 1, 1, 1, 1, 1, 1, 1, 1, 1, 0])) (b := (subC B [1, 1, 1, 1, 1, 1, 1, 1, 1, 1, 1, 1])) (by kernel_rfl) (W_block' (id := 4) (c := (subC B [1, 1, 1, 1, 1, 1, 1, 1, 1, 1, 1, 0, 0])) (by kernel_rfl) (W_loop' (c := (subC B [1, 1, 1, 1, 1, 1, 1, 1, 1, 1, 1, 0, 0, 0])) (by kernel_rfl) (h.elim fun k h => ⟨k, L7.sound (K := K) (Q := (blkQ 4 (seqQ (W Tryd.prog ext (subC B [1, 1, 1, 1, 1, 1, 1, 1, 1, 1, 1, 1]) Q) Q))) (kx4 := (C4 K)) (fun f w h => blk_x ((fun f w h => seq_n (C4.sound (K := K) (Q := Q) hr h)) f w h)) hr k _ _ h⟩)))) hr trivial trivial
def C8 (K : KT) (kx2 : V2) (kn : V4) (v2 b3 n4 i5 : Value) (w : World) : Prop :=
  optW (arO .geq i5 (.int .i64 0)) w fun v30 w =>
  Cnd v30 (
  optW (shO .shr n4 i5) w fun v36 w =>
  optW (cvO .u8 v36) w fun v37 w =>
  semW Tryd.prog (Instr.buildSlice 23 1 #[(0, v37)]) w fun v38 w =>
  semW Tryd.prog (bltS .append #[23, 23] 23 #[b3, v38]) w fun v39 w =>
  optW (arO .sub i5 (.int .i64 8)) w fun v32 w =>
  kn v2 v39 n4 v32 w) (
  kx2 v2 b3 w)
theorem C8.sound {kx2 : V2} {kn : V4} {Q : QT} (hkx2 : ∀ f w, kx2 (f 2) (f 3) w → Q (.exit 2) f w) (hkn : ∀ f w, kn (f 2) (f 3) (f 4) (f 5) w → Q .normal f w) (hr : ∀ f w, R K f w → Q .ret f w) {f : Fr} {w : World} (h : C8 K kx2 kn (f 2) (f 3) (f 4) (f 5) w) : W Tryd.prog ext (subC B [1, 1, 1, 1, 1, 1, 1, 0, 0, 0]) Q f w :=
  W_exq (n := fun f w => kn (f 2) (f 3) (f 4) (f 5) w) (r := R K) (xs := [(2, fun f w => kx2 (f 2) (f 3) w)]) (gs := []) (Eq.mp (by kernel_rfl) h) hkn hr ⟨hkx2, trivial⟩ trivial
def L8 (K : KT) (kx2 : V2) : Nat → V4
  | 0, _, _, _, _, _ => False
  | k + 1, v2, b3, n4, i5, w => C8 K kx2 (L8 K kx2 k) v2 b3 n4 i5 w
theorem L8.sound {kx2 : V2} {Q : QT} (hkx2 : ∀ f w, kx2 (f 2) (f 3) w → Q (.exit 2) f w) (hr : ∀ f w, R K f w → Q .ret f w) : ∀ (k : Nat) (f : Fr) (w : World), L8 K kx2 k (f 2) (f 3) (f 4) (f 5) w → It (W Tryd.prog ext (subC B [1, 1, 1, 1, 1, 1, 1, 0, 0, 0])) Q k f w
  | 0, _, _, h => h
  | k + 1, _, _, h => C8.sound (K := K) (Q := seqQ (It (W Tryd.prog ext (subC B [1, 1, 1, 1, 1, 1, 1, 0, 0, 0])) Q k) Q) hkx2 (fun f w h => seq_n (L8.sound hkx2 hr k f w h)) hr h
def C2 (K : KT) (text0 v2 b3 : Value) (w : World) : Prop :=
  optW (lenS text0) w fun v26 w =>
  optW (cvO .u64 v26) w fun v27 w =>
  optW (arO .mul v27 (.int .u64 8)) w fun v28 w =>
  ∃ k, L8 K (C3 K) k v2 b3 v28 (.int .i64 56) w
theorem C2.sound {Q : QT} (hr : ∀ f w, R K f w → Q .ret f w) {f : Fr} {w : World} (h : C2 K (f 0) (f 2) (f 3) w) : W Tryd.prog ext (subC B [1, 1, 1, 1, 1]) Q f w :=
  W_pre 2 (c2 := (subC B [1, 1, 1, 1, 1, 1, 1])) (by kernel_rfl) (n := fun f w => ∃ k, L8 K (C3 K) k (f 2) (f 3) (f 4) (f 5) w) (r := R K) (xs := []) (gs := []) (Eq.mp (by kernel_rfl) h) (fun f w h => W_seq' (a := (subC B [1, 1, 1, 1, 1, 1, 1, 0])) (b := (subC B [1, 1, 1, 1, 1, 1, 1, 1])) (by kernel_rfl) (W_block' (id := 2) (c := (subC B [1, 1, 1, 1, 1, 1, 1, 0, 0])) (by kernel_rfl) (W_loop' (c := (subC B [1, 1, 1, 1, 1, 1, 1, 0, 0, 0])) (by kernel_rfl) (h.elim fun k h => ⟨k, L8.sound (K := K) (Q := (blkQ 2 (seqQ (W Tryd.prog ext (subC B [1, 1, 1, 1, 1, 1, 1, 1]) Q) Q))) (kx2 := (C3 K)) (fun f w h => blk_x ((fun f w h => seq_n (C3.sound (K := K) (Q := Q) hr h)) f w h)) hr k _ _ h⟩)))) hr trivial trivial
def C9 (K : KT) (kx0 : V3) (kn : V3) (text0 v2 b3 : Value) (w : World) : Prop :=
  optW (lenS b3) w fun v19 w =>
  optW (arO .rem v19 (.int .i64 64)) w fun v20 w =>
  optW (eqO true v20 (.int .i64 56)) w fun v21 w =>
  Cnd v21 (
  semW Tryd.prog (Instr.buildSlice 23 1 #[(0, (.int .u8 0))]) w fun v23 w =>
  semW Tryd.prog (bltS .append #[23, 23] 23 #[b3, v23]) w fun v24 w =>
  kn text0 v2 v24 w) (
  kx0 text0 v2 b3 w)
theorem C9.sound {kx0 : V3} {kn : V3} {Q : QT} (hkx0 : ∀ f w, kx0 (f 0) (f 2) (f 3) w → Q (.exit 0) f w) (hkn : ∀ f w, kn (f 0) (f 2) (f 3) w → Q .normal f w) (hr : ∀ f w, R K f w → Q .ret f w) {f : Fr} {w : World} (h : C9 K kx0 kn (f 0) (f 2) (f 3) w) : W Tryd.prog ext (subC B [1, 1, 1, 1, 0, 0, 0]) Q f w :=
  W_exq (n := fun f w => kn (f 0) (f 2) (f 3) w) (r := R K) (xs := [(0, fun f w => kx0 (f 0) (f 2) (f 3) w)]) (gs := []) (Eq.mp (by kernel_rfl) h) hkn hr ⟨hkx0, trivial⟩ trivial
def L9 (K : KT) (kx0 : V3) : Nat → V3
  | 0, _, _, _, _ => False
  | k + 1, text0, v2, b3, w => C9 K kx0 (L9 K kx0 k) text0 v2 b3 w
theorem L9.sound {kx0 : V3} {Q : QT} (hkx0 : ∀ f w, kx0 (f 0) (f 2) (f 3) w → Q (.exit 0) f w) (hr : ∀ f w, R K f w → Q .ret f w) : ∀ (k : Nat) (f : Fr) (w : World), L9 K kx0 k (f 0) (f 2) (f 3) w → It (W Tryd.prog ext (subC B [1, 1, 1, 1, 0, 0, 0])) Q k f w
  | 0, _, _, h => h
  | k + 1, _, _, h => C9.sound (K := K) (Q := seqQ (It (W Tryd.prog ext (subC B [1, 1, 1, 1, 0, 0, 0])) Q k) Q) hkx0 (fun f w h => seq_n (L9.sound hkx0 hr k f w h)) hr h
def C1 (K : KT) (text0 : Value) (w : World) : Prop :=
  newW (zCells Tryd.prog 43) 43 w fun v2 w =>
  semW Tryd.prog (bltS .append #[23, 23] 23 #[(.slice none 0 0), text0]) w fun v14 w =>
  semW Tryd.prog (Instr.buildSlice 23 1 #[(0, (.int .u8 128))]) w fun v16 w =>
  semW Tryd.prog (bltS .append #[23, 23] 23 #[v14, v16]) w fun v17 w =>
  ∃ k, L9 K (C2 K) k text0 v2 v17 w
theorem C1.sound {Q : QT} (hr : ∀ f w, R K f w → Q .ret f w) {f : Fr} {w : World} (h : C1 K (f 0) w) : W Tryd.prog ext (subC B []) Q f w :=
  W_pre 4 (c2 := (subC B [1, 1, 1, 1])) (by kernel_rfl) (n := fun f w => ∃ k, L9 K (C2 K) k (f 0) (f 2) (f 3) w) (r := R K) (xs := []) (gs := []) (Eq.mp (by kernel_rfl) h) (fun f w h => W_seq' (a := (subC B [1, 1, 1, 1, 0])) (b := (subC B [1, 1, 1, 1, 1])) (by kernel_rfl) (W_block' (id := 0) (c := (subC B [1, 1, 1, 1, 0, 0])) (by kernel_rfl) (W_loop' (c := (subC B [1, 1, 1, 1, 0, 0, 0])) (by kernel_rfl) (h.elim fun k h => ⟨k, L9.sound (K := K) (Q := (blkQ 0 (seqQ (W Tryd.prog ext (subC B [1, 1, 1, 1, 1]) Q) Q))) (kx0 := (C2 K)) (fun f w h => blk_x ((fun f w h => seq_n (C2.sound (K := K) (Q := Q) hr h)) f w h)) hr k _ _ h⟩)))) hr trivial trivial
def J (text0 : Value) (w : World) (K : KT) : Prop := C1 K text0 w
theorem sound {text0 : Value} {w : World} (h : J text0 w K) : CallsR Tryd.prog 22 #[text0] w K :=
  calls_of_W (ext := ext) (args := [text0]) (fn := Tryd.f22) (c := bodyC Tryd.f22) mixedOk Tryd.func22 rfl (by kernel_rfl) (Nat.le_of_ble_eq_true (by kernel_rfl)) (W_flat _ _ _ _ (C1.sound (fun _ _ h => h) h))
end witnessref1_Of
/- (*witness/digest.Hash).Size -/
namespace digest_Hash_Size
noncomputable abbrev B : Code := flat (bodyC Tryd.f23)
noncomputable abbrev R (K : KT) : Fr → World → Prop := fnPost Tryd.prog Tryd.f23.results.toList K .ret
variable {K : KT}
def C1 (K : KT) (h0 : Value) (w : World) : Prop :=
  optW (nilO h0) w fun v4 w =>
  optW (fadO 72 v4) w fun v5 w =>
  optW (ld1 v5 w) w fun v6 w =>
  K v6 w
theorem C1.sound {Q : QT} (hr : ∀ f w, R K f w → Q .ret f w) {f : Fr} {w : World} (h : C1 K (f 0) w) : W Tryd.prog ext (subC B []) Q f w :=
  W_exq (n := fun _ _ => False) (r := R K) (xs := []) (gs := []) (Eq.mp (by kernel_rfl) h) (fun _ _ h => h.elim) hr trivial trivial
def J (h0 : Value) (w : World) (K : KT) : Prop := C1 K h0 w
theorem sound {h0 : Value} {w : World} (h : J h0 w K) : CallsR Tryd.prog 23 #[h0] w K :=
  calls_of_W (ext := ext) (args := [h0]) (fn := Tryd.f23) (c := bodyC Tryd.f23) mixedOk Tryd.func23 rfl (by kernel_rfl) (Nat.le_of_ble_eq_true (by kernel_rfl)) (W_flat _ _ _ _ (C1.sound (fun _ _ h => h) h))
end digest_Hash_Size
/- (*witness/digest.Hash).Fork -/
namespace digest_Hash_Fork
noncomputable abbrev B : Code := flat (bodyC Tryd.f24)
noncomputable abbrev R (K : KT) : Fr → World → Prop := fnPost Tryd.prog Tryd.f24.results.toList K .ret
variable {K : KT}
def C1 (K : KT) (h0 : Value) (w : World) : Prop :=
  optW (nilO h0) w fun v5 w =>
  optW (ldN 73 v5 w) w fun v6 w =>
  newW (zCells Tryd.prog 62) 62 w fun c3 w =>
  stN 73 c3 v6 w fun w =>
  K c3 w
theorem C1.sound {Q : QT} (hr : ∀ f w, R K f w → Q .ret f w) {f : Fr} {w : World} (h : C1 K (f 0) w) : W Tryd.prog ext (subC B []) Q f w :=
  W_exq (n := fun _ _ => False) (r := R K) (xs := []) (gs := []) (Eq.mp (by kernel_rfl) h) (fun _ _ h => h.elim) hr trivial trivial
def J (h0 : Value) (w : World) (K : KT) : Prop := C1 K h0 w
theorem sound {h0 : Value} {w : World} (h : J h0 w K) : CallsR Tryd.prog 24 #[h0] w K :=
  calls_of_W (ext := ext) (args := [h0]) (fn := Tryd.f24) (c := bodyC Tryd.f24) mixedOk Tryd.func24 rfl (by kernel_rfl) (Nat.le_of_ble_eq_true (by kernel_rfl)) (W_flat _ _ _ _ (C1.sound (fun _ _ h => h) h))
end digest_Hash_Fork
/- (*witness/digest.Hash).Reset -/
namespace digest_Hash_Reset
noncomputable abbrev B : Code := flat (bodyC Tryd.f25)
noncomputable abbrev R (K : KT) : Fr → World → Prop := fnPost Tryd.prog Tryd.f25.results.toList K .ret
variable {K : KT}
def C1 (K : KT) (kn : V0) (h0 : Value) (w : World) : Prop :=
  optW (ldN 8 (.pointer (some ⟨1, 0, none⟩)) w) w fun v3 w =>
  semW Tryd.prog (Instr.build 62 #[(0, v3)]) w fun v4 w =>
  optW (nilO h0) w fun v5 w =>
  stN 73 v5 v4 w fun w =>
  kn w
theorem C1.sound {kn : V0} {Q : QT} (hkn : ∀ f w, kn w → Q .normal f w) (hr : ∀ f w, R K f w → Q .ret f w) {f : Fr} {w : World} (h : C1 K kn (f 0) w) : W Tryd.prog ext (subC B []) Q f w :=
  W_exq (n := fun f w => kn w) (r := R K) (xs := []) (gs := []) (Eq.mp (by kernel_rfl) h) hkn hr trivial trivial
def J (h0 : Value) (w : World) (K : KT) : Prop := C1 K (fun w => K (.tuple #[]) w) h0 w
theorem sound {h0 : Value} {w : World} (h : J h0 w K) : CallsR Tryd.prog 25 #[h0] w K :=
  calls_of_W (ext := ext) (args := [h0]) (fn := Tryd.f25) (c := bodyC Tryd.f25) mixedOk Tryd.func25 rfl (by kernel_rfl) (Nat.le_of_ble_eq_true (by kernel_rfl)) (W_flat _ _ _ _ (C1.sound (fun f w h => Eq.mp (by kernel_rfl) h) (fun _ _ h => h) h))
end digest_Hash_Reset
/- witness/digest.Of -/
namespace digest_Of
noncomputable abbrev B : Code := flat (bodyC Tryd.f26)
noncomputable abbrev R (K : KT) : Fr → World → Prop := fnPost Tryd.prog Tryd.f26.results.toList K .ret
variable {K : KT}
def C2 (K : KT) (v2 h3 : Value) (w : World) : Prop :=
  CallsR Tryd.prog 21 #[h3] w fun v18 w =>
  stN 32 v2 v18 w fun w =>
  resC Tryd.prog v2 43 w fun r0 =>
  K r0 w
theorem C2.sound {Q : QT} (hr : ∀ f w, R K f w → Q .ret f w) {f : Fr} {w : World} (h : C2 K (f 2) (f 3) w) : W Tryd.prog ext (subC B [1, 1, 1, 1]) Q f w :=
  W_exq (n := fun _ _ => False) (r := R K) (xs := []) (gs := []) (Eq.mp (by kernel_rfl) h) (fun _ _ h => h.elim) hr trivial trivial
def C3 (K : KT) (kx0 : V2) (kn : V5) (v2 h3 v7 v8 v9 : Value) (w : World) : Prop :=
  optW (arO .lss v9 v8) w fun v10 w =>
  Cnd v10 (
  optW (ixS 1 v7 v9) w fun v11 w =>
  optW (ld1 v11 w) w fun v12 w =>
  CallsR Tryd.prog 20 #[h3, v12] w fun v15 w =>
  optW (arO .add v9 (.int .i64 1)) w fun v16 w =>
  kn v2 h3 v7 v8 v16 w) (
  kx0 v2 h3 w)
theorem C3.sound {kx0 : V2} {kn : V5} {Q : QT} (hkx0 : ∀ f w, kx0 (f 2) (f 3) w → Q (.exit 0) f w) (hkn : ∀ f w, kn (f 2) (f 3) (f 7) (f 8) (f 9) w → Q .normal f w) (hr : ∀ f w, R K f w → Q .ret f w) {f : Fr} {w : World} (h : C3 K kx0 kn (f 2) (f 3) (f 7) (f 8) (f 9) w) : W Tryd.prog ext (subC B [1, 1, 1, 0, 0, 0]) Q f w :=
  W_exq (n := fun f w => kn (f 2) (f 3) (f 7) (f 8) (f 9) w) (r := R K) (xs := [(0, fun f w => kx0 (f 2) (f 3) w)]) (gs := []) (Eq.mp (by kernel_rfl) h) hkn hr ⟨hkx0, trivial⟩ trivial
def L3 (K : KT) (kx0 : V2) : Nat → V5
  | 0, _, _, _, _, _, _ => False
  | k + 1, v2, h3, v7, v8, v9, w => C3 K kx0 (L3 K kx0 k) v2 h3 v7 v8 v9 w
theorem L3.sound {kx0 : V2} {Q : QT} (hkx0 : ∀ f w, kx0 (f 2) (f 3) w → Q (.exit 0) f w) (hr : ∀ f w, R K f w → Q .ret f w) : ∀ (k : Nat) (f : Fr) (w : World), L3 K kx0 k (f 2) (f 3) (f 7) (f 8) (f 9) w → It (W Tryd.prog ext (subC B [1, 1, 1, 0, 0, 0])) Q k f w
  | 0, _, _, h => h
  | k + 1, _, _, h => C3.sound (K := K) (Q := seqQ (It (W Tryd.prog ext (subC B [1, 1, 1, 0, 0, 0])) Q k) Q) hkx0 (fun f w h => seq_n (L3.sound hkx0 hr k f w h)) hr h
def C1 (K : KT) (parts0 : Value) (w : World) : Prop :=
  newW (zCells Tryd.prog 43) 43 w fun v2 w =>
  CallsR Tryd.prog 19 #[] w fun v6 w =>
  optW (lenS parts0) w fun v8 w =>
  ∃ k, L3 K (C2 K) k v2 v6 parts0 v8 (.int .i64 0) w
theorem C1.sound {Q : QT} (hr : ∀ f w, R K f w → Q .ret f w) {f : Fr} {w : World} (h : C1 K (f 0) w) : W Tryd.prog ext (subC B []) Q f w :=
  W_pre 3 (c2 := (subC B [1, 1, 1])) (by kernel_rfl) (n := fun f w => ∃ k, L3 K (C2 K) k (f 2) (f 3) (f 7) (f 8) (f 9) w) (r := R K) (xs := []) (gs := []) (Eq.mp (by kernel_rfl) h) (fun f w h => W_seq' (a := (subC B [1, 1, 1, 0])) (b := (subC B [1, 1, 1, 1])) (by kernel_rfl) (W_block' (id := 0) (c := (subC B [1, 1, 1, 0, 0])) (by kernel_rfl) (W_loop' (c := (subC B [1, 1, 1, 0, 0, 0])) (by kernel_rfl) (h.elim fun k h => ⟨k, L3.sound (K := K) (Q := (blkQ 0 (seqQ (W Tryd.prog ext (subC B [1, 1, 1, 1]) Q) Q))) (kx0 := (C2 K)) (fun f w h => blk_x ((fun f w h => seq_n (C2.sound (K := K) (Q := Q) hr h)) f w h)) hr k _ _ h⟩)))) hr trivial trivial
def J (parts0 : Value) (w : World) (K : KT) : Prop := C1 K parts0 w
theorem sound {parts0 : Value} {w : World} (h : J parts0 w K) : CallsR Tryd.prog 26 #[parts0] w K :=
  calls_of_W (ext := ext) (args := [parts0]) (fn := Tryd.f26) (c := bodyC Tryd.f26) mixedOk Tryd.func26 rfl (by kernel_rfl) (Nat.le_of_ble_eq_true (by kernel_rfl)) (W_flat _ _ _ _ (C1.sound (fun _ _ h => h) h))
end digest_Of
/- (*witness/digest.Hash).block -/
namespace digest_Hash_block
noncomputable abbrev B : Code := flat (bodyC Tryd.f30)
noncomputable abbrev R (K : KT) : Fr → World → Prop := fnPost Tryd.prog Tryd.f30.results.toList K .ret
variable {K : KT}
def C4 (K : KT) (kx4 : V0) (kn : V3) (h0 v213 v214 : Value) (w : World) : Prop :=
  optW (arO .lss v214 (.int .i64 8)) w fun v215 w =>
  Cnd v215 (
  optW (idxO false 8 1 v213 v214) w fun v217 w =>
  drw w fun w =>
  optW (nilO h0) w fun v220 w =>
  optW (fadO 0 v220) w fun v221 w =>
  optW (ixA 8 1 v221 v214) w fun v222 w =>
  optW (ld1 v222 w) w fun v223 w =>
  optW (arO .add v223 v217) w fun v225 w =>
  optW (nilO h0) w fun v226 w =>
  optW (fadO 0 v226) w fun v227 w =>
  optW (ixA 8 1 v227 v214) w fun v228 w =>
  st1 v228 v225 w fun w =>
  optW (arO .add v214 (.int .i64 1)) w fun v229 w =>
  kn h0 v213 v229 w) (
  kx4 w)
theorem C4.sound {kx4 : V0} {kn : V3} {Q : QT} (hkx4 : ∀ f w, kx4 w → Q (.exit 4) f w) (hkn : ∀ f w, kn (f 0) (f 213) (f 214) w → Q .normal f w) (hr : ∀ f w, R K f w → Q .ret f w) {f : Fr} {w : World} (h : C4 K kx4 kn (f 0) (f 213) (f 214) w) : W Tryd.prog ext (subC B [1, 1, 1, 1, 1, 1, 1, 0, 0]) Q f w :=
  W_exq (n := fun f w => kn (f 0) (f 213) (f 214) w) (r := R K) (xs := [(4, fun f w => kx4 w)]) (gs := []) (Eq.mp (by kernel_rfl) h) hkn hr ⟨hkx4, trivial⟩ trivial
def L4 (K : KT) (kx4 : V0) : Nat → V3
  | 0, _, _, _, _ => False
  | k + 1, h0, v213, v214, w => C4 K kx4 (L4 K kx4 k) h0 v213 v214 w
theorem L4.sound {kx4 : V0} {Q : QT} (hkx4 : ∀ f w, kx4 w → Q (.exit 4) f w) (hr : ∀ f w, R K f w → Q .ret f w) : ∀ (k : Nat) (f : Fr) (w : World), L4 K kx4 k (f 0) (f 213) (f 214) w → It (W Tryd.prog ext (subC B [1, 1, 1, 1, 1, 1, 1, 0, 0])) Q k f w
  | 0, _, _, h => h
  | k + 1, _, _, h => C4.sound (K := K) (Q := seqQ (It (W Tryd.prog ext (subC B [1, 1, 1, 1, 1, 1, 1, 0, 0])) Q k) Q) hkx4 (fun f w h => seq_n (L4.sound hkx4 hr k f w h)) hr h
def C3 (K : KT) (kn : V0) (h0 a9 b10 c11 d12 e13 f14 g15 i16 : Value) (w : World) : Prop :=
  semW Tryd.prog (Instr.build 59 #[(0, a9), (1, b10), (2, c11), (3, d12), (4, e13), (5, f14), (6, g15), (7, i16)]) w fun v213 w =>
  ∃ k, L4 K kn k h0 v213 (.int .i64 0) w
theorem C3.sound {kn : V0} {Q : QT} (hkn : ∀ f w, kn w → Q .normal f w) (hr : ∀ f w, R K f w → Q .ret f w) {f : Fr} {w : World} (h : C3 K kn (f 0) (f 9) (f 10) (f 11) (f 12) (f 13) (f 14) (f 15) (f 16) w) : W Tryd.prog ext (subC B [1, 1, 1, 1, 1, 1]) Q f w :=
  W_pre 1 (c2 := (subC B [1, 1, 1, 1, 1, 1, 1])) (by kernel_rfl) (n := fun f w => ∃ k, L4 K kn k (f 0) (f 213) (f 214) w) (r := R K) (xs := []) (gs := []) (Eq.mp (by kernel_rfl) h) (fun f w h => W_block' (id := 4) (c := (subC B [1, 1, 1, 1, 1, 1, 1, 0])) (by kernel_rfl) (W_loop' (c := (subC B [1, 1, 1, 1, 1, 1, 1, 0, 0])) (by kernel_rfl) (h.elim fun k h => ⟨k, L4.sound (K := K) (Q := (blkQ 4 Q)) (kx4 := kn) (fun f w h => blk_x (hkn f w h)) hr k _ _ h⟩))) hr trivial trivial
def C5 (K : KT) (kx2 : V9) (kn : V12) (h0 w2 a9 b10 c11 d12 e13 f14 g15 i16 v143 v144 : Value) (w : World) : Prop :=
  optW (arO .lss v144 (.int .i64 64)) w fun v145 w =>
  Cnd v145 (
  optW (idxO false 64 1 v143 v144) w fun v147 w =>
  CallsR Tryd.prog 36 #[e13, (.int .i64 (-6))] w fun v149 w =>
  CallsR Tryd.prog 36 #[e13, (.int .i64 (-11))] w fun v151 w =>
  optW (arO .xor v149 v151) w fun v152 w =>
  CallsR Tryd.prog 36 #[e13, (.int .i64 (-25))] w fun v154 w =>
  optW (arO .xor v152 v154) w fun v155 w =>
  optW (arO .add i16 v155) w fun v158 w =>
  optW (arO .xor f14 g15) w fun v163 w =>
  optW (arO .and e13 v163) w fun v164 w =>
  optW (arO .xor g15 v164) w fun v165 w =>
  optW (arO .add v158 v165) w fun v166 w =>
  optW (arO .add v166 v147) w fun v168 w =>
  optW (ixA 64 1 w2 v144) w fun v170 w =>
  optW (ld1 v170 w) w fun v171 w =>
  optW (arO .add v168 v171) w fun v172 w =>
  CallsR Tryd.prog 36 #[a9, (.int .i64 (-2))] w fun v174 w =>
  CallsR Tryd.prog 36 #[a9, (.int .i64 (-13))] w fun v176 w =>
  optW (arO .xor v174 v176) w fun v177 w =>
  CallsR Tryd.prog 36 #[a9, (.int .i64 (-22))] w fun v179 w =>
  optW (arO .xor v177 v179) w fun v180 w =>
  optW (arO .and a9 b10) w fun v184 w =>
  optW (arO .or a9 b10) w fun v188 w =>
  optW (arO .and c11 v188) w fun v189 w =>
  optW (arO .or v184 v189) w fun v190 w =>
  optW (arO .add v180 v190) w fun v191 w =>
  optW (arO .add d12 v172) w fun v197 w =>
  optW (arO .add v172 v191) w fun v203 w =>
  optW (arO .add v144 (.int .i64 1)) w fun v204 w =>
  kn h0 w2 v203 a9 b10 c11 v197 e13 f14 g15 v143 v204 w) (
  kx2 h0 a9 b10 c11 d12 e13 f14 g15 i16 w)
theorem C5.sound {kx2 : V9} {kn : V12} {Q : QT} (hkx2 : ∀ f w, kx2 (f 0) (f 9) (f 10) (f 11) (f 12) (f 13) (f 14) (f 15) (f 16) w → Q (.exit 2) f w) (hkn : ∀ f w, kn (f 0) (f 2) (f 9) (f 10) (f 11) (f 12) (f 13) (f 14) (f 15) (f 16) (f 143) (f 144) w → Q .normal f w) (hr : ∀ f w, R K f w → Q .ret f w) {f : Fr} {w : World} (h : C5 K kx2 kn (f 0) (f 2) (f 9) (f 10) (f 11) (f 12) (f 13) (f 14) (f 15) (f 16) (f 143) (f 144) w) : W Tryd.prog ext (subC B [1, 1, 1, 1, 1, 0, 0, 0]) Q f w :=
  W_exq (n := fun f w => kn (f 0) (f 2) (f 9) (f 10) (f 11) (f 12) (f 13) (f 14) (f 15) (f 16) (f 143) (f 144) w) (r := R K) (xs := [(2, fun f w => kx2 (f 0) (f 9) (f 10) (f 11) (f 12) (f 13) (f 14) (f 15) (f 16) w)]) (gs := []) (Eq.mp (by kernel_rfl) h) hkn hr ⟨hkx2, trivial⟩ trivial
def L5 (K : KT) (kx2 : V9) : Nat → V12
  | 0, _, _, _, _, _, _, _, _, _, _, _, _, _ => False
  | k + 1, h0, w2, a9, b10, c11, d12, e13, f14, g15, i16, v143, v144, w => C5 K kx2 (L5 K kx2 k) h0 w2 a9 b10 c11 d12 e13 f14 g15 i16 v143 v144 w
theorem L5.sound {kx2 : V9} {Q : QT} (hkx2 : ∀ f w, kx2 (f 0) (f 9) (f 10) (f 11) (f 12) (f 13) (f 14) (f 15) (f 16) w → Q (.exit 2) f w) (hr : ∀ f w, R K f w → Q .ret f w) : ∀ (k : Nat) (f : Fr) (w : World), L5 K kx2 k (f 0) (f 2) (f 9) (f 10) (f 11) (f 12) (f 13) (f 14) (f 15) (f 16) (f 143) (f 144) w → It (W Tryd.prog ext (subC B [1, 1, 1, 1, 1, 0, 0, 0])) Q k f w
  | 0, _, _, h => h
  | k + 1, _, _, h => C5.sound (K := K) (Q := seqQ (It (W Tryd.prog ext (subC B [1, 1, 1, 1, 1, 0, 0, 0])) Q k) Q) hkx2 (fun f w h => seq_n (L5.sound hkx2 hr k f w h)) hr h
def C2 (K : KT) (kn : V0) (h0 w2 : Value) (w : World) : Prop :=
  drw w fun w =>
  optW (nilO h0) w fun v104 w =>
  optW (fadO 0 v104) w fun v105 w =>
  optW (ixA 8 1 v105 (.int .i64 0)) w fun v106 w =>
  optW (ld1 v106 w) w fun v107 w =>
  optW (nilO h0) w fun v109 w =>
  optW (fadO 0 v109) w fun v110 w =>
  optW (ixA 8 1 v110 (.int .i64 1)) w fun v111 w =>
  optW (ld1 v111 w) w fun v112 w =>
  optW (nilO h0) w fun v114 w =>
  optW (fadO 0 v114) w fun v115 w =>
  optW (ixA 8 1 v115 (.int .i64 2)) w fun v116 w =>
  optW (ld1 v116 w) w fun v117 w =>
  optW (nilO h0) w fun v119 w =>
  optW (fadO 0 v119) w fun v120 w =>
  optW (ixA 8 1 v120 (.int .i64 3)) w fun v121 w =>
  optW (ld1 v121 w) w fun v122 w =>
  optW (nilO h0) w fun v124 w =>
  optW (fadO 0 v124) w fun v125 w =>
  optW (ixA 8 1 v125 (.int .i64 4)) w fun v126 w =>
  optW (ld1 v126 w) w fun v127 w =>
  optW (nilO h0) w fun v129 w =>
  optW (fadO 0 v129) w fun v130 w =>
  optW (ixA 8 1 v130 (.int .i64 5)) w fun v131 w =>
  optW (ld1 v131 w) w fun v132 w =>
  optW (nilO h0) w fun v134 w =>
  optW (fadO 0 v134) w fun v135 w =>
  optW (ixA 8 1 v135 (.int .i64 6)) w fun v136 w =>
  optW (ld1 v136 w) w fun v137 w =>
  optW (nilO h0) w fun v139 w =>
  optW (fadO 0 v139) w fun v140 w =>
  optW (ixA 8 1 v140 (.int .i64 7)) w fun v141 w =>
  optW (ld1 v141 w) w fun v142 w =>
  optW (ldN 64 (.pointer (some ⟨2, 0, none⟩)) w) w fun v143 w =>
  ∃ k, L5 K (C3 K kn) k h0 w2 v107 v112 v117 v122 v127 v132 v137 v142 v143 (.int .i64 0) w
theorem C2.sound {kn : V0} {Q : QT} (hkn : ∀ f w, kn w → Q .normal f w) (hr : ∀ f w, R K f w → Q .ret f w) {f : Fr} {w : World} (h : C2 K kn (f 0) (f 2) w) : W Tryd.prog ext (subC B [1, 1, 1]) Q f w :=
  W_pre 2 (c2 := (subC B [1, 1, 1, 1, 1])) (by kernel_rfl) (n := fun f w => ∃ k, L5 K (C3 K kn) k (f 0) (f 2) (f 9) (f 10) (f 11) (f 12) (f 13) (f 14) (f 15) (f 16) (f 143) (f 144) w) (r := R K) (xs := []) (gs := []) (Eq.mp (by kernel_rfl) h) (fun f w h => W_seq' (a := (subC B [1, 1, 1, 1, 1, 0])) (b := (subC B [1, 1, 1, 1, 1, 1])) (by kernel_rfl) (W_block' (id := 2) (c := (subC B [1, 1, 1, 1, 1, 0, 0])) (by kernel_rfl) (W_loop' (c := (subC B [1, 1, 1, 1, 1, 0, 0, 0])) (by kernel_rfl) (h.elim fun k h => ⟨k, L5.sound (K := K) (Q := (blkQ 2 (seqQ (W Tryd.prog ext (subC B [1, 1, 1, 1, 1, 1]) Q) Q))) (kx2 := (C3 K kn)) (fun f w h => blk_x ((fun f w h => seq_n (C3.sound (K := K) (Q := Q) (kn := kn) hkn hr h)) f w h)) hr k _ _ h⟩)))) hr trivial trivial
def C7 (K : KT) (kn : V3) (h0 w2 v25 : Value) (w : World) : Prop :=
  optW (arO .add v25 (.int .i64 1)) w fun v102 w =>
  kn h0 w2 v102 w
theorem C7.sound {kn : V3} {Q : QT} (hkn : ∀ f w, kn (f 0) (f 2) (f 25) w → Q .normal f w) (hr : ∀ f w, R K f w → Q .ret f w) {f : Fr} {w : World} (h : C7 K kn (f 0) (f 2) (f 25) w) : W Tryd.prog ext (subC B [1, 1, 0, 0, 0, 1, 1, 1]) Q f w :=
  W_exq (n := fun f w => kn (f 0) (f 2) (f 25) w) (r := R K) (xs := []) (gs := []) (Eq.mp (by kernel_rfl) h) hkn hr trivial trivial
def C8 (K : KT) (kx1 : V3) (kn : V3) (h0 w2 v25 : Value) (w : World) : Prop :=
  optW (arO .lss v25 (.int .i64 16)) w fun v29 w =>
  Cnd v29 (
  optW (nilO h0) w fun v31 w =>
  optW (fadO 8 v31) w fun v32 w =>
  optW (arO .mul (.int .i64 4) v25) w fun v34 w =>
  optW (arO .mul (.int .i64 4) v25) w fun v36 w =>
  optW (arO .add v36 (.int .i64 4)) w fun v37 w =>
  optW (slA 64 1 v32 (some v34) (some v37) none) w fun v38 w =>
  drw w fun w =>
  optW (ixS 1 v38 (.int .i64 0)) w fun v41 w =>
  optW (ld1 v41 w) w fun v42 w =>
  optW (cvO .u32 v42) w fun v43 w =>
  optW (shO .shl v43 (.int .u64 24)) w fun v44 w =>
  optW (ixS 1 v38 (.int .i64 1)) w fun v46 w =>
  optW (ld1 v46 w) w fun v47 w =>
  optW (cvO .u32 v47) w fun v48 w =>
  optW (shO .shl v48 (.int .u64 16)) w fun v49 w =>
  optW (arO .or v44 v49) w fun v50 w =>
  optW (ixS 1 v38 (.int .i64 2)) w fun v52 w =>
  optW (ld1 v52 w) w fun v53 w =>
  optW (cvO .u32 v53) w fun v54 w =>
  optW (shO .shl v54 (.int .u64 8)) w fun v55 w =>
  optW (arO .or v50 v55) w fun v56 w =>
  optW (ixS 1 v38 (.int .i64 3)) w fun v58 w =>
  optW (ld1 v58 w) w fun v59 w =>
  optW (cvO .u32 v59) w fun v60 w =>
  optW (arO .or v56 v60) w fun v61 w =>
  optW (ixA 64 1 w2 v25) w fun v62 w =>
  st1 v62 v61 w fun w =>
  kx1 h0 w2 v25 w) (
  drw w fun w =>
  optW (arO .sub v25 (.int .i64 15)) w fun v64 w =>
  optW (ixA 64 1 w2 v64) w fun v65 w =>
  optW (ld1 v65 w) w fun v66 w =>
  optW (arO .sub v25 (.int .i64 2)) w fun v68 w =>
  optW (ixA 64 1 w2 v68) w fun v69 w =>
  optW (ld1 v69 w) w fun v70 w =>
  CallsR Tryd.prog 36 #[v66, (.int .i64 (-7))] w fun v72 w =>
  CallsR Tryd.prog 36 #[v66, (.int .i64 (-18))] w fun v74 w =>
  optW (arO .xor v72 v74) w fun v75 w =>
  optW (shO .shr v66 (.int .u64 3)) w fun v77 w =>
  optW (arO .xor v75 v77) w fun v78 w =>
  CallsR Tryd.prog 36 #[v70, (.int .i64 (-17))] w fun v80 w =>
  CallsR Tryd.prog 36 #[v70, (.int .i64 (-19))] w fun v82 w =>
  optW (arO .xor v80 v82) w fun v83 w =>
  optW (shO .shr v70 (.int .u64 10)) w fun v85 w =>
  optW (arO .xor v83 v85) w fun v86 w =>
  drw w fun w =>
  optW (arO .sub v25 (.int .i64 16)) w fun v89 w =>
  optW (ixA 64 1 w2 v89) w fun v90 w =>
  optW (ld1 v90 w) w fun v91 w =>
  optW (arO .add v91 v78) w fun v93 w =>
  optW (arO .sub v25 (.int .i64 7)) w fun v95 w =>
  optW (ixA 64 1 w2 v95) w fun v96 w =>
  optW (ld1 v96 w) w fun v97 w =>
  optW (arO .add v93 v97) w fun v98 w =>
  optW (arO .add v98 v86) w fun v100 w =>
  optW (ixA 64 1 w2 v25) w fun v101 w =>
  st1 v101 v100 w fun w =>
  kn h0 w2 v25 w)
theorem C8.sound {kx1 : V3} {kn : V3} {Q : QT} (hkx1 : ∀ f w, kx1 (f 0) (f 2) (f 25) w → Q (.exit 1) f w) (hkn : ∀ f w, kn (f 0) (f 2) (f 25) w → Q .normal f w) (hr : ∀ f w, R K f w → Q .ret f w) {f : Fr} {w : World} (h : C8 K kx1 kn (f 0) (f 2) (f 25) w) : W Tryd.prog ext (subC B [1, 1, 0, 0, 0, 1, 1, 0, 0]) Q f w :=
  W_exq (n := fun f w => kn (f 0) (f 2) (f 25) w) (r := R K) (xs := [(1, fun f w => kx1 (f 0) (f 2) (f 25) w)]) (gs := []) (Eq.mp (by kernel_rfl) h) hkn hr ⟨hkx1, trivial⟩ trivial
def C6 (K : KT) (kx0 : V2) (kn : V3) (h0 w2 v25 : Value) (w : World) : Prop :=
  optW (arO .lss v25 (.int .i64 64)) w fun v26 w =>
  Cnd v26 (
  C8 K (C7 K kn) (C7 K kn) h0 w2 v25 w) (
  kx0 h0 w2 w)
theorem C6.sound {kx0 : V2} {kn : V3} {Q : QT} (hkx0 : ∀ f w, kx0 (f 0) (f 2) w → Q (.exit 0) f w) (hkn : ∀ f w, kn (f 0) (f 2) (f 25) w → Q .normal f w) (hr : ∀ f w, R K f w → Q .ret f w) {f : Fr} {w : World} (h : C6 K kx0 kn (f 0) (f 2) (f 25) w) : W Tryd.prog ext (subC B [1, 1, 0, 0, 0]) Q f w :=
  W_pre 2 (c2 := (subC B [1, 1, 0, 0, 0, 1, 1])) (by kernel_rfl) (n := fun f w => C8 K (C7 K kn) (C7 K kn) (f 0) (f 2) (f 25) w) (r := R K) (xs := [(0, fun f w => kx0 (f 0) (f 2) w)]) (gs := []) (Eq.mp (by kernel_rfl) h) (fun f w h => W_seq' (a := (subC B [1, 1, 0, 0, 0, 1, 1, 0])) (b := (subC B [1, 1, 0, 0, 0, 1, 1, 1])) (by kernel_rfl) (W_block' (id := 1) (c := (subC B [1, 1, 0, 0, 0, 1, 1, 0, 0])) (by kernel_rfl) (C8.sound (K := K) (Q := (blkQ 1 (seqQ (W Tryd.prog ext (subC B [1, 1, 0, 0, 0, 1, 1, 1]) Q) Q))) (kx1 := (C7 K kn)) (kn := (C7 K kn)) (fun f w h => blk_x ((fun f w h => seq_n (C7.sound (K := K) (Q := Q) (kn := kn) hkn hr h)) f w h)) (fun f w h => blk_n ((fun f w h => seq_n (C7.sound (K := K) (Q := Q) (kn := kn) hkn hr h)) f w h)) hr h))) hr ⟨hkx0, trivial⟩ trivial
def L6 (K : KT) (kx0 : V2) : Nat → V3
  | 0, _, _, _, _ => False
  | k + 1, h0, w2, v25, w => C6 K kx0 (L6 K kx0 k) h0 w2 v25 w
theorem L6.sound {kx0 : V2} {Q : QT} (hkx0 : ∀ f w, kx0 (f 0) (f 2) w → Q (.exit 0) f w) (hr : ∀ f w, R K f w → Q .ret f w) : ∀ (k : Nat) (f : Fr) (w : World), L6 K kx0 k (f 0) (f 2) (f 25) w → It (W Tryd.prog ext (subC B [1, 1, 0, 0, 0])) Q k f w
  | 0, _, _, h => h
  | k + 1, _, _, h => C6.sound (K := K) (Q := seqQ (It (W Tryd.prog ext (subC B [1, 1, 0, 0, 0])) Q k) Q) hkx0 (fun f w h => seq_n (L6.sound hkx0 hr k f w h)) hr h
def C1 (K : KT) (kn : V0) (h0 : Value) (w : World) : Prop :=
  newW (zCells Tryd.prog 63) 63 w fun w2 w =>
  ∃ k, L6 K (C2 K kn) k h0 w2 (.int .i64 0) w
theorem C1.sound {kn : V0} {Q : QT} (hkn : ∀ f w, kn w → Q .normal f w) (hr : ∀ f w, R K f w → Q .ret f w) {f : Fr} {w : World} (h : C1 K kn (f 0) w) : W Tryd.prog ext (subC B []) Q f w :=
  W_pre 2 (c2 := (subC B [1, 1])) (by kernel_rfl) (n := fun f w => ∃ k, L6 K (C2 K kn) k (f 0) (f 2) (f 25) w) (r := R K) (xs := []) (gs := []) (Eq.mp (by kernel_rfl) h) (fun f w h => W_seq' (a := (subC B [1, 1, 0])) (b := (subC B [1, 1, 1])) (by kernel_rfl) (W_block' (id := 0) (c := (subC B [1, 1, 0, 0])) (by kernel_rfl) (W_loop' (c := (subC B [1, 1, 0, 0, 0])) (by kernel_rfl) (h.elim fun k h => ⟨k, L6.sound (K := K) (Q := (blkQ 0 (seqQ (W Tryd.prog ext (subC B [1, 1, 1]) Q) Q))) (kx0 := (C2 K kn)) (fun f w h => blk_x ((fun f w h => seq_n (C2.sound (K := K) (Q := Q) (kn := kn) hkn hr h)) f w h)) hr k _ _ h⟩)))) hr trivial trivial
def J (h0 : Value) (w : World) (K : KT) : Prop := C1 K (fun w => K (.tuple #[]) w) h0 w
theorem sound {h0 : Value} {w : World} (h : J h0 w K) : CallsR Tryd.prog 30 #[h0] w K :=
  calls_of_W (ext := ext) (args := [h0]) (fn := Tryd.f30) (c := bodyC Tryd.f30) mixedOk Tryd.func30 rfl (by kernel_rfl) (Nat.le_of_ble_eq_true (by kernel_rfl)) (W_flat _ _ _ _ (C1.sound (fun f w h => Eq.mp (by kernel_rfl) h) (fun _ _ h => h) h))
end digest_Hash_block
/- witness/witnessref1.rounds -/
namespace witnessref1_rounds
noncomputable abbrev B : Code := flat (bodyC Tryd.f31)
noncomputable abbrev R (K : KT) : Fr → World → Prop := fnPost Tryd.prog Tryd.f31.results.toList K .ret
variable {K : KT}
def C1 (K : KT) (w : World) : Prop :=
  newW (zCells Tryd.prog 63) 63 w fun v0 w =>
  semW Tryd.prog (Instr.build 63 #[(0, (.int .u32 1116352408)), (1, (.int .u32 1899447441)), (2, (.int .u32 3049323471)), (3, (.int .u32 3921009573)), (4, (.int .u32 961987163)), (5, (.int .u32 1508970993)), (6, (.int .u32 2453635748)), (7, (.int .u32 2870763221)), (8, (.int .u32 3624381080)), (9, (.int .u32 310598401)), (10, (.int .u32 607225278)), (11, (.int .u32 1426881987)), (12, (.int .u32 1925078388)), (13, (.int .u32 2162078206)), (14, (.int .u32 2614888103)), (15, (.int .u32 3248222580)), (16, (.int .u32 3835390401)), (17, (.int .u32 4022224774)), (18, (.int .u32 264347078)), (19, (.int .u32 604807628)), (20, (.int .u32 770255983)), (21, (.int .u32 1249150122)), (22, (.int .u32 1555081692)), (23, (.int .u32 1996064986)), (24, (.int .u32 2554220882)), (25, (.int .u32 2821834349)), (26, (.int .u32 2952996808)), (27, (.int .u32 3210313671)), (28, (.int .u32 3336571891)), (29, (.int .u32 3584528711)), (30, (.int .u32 113926993)), (31, (.int .u32 338241895)), (32, (.int .u32 666307205)), (33, (.int .u32 773529912)), (34, (.int .u32 1294757372)), (35, (.int .u32 1396182291)), (36, (.int .u32 1695183700)), (37, (.int .u32 1986661051)), (38, (.int .u32 2177026350)), (39, (.int .u32 2456956037)), (40, (.int .u32 2730485921)), (41, (.int .u32 2820302411)), (42, (.int .u32 3259730800)), (43, (.int .u32 3345764771)), (44, (.int .u32 3516065817)), (45, (.int .u32 3600352804)), (46, (.int .u32 4094571909)), (47, (.int .u32 275423344)), (48, (.int .u32 430227734)), (49, (.int .u32 506948616)), (50, (.int .u32 659060556)), (51, (.int .u32 883997877)), (52, (.int .u32 958139571)), (53, (.int .u32 1322822218)), (54, (.int .u32 1537002063)), (55, (.int .u32 1747873779)), (56, (.int .u32 1955562222)), (57, (.int .u32 2024104815)), (58, (.int .u32 2227730452)), (59, (.int .u32 2361852424)), (60, (.int .u32 2428436474)), (61, (.int .u32 2756734187)), (62, (.int .u32 3204031479)), (63, (.int .u32 3329325298))]) w fun v1 w =>
  stN 64 v0 v1 w fun w =>
  resC Tryd.prog v0 63 w fun r0 =>
  K r0 w
theorem C1.sound {Q : QT} (hr : ∀ f w, R K f w → Q .ret f w) {f : Fr} {w : World} (h : C1 K w) : W Tryd.prog ext (subC B []) Q f w :=
  W_exq (n := fun _ _ => False) (r := R K) (xs := []) (gs := []) (Eq.mp (by kernel_rfl) h) (fun _ _ h => h.elim) hr trivial trivial
def J (w : World) (K : KT) : Prop := C1 K w
theorem sound {w : World} (h : J w K) : CallsR Tryd.prog 31 #[] w K :=
  calls_of_W (ext := ext) (args := []) (fn := Tryd.f31) (c := bodyC Tryd.f31) mixedOk Tryd.func31 rfl (by kernel_rfl) (Nat.le_of_ble_eq_true (by kernel_rfl)) (W_flat _ _ _ _ (C1.sound (fun _ _ h => h) h))
end witnessref1_rounds
/- witness/witnessref1.first -/
namespace witnessref1_first
noncomputable abbrev B : Code := flat (bodyC Tryd.f32)
noncomputable abbrev R (K : KT) : Fr → World → Prop := fnPost Tryd.prog Tryd.f32.results.toList K .ret
variable {K : KT}
def C1 (K : KT) (w : World) : Prop :=
  newW (zCells Tryd.prog 59) 59 w fun v0 w =>
  semW Tryd.prog (Instr.build 59 #[(0, (.int .u32 1779033703)), (1, (.int .u32 3144134277)), (2, (.int .u32 1013904242)), (3, (.int .u32 2773480762)), (4, (.int .u32 1359893119)), (5, (.int .u32 2600822924)), (6, (.int .u32 528734635)), (7, (.int .u32 1541459225))]) w fun v1 w =>
  stN 8 v0 v1 w fun w =>
  resC Tryd.prog v0 59 w fun r0 =>
  K r0 w
theorem C1.sound {Q : QT} (hr : ∀ f w, R K f w → Q .ret f w) {f : Fr} {w : World} (h : C1 K w) : W Tryd.prog ext (subC B []) Q f w :=
  W_exq (n := fun _ _ => False) (r := R K) (xs := []) (gs := []) (Eq.mp (by kernel_rfl) h) (fun _ _ h => h.elim) hr trivial trivial
def J (w : World) (K : KT) : Prop := C1 K w
theorem sound {w : World} (h : J w K) : CallsR Tryd.prog 32 #[] w K :=
  calls_of_W (ext := ext) (args := []) (fn := Tryd.f32) (c := bodyC Tryd.f32) mixedOk Tryd.func32 rfl (by kernel_rfl) (Nat.le_of_ble_eq_true (by kernel_rfl)) (W_flat _ _ _ _ (C1.sound (fun _ _ h => h) h))
end witnessref1_first
/- witness/witnessref1.schedule -/
namespace witnessref1_schedule
noncomputable abbrev B : Code := flat (bodyC Tryd.f33)
noncomputable abbrev R (K : KT) : Fr → World → Prop := fnPost Tryd.prog Tryd.f33.results.toList K .ret
variable {K : KT}
def C2 (K : KT) (v4 w5 : Value) (w : World) : Prop :=
  optW (ldN 64 w5 w) w fun v86 w =>
  stN 64 v4 v86 w fun w =>
  resC Tryd.prog v4 63 w fun r0 =>
  K r0 w
theorem C2.sound {Q : QT} (hr : ∀ f w, R K f w → Q .ret f w) {f : Fr} {w : World} (h : C2 K (f 4) (f 5) w) : W Tryd.prog ext (subC B [1, 1, 1, 1]) Q f w :=
  W_exq (n := fun _ _ => False) (r := R K) (xs := []) (gs := []) (Eq.mp (by kernel_rfl) h) (fun _ _ h => h.elim) hr trivial trivial
def C4 (K : KT) (kn : V5) (b0 at1 v4 w5 t6 : Value) (w : World) : Prop :=
  optW (arO .add t6 (.int .i64 1)) w fun v13 w =>
  kn b0 at1 v4 w5 v13 w
theorem C4.sound {kn : V5} {Q : QT} (hkn : ∀ f w, kn (f 0) (f 1) (f 4) (f 5) (f 6) w → Q .normal f w) (hr : ∀ f w, R K f w → Q .ret f w) {f : Fr} {w : World} (h : C4 K kn (f 0) (f 1) (f 4) (f 5) (f 6) w) : W Tryd.prog ext (subC B [1, 1, 1, 0, 0, 0, 1, 1, 1]) Q f w :=
  W_exq (n := fun f w => kn (f 0) (f 1) (f 4) (f 5) (f 6) w) (r := R K) (xs := []) (gs := []) (Eq.mp (by kernel_rfl) h) hkn hr trivial trivial
def C8 (K : KT) (kn : V5) (b0 at1 v4 w5 t6 s08 s19 : Value) (w : World) : Prop :=
  drw w fun w =>
  optW (arO .sub t6 (.int .i64 16)) w fun v73 w =>
  optW (ixA 64 1 w5 v73) w fun v74 w =>
  optW (ld1 v74 w) w fun v75 w =>
  optW (arO .add v75 s08) w fun v77 w =>
  optW (arO .sub t6 (.int .i64 7)) w fun v79 w =>
  optW (ixA 64 1 w5 v79) w fun v80 w =>
  optW (ld1 v80 w) w fun v81 w =>
  optW (arO .add v77 v81) w fun v82 w =>
  optW (arO .add v82 s19) w fun v84 w =>
  optW (ixA 64 1 w5 t6) w fun v85 w =>
  st1 v85 v84 w fun w =>
  kn b0 at1 v4 w5 t6 w
theorem C8.sound {kn : V5} {Q : QT} (hkn : ∀ f w, kn (f 0) (f 1) (f 4) (f 5) (f 6) w → Q .normal f w) (hr : ∀ f w, R K f w → Q .ret f w) {f : Fr} {w : World} (h : C8 K kn (f 0) (f 1) (f 4) (f 5) (f 6) (f 8) (f 9) w) : W Tryd.prog ext (subC B [1, 1, 1, 0, 0, 0, 1, 1, 0, 0, 1, 1, 1, 1]) Q f w :=
  W_exq (n := fun f w => kn (f 0) (f 1) (f 4) (f 5) (f 6) w) (r := R K) (xs := []) (gs := []) (Eq.mp (by kernel_rfl) h) hkn hr trivial trivial
def D9 (kn : V7) (b0 at1 v4 w5 t6 s08 : Value) (w : World) : Prop :=
  ∃ I : World → Prop, I w.drew ∧ drw w fun w =>
  optW (arO .sub t6 (.int .i64 2)) w fun v55 w => 
  optW (ixA 64 1 w5 v55) w fun v56 w => 
  rdI I (fun w => ld1 v56 w) fun v57 =>
  CallsR Tryd.prog 37 #[v57, (.int .i64 17)] w fun v58 w => I w ∧
  optW (arO .sub t6 (.int .i64 2)) w fun v60 w => 
  optW (ixA 64 1 w5 v60) w fun v61 w => 
  rdI I (fun w => ld1 v61 w) fun v62 =>
  CallsR Tryd.prog 37 #[v62, (.int .i64 19)] w fun v63 w => I w ∧
  optW (arO .xor v58 v63) w fun v64 w => 
  optW (arO .sub t6 (.int .i64 2)) w fun v66 w => 
  optW (ixA 64 1 w5 v66) w fun v67 w => 
  rdI I (fun w => ld1 v67 w) fun v68 =>
  optW (shO .shr v68 (.int .u64 10)) w fun v69 w => 
  optW (arO .xor v64 v69) w fun v70 w => 
  kn b0 at1 v4 w5 t6 s08 v70 w
def C7 (K : KT) (kn : V5) (b0 at1 v4 w5 t6 s08 : Value) (w : World) : Prop :=
  D9 (C8 K kn) b0 at1 v4 w5 t6 s08 w
theorem C7.sound {kn : V5} {Q : QT} (hkn : ∀ f w, kn (f 0) (f 1) (f 4) (f 5) (f 6) w → Q .normal f w) (hr : ∀ f w, R K f w → Q .ret f w) {f : Fr} {w : World} (h : C7 K kn (f 0) (f 1) (f 4) (f 5) (f 6) (f 8) w) : W Tryd.prog ext (subC B [1, 1, 1, 0, 0, 0, 1, 1, 0, 0, 1, 1, 1]) Q f w :=
  W_seq' (a := (subC B [1, 1, 1, 0, 0, 0, 1, 1, 0, 0, 1, 1, 1, 0])) (b := (subC B [1, 1, 1, 0, 0, 0, 1, 1, 0, 0, 1, 1, 1, 1])) (by kernel_rfl) (W_drawI' (id := 11) (ops := (opsC (subC B [1, 1, 1, 0, 0, 0, 1, 1, 0, 0, 1, 1, 1, 0]))) (N := fun f w => (C8 K kn) (f 0) (f 1) (f 4) (f 5) (f 6) (f 8) (f 9) w) (by kernel_rfl) (by kernel_rfl) (by kernel_rfl) (Eq.mp (by kernel_rfl) h) (fun f w h => seq_n (C8.sound (K := K) (Q := Q) (kn := kn) hkn hr h)))
def D10 (kn : V6) (b0 at1 v4 w5 t6 : Value) (w : World) : Prop :=
  ∃ I : World → Prop, I w.drew ∧ drw w fun w =>
  optW (arO .sub t6 (.int .i64 15)) w fun v38 w => 
  optW (ixA 64 1 w5 v38) w fun v39 w => 
  rdI I (fun w => ld1 v39 w) fun v40 =>
  CallsR Tryd.prog 37 #[v40, (.int .i64 7)] w fun v41 w => I w ∧
  optW (arO .sub t6 (.int .i64 15)) w fun v43 w => 
  optW (ixA 64 1 w5 v43) w fun v44 w => 
  rdI I (fun w => ld1 v44 w) fun v45 =>
  CallsR Tryd.prog 37 #[v45, (.int .i64 18)] w fun v46 w => I w ∧
  optW (arO .xor v41 v46) w fun v47 w => 
  optW (arO .sub t6 (.int .i64 15)) w fun v49 w => 
  optW (ixA 64 1 w5 v49) w fun v50 w => 
  rdI I (fun w => ld1 v50 w) fun v51 =>
  optW (shO .shr v51 (.int .u64 3)) w fun v52 w => 
  optW (arO .xor v47 v52) w fun v53 w => 
  kn b0 at1 v4 w5 t6 v53 w
def C6 (K : KT) (kn : V5) (b0 at1 v4 w5 t6 : Value) (w : World) : Prop :=
  D10 (C7 K kn) b0 at1 v4 w5 t6 w
theorem C6.sound {kn : V5} {Q : QT} (hkn : ∀ f w, kn (f 0) (f 1) (f 4) (f 5) (f 6) w → Q .normal f w) (hr : ∀ f w, R K f w → Q .ret f w) {f : Fr} {w : World} (h : C6 K kn (f 0) (f 1) (f 4) (f 5) (f 6) w) : W Tryd.prog ext (subC B [1, 1, 1, 0, 0, 0, 1, 1, 0, 0, 1, 1]) Q f w :=
  W_seq' (a := (subC B [1, 1, 1, 0, 0, 0, 1, 1, 0, 0, 1, 1, 0])) (b := (subC B [1, 1, 1, 0, 0, 0, 1, 1, 0, 0, 1, 1, 1])) (by kernel_rfl) (W_drawI' (id := 10) (ops := (opsC (subC B [1, 1, 1, 0, 0, 0, 1, 1, 0, 0, 1, 1, 0]))) (N := fun f w => (C7 K kn) (f 0) (f 1) (f 4) (f 5) (f 6) (f 8) w) (by kernel_rfl) (by kernel_rfl) (by kernel_rfl) (Eq.mp (by kernel_rfl) h) (fun f w h => seq_n (C7.sound (K := K) (Q := Q) (kn := kn) hkn hr h)))
def C12 (K : KT) (kx1 : V5) (b0 at1 v4 w5 t6 : Value) (w : World) : Prop :=
  kx1 b0 at1 v4 w5 t6 w
theorem C12.sound {kx1 : V5} {Q : QT} (hkx1 : ∀ f w, kx1 (f 0) (f 1) (f 4) (f 5) (f 6) w → Q (.exit 1) f w) (hr : ∀ f w, R K f w → Q .ret f w) {f : Fr} {w : World} (h : C12 K kx1 (f 0) (f 1) (f 4) (f 5) (f 6) w) : W Tryd.prog ext (subC B [1, 1, 1, 0, 0, 0, 1, 1, 0, 0, 1, 0, 0, 1, 1]) Q f w :=
  W_exq (n := fun _ _ => False) (r := R K) (xs := [(1, fun f w => kx1 (f 0) (f 1) (f 4) (f 5) (f 6) w)]) (gs := []) (Eq.mp (by kernel_rfl) h) (fun _ _ h => h.elim) hr ⟨hkx1, trivial⟩ trivial
def C13 (K : KT) (kx2 : V5) (kn : V6) (b0 at1 v4 w5 t6 i7 : Value) (w : World) : Prop :=
  optW (arO .lss i7 (.int .i64 4)) w fun v17 w =>
  Cnd v17 (
  drw w fun w =>
  optW (ixA 64 1 w5 t6) w fun v22 w =>
  optW (ld1 v22 w) w fun v23 w =>
  optW (arO .mul v23 (.int .u32 256)) w fun v24 w =>
  optW (arO .mul (.int .i64 4) t6) w fun v28 w =>
  optW (arO .add at1 v28) w fun v29 w =>
  optW (arO .add v29 i7) w fun v31 w =>
  optW (ixS 1 b0 v31) w fun v32 w =>
  optW (ld1 v32 w) w fun v33 w =>
  optW (cvO .u32 v33) w fun v34 w =>
  optW (arO .add v24 v34) w fun v35 w =>
  optW (ixA 64 1 w5 t6) w fun v36 w =>
  st1 v36 v35 w fun w =>
  optW (arO .add i7 (.int .i64 1)) w fun v19 w =>
  kn b0 at1 v4 w5 t6 v19 w) (
  kx2 b0 at1 v4 w5 t6 w)
theorem C13.sound {kx2 : V5} {kn : V6} {Q : QT} (hkx2 : ∀ f w, kx2 (f 0) (f 1) (f 4) (f 5) (f 6) w → Q (.exit 2) f w) (hkn : ∀ f w, kn (f 0) (f 1) (f 4) (f 5) (f 6) (f 7) w → Q .normal f w) (hr : ∀ f w, R K f w → Q .ret f w) {f : Fr} {w : World} (h : C13 K kx2 kn (f 0) (f 1) (f 4) (f 5) (f 6) (f 7) w) : W Tryd.prog ext (subC B [1, 1, 1, 0, 0, 0, 1, 1, 0, 0, 1, 0, 0, 1, 0, 0, 0]) Q f w :=
  W_exq (n := fun f w => kn (f 0) (f 1) (f 4) (f 5) (f 6) (f 7) w) (r := R K) (xs := [(2, fun f w => kx2 (f 0) (f 1) (f 4) (f 5) (f 6) w)]) (gs := []) (Eq.mp (by kernel_rfl) h) hkn hr ⟨hkx2, trivial⟩ trivial
def L13 (K : KT) (kx2 : V5) : Nat → V6
  | 0, _, _, _, _, _, _, _ => False
  | k + 1, b0, at1, v4, w5, t6, i7, w => C13 K kx2 (L13 K kx2 k) b0 at1 v4 w5 t6 i7 w
theorem L13.sound {kx2 : V5} {Q : QT} (hkx2 : ∀ f w, kx2 (f 0) (f 1) (f 4) (f 5) (f 6) w → Q (.exit 2) f w) (hr : ∀ f w, R K f w → Q .ret f w) : ∀ (k : Nat) (f : Fr) (w : World), L13 K kx2 k (f 0) (f 1) (f 4) (f 5) (f 6) (f 7) w → It (W Tryd.prog ext (subC B [1, 1, 1, 0, 0, 0, 1, 1, 0, 0, 1, 0, 0, 1, 0, 0, 0])) Q k f w
  | 0, _, _, h => h
  | k + 1, _, _, h => C13.sound (K := K) (Q := seqQ (It (W Tryd.prog ext (subC B [1, 1, 1, 0, 0, 0, 1, 1, 0, 0, 1, 0, 0, 1, 0, 0, 0])) Q k) Q) hkx2 (fun f w h => seq_n (L13.sound hkx2 hr k f w h)) hr h
def C11 (K : KT) (kx1 : V5) (b0 at1 v4 w5 t6 : Value) (w : World) : Prop :=
  ∃ k, L13 K (C12 K kx1) k b0 at1 v4 w5 t6 (.int .i64 0) w
theorem C11.sound {kx1 : V5} {Q : QT} (hkx1 : ∀ f w, kx1 (f 0) (f 1) (f 4) (f 5) (f 6) w → Q (.exit 1) f w) (hr : ∀ f w, R K f w → Q .ret f w) {f : Fr} {w : World} (h : C11 K kx1 (f 0) (f 1) (f 4) (f 5) (f 6) w) : W Tryd.prog ext (subC B [1, 1, 1, 0, 0, 0, 1, 1, 0, 0, 1, 0, 0]) Q f w :=
  W_pre 1 (c2 := (subC B [1, 1, 1, 0, 0, 0, 1, 1, 0, 0, 1, 0, 0, 1])) (by kernel_rfl) (n := fun f w => ∃ k, L13 K (C12 K kx1) k (f 0) (f 1) (f 4) (f 5) (f 6) (f 7) w) (r := R K) (xs := []) (gs := []) (Eq.mp (by kernel_rfl) h) (fun f w h => W_seq' (a := (subC B [1, 1, 1, 0, 0, 0, 1, 1, 0, 0, 1, 0, 0, 1, 0])) (b := (subC B [1, 1, 1, 0, 0, 0, 1, 1, 0, 0, 1, 0, 0, 1, 1])) (by kernel_rfl) (W_block' (id := 2) (c := (subC B [1, 1, 1, 0, 0, 0, 1, 1, 0, 0, 1, 0, 0, 1, 0, 0])) (by kernel_rfl) (W_loop' (c := (subC B [1, 1, 1, 0, 0, 0, 1, 1, 0, 0, 1, 0, 0, 1, 0, 0, 0])) (by kernel_rfl) (h.elim fun k h => ⟨k, L13.sound (K := K) (Q := (blkQ 2 (seqQ (W Tryd.prog ext (subC B [1, 1, 1, 0, 0, 0, 1, 1, 0, 0, 1, 0, 0, 1, 1]) Q) Q))) (kx2 := (C12 K kx1)) (fun f w h => blk_x ((fun f w h => seq_n (C12.sound (K := K) (Q := Q) (kx1 := kx1) hkx1 hr h)) f w h)) hr k _ _ h⟩)))) hr trivial trivial
def C14 (K : KT) (kn : V5) (b0 at1 v4 w5 t6 : Value) (w : World) : Prop :=
  kn b0 at1 v4 w5 t6 w
theorem C14.sound {kn : V5} {Q : QT} (hkn : ∀ f w, kn (f 0) (f 1) (f 4) (f 5) (f 6) w → Q .normal f w) (hr : ∀ f w, R K f w → Q .ret f w) {f : Fr} {w : World} (h : C14 K kn (f 0) (f 1) (f 4) (f 5) (f 6) w) : W Tryd.prog ext (subC B [1, 1, 1, 0, 0, 0, 1, 1, 0, 0, 1, 0, 1]) Q f w :=
  W_exq (n := fun f w => kn (f 0) (f 1) (f 4) (f 5) (f 6) w) (r := R K) (xs := []) (gs := []) (Eq.mp (by kernel_rfl) h) hkn hr trivial trivial
def C5 (K : KT) (kx1 : V5) (kn : V5) (b0 at1 v4 w5 t6 : Value) (w : World) : Prop :=
  optW (arO .lss t6 (.int .i64 16)) w fun v15 w =>
  Cnd v15 (C11 K kx1 b0 at1 v4 w5 t6 w) (C14 K (C6 K kn) b0 at1 v4 w5 t6 w)
theorem C5.sound {kx1 : V5} {kn : V5} {Q : QT} (hkx1 : ∀ f w, kx1 (f 0) (f 1) (f 4) (f 5) (f 6) w → Q (.exit 1) f w) (hkn : ∀ f w, kn (f 0) (f 1) (f 4) (f 5) (f 6) w → Q .normal f w) (hr : ∀ f w, R K f w → Q .ret f w) {f : Fr} {w : World} (h : C5 K kx1 kn (f 0) (f 1) (f 4) (f 5) (f 6) w) : W Tryd.prog ext (subC B [1, 1, 1, 0, 0, 0, 1, 1, 0, 0]) Q f w :=
  W_pre 1 (c2 := (subC B [1, 1, 1, 0, 0, 0, 1, 1, 0, 0, 1])) (by kernel_rfl) (n := fun f w => Cnd (f 15) (C11 K kx1 (f 0) (f 1) (f 4) (f 5) (f 6) w) (C14 K (C6 K kn) (f 0) (f 1) (f 4) (f 5) (f 6) w)) (r := R K) (xs := []) (gs := []) (Eq.mp (by kernel_rfl) h) (fun f w h => W_seq' (a := (subC B [1, 1, 1, 0, 0, 0, 1, 1, 0, 0, 1, 0])) (b := (subC B [1, 1, 1, 0, 0, 0, 1, 1, 0, 0, 1, 1])) (by kernel_rfl) (W_cond' (c := (.tmp 15)) (a := (subC B [1, 1, 1, 0, 0, 0, 1, 1, 0, 0, 1, 0, 0])) (b := (subC B [1, 1, 1, 0, 0, 0, 1, 1, 0, 0, 1, 0, 1])) (by kernel_rfl) h (fun h => C11.sound (K := K) (Q := (seqQ (W Tryd.prog ext (subC B [1, 1, 1, 0, 0, 0, 1, 1, 0, 0, 1, 1]) Q) Q)) (kx1 := kx1) hkx1 hr h) (fun h => C14.sound (K := K) (Q := (seqQ (W Tryd.prog ext (subC B [1, 1, 1, 0, 0, 0, 1, 1, 0, 0, 1, 1]) Q) Q)) (kn := (C6 K kn)) (fun f w h => seq_n (C6.sound (K := K) (Q := Q) (kn := kn) hkn hr h)) hr h))) hr trivial trivial
def C3 (K : KT) (kx0 : V2) (kn : V5) (b0 at1 v4 w5 t6 : Value) (w : World) : Prop :=
  optW (arO .lss t6 (.int .i64 64)) w fun v11 w =>
  Cnd v11 (
  C5 K (C4 K kn) (C4 K kn) b0 at1 v4 w5 t6 w) (
  kx0 v4 w5 w)
theorem C3.sound {kx0 : V2} {kn : V5} {Q : QT} (hkx0 : ∀ f w, kx0 (f 4) (f 5) w → Q (.exit 0) f w) (hkn : ∀ f w, kn (f 0) (f 1) (f 4) (f 5) (f 6) w → Q .normal f w) (hr : ∀ f w, R K f w → Q .ret f w) {f : Fr} {w : World} (h : C3 K kx0 kn (f 0) (f 1) (f 4) (f 5) (f 6) w) : W Tryd.prog ext (subC B [1, 1, 1, 0, 0, 0]) Q f w :=
  W_pre 2 (c2 := (subC B [1, 1, 1, 0, 0, 0, 1, 1])) (by kernel_rfl) (n := fun f w => C5 K (C4 K kn) (C4 K kn) (f 0) (f 1) (f 4) (f 5) (f 6) w) (r := R K) (xs := [(0, fun f w => kx0 (f 4) (f 5) w)]) (gs := []) (Eq.mp (by kernel_rfl) h) (fun f w h => W_seq' (a := (subC B [1, 1, 1, 0, 0, 0, 1, 1, 0])) (b := (subC B [1, 1, 1, 0, 0, 0, 1, 1, 1])) (by kernel_rfl) (W_block' (id := 1) (c := (subC B [1, 1, 1, 0, 0, 0, 1, 1, 0, 0])) (by kernel_rfl) (C5.sound (K := K) (Q := (blkQ 1 (seqQ (W Tryd.prog ext (subC B [1, 1, 1, 0, 0, 0, 1, 1, 1]) Q) Q))) (kx1 := (C4 K kn)) (kn := (C4 K kn)) (fun f w h => blk_x ((fun f w h => seq_n (C4.sound (K := K) (Q := Q) (kn := kn) hkn hr h)) f w h)) (fun f w h => blk_n ((fun f w h => seq_n (C4.sound (K := K) (Q := Q) (kn := kn) hkn hr h)) f w h)) hr h))) hr ⟨hkx0, trivial⟩ trivial
def L3 (K : KT) (kx0 : V2) : Nat → V5
  | 0, _, _, _, _, _, _ => False
  | k + 1, b0, at1, v4, w5, t6, w => C3 K kx0 (L3 K kx0 k) b0 at1 v4 w5 t6 w
theorem L3.sound {kx0 : V2} {Q : QT} (hkx0 : ∀ f w, kx0 (f 4) (f 5) w → Q (.exit 0) f w) (hr : ∀ f w, R K f w → Q .ret f w) : ∀ (k : Nat) (f : Fr) (w : World), L3 K kx0 k (f 0) (f 1) (f 4) (f 5) (f 6) w → It (W Tryd.prog ext (subC B [1, 1, 1, 0, 0, 0])) Q k f w
  | 0, _, _, h => h
  | k + 1, _, _, h => C3.sound (K := K) (Q := seqQ (It (W Tryd.prog ext (subC B [1, 1, 1, 0, 0, 0])) Q k) Q) hkx0 (fun f w h => seq_n (L3.sound hkx0 hr k f w h)) hr h
def C1 (K : KT) (b0 at1 : Value) (w : World) : Prop :=
  newW (zCells Tryd.prog 63) 63 w fun v4 w =>
  newW (zCells Tryd.prog 63) 63 w fun w5 w =>
  ∃ k, L3 K (C2 K) k b0 at1 v4 w5 (.int .i64 0) w
theorem C1.sound {Q : QT} (hr : ∀ f w, R K f w → Q .ret f w) {f : Fr} {w : World} (h : C1 K (f 0) (f 1) w) : W Tryd.prog ext (subC B []) Q f w :=
  W_pre 3 (c2 := (subC B [1, 1, 1])) (by kernel_rfl) (n := fun f w => ∃ k, L3 K (C2 K) k (f 0) (f 1) (f 4) (f 5) (f 6) w) (r := R K) (xs := []) (gs := []) (Eq.mp (by kernel_rfl) h) (fun f w h => W_seq' (a := (subC B [1, 1, 1, 0])) (b := (subC B [1, 1, 1, 1])) (by kernel_rfl) (W_block' (id := 0) (c := (subC B [1, 1, 1, 0, 0])) (by kernel_rfl) (W_loop' (c := (subC B [1, 1, 1, 0, 0, 0])) (by kernel_rfl) (h.elim fun k h => ⟨k, L3.sound (K := K) (Q := (blkQ 0 (seqQ (W Tryd.prog ext (subC B [1, 1, 1, 1]) Q) Q))) (kx0 := (C2 K)) (fun f w h => blk_x ((fun f w h => seq_n (C2.sound (K := K) (Q := Q) hr h)) f w h)) hr k _ _ h⟩)))) hr trivial trivial
def J (b0 at1 : Value) (w : World) (K : KT) : Prop := C1 K b0 at1 w
theorem sound {b0 at1 : Value} {w : World} (h : J b0 at1 w K) : CallsR Tryd.prog 33 #[b0, at1] w K :=
  calls_of_W (ext := ext) (args := [b0, at1]) (fn := Tryd.f33) (c := bodyC Tryd.f33) mixedOk Tryd.func33 rfl (by kernel_rfl) (Nat.le_of_ble_eq_true (by kernel_rfl)) (W_flat _ _ _ _ (C1.sound (fun _ _ h => h) h))
end witnessref1_schedule
/- witness/witnessref1.block -/
namespace witnessref1_block
noncomputable abbrev B : Code := flat (bodyC Tryd.f34)
noncomputable abbrev R (K : KT) : Fr → World → Prop := fnPost Tryd.prog Tryd.f34.results.toList K .ret
variable {K : KT}
def C3 (K : KT) (v6 v7 : Value) (w : World) : Prop :=
  optW (ldN 8 v7 w) w fun v122 w =>
  stN 8 v6 v122 w fun w =>
  resC Tryd.prog v6 59 w fun r0 =>
  K r0 w
theorem C3.sound {Q : QT} (hr : ∀ f w, R K f w → Q .ret f w) {f : Fr} {w : World} (h : C3 K (f 6) (f 7) w) : W Tryd.prog ext (subC B [1, 1, 1, 1, 1, 1]) Q f w :=
  W_exq (n := fun _ _ => False) (r := R K) (xs := []) (gs := []) (Eq.mp (by kernel_rfl) h) (fun _ _ h => h.elim) hr trivial trivial
def C4 (K : KT) (kx2 : V2) (kn : V4) (state3 v6 v7 i15 : Value) (w : World) : Prop :=
  optW (arO .lss i15 (.int .i64 8)) w fun v110 w =>
  Cnd v110 (
  drw w fun w =>
  optW (ixA 8 1 v7 i15) w fun v115 w =>
  optW (ld1 v115 w) w fun v116 w =>
  optW (ixA 8 1 state3 i15) w fun v118 w =>
  optW (ld1 v118 w) w fun v119 w =>
  optW (arO .add v116 v119) w fun v120 w =>
  optW (ixA 8 1 v7 i15) w fun v121 w =>
  st1 v121 v120 w fun w =>
  optW (arO .add i15 (.int .i64 1)) w fun v112 w =>
  kn state3 v6 v7 v112 w) (
  kx2 v6 v7 w)
theorem C4.sound {kx2 : V2} {kn : V4} {Q : QT} (hkx2 : ∀ f w, kx2 (f 6) (f 7) w → Q (.exit 2) f w) (hkn : ∀ f w, kn (f 3) (f 6) (f 7) (f 15) w → Q .normal f w) (hr : ∀ f w, R K f w → Q .ret f w) {f : Fr} {w : World} (h : C4 K kx2 kn (f 3) (f 6) (f 7) (f 15) w) : W Tryd.prog ext (subC B [1, 1, 1, 1, 1, 0, 0, 0]) Q f w :=
  W_exq (n := fun f w => kn (f 3) (f 6) (f 7) (f 15) w) (r := R K) (xs := [(2, fun f w => kx2 (f 6) (f 7) w)]) (gs := []) (Eq.mp (by kernel_rfl) h) hkn hr ⟨hkx2, trivial⟩ trivial
def L4 (K : KT) (kx2 : V2) : Nat → V4
  | 0, _, _, _, _, _ => False
  | k + 1, state3, v6, v7, i15, w => C4 K kx2 (L4 K kx2 k) state3 v6 v7 i15 w
theorem L4.sound {kx2 : V2} {Q : QT} (hkx2 : ∀ f w, kx2 (f 6) (f 7) w → Q (.exit 2) f w) (hr : ∀ f w, R K f w → Q .ret f w) : ∀ (k : Nat) (f : Fr) (w : World), L4 K kx2 k (f 3) (f 6) (f 7) (f 15) w → It (W Tryd.prog ext (subC B [1, 1, 1, 1, 1, 0, 0, 0])) Q k f w
  | 0, _, _, h => h
  | k + 1, _, _, h => C4.sound (K := K) (Q := seqQ (It (W Tryd.prog ext (subC B [1, 1, 1, 1, 1, 0, 0, 0])) Q k) Q) hkx2 (fun f w h => seq_n (L4.sound hkx2 hr k f w h)) hr h
def C2 (K : KT) (state3 v6 v7 : Value) (w : World) : Prop :=
  ∃ k, L4 K (C3 K) k state3 v6 v7 (.int .i64 0) w
theorem C2.sound {Q : QT} (hr : ∀ f w, R K f w → Q .ret f w) {f : Fr} {w : World} (h : C2 K (f 3) (f 6) (f 7) w) : W Tryd.prog ext (subC B [1, 1, 1, 1]) Q f w :=
  W_pre 1 (c2 := (subC B [1, 1, 1, 1, 1])) (by kernel_rfl) (n := fun f w => ∃ k, L4 K (C3 K) k (f 3) (f 6) (f 7) (f 15) w) (r := R K) (xs := []) (gs := []) (Eq.mp (by kernel_rfl) h) (fun f w h => W_seq' (a := (subC B [1, 1, 1, 1, 1, 0])) (b := (subC B [1, 1, 1, 1, 1, 1])) (by kernel_rfl) (W_block' (id := 2) (c := (subC B [1, 1, 1, 1, 1, 0, 0])) (by kernel_rfl) (W_loop' (c := (subC B [1, 1, 1, 1, 1, 0, 0, 0])) (by kernel_rfl) (h.elim fun k h => ⟨k, L4.sound (K := K) (Q := (blkQ 2 (seqQ (W Tryd.prog ext (subC B [1, 1, 1, 1, 1, 1]) Q) Q))) (kx2 := (C3 K)) (fun f w h => blk_x ((fun f w h => seq_n (C3.sound (K := K) (Q := Q) hr h)) f w h)) hr k _ _ h⟩)))) hr trivial trivial
def C6 (K : KT) (kn : V6) (state3 w4 k5 v6 v7 t8 : Value) (w : World) : Prop :=
  optW (arO .add t8 (.int .i64 1)) w fun v20 w =>
  kn state3 w4 k5 v6 v7 v20 w
theorem C6.sound {kn : V6} {Q : QT} (hkn : ∀ f w, kn (f 3) (f 4) (f 5) (f 6) (f 7) (f 8) w → Q .normal f w) (hr : ∀ f w, R K f w → Q .ret f w) {f : Fr} {w : World} (h : C6 K kn (f 3) (f 4) (f 5) (f 6) (f 7) (f 8) w) : W Tryd.prog ext (subC B [1, 1, 1, 0, 0, 0, 1, 1, 1]) Q f w :=
  W_exq (n := fun f w => kn (f 3) (f 4) (f 5) (f 6) (f 7) (f 8) w) (r := R K) (xs := []) (gs := []) (Eq.mp (by kernel_rfl) h) hkn hr trivial trivial
def C9 (K : KT) (kn : V6) (state3 w4 k5 v6 v7 t8 x11 s012 : Value) (w : World) : Prop :=
  optW (ixA 8 1 v7 (.int .i64 0)) w fun v69 w =>
  optW (ld1 v69 w) w fun v70 w =>
  optW (ixA 8 1 v7 (.int .i64 1)) w fun v71 w =>
  optW (ld1 v71 w) w fun v72 w =>
  optW (arO .and v70 v72) w fun v73 w =>
  optW (ixA 8 1 v7 (.int .i64 0)) w fun v74 w =>
  optW (ld1 v74 w) w fun v75 w =>
  optW (ixA 8 1 v7 (.int .i64 2)) w fun v76 w =>
  optW (ld1 v76 w) w fun v77 w =>
  optW (arO .and v75 v77) w fun v78 w =>
  optW (arO .xor v73 v78) w fun v79 w =>
  optW (ixA 8 1 v7 (.int .i64 1)) w fun v80 w =>
  optW (ld1 v80 w) w fun v81 w =>
  optW (ixA 8 1 v7 (.int .i64 2)) w fun v82 w =>
  optW (ld1 v82 w) w fun v83 w =>
  optW (arO .and v81 v83) w fun v84 w =>
  optW (arO .xor v79 v84) w fun v85 w =>
  optW (arO .add s012 v85) w fun v88 w =>
  optW (arO .add x11 v88) w fun v91 w =>
  optW (ixA 8 1 v7 (.int .i64 0)) w fun v92 w =>
  optW (ld1 v92 w) w fun v93 w =>
  optW (ixA 8 1 v7 (.int .i64 1)) w fun v94 w =>
  optW (ld1 v94 w) w fun v95 w =>
  optW (ixA 8 1 v7 (.int .i64 2)) w fun v96 w =>
  optW (ld1 v96 w) w fun v97 w =>
  optW (ixA 8 1 v7 (.int .i64 3)) w fun v98 w =>
  optW (ld1 v98 w) w fun v99 w =>
  optW (arO .add v99 x11) w fun v101 w =>
  optW (ixA 8 1 v7 (.int .i64 4)) w fun v102 w =>
  optW (ld1 v102 w) w fun v103 w =>
  optW (ixA 8 1 v7 (.int .i64 5)) w fun v104 w =>
  optW (ld1 v104 w) w fun v105 w =>
  optW (ixA 8 1 v7 (.int .i64 6)) w fun v106 w =>
  optW (ld1 v106 w) w fun v107 w =>
  semW Tryd.prog (Instr.build 59 #[(0, v91), (1, v93), (2, v95), (3, v97), (4, v101), (5, v103), (6, v105), (7, v107)]) w fun v108 w =>
  stN 8 v7 v108 w fun w =>
  kn state3 w4 k5 v6 v7 t8 w
theorem C9.sound {kn : V6} {Q : QT} (hkn : ∀ f w, kn (f 3) (f 4) (f 5) (f 6) (f 7) (f 8) w → Q .normal f w) (hr : ∀ f w, R K f w → Q .ret f w) {f : Fr} {w : World} (h : C9 K kn (f 3) (f 4) (f 5) (f 6) (f 7) (f 8) (f 11) (f 12) w) : W Tryd.prog ext (subC B [1, 1, 1, 0, 0, 0, 1, 1, 0, 0, 1, 1, 1, 1]) Q f w :=
  W_exq (n := fun f w => kn (f 3) (f 4) (f 5) (f 6) (f 7) (f 8) w) (r := R K) (xs := []) (gs := []) (Eq.mp (by kernel_rfl) h) hkn hr trivial trivial
def D10 (kn : V8) (state3 w4 k5 v6 v7 t8 x11 : Value) (w : World) : Prop :=
  ∃ I : World → Prop, I w.drew ∧ drw w fun w =>
  optW (ixA 8 1 v7 (.int .i64 0)) w fun v58 w => 
  rdI I (fun w => ld1 v58 w) fun v59 =>
  CallsR Tryd.prog 37 #[v59, (.int .i64 2)] w fun v60 w => I w ∧
  optW (ixA 8 1 v7 (.int .i64 0)) w fun v61 w => 
  rdI I (fun w => ld1 v61 w) fun v62 =>
  CallsR Tryd.prog 37 #[v62, (.int .i64 13)] w fun v63 w => I w ∧
  optW (arO .xor v60 v63) w fun v64 w => 
  optW (ixA 8 1 v7 (.int .i64 0)) w fun v65 w => 
  rdI I (fun w => ld1 v65 w) fun v66 =>
  CallsR Tryd.prog 37 #[v66, (.int .i64 22)] w fun v67 w => I w ∧
  optW (arO .xor v64 v67) w fun v68 w => 
  kn state3 w4 k5 v6 v7 t8 x11 v68 w
def C8 (K : KT) (kn : V6) (state3 w4 k5 v6 v7 t8 s19 : Value) (w : World) : Prop :=
  optW (ixA 8 1 v7 (.int .i64 4)) w fun v32 w =>
  optW (ld1 v32 w) w fun v33 w =>
  optW (ixA 8 1 v7 (.int .i64 5)) w fun v34 w =>
  optW (ld1 v34 w) w fun v35 w =>
  optW (arO .and v33 v35) w fun v36 w =>
  optW (ixA 8 1 v7 (.int .i64 4)) w fun v37 w =>
  optW (ld1 v37 w) w fun v38 w =>
  optW (unO .xor v38) w fun v39 w =>
  optW (ixA 8 1 v7 (.int .i64 6)) w fun v40 w =>
  optW (ld1 v40 w) w fun v41 w =>
  optW (arO .and v39 v41) w fun v42 w =>
  optW (arO .xor v36 v42) w fun v43 w =>
  drw w fun w =>
  optW (ixA 8 1 v7 (.int .i64 7)) w fun v44 w =>
  optW (ld1 v44 w) w fun v45 w =>
  optW (arO .add v45 s19) w fun v47 w =>
  optW (arO .add v47 v43) w fun v49 w =>
  optW (ixA 64 1 k5 t8) w fun v51 w =>
  optW (ld1 v51 w) w fun v52 w =>
  optW (arO .add v49 v52) w fun v53 w =>
  optW (ixA 64 1 w4 t8) w fun v55 w =>
  optW (ld1 v55 w) w fun v56 w =>
  optW (arO .add v53 v56) w fun v57 w =>
  D10 (C9 K kn) state3 w4 k5 v6 v7 t8 v57 w
theorem C8.sound {kn : V6} {Q : QT} (hkn : ∀ f w, kn (f 3) (f 4) (f 5) (f 6) (f 7) (f 8) w → Q .normal f w) (hr : ∀ f w, R K f w → Q .ret f w) {f : Fr} {w : World} (h : C8 K kn (f 3) (f 4) (f 5) (f 6) (f 7) (f 8) (f 9) w) : W Tryd.prog ext (subC B [1, 1, 1, 0, 0, 0, 1, 1, 0, 0, 1]) Q f w :=
  W_pre 2 (c2 := (subC B [1, 1, 1, 0, 0, 0, 1, 1, 0, 0, 1, 1, 1])) (by kernel_rfl) (n := fun f w => D10 (C9 K kn) (f 3) (f 4) (f 5) (f 6) (f 7) (f 8) (f 11) w) (r := R K) (xs := []) (gs := []) (Eq.mp (by kernel_rfl) h) (fun f w h => W_seq' (a := (subC B [1, 1, 1, 0, 0, 0, 1, 1, 0, 0, 1, 1, 1, 0])) (b := (subC B [1, 1, 1, 0, 0, 0, 1, 1, 0, 0, 1, 1, 1, 1])) (by kernel_rfl) (W_drawI' (id := 8) (ops := (opsC (subC B [1, 1, 1, 0, 0, 0, 1, 1, 0, 0, 1, 1, 1, 0]))) (N := fun f w => (C9 K kn) (f 3) (f 4) (f 5) (f 6) (f 7) (f 8) (f 11) (f 12) w) (by kernel_rfl) (by kernel_rfl) (by kernel_rfl) (Eq.mp (by kernel_rfl) h) (fun f w h => seq_n (C9.sound (K := K) (Q := Q) (kn := kn) hkn hr h)))) hr trivial trivial
def D11 (kn : V7) (state3 w4 k5 v6 v7 t8 : Value) (w : World) : Prop :=
  ∃ I : World → Prop, I w.drew ∧ drw w fun w =>
  optW (ixA 8 1 v7 (.int .i64 4)) w fun v21 w => 
  rdI I (fun w => ld1 v21 w) fun v22 =>
  CallsR Tryd.prog 37 #[v22, (.int .i64 6)] w fun v23 w => I w ∧
  optW (ixA 8 1 v7 (.int .i64 4)) w fun v24 w => 
  rdI I (fun w => ld1 v24 w) fun v25 =>
  CallsR Tryd.prog 37 #[v25, (.int .i64 11)] w fun v26 w => I w ∧
  optW (arO .xor v23 v26) w fun v27 w => 
  optW (ixA 8 1 v7 (.int .i64 4)) w fun v28 w => 
  rdI I (fun w => ld1 v28 w) fun v29 =>
  CallsR Tryd.prog 37 #[v29, (.int .i64 25)] w fun v30 w => I w ∧
  optW (arO .xor v27 v30) w fun v31 w => 
  kn state3 w4 k5 v6 v7 t8 v31 w
def C7 (K : KT) (kn : V6) (state3 w4 k5 v6 v7 t8 : Value) (w : World) : Prop :=
  D11 (C8 K kn) state3 w4 k5 v6 v7 t8 w
theorem C7.sound {kn : V6} {Q : QT} (hkn : ∀ f w, kn (f 3) (f 4) (f 5) (f 6) (f 7) (f 8) w → Q .normal f w) (hr : ∀ f w, R K f w → Q .ret f w) {f : Fr} {w : World} (h : C7 K kn (f 3) (f 4) (f 5) (f 6) (f 7) (f 8) w) : W Tryd.prog ext (subC B [1, 1, 1, 0, 0, 0, 1, 1, 0, 0]) Q f w :=
  W_seq' (a := (subC B [1, 1, 1, 0, 0, 0, 1, 1, 0, 0, 0])) (b := (subC B [1, 1, 1, 0, 0, 0, 1, 1, 0, 0, 1])) (by kernel_rfl) (W_drawI' (id := 5) (ops := (opsC (subC B [1, 1, 1, 0, 0, 0, 1, 1, 0, 0, 0]))) (N := fun f w => (C8 K kn) (f 3) (f 4) (f 5) (f 6) (f 7) (f 8) (f 9) w) (by kernel_rfl) (by kernel_rfl) (by kernel_rfl) (Eq.mp (by kernel_rfl) h) (fun f w h => seq_n (C8.sound (K := K) (Q := Q) (kn := kn) hkn hr h)))
def C5 (K : KT) (kx0 : V3) (kn : V6) (state3 w4 k5 v6 v7 t8 : Value) (w : World) : Prop :=
  optW (arO .lss t8 (.int .i64 64)) w fun v18 w =>
  Cnd v18 (
  C7 K (C6 K kn) state3 w4 k5 v6 v7 t8 w) (
  kx0 state3 v6 v7 w)
theorem C5.sound {kx0 : V3} {kn : V6} {Q : QT} (hkx0 : ∀ f w, kx0 (f 3) (f 6) (f 7) w → Q (.exit 0) f w) (hkn : ∀ f w, kn (f 3) (f 4) (f 5) (f 6) (f 7) (f 8) w → Q .normal f w) (hr : ∀ f w, R K f w → Q .ret f w) {f : Fr} {w : World} (h : C5 K kx0 kn (f 3) (f 4) (f 5) (f 6) (f 7) (f 8) w) : W Tryd.prog ext (subC B [1, 1, 1, 0, 0, 0]) Q f w :=
  W_pre 2 (c2 := (subC B [1, 1, 1, 0, 0, 0, 1, 1])) (by kernel_rfl) (n := fun f w => C7 K (C6 K kn) (f 3) (f 4) (f 5) (f 6) (f 7) (f 8) w) (r := R K) (xs := [(0, fun f w => kx0 (f 3) (f 6) (f 7) w)]) (gs := []) (Eq.mp (by kernel_rfl) h) (fun f w h => W_seq' (a := (subC B [1, 1, 1, 0, 0, 0, 1, 1, 0])) (b := (subC B [1, 1, 1, 0, 0, 0, 1, 1, 1])) (by kernel_rfl) (W_block' (id := 1) (c := (subC B [1, 1, 1, 0, 0, 0, 1, 1, 0, 0])) (by kernel_rfl) (C7.sound (K := K) (Q := (blkQ 1 (seqQ (W Tryd.prog ext (subC B [1, 1, 1, 0, 0, 0, 1, 1, 1]) Q) Q))) (kn := (C6 K kn)) (fun f w h => blk_n ((fun f w h => seq_n (C6.sound (K := K) (Q := Q) (kn := kn) hkn hr h)) f w h)) hr h))) hr ⟨hkx0, trivial⟩ trivial
def L5 (K : KT) (kx0 : V3) : Nat → V6
  | 0, _, _, _, _, _, _, _ => False
  | k + 1, state3, w4, k5, v6, v7, t8, w => C5 K kx0 (L5 K kx0 k) state3 w4 k5 v6 v7 t8 w
theorem L5.sound {kx0 : V3} {Q : QT} (hkx0 : ∀ f w, kx0 (f 3) (f 6) (f 7) w → Q (.exit 0) f w) (hr : ∀ f w, R K f w → Q .ret f w) : ∀ (k : Nat) (f : Fr) (w : World), L5 K kx0 k (f 3) (f 4) (f 5) (f 6) (f 7) (f 8) w → It (W Tryd.prog ext (subC B [1, 1, 1, 0, 0, 0])) Q k f w
  | 0, _, _, h => h
  | k + 1, _, _, h => C5.sound (K := K) (Q := seqQ (It (W Tryd.prog ext (subC B [1, 1, 1, 0, 0, 0])) Q k) Q) hkx0 (fun f w h => seq_n (L5.sound hkx0 hr k f w h)) hr h
def C1 (K : KT) (state0 w1 k2 : Value) (w : World) : Prop :=
  newW (Value.cells state0) 59 w fun state3 w =>
  newW (Value.cells w1) 63 w fun w4 w =>
  newW (Value.cells k2) 63 w fun k5 w =>
  newW (zCells Tryd.prog 59) 59 w fun v6 w =>
  optW (ldN 8 state3 w) w fun v16 w =>
  newW (zCells Tryd.prog 59) 59 w fun v7 w =>
  stN 8 v7 v16 w fun w =>
  ∃ k, L5 K (C2 K) k state3 w4 k5 v6 v7 (.int .i64 0) w
theorem C1.sound {Q : QT} (hr : ∀ f w, R K f w → Q .ret f w) {f : Fr} {w : World} (h : C1 K (f 0) (f 1) (f 2) w) : W Tryd.prog ext (subC B []) Q f w :=
  W_pre 3 (c2 := (subC B [1, 1, 1])) (by kernel_rfl) (n := fun f w => ∃ k, L5 K (C2 K) k (f 3) (f 4) (f 5) (f 6) (f 7) (f 8) w) (r := R K) (xs := []) (gs := []) (Eq.mp (by kernel_rfl) h) (fun f w h => W_seq' (a := (subC B [1, 1, 1, 0])) (b := (subC B [1, 1, 1, 1])) (by kernel_rfl) (W_block' (id := 0) (c := (subC B [1, 1, 1, 0, 0])) (by kernel_rfl) (W_loop' (c := (subC B [1, 1, 1, 0, 0, 0])) (by kernel_rfl) (h.elim fun k h => ⟨k, L5.sound (K := K) (Q := (blkQ 0 (seqQ (W Tryd.prog ext (subC B [1, 1, 1, 1]) Q) Q))) (kx0 := (C2 K)) (fun f w h => blk_x ((fun f w h => seq_n (C2.sound (K := K) (Q := Q) hr h)) f w h)) hr k _ _ h⟩)))) hr trivial trivial
def J (state0 w1 k2 : Value) (w : World) (K : KT) : Prop := C1 K state0 w1 k2 w
theorem sound {state0 w1 k2 : Value} {w : World} (h : J state0 w1 k2 w K) : CallsR Tryd.prog 34 #[state0, w1, k2] w K :=
  calls_of_W (ext := ext) (args := [state0, w1, k2]) (fn := Tryd.f34) (c := bodyC Tryd.f34) mixedOk Tryd.func34 rfl (by kernel_rfl) (Nat.le_of_ble_eq_true (by kernel_rfl)) (W_flat _ _ _ _ (C1.sound (fun _ _ h => h) h))
end witnessref1_block
/- math/bits.RotateLeft32 -/
namespace bits_RotateLeft32
noncomputable abbrev B : Code := flat (bodyC Tryd.f36)
noncomputable abbrev R (K : KT) : Fr → World → Prop := fnPost Tryd.prog Tryd.f36.results.toList K .ret
variable {K : KT}
def C1 (K : KT) (x0 k1 : Value) (w : World) : Prop :=
  optW (cvO .u64 k1) w fun v7 w =>
  optW (arO .and v7 (.int .u64 31)) w fun v8 w =>
  optW (shO .shl x0 v8) w fun v11 w =>
  optW (arO .sub (.int .u64 32) v8) w fun v14 w =>
  optW (shO .shr x0 v14) w fun v15 w =>
  optW (arO .or v11 v15) w fun v16 w =>
  K v16 w
theorem C1.sound {Q : QT} (hr : ∀ f w, R K f w → Q .ret f w) {f : Fr} {w : World} (h : C1 K (f 0) (f 1) w) : W Tryd.prog ext (subC B []) Q f w :=
  W_exq (n := fun _ _ => False) (r := R K) (xs := []) (gs := []) (Eq.mp (by kernel_rfl) h) (fun _ _ h => h.elim) hr trivial trivial
def J (x0 k1 : Value) (w : World) (K : KT) : Prop := C1 K x0 k1 w
theorem sound {x0 k1 : Value} {w : World} (h : J x0 k1 w K) : CallsR Tryd.prog 36 #[x0, k1] w K :=
  calls_of_W (ext := ext) (args := [x0, k1]) (fn := Tryd.f36) (c := bodyC Tryd.f36) mixedOk Tryd.func36 rfl (by kernel_rfl) (Nat.le_of_ble_eq_true (by kernel_rfl)) (W_flat _ _ _ _ (C1.sound (fun _ _ h => h) h))
end bits_RotateLeft32
/- witness/witnessref1.turned -/
namespace witnessref1_turned
noncomputable abbrev B : Code := flat (bodyC Tryd.f37)
noncomputable abbrev R (K : KT) : Fr → World → Prop := fnPost Tryd.prog Tryd.f37.results.toList K .ret
variable {K : KT}
def C1 (K : KT) (x0 n1 : Value) (w : World) : Prop :=
  drw w fun w =>
  optW (shO .shr x0 n1) w fun v7 w =>
  optW (arO .sub (.int .i64 32) n1) w fun v10 w =>
  optW (shO .shl x0 v10) w fun v11 w =>
  optW (arO .or v7 v11) w fun v12 w =>
  K v12 w
theorem C1.sound {Q : QT} (hr : ∀ f w, R K f w → Q .ret f w) {f : Fr} {w : World} (h : C1 K (f 0) (f 1) w) : W Tryd.prog ext (subC B []) Q f w :=
  W_exq (n := fun _ _ => False) (r := R K) (xs := []) (gs := []) (Eq.mp (by kernel_rfl) h) (fun _ _ h => h.elim) hr trivial trivial
def J (x0 n1 : Value) (w : World) (K : KT) : Prop := C1 K x0 n1 w
theorem sound {x0 n1 : Value} {w : World} (h : J x0 n1 w K) : CallsR Tryd.prog 37 #[x0, n1] w K :=
  calls_of_W (ext := ext) (args := [x0, n1]) (fn := Tryd.f37) (c := bodyC Tryd.f37) mixedOk Tryd.func37 rfl (by kernel_rfl) (Nat.le_of_ble_eq_true (by kernel_rfl)) (W_flat _ _ _ _ (C1.sound (fun _ _ h => h) h))
end witnessref1_turned
end Go.Proofs.YtklieghmbhofnaaDoor
