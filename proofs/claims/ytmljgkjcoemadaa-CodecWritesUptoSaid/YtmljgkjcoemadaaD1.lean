-- PRINTED: what each function asks ahead of a call, and that it is enough (wip/tools/dec.py)
import Derived.Test.YtmljgkjcoemadaaBase
namespace Go.Proofs.Ytmljgkjcoemadaa
open Go Go.Ev
set_option maxRecDepth 100000
/- witness/witnesslaw2.CodecWrites -/
namespace witnesslaw2_CodecWrites
noncomputable abbrev B : Code := flat (bodyC Try.f3)
noncomputable abbrev R (K : KT) : Fr → World → Prop := fnPost Try.prog Try.f3.results.toList K .ret
variable {K : KT}
def C2 (K : KT) (w : World) : Prop :=
  K (.bool true) w
theorem C2.sound {Q : QT} (hr : ∀ f w, R K f w → Q .ret f w) {f : Fr} {w : World} (h : C2 K w) : W Try.prog ext (subC B [1, 1, 1, 1, 1, 1]) Q f w :=
  W_exq (n := fun _ _ => False) (r := R K) (xs := []) (gs := []) (Eq.mp (by kernel_rfl) h) (fun _ _ h => h.elim) hr trivial trivial
def C4 (K : KT) (kn : V7) (script0 w3 like4 out5 v19 v20 v21 : Value) (w : World) : Prop :=
  optW (arO .add v21 (.int .i64 1)) w fun v140 w =>
  kn script0 w3 like4 out5 v19 v20 v140 w
theorem C4.sound {kn : V7} {Q : QT} (hkn : ∀ f w, kn (f 0) (f 3) (f 4) (f 5) (f 19) (f 20) (f 21) w → Q .normal f w) (hr : ∀ f w, R K f w → Q .ret f w) {f : Fr} {w : World} (h : C4 K kn (f 0) (f 3) (f 4) (f 5) (f 19) (f 20) (f 21) w) : W Try.prog ext (subC B [1, 1, 1, 1, 1, 0, 0, 0, 1, 1, 1]) Q f w :=
  W_exq (n := fun f w => kn (f 0) (f 3) (f 4) (f 5) (f 19) (f 20) (f 21) w) (r := R K) (xs := []) (gs := []) (Eq.mp (by kernel_rfl) h) hkn hr trivial trivial
def C11 (K : KT) (kn : V10) (script0 w3 like4 out5 v19 v20 v21 v119 v120 v121 : Value) (w : World) : Prop :=
  optW (arO .add v121 (.int .i64 1)) w fun v139 w =>
  kn script0 w3 like4 out5 v19 v20 v21 v119 v120 v139 w
theorem C11.sound {kn : V10} {Q : QT} (hkn : ∀ f w, kn (f 0) (f 3) (f 4) (f 5) (f 19) (f 20) (f 21) (f 119) (f 120) (f 121) w → Q .normal f w) (hr : ∀ f w, R K f w → Q .ret f w) {f : Fr} {w : World} (h : C11 K kn (f 0) (f 3) (f 4) (f 5) (f 19) (f 20) (f 21) (f 119) (f 120) (f 121) w) : W Try.prog ext (subC B [1, 1, 1, 1, 1, 0, 0, 0, 1, 1, 0, 0, 1, 1, 1, 1, 1, 1, 1, 1, 1, 1, 1, 1, 1, 1, 1, 1, 1, 1, 0, 0, 1, 1, 1]) Q f w :=
  W_exq (n := fun f w => kn (f 0) (f 3) (f 4) (f 5) (f 19) (f 20) (f 21) (f 119) (f 120) (f 121) w) (r := R K) (xs := []) (gs := []) (Eq.mp (by kernel_rfl) h) hkn hr trivial trivial
def C13 (K : KT) (kx10 : V10) (kn : V14) (script0 w3 like4 out5 n16 b17 v19 v20 v21 v119 v120 v121 v127 v128 : Value) (w : World) : Prop :=
  optW (arO .lss v128 v127) w fun v129 w =>
  Cnd v129 (
  optW (ixS 1 b17 v128) w fun v133 w =>
  optW (ld1 v133 w) w fun v134 w =>
  optW (cvO .u8 n16) w fun v136 w =>
  optW (eqO true v134 v136) w fun v137 w =>
  Cnd v137 (
  K (.bool false) w) (
  optW (arO .add v128 (.int .i64 1)) w fun v138 w =>
  kn script0 w3 like4 out5 n16 b17 v19 v20 v21 v119 v120 v121 v127 v138 w)) (
  kx10 script0 w3 like4 out5 v19 v20 v21 v119 v120 v121 w)
theorem C13.sound {kx10 : V10} {kn : V14} {Q : QT} (hkx10 : ∀ f w, kx10 (f 0) (f 3) (f 4) (f 5) (f 19) (f 20) (f 21) (f 119) (f 120) (f 121) w → Q (.exit 10) f w) (hkn : ∀ f w, kn (f 0) (f 3) (f 4) (f 5) (f 16) (f 17) (f 19) (f 20) (f 21) (f 119) (f 120) (f 121) (f 127) (f 128) w → Q .normal f w) (hr : ∀ f w, R K f w → Q .ret f w) {f : Fr} {w : World} (h : C13 K kx10 kn (f 0) (f 3) (f 4) (f 5) (f 16) (f 17) (f 19) (f 20) (f 21) (f 119) (f 120) (f 121) (f 127) (f 128) w) : W Try.prog ext (subC B [1, 1, 1, 1, 1, 0, 0, 0, 1, 1, 0, 0, 1, 1, 1, 1, 1, 1, 1, 1, 1, 1, 1, 1, 1, 1, 1, 1, 1, 1, 0, 0, 1, 1, 0, 0, 1, 1, 0, 0]) Q f w :=
  W_exq (n := fun f w => kn (f 0) (f 3) (f 4) (f 5) (f 16) (f 17) (f 19) (f 20) (f 21) (f 119) (f 120) (f 121) (f 127) (f 128) w) (r := R K) (xs := [(10, fun f w => kx10 (f 0) (f 3) (f 4) (f 5) (f 19) (f 20) (f 21) (f 119) (f 120) (f 121) w)]) (gs := []) (Eq.mp (by kernel_rfl) h) hkn hr ⟨hkx10, trivial⟩ trivial
def L13 (K : KT) (kx10 : V10) : Nat → V14
  | 0, _, _, _, _, _, _, _, _, _, _, _, _, _, _, _ => False
  | k + 1, script0, w3, like4, out5, n16, b17, v19, v20, v21, v119, v120, v121, v127, v128, w => C13 K kx10 (L13 K kx10 k) script0 w3 like4 out5 n16 b17 v19 v20 v21 v119 v120 v121 v127 v128 w
theorem L13.sound {kx10 : V10} {Q : QT} (hkx10 : ∀ f w, kx10 (f 0) (f 3) (f 4) (f 5) (f 19) (f 20) (f 21) (f 119) (f 120) (f 121) w → Q (.exit 10) f w) (hr : ∀ f w, R K f w → Q .ret f w) : ∀ (k : Nat) (f : Fr) (w : World), L13 K kx10 k (f 0) (f 3) (f 4) (f 5) (f 16) (f 17) (f 19) (f 20) (f 21) (f 119) (f 120) (f 121) (f 127) (f 128) w → It (W Try.prog ext (subC B [1, 1, 1, 1, 1, 0, 0, 0, 1, 1, 0, 0, 1, 1, 1, 1, 1, 1, 1, 1, 1, 1, 1, 1, 1, 1, 1, 1, 1, 1, 0, 0, 1, 1, 0, 0, 1, 1, 0, 0])) Q k f w
  | 0, _, _, h => h
  | k + 1, _, _, h => C13.sound (K := K) (Q := seqQ (It (W Try.prog ext (subC B [1, 1, 1, 1, 1, 0, 0, 0, 1, 1, 0, 0, 1, 1, 1, 1, 1, 1, 1, 1, 1, 1, 1, 1, 1, 1, 1, 1, 1, 1, 0, 0, 1, 1, 0, 0, 1, 1, 0, 0])) Q k) Q) hkx10 (fun f w h => seq_n (L13.sound hkx10 hr k f w h)) hr h
def C12 (K : KT) (kn : V10) (script0 w3 like4 out5 v19 v20 v21 v119 v120 v121 : Value) (w : World) : Prop :=
  optW (ixS 1 v119 v121) w fun v124 w =>
  optW (ld1 v124 w) w fun v125 w =>
  optW (lenS v125) w fun v127 w =>
  ∃ k, L13 K kn k script0 w3 like4 out5 v121 v125 v19 v20 v21 v119 v120 v121 v127 (.int .i64 0) w
theorem C12.sound {kn : V10} {Q : QT} (hkn : ∀ f w, kn (f 0) (f 3) (f 4) (f 5) (f 19) (f 20) (f 21) (f 119) (f 120) (f 121) w → Q .normal f w) (hr : ∀ f w, R K f w → Q .ret f w) {f : Fr} {w : World} (h : C12 K kn (f 0) (f 3) (f 4) (f 5) (f 19) (f 20) (f 21) (f 119) (f 120) (f 121) w) : W Try.prog ext (subC B [1, 1, 1, 1, 1, 0, 0, 0, 1, 1, 0, 0, 1, 1, 1, 1, 1, 1, 1, 1, 1, 1, 1, 1, 1, 1, 1, 1, 1, 1, 0, 0, 1, 1, 0, 0]) Q f w :=
  W_pre 2 (c2 := (subC B [1, 1, 1, 1, 1, 0, 0, 0, 1, 1, 0, 0, 1, 1, 1, 1, 1, 1, 1, 1, 1, 1, 1, 1, 1, 1, 1, 1, 1, 1, 0, 0, 1, 1, 0, 0, 1, 1])) (by kernel_rfl) (n := fun f w => ∃ k, L13 K kn k (f 0) (f 3) (f 4) (f 5) (f 16) (f 17) (f 19) (f 20) (f 21) (f 119) (f 120) (f 121) (f 127) (f 128) w) (r := R K) (xs := []) (gs := []) (Eq.mp (by kernel_rfl) h) (fun f w h => W_block' (id := 10) (c := (subC B [1, 1, 1, 1, 1, 0, 0, 0, 1, 1, 0, 0, 1, 1, 1, 1, 1, 1, 1, 1, 1, 1, 1, 1, 1, 1, 1, 1, 1, 1, 0, 0, 1, 1, 0, 0, 1, 1, 0])) (by kernel_rfl) (W_loop' (c := (subC B [1, 1, 1, 1, 1, 0, 0, 0, 1, 1, 0, 0, 1, 1, 1, 1, 1, 1, 1, 1, 1, 1, 1, 1, 1, 1, 1, 1, 1, 1, 0, 0, 1, 1, 0, 0, 1, 1, 0, 0])) (by kernel_rfl) (h.elim fun k h => ⟨k, L13.sound (K := K) (Q := (blkQ 10 Q)) (kx10 := kn) (fun f w h => blk_x (hkn f w h)) hr k _ _ h⟩))) hr trivial trivial
def C10 (K : KT) (kx8 : V7) (kn : V10) (script0 w3 like4 out5 v19 v20 v21 v119 v120 v121 : Value) (w : World) : Prop :=
  optW (arO .lss v121 v120) w fun v122 w =>
  Cnd v122 (
  C12 K (C11 K kn) script0 w3 like4 out5 v19 v20 v21 v119 v120 v121 w) (
  kx8 script0 w3 like4 out5 v19 v20 v21 w)
theorem C10.sound {kx8 : V7} {kn : V10} {Q : QT} (hkx8 : ∀ f w, kx8 (f 0) (f 3) (f 4) (f 5) (f 19) (f 20) (f 21) w → Q (.exit 8) f w) (hkn : ∀ f w, kn (f 0) (f 3) (f 4) (f 5) (f 19) (f 20) (f 21) (f 119) (f 120) (f 121) w → Q .normal f w) (hr : ∀ f w, R K f w → Q .ret f w) {f : Fr} {w : World} (h : C10 K kx8 kn (f 0) (f 3) (f 4) (f 5) (f 19) (f 20) (f 21) (f 119) (f 120) (f 121) w) : W Try.prog ext (subC B [1, 1, 1, 1, 1, 0, 0, 0, 1, 1, 0, 0, 1, 1, 1, 1, 1, 1, 1, 1, 1, 1, 1, 1, 1, 1, 1, 1, 1, 1, 0, 0]) Q f w :=
  W_pre 2 (c2 := (subC B [1, 1, 1, 1, 1, 0, 0, 0, 1, 1, 0, 0, 1, 1, 1, 1, 1, 1, 1, 1, 1, 1, 1, 1, 1, 1, 1, 1, 1, 1, 0, 0, 1, 1])) (by kernel_rfl) (n := fun f w => C12 K (C11 K kn) (f 0) (f 3) (f 4) (f 5) (f 19) (f 20) (f 21) (f 119) (f 120) (f 121) w) (r := R K) (xs := [(8, fun f w => kx8 (f 0) (f 3) (f 4) (f 5) (f 19) (f 20) (f 21) w)]) (gs := []) (Eq.mp (by kernel_rfl) h) (fun f w h => W_seq' (a := (subC B [1, 1, 1, 1, 1, 0, 0, 0, 1, 1, 0, 0, 1, 1, 1, 1, 1, 1, 1, 1, 1, 1, 1, 1, 1, 1, 1, 1, 1, 1, 0, 0, 1, 1, 0])) (b := (subC B [1, 1, 1, 1, 1, 0, 0, 0, 1, 1, 0, 0, 1, 1, 1, 1, 1, 1, 1, 1, 1, 1, 1, 1, 1, 1, 1, 1, 1, 1, 0, 0, 1, 1, 1])) (by kernel_rfl) (W_block' (id := 9) (c := (subC B [1, 1, 1, 1, 1, 0, 0, 0, 1, 1, 0, 0, 1, 1, 1, 1, 1, 1, 1, 1, 1, 1, 1, 1, 1, 1, 1, 1, 1, 1, 0, 0, 1, 1, 0, 0])) (by kernel_rfl) (C12.sound (K := K) (Q := (blkQ 9 (seqQ (W Try.prog ext (subC B [1, 1, 1, 1, 1, 0, 0, 0, 1, 1, 0, 0, 1, 1, 1, 1, 1, 1, 1, 1, 1, 1, 1, 1, 1, 1, 1, 1, 1, 1, 0, 0, 1, 1, 1]) Q) Q))) (kn := (C11 K kn)) (fun f w h => blk_n ((fun f w h => seq_n (C11.sound (K := K) (Q := Q) (kn := kn) hkn hr h)) f w h)) hr h))) hr ⟨hkx8, trivial⟩ trivial
def L10 (K : KT) (kx8 : V7) : Nat → V10
  | 0, _, _, _, _, _, _, _, _, _, _, _ => False
  | k + 1, script0, w3, like4, out5, v19, v20, v21, v119, v120, v121, w => C10 K kx8 (L10 K kx8 k) script0 w3 like4 out5 v19 v20 v21 v119 v120 v121 w
theorem L10.sound {kx8 : V7} {Q : QT} (hkx8 : ∀ f w, kx8 (f 0) (f 3) (f 4) (f 5) (f 19) (f 20) (f 21) w → Q (.exit 8) f w) (hr : ∀ f w, R K f w → Q .ret f w) : ∀ (k : Nat) (f : Fr) (w : World), L10 K kx8 k (f 0) (f 3) (f 4) (f 5) (f 19) (f 20) (f 21) (f 119) (f 120) (f 121) w → It (W Try.prog ext (subC B [1, 1, 1, 1, 1, 0, 0, 0, 1, 1, 0, 0, 1, 1, 1, 1, 1, 1, 1, 1, 1, 1, 1, 1, 1, 1, 1, 1, 1, 1, 0, 0])) Q k f w
  | 0, _, _, h => h
  | k + 1, _, _, h => C10.sound (K := K) (Q := seqQ (It (W Try.prog ext (subC B [1, 1, 1, 1, 1, 0, 0, 0, 1, 1, 0, 0, 1, 1, 1, 1, 1, 1, 1, 1, 1, 1, 1, 1, 1, 1, 1, 1, 1, 1, 0, 0])) Q k) Q) hkx8 (fun f w h => seq_n (L10.sound hkx8 hr k f w h)) hr h
def C9 (K : KT) (kn : V7) (script0 w3 like4 out5 v19 v20 v21 : Value) (w : World) : Prop :=
  optW (lenS out5) w fun v120 w =>
  ∃ k, L10 K kn k script0 w3 like4 out5 v19 v20 v21 out5 v120 (.int .i64 0) w
theorem C9.sound {kn : V7} {Q : QT} (hkn : ∀ f w, kn (f 0) (f 3) (f 4) (f 5) (f 19) (f 20) (f 21) w → Q .normal f w) (hr : ∀ f w, R K f w → Q .ret f w) {f : Fr} {w : World} (h : C9 K kn (f 0) (f 3) (f 4) (f 5) (f 19) (f 20) (f 21) w) : W Try.prog ext (subC B [1, 1, 1, 1, 1, 0, 0, 0, 1, 1, 0, 0, 1, 1, 1, 1, 1, 1, 1, 1, 1, 1, 1, 1, 1, 1, 1, 1, 1]) Q f w :=
  W_pre 1 (c2 := (subC B [1, 1, 1, 1, 1, 0, 0, 0, 1, 1, 0, 0, 1, 1, 1, 1, 1, 1, 1, 1, 1, 1, 1, 1, 1, 1, 1, 1, 1, 1])) (by kernel_rfl) (n := fun f w => ∃ k, L10 K kn k (f 0) (f 3) (f 4) (f 5) (f 19) (f 20) (f 21) (f 119) (f 120) (f 121) w) (r := R K) (xs := []) (gs := []) (Eq.mp (by kernel_rfl) h) (fun f w h => W_block' (id := 8) (c := (subC B [1, 1, 1, 1, 1, 0, 0, 0, 1, 1, 0, 0, 1, 1, 1, 1, 1, 1, 1, 1, 1, 1, 1, 1, 1, 1, 1, 1, 1, 1, 0])) (by kernel_rfl) (W_loop' (c := (subC B [1, 1, 1, 1, 1, 0, 0, 0, 1, 1, 0, 0, 1, 1, 1, 1, 1, 1, 1, 1, 1, 1, 1, 1, 1, 1, 1, 1, 1, 1, 0, 0])) (by kernel_rfl) (h.elim fun k h => ⟨k, L10.sound (K := K) (Q := (blkQ 8 Q)) (kx8 := kn) (fun f w h => blk_x (hkn f w h)) hr k _ _ h⟩))) hr trivial trivial
def C15 (K : KT) (kn : V8) (script0 w3 like4 out5 n13 v19 v20 v21 : Value) (w : World) : Prop :=
  optW (arO .add n13 (.int .i64 1)) w fun v77 w =>
  kn script0 w3 like4 out5 v77 v19 v20 v21 w
theorem C15.sound {kn : V8} {Q : QT} (hkn : ∀ f w, kn (f 0) (f 3) (f 4) (f 5) (f 13) (f 19) (f 20) (f 21) w → Q .normal f w) (hr : ∀ f w, R K f w → Q .ret f w) {f : Fr} {w : World} (h : C15 K kn (f 0) (f 3) (f 4) (f 5) (f 13) (f 19) (f 20) (f 21) w) : W Try.prog ext (subC B [1, 1, 1, 1, 1, 0, 0, 0, 1, 1, 0, 0, 1, 1, 1, 1, 1, 1, 1, 1, 1, 1, 1, 1, 1, 1, 1, 1, 0, 0, 0, 1, 1, 1]) Q f w :=
  W_exq (n := fun f w => kn (f 0) (f 3) (f 4) (f 5) (f 13) (f 19) (f 20) (f 21) w) (r := R K) (xs := []) (gs := []) (Eq.mp (by kernel_rfl) h) hkn hr trivial trivial
def C18 (K : KT) (kn : V8) (script0 w3 like4 out5 n13 b14 v19 v20 v21 : Value) (w : World) : Prop :=
  optW (lenS out5) w fun v111 w =>
  optW (cvO .u8 v111) w fun v112 w =>
  semW Try.prog (Instr.buildSlice 23 1 #[(0, v112)]) w fun v113 w =>
  semW Try.prog (bltS .append #[23, 23] 23 #[b14, v113]) w fun v114 w =>
  semW Try.prog (Instr.buildSlice 28 1 #[(0, v114)]) w fun v117 w =>
  semW Try.prog (bltS .append #[28, 28] 28 #[out5, v117]) w fun v118 w =>
  kn script0 w3 like4 v118 n13 v19 v20 v21 w
theorem C18.sound {kn : V8} {Q : QT} (hkn : ∀ f w, kn (f 0) (f 3) (f 4) (f 5) (f 13) (f 19) (f 20) (f 21) w → Q .normal f w) (hr : ∀ f w, R K f w → Q .ret f w) {f : Fr} {w : World} (h : C18 K kn (f 0) (f 3) (f 4) (f 5) (f 13) (f 14) (f 19) (f 20) (f 21) w) : W Try.prog ext (subC B [1, 1, 1, 1, 1, 0, 0, 0, 1, 1, 0, 0, 1, 1, 1, 1, 1, 1, 1, 1, 1, 1, 1, 1, 1, 1, 1, 1, 0, 0, 0, 1, 1, 0, 0, 1, 1, 1, 1, 1]) Q f w :=
  W_exq (n := fun f w => kn (f 0) (f 3) (f 4) (f 5) (f 13) (f 19) (f 20) (f 21) w) (r := R K) (xs := []) (gs := []) (Eq.mp (by kernel_rfl) h) hkn hr trivial trivial
def C19 (K : KT) (kx6 : V9) (kn : V11) (script0 w3 like4 out5 n13 b14 v19 v20 v21 v98 v99 : Value) (w : World) : Prop :=
  optW (arO .lss v99 v98) w fun v100 w =>
  Cnd v100 (
  optW (lenS out5) w fun v105 w =>
  optW (cvO .u8 v105) w fun v106 w =>
  optW (ixS 1 b14 v99) w fun v107 w =>
  st1 v107 v106 w fun w =>
  optW (arO .add v99 (.int .i64 1)) w fun v108 w =>
  kn script0 w3 like4 out5 n13 b14 v19 v20 v21 v98 v108 w) (
  kx6 script0 w3 like4 out5 n13 b14 v19 v20 v21 w)
theorem C19.sound {kx6 : V9} {kn : V11} {Q : QT} (hkx6 : ∀ f w, kx6 (f 0) (f 3) (f 4) (f 5) (f 13) (f 14) (f 19) (f 20) (f 21) w → Q (.exit 6) f w) (hkn : ∀ f w, kn (f 0) (f 3) (f 4) (f 5) (f 13) (f 14) (f 19) (f 20) (f 21) (f 98) (f 99) w → Q .normal f w) (hr : ∀ f w, R K f w → Q .ret f w) {f : Fr} {w : World} (h : C19 K kx6 kn (f 0) (f 3) (f 4) (f 5) (f 13) (f 14) (f 19) (f 20) (f 21) (f 98) (f 99) w) : W Try.prog ext (subC B [1, 1, 1, 1, 1, 0, 0, 0, 1, 1, 0, 0, 1, 1, 1, 1, 1, 1, 1, 1, 1, 1, 1, 1, 1, 1, 1, 1, 0, 0, 0, 1, 1, 0, 0, 1, 1, 1, 1, 0, 0, 0]) Q f w :=
  W_exq (n := fun f w => kn (f 0) (f 3) (f 4) (f 5) (f 13) (f 14) (f 19) (f 20) (f 21) (f 98) (f 99) w) (r := R K) (xs := [(6, fun f w => kx6 (f 0) (f 3) (f 4) (f 5) (f 13) (f 14) (f 19) (f 20) (f 21) w)]) (gs := []) (Eq.mp (by kernel_rfl) h) hkn hr ⟨hkx6, trivial⟩ trivial
def L19 (K : KT) (kx6 : V9) : Nat → V11
  | 0, _, _, _, _, _, _, _, _, _, _, _, _ => False
  | k + 1, script0, w3, like4, out5, n13, b14, v19, v20, v21, v98, v99, w => C19 K kx6 (L19 K kx6 k) script0 w3 like4 out5 n13 b14 v19 v20 v21 v98 v99 w
theorem L19.sound {kx6 : V9} {Q : QT} (hkx6 : ∀ f w, kx6 (f 0) (f 3) (f 4) (f 5) (f 13) (f 14) (f 19) (f 20) (f 21) w → Q (.exit 6) f w) (hr : ∀ f w, R K f w → Q .ret f w) : ∀ (k : Nat) (f : Fr) (w : World), L19 K kx6 k (f 0) (f 3) (f 4) (f 5) (f 13) (f 14) (f 19) (f 20) (f 21) (f 98) (f 99) w → It (W Try.prog ext (subC B [1, 1, 1, 1, 1, 0, 0, 0, 1, 1, 0, 0, 1, 1, 1, 1, 1, 1, 1, 1, 1, 1, 1, 1, 1, 1, 1, 1, 0, 0, 0, 1, 1, 0, 0, 1, 1, 1, 1, 0, 0, 0])) Q k f w
  | 0, _, _, h => h
  | k + 1, _, _, h => C19.sound (K := K) (Q := seqQ (It (W Try.prog ext (subC B [1, 1, 1, 1, 1, 0, 0, 0, 1, 1, 0, 0, 1, 1, 1, 1, 1, 1, 1, 1, 1, 1, 1, 1, 1, 1, 1, 1, 0, 0, 0, 1, 1, 0, 0, 1, 1, 1, 1, 0, 0, 0])) Q k) Q) hkx6 (fun f w h => seq_n (L19.sound hkx6 hr k f w h)) hr h
def C17 (K : KT) (kn : V8) (script0 w3 like4 out5 n13 b14 v19 v20 v21 v96 : Value) (w : World) : Prop :=
  Cnd v96 (
  K (.bool false) w) (
  optW (lenS b14) w fun v98 w =>
  ∃ k, L19 K (C18 K kn) k script0 w3 like4 out5 n13 b14 v19 v20 v21 v98 (.int .i64 0) w)
theorem C17.sound {kn : V8} {Q : QT} (hkn : ∀ f w, kn (f 0) (f 3) (f 4) (f 5) (f 13) (f 19) (f 20) (f 21) w → Q .normal f w) (hr : ∀ f w, R K f w → Q .ret f w) {f : Fr} {w : World} (h : C17 K kn (f 0) (f 3) (f 4) (f 5) (f 13) (f 14) (f 19) (f 20) (f 21) (f 96) w) : W Try.prog ext (subC B [1, 1, 1, 1, 1, 0, 0, 0, 1, 1, 0, 0, 1, 1, 1, 1, 1, 1, 1, 1, 1, 1, 1, 1, 1, 1, 1, 1, 0, 0, 0, 1, 1, 0, 0, 1, 1]) Q f w :=
  W_pre 2 (c2 := (subC B [1, 1, 1, 1, 1, 0, 0, 0, 1, 1, 0, 0, 1, 1, 1, 1, 1, 1, 1, 1, 1, 1, 1, 1, 1, 1, 1, 1, 0, 0, 0, 1, 1, 0, 0, 1, 1, 1, 1])) (by kernel_rfl) (n := fun f w => ∃ k, L19 K (C18 K kn) k (f 0) (f 3) (f 4) (f 5) (f 13) (f 14) (f 19) (f 20) (f 21) (f 98) (f 99) w) (r := R K) (xs := []) (gs := []) (Eq.mp (by kernel_rfl) h) (fun f w h => W_seq' (a := (subC B [1, 1, 1, 1, 1, 0, 0, 0, 1, 1, 0, 0, 1, 1, 1, 1, 1, 1, 1, 1, 1, 1, 1, 1, 1, 1, 1, 1, 0, 0, 0, 1, 1, 0, 0, 1, 1, 1, 1, 0])) (b := (subC B [1, 1, 1, 1, 1, 0, 0, 0, 1, 1, 0, 0, 1, 1, 1, 1, 1, 1, 1, 1, 1, 1, 1, 1, 1, 1, 1, 1, 0, 0, 0, 1, 1, 0, 0, 1, 1, 1, 1, 1])) (by kernel_rfl) (W_block' (id := 6) (c := (subC B [1, 1, 1, 1, 1, 0, 0, 0, 1, 1, 0, 0, 1, 1, 1, 1, 1, 1, 1, 1, 1, 1, 1, 1, 1, 1, 1, 1, 0, 0, 0, 1, 1, 0, 0, 1, 1, 1, 1, 0, 0])) (by kernel_rfl) (W_loop' (c := (subC B [1, 1, 1, 1, 1, 0, 0, 0, 1, 1, 0, 0, 1, 1, 1, 1, 1, 1, 1, 1, 1, 1, 1, 1, 1, 1, 1, 1, 0, 0, 0, 1, 1, 0, 0, 1, 1, 1, 1, 0, 0, 0])) (by kernel_rfl) (h.elim fun k h => ⟨k, L19.sound (K := K) (Q := (blkQ 6 (seqQ (W Try.prog ext (subC B [1, 1, 1, 1, 1, 0, 0, 0, 1, 1, 0, 0, 1, 1, 1, 1, 1, 1, 1, 1, 1, 1, 1, 1, 1, 1, 1, 1, 0, 0, 0, 1, 1, 0, 0, 1, 1, 1, 1, 1]) Q) Q))) (kx6 := (C18 K kn)) (fun f w h => blk_x ((fun f w h => seq_n (C18.sound (K := K) (Q := Q) (kn := kn) hkn hr h)) f w h)) hr k _ _ h⟩)))) hr trivial trivial
def D20 (kn : V10) (script0 w3 like4 out5 n13 b14 v19 v20 v21 : Value) (w : World) : Prop :=
  ∃ I : World → Prop, I w.drew ∧ drw w fun w =>
  optW (ixA 2 1 w3 n13) w fun v82 w => 
  CallsR Try.prog 9 #[v82] w fun v83 w => I w ∧
  optW (ixA 2 1 like4 n13) w fun v85 w => 
  rdI I (fun w => ld1 v85 w) fun v86 =>
  optW (lenS v86) w fun v87 w => 
  optW (eqO true v83 v87) w fun v88 w => 
  gOp v88 false w (fun K => K b14 w) fun v90 w => 
  gOp v88 false w (fun K => K n13 w) fun v91 w => 
  gOp v88 false w (fun K => optW (ixA 2 1 like4 v91) w K) fun v92 w => 
  rdG I v88 false (fun w => ld1 v92 w) fun v93 =>
  gOp v88 false w (fun K => CallsR Try.prog 10 #[v90, v93] w K) fun v94 w => 
  gOp v88 false w (fun K => optW (unO .not v94) w K) fun v95 w => 
  optW (pickO v88 (.bool true) v95) w fun v96 w => 
  kn script0 w3 like4 out5 n13 b14 v19 v20 v21 v96 w
def C16 (K : KT) (kn : V8) (script0 w3 like4 out5 n13 v19 v20 v21 : Value) (w : World) : Prop :=
  optW (ixA 2 1 w3 n13) w fun v79 w =>
  CallsR Try.prog 8 #[v79] w fun v80 w =>
  D20 (C17 K kn) script0 w3 like4 out5 n13 v80 v19 v20 v21 w
theorem C16.sound {kn : V8} {Q : QT} (hkn : ∀ f w, kn (f 0) (f 3) (f 4) (f 5) (f 13) (f 19) (f 20) (f 21) w → Q .normal f w) (hr : ∀ f w, R K f w → Q .ret f w) {f : Fr} {w : World} (h : C16 K kn (f 0) (f 3) (f 4) (f 5) (f 13) (f 19) (f 20) (f 21) w) : W Try.prog ext (subC B [1, 1, 1, 1, 1, 0, 0, 0, 1, 1, 0, 0, 1, 1, 1, 1, 1, 1, 1, 1, 1, 1, 1, 1, 1, 1, 1, 1, 0, 0, 0, 1, 1, 0, 0]) Q f w :=
  W_pre 1 (c2 := (subC B [1, 1, 1, 1, 1, 0, 0, 0, 1, 1, 0, 0, 1, 1, 1, 1, 1, 1, 1, 1, 1, 1, 1, 1, 1, 1, 1, 1, 0, 0, 0, 1, 1, 0, 0, 1])) (by kernel_rfl) (n := fun f w => D20 (C17 K kn) (f 0) (f 3) (f 4) (f 5) (f 13) (f 14) (f 19) (f 20) (f 21) w) (r := R K) (xs := []) (gs := []) (Eq.mp (by kernel_rfl) h) (fun f w h => W_seq' (a := (subC B [1, 1, 1, 1, 1, 0, 0, 0, 1, 1, 0, 0, 1, 1, 1, 1, 1, 1, 1, 1, 1, 1, 1, 1, 1, 1, 1, 1, 0, 0, 0, 1, 1, 0, 0, 1, 0])) (b := (subC B [1, 1, 1, 1, 1, 0, 0, 0, 1, 1, 0, 0, 1, 1, 1, 1, 1, 1, 1, 1, 1, 1, 1, 1, 1, 1, 1, 1, 0, 0, 0, 1, 1, 0, 0, 1, 1])) (by kernel_rfl) (W_drawB' (id := 27) (ops := (opsC (subC B [1, 1, 1, 1, 1, 0, 0, 0, 1, 1, 0, 0, 1, 1, 1, 1, 1, 1, 1, 1, 1, 1, 1, 1, 1, 1, 1, 1, 0, 0, 0, 1, 1, 0, 0, 1, 0]))) (N := fun f w => (C17 K kn) (f 0) (f 3) (f 4) (f 5) (f 13) (f 14) (f 19) (f 20) (f 21) (f 96) w) (by kernel_rfl) (by kernel_rfl) (by kernel_rfl) (Eq.mp (by kernel_rfl) h) (fun f w h => seq_n (C17.sound (K := K) (Q := Q) (kn := kn) hkn hr h)))) hr trivial trivial
def C14 (K : KT) (kx4 : V7) (kn : V8) (script0 w3 like4 out5 n13 v19 v20 v21 : Value) (w : World) : Prop :=
  optW (arO .lss n13 (.int .i64 2)) w fun v75 w =>
  Cnd v75 (
  C16 K (C15 K kn) script0 w3 like4 out5 n13 v19 v20 v21 w) (
  kx4 script0 w3 like4 out5 v19 v20 v21 w)
theorem C14.sound {kx4 : V7} {kn : V8} {Q : QT} (hkx4 : ∀ f w, kx4 (f 0) (f 3) (f 4) (f 5) (f 19) (f 20) (f 21) w → Q (.exit 4) f w) (hkn : ∀ f w, kn (f 0) (f 3) (f 4) (f 5) (f 13) (f 19) (f 20) (f 21) w → Q .normal f w) (hr : ∀ f w, R K f w → Q .ret f w) {f : Fr} {w : World} (h : C14 K kx4 kn (f 0) (f 3) (f 4) (f 5) (f 13) (f 19) (f 20) (f 21) w) : W Try.prog ext (subC B [1, 1, 1, 1, 1, 0, 0, 0, 1, 1, 0, 0, 1, 1, 1, 1, 1, 1, 1, 1, 1, 1, 1, 1, 1, 1, 1, 1, 0, 0, 0]) Q f w :=
  W_pre 2 (c2 := (subC B [1, 1, 1, 1, 1, 0, 0, 0, 1, 1, 0, 0, 1, 1, 1, 1, 1, 1, 1, 1, 1, 1, 1, 1, 1, 1, 1, 1, 0, 0, 0, 1, 1])) (by kernel_rfl) (n := fun f w => C16 K (C15 K kn) (f 0) (f 3) (f 4) (f 5) (f 13) (f 19) (f 20) (f 21) w) (r := R K) (xs := [(4, fun f w => kx4 (f 0) (f 3) (f 4) (f 5) (f 19) (f 20) (f 21) w)]) (gs := []) (Eq.mp (by kernel_rfl) h) (fun f w h => W_seq' (a := (subC B [1, 1, 1, 1, 1, 0, 0, 0, 1, 1, 0, 0, 1, 1, 1, 1, 1, 1, 1, 1, 1, 1, 1, 1, 1, 1, 1, 1, 0, 0, 0, 1, 1, 0])) (b := (subC B [1, 1, 1, 1, 1, 0, 0, 0, 1, 1, 0, 0, 1, 1, 1, 1, 1, 1, 1, 1, 1, 1, 1, 1, 1, 1, 1, 1, 0, 0, 0, 1, 1, 1])) (by kernel_rfl) (W_block' (id := 5) (c := (subC B [1, 1, 1, 1, 1, 0, 0, 0, 1, 1, 0, 0, 1, 1, 1, 1, 1, 1, 1, 1, 1, 1, 1, 1, 1, 1, 1, 1, 0, 0, 0, 1, 1, 0, 0])) (by kernel_rfl) (C16.sound (K := K) (Q := (blkQ 5 (seqQ (W Try.prog ext (subC B [1, 1, 1, 1, 1, 0, 0, 0, 1, 1, 0, 0, 1, 1, 1, 1, 1, 1, 1, 1, 1, 1, 1, 1, 1, 1, 1, 1, 0, 0, 0, 1, 1, 1]) Q) Q))) (kn := (C15 K kn)) (fun f w h => blk_n ((fun f w h => seq_n (C15.sound (K := K) (Q := Q) (kn := kn) hkn hr h)) f w h)) hr h))) hr ⟨hkx4, trivial⟩ trivial
def L14 (K : KT) (kx4 : V7) : Nat → V8
  | 0, _, _, _, _, _, _, _, _, _ => False
  | k + 1, script0, w3, like4, out5, n13, v19, v20, v21, w => C14 K kx4 (L14 K kx4 k) script0 w3 like4 out5 n13 v19 v20 v21 w
theorem L14.sound {kx4 : V7} {Q : QT} (hkx4 : ∀ f w, kx4 (f 0) (f 3) (f 4) (f 5) (f 19) (f 20) (f 21) w → Q (.exit 4) f w) (hr : ∀ f w, R K f w → Q .ret f w) : ∀ (k : Nat) (f : Fr) (w : World), L14 K kx4 k (f 0) (f 3) (f 4) (f 5) (f 13) (f 19) (f 20) (f 21) w → It (W Try.prog ext (subC B [1, 1, 1, 1, 1, 0, 0, 0, 1, 1, 0, 0, 1, 1, 1, 1, 1, 1, 1, 1, 1, 1, 1, 1, 1, 1, 1, 1, 0, 0, 0])) Q k f w
  | 0, _, _, h => h
  | k + 1, _, _, h => C14.sound (K := K) (Q := seqQ (It (W Try.prog ext (subC B [1, 1, 1, 1, 1, 0, 0, 0, 1, 1, 0, 0, 1, 1, 1, 1, 1, 1, 1, 1, 1, 1, 1, 1, 1, 1, 1, 1, 0, 0, 0])) Q k) Q) hkx4 (fun f w h => seq_n (L14.sound hkx4 hr k f w h)) hr h
def C8 (K : KT) (kx1 : V7) (kn : V7) (script0 w3 like4 out5 i6 o7 v19 v20 v21 : Value) (w : World) : Prop :=
  optW (fadO 0 o7) w fun v64 w =>
  optW (ld1 v64 w) w fun v65 w =>
  optW (eqO true v65 (.int .i64 9)) w fun v66 w =>
  gOp v66 true w (fun K => K i6 w) fun v68 w =>
  gOp v66 true w (fun K => K script0 w) fun v69 w =>
  gOp v66 true w (fun K => optW (lenS v69) w K) fun v70 w =>
  gOp v66 true w (fun K => optW (arO .sub v70 (.int .i64 1)) w K) fun v71 w =>
  gOp v66 true w (fun K => optW (arO .lss v68 v71) w K) fun v72 w =>
  optW (pickO v66 v72 (.bool false)) w fun v73 w =>
  Cnd v73 (
  kx1 script0 w3 like4 out5 v19 v20 v21 w) (
  ∃ k, L14 K (C9 K kn) k script0 w3 like4 out5 (.int .i64 0) v19 v20 v21 w)
theorem C8.sound {kx1 : V7} {kn : V7} {Q : QT} (hkx1 : ∀ f w, kx1 (f 0) (f 3) (f 4) (f 5) (f 19) (f 20) (f 21) w → Q (.exit 1) f w) (hkn : ∀ f w, kn (f 0) (f 3) (f 4) (f 5) (f 19) (f 20) (f 21) w → Q .normal f w) (hr : ∀ f w, R K f w → Q .ret f w) {f : Fr} {w : World} (h : C8 K kx1 kn (f 0) (f 3) (f 4) (f 5) (f 6) (f 7) (f 19) (f 20) (f 21) w) : W Try.prog ext (subC B [1, 1, 1, 1, 1, 0, 0, 0, 1, 1, 0, 0, 1, 1, 1, 1, 1, 1, 1, 1, 1, 1, 1, 1, 1]) Q f w :=
  W_pre 3 (c2 := (subC B [1, 1, 1, 1, 1, 0, 0, 0, 1, 1, 0, 0, 1, 1, 1, 1, 1, 1, 1, 1, 1, 1, 1, 1, 1, 1, 1, 1])) (by kernel_rfl) (n := fun f w => ∃ k, L14 K (C9 K kn) k (f 0) (f 3) (f 4) (f 5) (f 13) (f 19) (f 20) (f 21) w) (r := R K) (xs := [(1, fun f w => kx1 (f 0) (f 3) (f 4) (f 5) (f 19) (f 20) (f 21) w)]) (gs := []) (Eq.mp (by kernel_rfl) h) (fun f w h => W_seq' (a := (subC B [1, 1, 1, 1, 1, 0, 0, 0, 1, 1, 0, 0, 1, 1, 1, 1, 1, 1, 1, 1, 1, 1, 1, 1, 1, 1, 1, 1, 0])) (b := (subC B [1, 1, 1, 1, 1, 0, 0, 0, 1, 1, 0, 0, 1, 1, 1, 1, 1, 1, 1, 1, 1, 1, 1, 1, 1, 1, 1, 1, 1])) (by kernel_rfl) (W_block' (id := 4) (c := (subC B [1, 1, 1, 1, 1, 0, 0, 0, 1, 1, 0, 0, 1, 1, 1, 1, 1, 1, 1, 1, 1, 1, 1, 1, 1, 1, 1, 1, 0, 0])) (by kernel_rfl) (W_loop' (c := (subC B [1, 1, 1, 1, 1, 0, 0, 0, 1, 1, 0, 0, 1, 1, 1, 1, 1, 1, 1, 1, 1, 1, 1, 1, 1, 1, 1, 1, 0, 0, 0])) (by kernel_rfl) (h.elim fun k h => ⟨k, L14.sound (K := K) (Q := (blkQ 4 (seqQ (W Try.prog ext (subC B [1, 1, 1, 1, 1, 0, 0, 0, 1, 1, 0, 0, 1, 1, 1, 1, 1, 1, 1, 1, 1, 1, 1, 1, 1, 1, 1, 1, 1]) Q) Q))) (kx4 := (C9 K kn)) (fun f w h => blk_x ((fun f w h => seq_n (C9.sound (K := K) (Q := Q) (kn := kn) hkn hr h)) f w h)) hr k _ _ h⟩)))) hr ⟨hkx1, trivial⟩ trivial
def D21 (kn : V9) (script0 w3 like4 out5 i6 o7 k8 v19 v20 v21 : Value) (w : World) : Prop :=
  ∃ I : World → Prop, I w.drew ∧ drw w fun w =>
  optW (ixA 2 1 like4 k8) w fun v58 w => 
  rdI I (fun w => ld1 v58 w) fun v59 =>
  rdI I (fun w => ldN 38 o7 w) fun v60 =>
  CallsR Try.prog 7 #[v60] w fun v61 w => I w ∧
  semW Try.prog (bltS .append #[23, 23] 23 #[v59, v61]) w fun v62 w => 
  optW (ixA 2 1 like4 k8) w fun v63 w => 
  st1 v63 v62 w fun w => 
  kn script0 w3 like4 out5 i6 o7 v19 v20 v21 w
def C7 (K : KT) (kx1 : V7) (kn : V7) (script0 w3 like4 out5 i6 o7 k8 v19 v20 v21 : Value) (w : World) : Prop :=
  D21 (C8 K kx1 kn) script0 w3 like4 out5 i6 o7 k8 v19 v20 v21 w
theorem C7.sound {kx1 : V7} {kn : V7} {Q : QT} (hkx1 : ∀ f w, kx1 (f 0) (f 3) (f 4) (f 5) (f 19) (f 20) (f 21) w → Q (.exit 1) f w) (hkn : ∀ f w, kn (f 0) (f 3) (f 4) (f 5) (f 19) (f 20) (f 21) w → Q .normal f w) (hr : ∀ f w, R K f w → Q .ret f w) {f : Fr} {w : World} (h : C7 K kx1 kn (f 0) (f 3) (f 4) (f 5) (f 6) (f 7) (f 8) (f 19) (f 20) (f 21) w) : W Try.prog ext (subC B [1, 1, 1, 1, 1, 0, 0, 0, 1, 1, 0, 0, 1, 1, 1, 1, 1, 1, 1, 1, 1, 1, 1, 1]) Q f w :=
  W_seq' (a := (subC B [1, 1, 1, 1, 1, 0, 0, 0, 1, 1, 0, 0, 1, 1, 1, 1, 1, 1, 1, 1, 1, 1, 1, 1, 0])) (b := (subC B [1, 1, 1, 1, 1, 0, 0, 0, 1, 1, 0, 0, 1, 1, 1, 1, 1, 1, 1, 1, 1, 1, 1, 1, 1])) (by kernel_rfl) (W_drawB' (id := 21) (ops := (opsC (subC B [1, 1, 1, 1, 1, 0, 0, 0, 1, 1, 0, 0, 1, 1, 1, 1, 1, 1, 1, 1, 1, 1, 1, 1, 0]))) (N := fun f w => (C8 K kx1 kn) (f 0) (f 3) (f 4) (f 5) (f 6) (f 7) (f 19) (f 20) (f 21) w) (by kernel_rfl) (by kernel_rfl) (by kernel_rfl) (Eq.mp (by kernel_rfl) h) (fun f w h => seq_n (C8.sound (K := K) (Q := Q) (kx1 := kx1) (kn := kn) hkx1 hkn hr h)))
def C22 (K : KT) (kx2 : V10) (kn : V13) (script0 w3 like4 out5 i6 o7 k8 all10 v19 v20 v21 v48 v49 : Value) (w : World) : Prop :=
  optW (arO .lss v49 v48) w fun v50 w =>
  Cnd v50 (
  optW (ixS 1 all10 v49) w fun v54 w =>
  st1 v54 (.int .u8 119) w fun w =>
  optW (arO .add v49 (.int .i64 1)) w fun v55 w =>
  kn script0 w3 like4 out5 i6 o7 k8 all10 v19 v20 v21 v48 v55 w) (
  kx2 script0 w3 like4 out5 i6 o7 k8 v19 v20 v21 w)
theorem C22.sound {kx2 : V10} {kn : V13} {Q : QT} (hkx2 : ∀ f w, kx2 (f 0) (f 3) (f 4) (f 5) (f 6) (f 7) (f 8) (f 19) (f 20) (f 21) w → Q (.exit 2) f w) (hkn : ∀ f w, kn (f 0) (f 3) (f 4) (f 5) (f 6) (f 7) (f 8) (f 10) (f 19) (f 20) (f 21) (f 48) (f 49) w → Q .normal f w) (hr : ∀ f w, R K f w → Q .ret f w) {f : Fr} {w : World} (h : C22 K kx2 kn (f 0) (f 3) (f 4) (f 5) (f 6) (f 7) (f 8) (f 10) (f 19) (f 20) (f 21) (f 48) (f 49) w) : W Try.prog ext (subC B [1, 1, 1, 1, 1, 0, 0, 0, 1, 1, 0, 0, 1, 1, 1, 1, 1, 1, 1, 1, 1, 1, 1, 0, 0, 0]) Q f w :=
  W_exq (n := fun f w => kn (f 0) (f 3) (f 4) (f 5) (f 6) (f 7) (f 8) (f 10) (f 19) (f 20) (f 21) (f 48) (f 49) w) (r := R K) (xs := [(2, fun f w => kx2 (f 0) (f 3) (f 4) (f 5) (f 6) (f 7) (f 8) (f 19) (f 20) (f 21) w)]) (gs := []) (Eq.mp (by kernel_rfl) h) hkn hr ⟨hkx2, trivial⟩ trivial
def L22 (K : KT) (kx2 : V10) : Nat → V13
  | 0, _, _, _, _, _, _, _, _, _, _, _, _, _, _ => False
  | k + 1, script0, w3, like4, out5, i6, o7, k8, all10, v19, v20, v21, v48, v49, w => C22 K kx2 (L22 K kx2 k) script0 w3 like4 out5 i6 o7 k8 all10 v19 v20 v21 v48 v49 w
theorem L22.sound {kx2 : V10} {Q : QT} (hkx2 : ∀ f w, kx2 (f 0) (f 3) (f 4) (f 5) (f 6) (f 7) (f 8) (f 19) (f 20) (f 21) w → Q (.exit 2) f w) (hr : ∀ f w, R K f w → Q .ret f w) : ∀ (k : Nat) (f : Fr) (w : World), L22 K kx2 k (f 0) (f 3) (f 4) (f 5) (f 6) (f 7) (f 8) (f 10) (f 19) (f 20) (f 21) (f 48) (f 49) w → It (W Try.prog ext (subC B [1, 1, 1, 1, 1, 0, 0, 0, 1, 1, 0, 0, 1, 1, 1, 1, 1, 1, 1, 1, 1, 1, 1, 0, 0, 0])) Q k f w
  | 0, _, _, h => h
  | k + 1, _, _, h => C22.sound (K := K) (Q := seqQ (It (W Try.prog ext (subC B [1, 1, 1, 1, 1, 0, 0, 0, 1, 1, 0, 0, 1, 1, 1, 1, 1, 1, 1, 1, 1, 1, 1, 0, 0, 0])) Q k) Q) hkx2 (fun f w h => seq_n (L22.sound hkx2 hr k f w h)) hr h
def C6 (K : KT) (kx1 : V7) (kn : V7) (script0 w3 like4 out5 i6 o7 k8 v19 v20 v21 : Value) (w : World) : Prop :=
  optW (fadO 4 o7) w fun v30 w =>
  optW (ld1 v30 w) w fun v31 w =>
  CallsR Try.prog 4 #[v31] w fun v32 w =>
  optW (extO v32 0) w fun v33 w =>
  optW (extO v32 1) w fun v34 w =>
  optW (ldN 38 o7 w) w fun v35 w =>
  newW (zCells Try.prog 35) 35 w fun p11 w =>
  stN 38 p11 v35 w fun w =>
  optW (fadO 4 p11) w fun v37 w =>
  st1 v37 v33 w fun w =>
  drw w fun w =>
  optW (ixA 2 1 w3 k8) w fun v39 w =>
  optW (ldN 38 p11 w) w fun v40 w =>
  CallsR Try.prog 5 #[v39, v40] w fun v41 w =>
  optW (fadO 4 o7) w fun v43 w =>
  optW (ld1 v43 w) w fun v44 w =>
  CallsR Try.prog 6 #[v34, v44] w fun v45 w =>
  optW (unO .not v45) w fun v46 w =>
  Cnd v46 (
  K (.bool false) w) (
  optW (lenS v34) w fun v48 w =>
  ∃ k, L22 K (C7 K kx1 kn) k script0 w3 like4 out5 i6 o7 k8 v34 v19 v20 v21 v48 (.int .i64 0) w)
theorem C6.sound {kx1 : V7} {kn : V7} {Q : QT} (hkx1 : ∀ f w, kx1 (f 0) (f 3) (f 4) (f 5) (f 19) (f 20) (f 21) w → Q (.exit 1) f w) (hkn : ∀ f w, kn (f 0) (f 3) (f 4) (f 5) (f 19) (f 20) (f 21) w → Q .normal f w) (hr : ∀ f w, R K f w → Q .ret f w) {f : Fr} {w : World} (h : C6 K kx1 kn (f 0) (f 3) (f 4) (f 5) (f 6) (f 7) (f 8) (f 19) (f 20) (f 21) w) : W Try.prog ext (subC B [1, 1, 1, 1, 1, 0, 0, 0, 1, 1, 0, 0, 1, 1, 1, 1]) Q f w :=
  W_pre 7 (c2 := (subC B [1, 1, 1, 1, 1, 0, 0, 0, 1, 1, 0, 0, 1, 1, 1, 1, 1, 1, 1, 1, 1, 1, 1])) (by kernel_rfl) (n := fun f w => ∃ k, L22 K (C7 K kx1 kn) k (f 0) (f 3) (f 4) (f 5) (f 6) (f 7) (f 8) (f 10) (f 19) (f 20) (f 21) (f 48) (f 49) w) (r := R K) (xs := []) (gs := []) (Eq.mp (by kernel_rfl) h) (fun f w h => W_seq' (a := (subC B [1, 1, 1, 1, 1, 0, 0, 0, 1, 1, 0, 0, 1, 1, 1, 1, 1, 1, 1, 1, 1, 1, 1, 0])) (b := (subC B [1, 1, 1, 1, 1, 0, 0, 0, 1, 1, 0, 0, 1, 1, 1, 1, 1, 1, 1, 1, 1, 1, 1, 1])) (by kernel_rfl) (W_block' (id := 2) (c := (subC B [1, 1, 1, 1, 1, 0, 0, 0, 1, 1, 0, 0, 1, 1, 1, 1, 1, 1, 1, 1, 1, 1, 1, 0, 0])) (by kernel_rfl) (W_loop' (c := (subC B [1, 1, 1, 1, 1, 0, 0, 0, 1, 1, 0, 0, 1, 1, 1, 1, 1, 1, 1, 1, 1, 1, 1, 0, 0, 0])) (by kernel_rfl) (h.elim fun k h => ⟨k, L22.sound (K := K) (Q := (blkQ 2 (seqQ (W Try.prog ext (subC B [1, 1, 1, 1, 1, 0, 0, 0, 1, 1, 0, 0, 1, 1, 1, 1, 1, 1, 1, 1, 1, 1, 1, 1]) Q) Q))) (kx2 := (C7 K kx1 kn)) (fun f w h => blk_x ((fun f w h => seq_n (C7.sound (K := K) (Q := Q) (kx1 := kx1) (kn := kn) hkx1 hkn hr h)) f w h)) hr k _ _ h⟩)))) hr trivial trivial
def C5 (K : KT) (kx1 : V7) (kn : V7) (script0 w3 like4 out5 v19 v20 v21 : Value) (w : World) : Prop :=
  optW (ixS 38 v19 v21) w fun v24 w =>
  optW (ldN 38 v24 w) w fun v25 w =>
  newW (zCells Try.prog 35) 35 w fun o7 w =>
  stN 38 o7 v25 w fun w =>
  optW (fadO 1 o7) w fun v26 w =>
  optW (ld1 v26 w) w fun v27 w =>
  optW (eqO true v27 (.int .i64 0)) w fun v28 w =>
  Cnd v28 (
  C6 K kx1 kn script0 w3 like4 out5 v21 o7 (.int .i64 1) v19 v20 v21 w) (
  C6 K kx1 kn script0 w3 like4 out5 v21 o7 (.int .i64 0) v19 v20 v21 w)
theorem C5.sound {kx1 : V7} {kn : V7} {Q : QT} (hkx1 : ∀ f w, kx1 (f 0) (f 3) (f 4) (f 5) (f 19) (f 20) (f 21) w → Q (.exit 1) f w) (hkn : ∀ f w, kn (f 0) (f 3) (f 4) (f 5) (f 19) (f 20) (f 21) w → Q .normal f w) (hr : ∀ f w, R K f w → Q .ret f w) {f : Fr} {w : World} (h : C5 K kx1 kn (f 0) (f 3) (f 4) (f 5) (f 19) (f 20) (f 21) w) : W Try.prog ext (subC B [1, 1, 1, 1, 1, 0, 0, 0, 1, 1, 0, 0]) Q f w :=
  W_pre 4 (c2 := (subC B [1, 1, 1, 1, 1, 0, 0, 0, 1, 1, 0, 0, 1, 1, 1, 1])) (by kernel_rfl) (n := fun f w => C6 K kx1 kn (f 0) (f 3) (f 4) (f 5) (f 6) (f 7) (f 8) (f 19) (f 20) (f 21) w) (r := R K) (xs := []) (gs := []) (Eq.mp (by kernel_rfl) h) (fun f w h => C6.sound (K := K) (Q := Q) (kx1 := kx1) (kn := kn) hkx1 hkn hr h) hr trivial trivial
def C3 (K : KT) (kx0 : V0) (kn : V7) (script0 w3 like4 out5 v19 v20 v21 : Value) (w : World) : Prop :=
  optW (arO .lss v21 v20) w fun v22 w =>
  Cnd v22 (
  C5 K (C4 K kn) (C4 K kn) script0 w3 like4 out5 v19 v20 v21 w) (
  kx0 w)
theorem C3.sound {kx0 : V0} {kn : V7} {Q : QT} (hkx0 : ∀ f w, kx0 w → Q (.exit 0) f w) (hkn : ∀ f w, kn (f 0) (f 3) (f 4) (f 5) (f 19) (f 20) (f 21) w → Q .normal f w) (hr : ∀ f w, R K f w → Q .ret f w) {f : Fr} {w : World} (h : C3 K kx0 kn (f 0) (f 3) (f 4) (f 5) (f 19) (f 20) (f 21) w) : W Try.prog ext (subC B [1, 1, 1, 1, 1, 0, 0, 0]) Q f w :=
  W_pre 2 (c2 := (subC B [1, 1, 1, 1, 1, 0, 0, 0, 1, 1])) (by kernel_rfl) (n := fun f w => C5 K (C4 K kn) (C4 K kn) (f 0) (f 3) (f 4) (f 5) (f 19) (f 20) (f 21) w) (r := R K) (xs := [(0, fun f w => kx0 w)]) (gs := []) (Eq.mp (by kernel_rfl) h) (fun f w h => W_seq' (a := (subC B [1, 1, 1, 1, 1, 0, 0, 0, 1, 1, 0])) (b := (subC B [1, 1, 1, 1, 1, 0, 0, 0, 1, 1, 1])) (by kernel_rfl) (W_block' (id := 1) (c := (subC B [1, 1, 1, 1, 1, 0, 0, 0, 1, 1, 0, 0])) (by kernel_rfl) (C5.sound (K := K) (Q := (blkQ 1 (seqQ (W Try.prog ext (subC B [1, 1, 1, 1, 1, 0, 0, 0, 1, 1, 1]) Q) Q))) (kx1 := (C4 K kn)) (kn := (C4 K kn)) (fun f w h => blk_x ((fun f w h => seq_n (C4.sound (K := K) (Q := Q) (kn := kn) hkn hr h)) f w h)) (fun f w h => blk_n ((fun f w h => seq_n (C4.sound (K := K) (Q := Q) (kn := kn) hkn hr h)) f w h)) hr h))) hr ⟨hkx0, trivial⟩ trivial
def L3 (K : KT) (kx0 : V0) : Nat → V7
  | 0, _, _, _, _, _, _, _, _ => False
  | k + 1, script0, w3, like4, out5, v19, v20, v21, w => C3 K kx0 (L3 K kx0 k) script0 w3 like4 out5 v19 v20 v21 w
theorem L3.sound {kx0 : V0} {Q : QT} (hkx0 : ∀ f w, kx0 w → Q (.exit 0) f w) (hr : ∀ f w, R K f w → Q .ret f w) : ∀ (k : Nat) (f : Fr) (w : World), L3 K kx0 k (f 0) (f 3) (f 4) (f 5) (f 19) (f 20) (f 21) w → It (W Try.prog ext (subC B [1, 1, 1, 1, 1, 0, 0, 0])) Q k f w
  | 0, _, _, h => h
  | k + 1, _, _, h => C3.sound (K := K) (Q := seqQ (It (W Try.prog ext (subC B [1, 1, 1, 1, 1, 0, 0, 0])) Q k) Q) hkx0 (fun f w h => seq_n (L3.sound hkx0 hr k f w h)) hr h
def C1 (K : KT) (script0 : Value) (w : World) : Prop :=
  newW (zCells Try.prog 26) 26 w fun w3 w =>
  newW (zCells Try.prog 27) 27 w fun like4 w =>
  optW (lenS script0) w fun v20 w =>
  ∃ k, L3 K (C2 K) k script0 w3 like4 (.slice none 0 0) script0 v20 (.int .i64 0) w
theorem C1.sound {Q : QT} (hr : ∀ f w, R K f w → Q .ret f w) {f : Fr} {w : World} (h : C1 K (f 0) w) : W Try.prog ext (subC B []) Q f w :=
  W_pre 5 (c2 := (subC B [1, 1, 1, 1, 1])) (by kernel_rfl) (n := fun f w => ∃ k, L3 K (C2 K) k (f 0) (f 3) (f 4) (f 5) (f 19) (f 20) (f 21) w) (r := R K) (xs := []) (gs := []) (Eq.mp (by kernel_rfl) h) (fun f w h => W_seq' (a := (subC B [1, 1, 1, 1, 1, 0])) (b := (subC B [1, 1, 1, 1, 1, 1])) (by kernel_rfl) (W_block' (id := 0) (c := (subC B [1, 1, 1, 1, 1, 0, 0])) (by kernel_rfl) (W_loop' (c := (subC B [1, 1, 1, 1, 1, 0, 0, 0])) (by kernel_rfl) (h.elim fun k h => ⟨k, L3.sound (K := K) (Q := (blkQ 0 (seqQ (W Try.prog ext (subC B [1, 1, 1, 1, 1, 1]) Q) Q))) (kx0 := (C2 K)) (fun f w h => blk_x ((fun f w h => seq_n (C2.sound (K := K) (Q := Q) hr h)) f w h)) hr k _ _ h⟩)))) hr trivial trivial
def J (script0 : Value) (w : World) (K : KT) : Prop := C1 K script0 w
theorem sound {script0 : Value} {w : World} (h : J script0 w K) : CallsR Try.prog 3 #[script0] w K :=
  calls_of_W (ext := ext) (args := [script0]) (fn := Try.f3) (c := bodyC Try.f3) mixedOk Try.func3 rfl (by kernel_rfl) (Nat.le_of_ble_eq_true (by kernel_rfl)) (W_flat _ _ _ _ (C1.sound (fun _ _ h => h) h))
end witnesslaw2_CodecWrites
/- witness/witnessplain.Roomy -/
namespace witnessplain_Roomy
noncomputable abbrev B : Code := flat (bodyC Try.f4)
noncomputable abbrev R (K : KT) : Fr → World → Prop := fnPost Try.prog Try.f4.results.toList K .ret
variable {K : KT}
def C1 (K : KT) (b0 : Value) (w : World) : Prop :=
  CallsR Try.prog 11 #[b0] w fun v6 w =>
  semW Try.prog (Instr.buildSlice 23 2 #[(0, (.int .u8 165)), (1, (.int .u8 90))]) w fun v7 w =>
  semW Try.prog (bltS .append #[23, 23] 23 #[v6, v7]) w fun v8 w =>
  optW (lenS b0) w fun v11 w =>
  optW (slS 1 v8 none (some v11) none) w fun v12 w =>
  K (.tuple #[v12, v8]) w
theorem C1.sound {Q : QT} (hr : ∀ f w, R K f w → Q .ret f w) {f : Fr} {w : World} (h : C1 K (f 0) w) : W Try.prog ext (subC B []) Q f w :=
  W_exq (n := fun _ _ => False) (r := R K) (xs := []) (gs := []) (Eq.mp (by kernel_rfl) h) (fun _ _ h => h.elim) hr trivial trivial
def J (b0 : Value) (w : World) (K : KT) : Prop := C1 K b0 w
theorem sound {b0 : Value} {w : World} (h : J b0 w K) : CallsR Try.prog 4 #[b0] w K :=
  calls_of_W (ext := ext) (args := [b0]) (fn := Try.f4) (c := bodyC Try.f4) mixedOk Try.func4 rfl (by kernel_rfl) (Nat.le_of_ble_eq_true (by kernel_rfl)) (W_flat _ _ _ _ (C1.sound (fun _ _ h => h) h))
end witnessplain_Roomy
/- witness/witnesslaw2.lay -/
namespace witnesslaw2_lay
noncomputable abbrev B : Code := flat (bodyC Try.f5)
noncomputable abbrev R (K : KT) : Fr → World → Prop := fnPost Try.prog Try.f5.results.toList K .ret
variable {K : KT}
def C2 (K : KT) (kn : V0) (w0 o3 v5 : Value) (w : World) : Prop :=
  optW (eqO false v5 (.int .i64 1)) w fun v7 w =>
  Cnd v7 (
  optW (fadO 2 o3) w fun v9 w =>
  optW (ld1 v9 w) w fun v10 w =>
  optW (cvO .u8 v10) w fun v11 w =>
  CallsR Try.prog 12 #[w0, v11] w fun v12 w =>
  kn w) (
  optW (eqO false v5 (.int .i64 2)) w fun v14 w =>
  Cnd v14 (
  optW (fadO 2 o3) w fun v16 w =>
  optW (ld1 v16 w) w fun v17 w =>
  optW (cvO .u32 v17) w fun v18 w =>
  CallsR Try.prog 13 #[w0, v18] w fun v19 w =>
  kn w) (
  optW (eqO false v5 (.int .i64 3)) w fun v21 w =>
  Cnd v21 (
  optW (fadO 2 o3) w fun v23 w =>
  optW (ld1 v23 w) w fun v24 w =>
  CallsR Try.prog 14 #[w0, v24] w fun v25 w =>
  kn w) (
  optW (eqO false v5 (.int .i64 4)) w fun v27 w =>
  Cnd v27 (
  optW (fadO 2 o3) w fun v29 w =>
  optW (ld1 v29 w) w fun v30 w =>
  CallsR Try.prog 15 #[w0, v30] w fun v31 w =>
  kn w) (
  optW (eqO false v5 (.int .i64 5)) w fun v33 w =>
  Cnd v33 (
  optW (fadO 4 o3) w fun v35 w =>
  optW (ld1 v35 w) w fun v36 w =>
  CallsR Try.prog 16 #[w0, v36] w fun v37 w =>
  kn w) (
  optW (eqO false v5 (.int .i64 6)) w fun v39 w =>
  Cnd v39 (
  optW (fadO 4 o3) w fun v41 w =>
  optW (ld1 v41 w) w fun v42 w =>
  CallsR Try.prog 17 #[w0, v42] w fun v43 w =>
  kn w) (
  optW (eqO false v5 (.int .i64 7)) w fun v45 w =>
  Cnd v45 (
  optW (fadO 5 o3) w fun v47 w =>
  optW (fadO 0 v47) w fun v48 w =>
  optW (ldN 32 v48 w) w fun v49 w =>
  CallsR Try.prog 18 #[w0, v49] w fun v50 w =>
  kn w) (
  optW (eqO false v5 (.int .i64 8)) w fun v52 w =>
  Cnd v52 (
  optW (fadO 5 o3) w fun v54 w =>
  optW (ldN 33 v54 w) w fun v55 w =>
  CallsR Try.prog 19 #[w0, v55] w fun v56 w =>
  kn w) (
  kn w))))))))
theorem C2.sound {kn : V0} {Q : QT} (hkn : ∀ f w, kn w → Q .normal f w) (hr : ∀ f w, R K f w → Q .ret f w) {f : Fr} {w : World} (h : C2 K kn (f 0) (f 3) (f 5) w) : W Try.prog ext (subC B [1, 1, 0]) Q f w :=
  W_exq (n := fun f w => kn w) (r := R K) (xs := []) (gs := []) (Eq.mp (by kernel_rfl) h) hkn hr trivial trivial
def C1 (K : KT) (kn : V0) (w0 o1 : Value) (w : World) : Prop :=
  newW (Value.cells o1) 35 w fun o3 w =>
  optW (fadO 0 o3) w fun v4 w =>
  optW (ld1 v4 w) w fun v5 w =>
  C2 K kn w0 o3 v5 w
theorem C1.sound {kn : V0} {Q : QT} (hkn : ∀ f w, kn w → Q .normal f w) (hr : ∀ f w, R K f w → Q .ret f w) {f : Fr} {w : World} (h : C1 K kn (f 0) (f 1) w) : W Try.prog ext (subC B []) Q f w :=
  W_pre 2 (c2 := (subC B [1, 1])) (by kernel_rfl) (n := fun f w => C2 K kn (f 0) (f 3) (f 5) w) (r := R K) (xs := []) (gs := []) (Eq.mp (by kernel_rfl) h) (fun f w h => W_block' (id := 0) (c := (subC B [1, 1, 0])) (by kernel_rfl) (C2.sound (K := K) (Q := (blkQ 0 Q)) (kn := kn) (fun f w h => blk_n (hkn f w h)) hr h)) hr trivial trivial
def J (w0 o1 : Value) (w : World) (K : KT) : Prop := C1 K (fun w => K (.tuple #[]) w) w0 o1 w
theorem sound {w0 o1 : Value} {w : World} (h : J w0 o1 w K) : CallsR Try.prog 5 #[w0, o1] w K :=
  calls_of_W (ext := ext) (args := [w0, o1]) (fn := Try.f5) (c := bodyC Try.f5) mixedOk Try.func5 rfl (by kernel_rfl) (Nat.le_of_ble_eq_true (by kernel_rfl)) (W_flat _ _ _ _ (C1.sound (fun f w h => Eq.mp (by kernel_rfl) h) (fun _ _ h => h) h))
end witnesslaw2_lay
/- witness/witnessplain.Untouched -/
namespace witnessplain_Untouched
noncomputable abbrev B : Code := flat (bodyC Try.f6)
noncomputable abbrev R (K : KT) : Fr → World → Prop := fnPost Try.prog Try.f6.results.toList K .ret
variable {K : KT}
def C1 (K : KT) (all0 b1 : Value) (w : World) : Prop :=
  optW (lenS b1) w fun v7 w =>
  optW (lenS all0) w fun v9 w =>
  optW (arO .add v7 (.int .i64 2)) w fun v11 w =>
  optW (eqO false v9 v11) w fun v12 w =>
  gOp v12 true w (fun K => K all0 w) fun v14 w =>
  gOp v12 true w (fun K => K v7 w) fun v15 w =>
  gOp v12 true w (fun K => optW (slS 1 v14 none (some v15) none) w K) fun v16 w =>
  gOp v12 true w (fun K => K b1 w) fun v17 w =>
  gOp v12 true w (fun K => CallsR Try.prog 10 #[v16, v17] w K) fun v18 w =>
  optW (pickO v12 v18 (.bool false)) w fun v19 w =>
  gOp v19 true w (fun K => K all0 w) fun v21 w =>
  gOp v19 true w (fun K => K v7 w) fun v22 w =>
  gOp v19 true w (fun K => optW (ixS 1 v21 v22) w K) fun v23 w =>
  gOp v19 true w (fun K => optW (ld1 v23 w) w K) fun v24 w =>
  gOp v19 true w (fun K => optW (eqO false v24 (.int .u8 165)) w K) fun v25 w =>
  optW (pickO v19 v25 (.bool false)) w fun v26 w =>
  gOp v26 true w (fun K => K all0 w) fun v28 w =>
  gOp v26 true w (fun K => K v7 w) fun v29 w =>
  gOp v26 true w (fun K => optW (arO .add v29 (.int .i64 1)) w K) fun v30 w =>
  gOp v26 true w (fun K => optW (ixS 1 v28 v30) w K) fun v31 w =>
  gOp v26 true w (fun K => optW (ld1 v31 w) w K) fun v32 w =>
  gOp v26 true w (fun K => optW (eqO false v32 (.int .u8 90)) w K) fun v33 w =>
  optW (pickO v26 v33 (.bool false)) w fun v34 w =>
  K v34 w
theorem C1.sound {Q : QT} (hr : ∀ f w, R K f w → Q .ret f w) {f : Fr} {w : World} (h : C1 K (f 0) (f 1) w) : W Try.prog ext (subC B []) Q f w :=
  W_exq (n := fun _ _ => False) (r := R K) (xs := []) (gs := []) (Eq.mp (by kernel_rfl) h) (fun _ _ h => h.elim) hr trivial trivial
def J (all0 b1 : Value) (w : World) (K : KT) : Prop := C1 K all0 b1 w
theorem sound {all0 b1 : Value} {w : World} (h : J all0 b1 w K) : CallsR Try.prog 6 #[all0, b1] w K :=
  calls_of_W (ext := ext) (args := [all0, b1]) (fn := Try.f6) (c := bodyC Try.f6) mixedOk Try.func6 rfl (by kernel_rfl) (Nat.le_of_ble_eq_true (by kernel_rfl)) (W_flat _ _ _ _ (C1.sound (fun _ _ h => h) h))
end witnessplain_Untouched
/- witness/witnesslaw2.laid -/
namespace witnesslaw2_laid
noncomputable abbrev B : Code := flat (bodyC Try.f7)
noncomputable abbrev R (K : KT) : Fr → World → Prop := fnPost Try.prog Try.f7.results.toList K .ret
variable {K : KT}
def C2 (K : KT) (b3 : Value) (w : World) : Prop :=
  K b3 w
theorem C2.sound {Q : QT} (hr : ∀ f w, R K f w → Q .ret f w) {f : Fr} {w : World} (h : C2 K (f 3) w) : W Try.prog ext (subC B [1, 1, 1, 1]) Q f w :=
  W_exq (n := fun _ _ => False) (r := R K) (xs := []) (gs := []) (Eq.mp (by kernel_rfl) h) (fun _ _ h => h.elim) hr trivial trivial
def C4 (K : KT) (o1 : Value) (w : World) : Prop :=
  optW (fadO 2 o1) w fun v9 w =>
  optW (ld1 v9 w) w fun v10 w =>
  CallsR Try.prog 20 #[v10, (.int .i64 1)] w fun v11 w =>
  K v11 w
theorem C4.sound {Q : QT} (hr : ∀ f w, R K f w → Q .ret f w) {f : Fr} {w : World} (h : C4 K (f 1) w) : W Try.prog ext (subC B [1, 1, 1, 0, 0, 1, 0]) Q f w :=
  W_exq (n := fun _ _ => False) (r := R K) (xs := []) (gs := []) (Eq.mp (by kernel_rfl) h) (fun _ _ h => h.elim) hr trivial trivial
def C6 (K : KT) (o1 : Value) (w : World) : Prop :=
  optW (fadO 2 o1) w fun v14 w =>
  optW (ld1 v14 w) w fun v15 w =>
  CallsR Try.prog 20 #[v15, (.int .i64 4)] w fun v16 w =>
  K v16 w
theorem C6.sound {Q : QT} (hr : ∀ f w, R K f w → Q .ret f w) {f : Fr} {w : World} (h : C6 K (f 1) w) : W Try.prog ext (subC B [1, 1, 1, 0, 0, 1, 1, 1, 0]) Q f w :=
  W_exq (n := fun _ _ => False) (r := R K) (xs := []) (gs := []) (Eq.mp (by kernel_rfl) h) (fun _ _ h => h.elim) hr trivial trivial
def C8 (K : KT) (o1 : Value) (w : World) : Prop :=
  optW (fadO 2 o1) w fun v19 w =>
  optW (ld1 v19 w) w fun v20 w =>
  CallsR Try.prog 20 #[v20, (.int .i64 8)] w fun v21 w =>
  K v21 w
theorem C8.sound {Q : QT} (hr : ∀ f w, R K f w → Q .ret f w) {f : Fr} {w : World} (h : C8 K (f 1) w) : W Try.prog ext (subC B [1, 1, 1, 0, 0, 1, 1, 1, 1, 1, 0]) Q f w :=
  W_exq (n := fun _ _ => False) (r := R K) (xs := []) (gs := []) (Eq.mp (by kernel_rfl) h) (fun _ _ h => h.elim) hr trivial trivial
def C10 (K : KT) (o1 : Value) (w : World) : Prop :=
  optW (fadO 2 o1) w fun v24 w =>
  optW (ld1 v24 w) w fun v25 w =>
  CallsR Try.prog 21 #[v25] w fun v26 w =>
  K v26 w
theorem C10.sound {Q : QT} (hr : ∀ f w, R K f w → Q .ret f w) {f : Fr} {w : World} (h : C10 K (f 1) w) : W Try.prog ext (subC B [1, 1, 1, 0, 0, 1, 1, 1, 1, 1, 1, 1, 0]) Q f w :=
  W_exq (n := fun _ _ => False) (r := R K) (xs := []) (gs := []) (Eq.mp (by kernel_rfl) h) (fun _ _ h => h.elim) hr trivial trivial
def C12 (K : KT) (o1 : Value) (w : World) : Prop :=
  optW (fadO 4 o1) w fun v29 w =>
  optW (ld1 v29 w) w fun v30 w =>
  K v30 w
theorem C12.sound {Q : QT} (hr : ∀ f w, R K f w → Q .ret f w) {f : Fr} {w : World} (h : C12 K (f 1) w) : W Try.prog ext (subC B [1, 1, 1, 0, 0, 1, 1, 1, 1, 1, 1, 1, 1, 1, 0]) Q f w :=
  W_exq (n := fun _ _ => False) (r := R K) (xs := []) (gs := []) (Eq.mp (by kernel_rfl) h) (fun _ _ h => h.elim) hr trivial trivial
def C14 (K : KT) (o1 : Value) (w : World) : Prop :=
  optW (fadO 4 o1) w fun v33 w =>
  optW (ld1 v33 w) w fun v34 w =>
  CallsR Try.prog 22 #[v34] w fun v35 w =>
  K v35 w
theorem C14.sound {Q : QT} (hr : ∀ f w, R K f w → Q .ret f w) {f : Fr} {w : World} (h : C14 K (f 1) w) : W Try.prog ext (subC B [1, 1, 1, 0, 0, 1, 1, 1, 1, 1, 1, 1, 1, 1, 1, 1, 0]) Q f w :=
  W_exq (n := fun _ _ => False) (r := R K) (xs := []) (gs := []) (Eq.mp (by kernel_rfl) h) (fun _ _ h => h.elim) hr trivial trivial
def C18 (K : KT) (kn : V1) (o1 b3 : Value) (w : World) : Prop :=
  optW (fadO 0 o1) w fun v51 w =>
  optW (ld1 v51 w) w fun v52 w =>
  optW (eqO false v52 (.int .i64 8)) w fun v53 w =>
  Cnd v53 (
  optW (fadO 5 o1) w fun v55 w =>
  optW (fadO 32 v55) w fun v56 w =>
  optW (ld1 v56 w) w fun v57 w =>
  semW Try.prog (Instr.buildSlice 23 1 #[(0, v57)]) w fun v58 w =>
  semW Try.prog (bltS .append #[23, 23] 23 #[b3, v58]) w fun v59 w =>
  kn v59 w) (
  kn b3 w)
theorem C18.sound {kn : V1} {Q : QT} (hkn : ∀ f w, kn (f 3) w → Q .normal f w) (hr : ∀ f w, R K f w → Q .ret f w) {f : Fr} {w : World} (h : C18 K kn (f 1) (f 3) w) : W Try.prog ext (subC B [1, 1, 1, 0, 0, 1, 1, 1, 1, 1, 1, 1, 1, 1, 1, 1, 1, 1, 1, 0, 1, 1]) Q f w :=
  W_exq (n := fun f w => kn (f 3) w) (r := R K) (xs := []) (gs := []) (Eq.mp (by kernel_rfl) h) hkn hr trivial trivial
def C19 (K : KT) (kx1 : V2) (kn : V3) (o1 b3 i4 : Value) (w : World) : Prop :=
  optW (arO .lss i4 (.int .i64 32)) w fun v40 w =>
  Cnd v40 (
  optW (fadO 5 o1) w fun v45 w =>
  optW (fadO 0 v45) w fun v46 w =>
  optW (ixA 32 1 v46 i4) w fun v47 w =>
  optW (ld1 v47 w) w fun v48 w =>
  semW Try.prog (Instr.buildSlice 23 1 #[(0, v48)]) w fun v49 w =>
  semW Try.prog (bltS .append #[23, 23] 23 #[b3, v49]) w fun v50 w =>
  optW (arO .add i4 (.int .i64 1)) w fun v42 w =>
  kn o1 v50 v42 w) (
  kx1 o1 b3 w)
theorem C19.sound {kx1 : V2} {kn : V3} {Q : QT} (hkx1 : ∀ f w, kx1 (f 1) (f 3) w → Q (.exit 1) f w) (hkn : ∀ f w, kn (f 1) (f 3) (f 4) w → Q .normal f w) (hr : ∀ f w, R K f w → Q .ret f w) {f : Fr} {w : World} (h : C19 K kx1 kn (f 1) (f 3) (f 4) w) : W Try.prog ext (subC B [1, 1, 1, 0, 0, 1, 1, 1, 1, 1, 1, 1, 1, 1, 1, 1, 1, 1, 1, 0, 1, 0, 0, 0]) Q f w :=
  W_exq (n := fun f w => kn (f 1) (f 3) (f 4) w) (r := R K) (xs := [(1, fun f w => kx1 (f 1) (f 3) w)]) (gs := []) (Eq.mp (by kernel_rfl) h) hkn hr ⟨hkx1, trivial⟩ trivial
def L19 (K : KT) (kx1 : V2) : Nat → V3
  | 0, _, _, _, _ => False
  | k + 1, o1, b3, i4, w => C19 K kx1 (L19 K kx1 k) o1 b3 i4 w
theorem L19.sound {kx1 : V2} {Q : QT} (hkx1 : ∀ f w, kx1 (f 1) (f 3) w → Q (.exit 1) f w) (hr : ∀ f w, R K f w → Q .ret f w) : ∀ (k : Nat) (f : Fr) (w : World), L19 K kx1 k (f 1) (f 3) (f 4) w → It (W Try.prog ext (subC B [1, 1, 1, 0, 0, 1, 1, 1, 1, 1, 1, 1, 1, 1, 1, 1, 1, 1, 1, 0, 1, 0, 0, 0])) Q k f w
  | 0, _, _, h => h
  | k + 1, _, _, h => C19.sound (K := K) (Q := seqQ (It (W Try.prog ext (subC B [1, 1, 1, 0, 0, 1, 1, 1, 1, 1, 1, 1, 1, 1, 1, 1, 1, 1, 1, 0, 1, 0, 0, 0])) Q k) Q) hkx1 (fun f w h => seq_n (L19.sound hkx1 hr k f w h)) hr h
def C17 (K : KT) (kn : V1) (o1 b3 : Value) (w : World) : Prop :=
  ∃ k, L19 K (C18 K kn) k o1 b3 (.int .i64 0) w
theorem C17.sound {kn : V1} {Q : QT} (hkn : ∀ f w, kn (f 3) w → Q .normal f w) (hr : ∀ f w, R K f w → Q .ret f w) {f : Fr} {w : World} (h : C17 K kn (f 1) (f 3) w) : W Try.prog ext (subC B [1, 1, 1, 0, 0, 1, 1, 1, 1, 1, 1, 1, 1, 1, 1, 1, 1, 1, 1, 0]) Q f w :=
  W_pre 1 (c2 := (subC B [1, 1, 1, 0, 0, 1, 1, 1, 1, 1, 1, 1, 1, 1, 1, 1, 1, 1, 1, 0, 1])) (by kernel_rfl) (n := fun f w => ∃ k, L19 K (C18 K kn) k (f 1) (f 3) (f 4) w) (r := R K) (xs := []) (gs := []) (Eq.mp (by kernel_rfl) h) (fun f w h => W_seq' (a := (subC B [1, 1, 1, 0, 0, 1, 1, 1, 1, 1, 1, 1, 1, 1, 1, 1, 1, 1, 1, 0, 1, 0])) (b := (subC B [1, 1, 1, 0, 0, 1, 1, 1, 1, 1, 1, 1, 1, 1, 1, 1, 1, 1, 1, 0, 1, 1])) (by kernel_rfl) (W_block' (id := 1) (c := (subC B [1, 1, 1, 0, 0, 1, 1, 1, 1, 1, 1, 1, 1, 1, 1, 1, 1, 1, 1, 0, 1, 0, 0])) (by kernel_rfl) (W_loop' (c := (subC B [1, 1, 1, 0, 0, 1, 1, 1, 1, 1, 1, 1, 1, 1, 1, 1, 1, 1, 1, 0, 1, 0, 0, 0])) (by kernel_rfl) (h.elim fun k h => ⟨k, L19.sound (K := K) (Q := (blkQ 1 (seqQ (W Try.prog ext (subC B [1, 1, 1, 0, 0, 1, 1, 1, 1, 1, 1, 1, 1, 1, 1, 1, 1, 1, 1, 0, 1, 1]) Q) Q))) (kx1 := (C18 K kn)) (fun f w h => blk_x ((fun f w h => seq_n (C18.sound (K := K) (Q := Q) (kn := kn) hkn hr h)) f w h)) hr k _ _ h⟩)))) hr trivial trivial
def C20 (K : KT) (kn : V1) (b3 : Value) (w : World) : Prop :=
  kn b3 w
theorem C20.sound {kn : V1} {Q : QT} (hkn : ∀ f w, kn (f 3) w → Q .normal f w) (hr : ∀ f w, R K f w → Q .ret f w) {f : Fr} {w : World} (h : C20 K kn (f 3) w) : W Try.prog ext (subC B [1, 1, 1, 0, 0, 1, 1, 1, 1, 1, 1, 1, 1, 1, 1, 1, 1, 1, 1, 1]) Q f w :=
  W_exq (n := fun f w => kn (f 3) w) (r := R K) (xs := []) (gs := []) (Eq.mp (by kernel_rfl) h) hkn hr trivial trivial
def C16 (K : KT) (kn : V1) (o1 b3 v36 : Value) (w : World) : Prop :=
  Cnd v36 (C17 K kn o1 b3 w) (C20 K kn b3 w)
theorem C16.sound {kn : V1} {Q : QT} (hkn : ∀ f w, kn (f 3) w → Q .normal f w) (hr : ∀ f w, R K f w → Q .ret f w) {f : Fr} {w : World} (h : C16 K kn (f 1) (f 3) (f 36) w) : W Try.prog ext (subC B [1, 1, 1, 0, 0, 1, 1, 1, 1, 1, 1, 1, 1, 1, 1, 1, 1, 1, 1]) Q f w :=
  W_cond' (c := (.tmp 36)) (a := (subC B [1, 1, 1, 0, 0, 1, 1, 1, 1, 1, 1, 1, 1, 1, 1, 1, 1, 1, 1, 0])) (b := (subC B [1, 1, 1, 0, 0, 1, 1, 1, 1, 1, 1, 1, 1, 1, 1, 1, 1, 1, 1, 1])) (by kernel_rfl) h (fun h => C17.sound (K := K) (Q := Q) (kn := kn) hkn hr h) (fun h => C20.sound (K := K) (Q := Q) (kn := kn) hkn hr h)
def C15 (K : KT) (kn : V1) (o1 b3 v6 : Value) (w : World) : Prop :=
  optW (eqO false v6 (.int .i64 7)) w fun v37 w =>
  Cnd v37 (
  C16 K kn o1 b3 v37 w) (
  optW (eqO false v6 (.int .i64 8)) w fun v38 w =>
  C16 K kn o1 b3 v38 w)
theorem C15.sound {kn : V1} {Q : QT} (hkn : ∀ f w, kn (f 3) w → Q .normal f w) (hr : ∀ f w, R K f w → Q .ret f w) {f : Fr} {w : World} (h : C15 K kn (f 1) (f 3) (f 6) w) : W Try.prog ext (subC B [1, 1, 1, 0, 0, 1, 1, 1, 1, 1, 1, 1, 1, 1, 1, 1, 1]) Q f w :=
  W_pre 2 (c2 := (subC B [1, 1, 1, 0, 0, 1, 1, 1, 1, 1, 1, 1, 1, 1, 1, 1, 1, 1, 1])) (by kernel_rfl) (n := fun f w => C16 K kn (f 1) (f 3) (f 36) w) (r := R K) (xs := []) (gs := []) (Eq.mp (by kernel_rfl) h) (fun f w h => C16.sound (K := K) (Q := Q) (kn := kn) hkn hr h) hr trivial trivial
def C13 (K : KT) (kn : V1) (o1 b3 v6 : Value) (w : World) : Prop :=
  optW (eqO false v6 (.int .i64 6)) w fun v32 w =>
  Cnd v32 (C14 K o1 w) (C15 K kn o1 b3 v6 w)
theorem C13.sound {kn : V1} {Q : QT} (hkn : ∀ f w, kn (f 3) w → Q .normal f w) (hr : ∀ f w, R K f w → Q .ret f w) {f : Fr} {w : World} (h : C13 K kn (f 1) (f 3) (f 6) w) : W Try.prog ext (subC B [1, 1, 1, 0, 0, 1, 1, 1, 1, 1, 1, 1, 1, 1, 1]) Q f w :=
  W_pre 1 (c2 := (subC B [1, 1, 1, 0, 0, 1, 1, 1, 1, 1, 1, 1, 1, 1, 1, 1])) (by kernel_rfl) (n := fun f w => Cnd (f 31) (C14 K (f 1) w) (C15 K kn (f 1) (f 3) (f 6) w)) (r := R K) (xs := []) (gs := []) (Eq.mp (by kernel_rfl) h) (fun f w h => W_cond' (c := (.tmp 31)) (a := (subC B [1, 1, 1, 0, 0, 1, 1, 1, 1, 1, 1, 1, 1, 1, 1, 1, 0])) (b := (subC B [1, 1, 1, 0, 0, 1, 1, 1, 1, 1, 1, 1, 1, 1, 1, 1, 1])) (by kernel_rfl) h (fun h => C14.sound (K := K) (Q := Q) hr h) (fun h => C15.sound (K := K) (Q := Q) (kn := kn) hkn hr h)) hr trivial trivial
def C11 (K : KT) (kn : V1) (o1 b3 v6 : Value) (w : World) : Prop :=
  optW (eqO false v6 (.int .i64 5)) w fun v28 w =>
  Cnd v28 (C12 K o1 w) (C13 K kn o1 b3 v6 w)
theorem C11.sound {kn : V1} {Q : QT} (hkn : ∀ f w, kn (f 3) w → Q .normal f w) (hr : ∀ f w, R K f w → Q .ret f w) {f : Fr} {w : World} (h : C11 K kn (f 1) (f 3) (f 6) w) : W Try.prog ext (subC B [1, 1, 1, 0, 0, 1, 1, 1, 1, 1, 1, 1, 1]) Q f w :=
  W_pre 1 (c2 := (subC B [1, 1, 1, 0, 0, 1, 1, 1, 1, 1, 1, 1, 1, 1])) (by kernel_rfl) (n := fun f w => Cnd (f 27) (C12 K (f 1) w) (C13 K kn (f 1) (f 3) (f 6) w)) (r := R K) (xs := []) (gs := []) (Eq.mp (by kernel_rfl) h) (fun f w h => W_cond' (c := (.tmp 27)) (a := (subC B [1, 1, 1, 0, 0, 1, 1, 1, 1, 1, 1, 1, 1, 1, 0])) (b := (subC B [1, 1, 1, 0, 0, 1, 1, 1, 1, 1, 1, 1, 1, 1, 1])) (by kernel_rfl) h (fun h => C12.sound (K := K) (Q := Q) hr h) (fun h => C13.sound (K := K) (Q := Q) (kn := kn) hkn hr h)) hr trivial trivial
def C9 (K : KT) (kn : V1) (o1 b3 v6 : Value) (w : World) : Prop :=
  optW (eqO false v6 (.int .i64 4)) w fun v23 w =>
  Cnd v23 (C10 K o1 w) (C11 K kn o1 b3 v6 w)
theorem C9.sound {kn : V1} {Q : QT} (hkn : ∀ f w, kn (f 3) w → Q .normal f w) (hr : ∀ f w, R K f w → Q .ret f w) {f : Fr} {w : World} (h : C9 K kn (f 1) (f 3) (f 6) w) : W Try.prog ext (subC B [1, 1, 1, 0, 0, 1, 1, 1, 1, 1, 1]) Q f w :=
  W_pre 1 (c2 := (subC B [1, 1, 1, 0, 0, 1, 1, 1, 1, 1, 1, 1])) (by kernel_rfl) (n := fun f w => Cnd (f 22) (C10 K (f 1) w) (C11 K kn (f 1) (f 3) (f 6) w)) (r := R K) (xs := []) (gs := []) (Eq.mp (by kernel_rfl) h) (fun f w h => W_cond' (c := (.tmp 22)) (a := (subC B [1, 1, 1, 0, 0, 1, 1, 1, 1, 1, 1, 1, 0])) (b := (subC B [1, 1, 1, 0, 0, 1, 1, 1, 1, 1, 1, 1, 1])) (by kernel_rfl) h (fun h => C10.sound (K := K) (Q := Q) hr h) (fun h => C11.sound (K := K) (Q := Q) (kn := kn) hkn hr h)) hr trivial trivial
def C7 (K : KT) (kn : V1) (o1 b3 v6 : Value) (w : World) : Prop :=
  optW (eqO false v6 (.int .i64 3)) w fun v18 w =>
  Cnd v18 (C8 K o1 w) (C9 K kn o1 b3 v6 w)
theorem C7.sound {kn : V1} {Q : QT} (hkn : ∀ f w, kn (f 3) w → Q .normal f w) (hr : ∀ f w, R K f w → Q .ret f w) {f : Fr} {w : World} (h : C7 K kn (f 1) (f 3) (f 6) w) : W Try.prog ext (subC B [1, 1, 1, 0, 0, 1, 1, 1, 1]) Q f w :=
  W_pre 1 (c2 := (subC B [1, 1, 1, 0, 0, 1, 1, 1, 1, 1])) (by kernel_rfl) (n := fun f w => Cnd (f 17) (C8 K (f 1) w) (C9 K kn (f 1) (f 3) (f 6) w)) (r := R K) (xs := []) (gs := []) (Eq.mp (by kernel_rfl) h) (fun f w h => W_cond' (c := (.tmp 17)) (a := (subC B [1, 1, 1, 0, 0, 1, 1, 1, 1, 1, 0])) (b := (subC B [1, 1, 1, 0, 0, 1, 1, 1, 1, 1, 1])) (by kernel_rfl) h (fun h => C8.sound (K := K) (Q := Q) hr h) (fun h => C9.sound (K := K) (Q := Q) (kn := kn) hkn hr h)) hr trivial trivial
def C5 (K : KT) (kn : V1) (o1 b3 v6 : Value) (w : World) : Prop :=
  optW (eqO false v6 (.int .i64 2)) w fun v13 w =>
  Cnd v13 (C6 K o1 w) (C7 K kn o1 b3 v6 w)
theorem C5.sound {kn : V1} {Q : QT} (hkn : ∀ f w, kn (f 3) w → Q .normal f w) (hr : ∀ f w, R K f w → Q .ret f w) {f : Fr} {w : World} (h : C5 K kn (f 1) (f 3) (f 6) w) : W Try.prog ext (subC B [1, 1, 1, 0, 0, 1, 1]) Q f w :=
  W_pre 1 (c2 := (subC B [1, 1, 1, 0, 0, 1, 1, 1])) (by kernel_rfl) (n := fun f w => Cnd (f 12) (C6 K (f 1) w) (C7 K kn (f 1) (f 3) (f 6) w)) (r := R K) (xs := []) (gs := []) (Eq.mp (by kernel_rfl) h) (fun f w h => W_cond' (c := (.tmp 12)) (a := (subC B [1, 1, 1, 0, 0, 1, 1, 1, 0])) (b := (subC B [1, 1, 1, 0, 0, 1, 1, 1, 1])) (by kernel_rfl) h (fun h => C6.sound (K := K) (Q := Q) hr h) (fun h => C7.sound (K := K) (Q := Q) (kn := kn) hkn hr h)) hr trivial trivial
def C3 (K : KT) (kn : V1) (o1 b3 v6 : Value) (w : World) : Prop :=
  optW (eqO false v6 (.int .i64 1)) w fun v8 w =>
  Cnd v8 (C4 K o1 w) (C5 K kn o1 b3 v6 w)
theorem C3.sound {kn : V1} {Q : QT} (hkn : ∀ f w, kn (f 3) w → Q .normal f w) (hr : ∀ f w, R K f w → Q .ret f w) {f : Fr} {w : World} (h : C3 K kn (f 1) (f 3) (f 6) w) : W Try.prog ext (subC B [1, 1, 1, 0, 0]) Q f w :=
  W_pre 1 (c2 := (subC B [1, 1, 1, 0, 0, 1])) (by kernel_rfl) (n := fun f w => Cnd (f 7) (C4 K (f 1) w) (C5 K kn (f 1) (f 3) (f 6) w)) (r := R K) (xs := []) (gs := []) (Eq.mp (by kernel_rfl) h) (fun f w h => W_cond' (c := (.tmp 7)) (a := (subC B [1, 1, 1, 0, 0, 1, 0])) (b := (subC B [1, 1, 1, 0, 0, 1, 1])) (by kernel_rfl) h (fun h => C4.sound (K := K) (Q := Q) hr h) (fun h => C5.sound (K := K) (Q := Q) (kn := kn) hkn hr h)) hr trivial trivial
def C1 (K : KT) (o0 : Value) (w : World) : Prop :=
  newW (Value.cells o0) 35 w fun o1 w =>
  optW (fadO 0 o1) w fun v5 w =>
  optW (ld1 v5 w) w fun v6 w =>
  C3 K (C2 K) o1 (.slice none 0 0) v6 w
theorem C1.sound {Q : QT} (hr : ∀ f w, R K f w → Q .ret f w) {f : Fr} {w : World} (h : C1 K (f 0) w) : W Try.prog ext (subC B []) Q f w :=
  W_pre 3 (c2 := (subC B [1, 1, 1])) (by kernel_rfl) (n := fun f w => C3 K (C2 K) (f 1) (f 3) (f 6) w) (r := R K) (xs := []) (gs := []) (Eq.mp (by kernel_rfl) h) (fun f w h => W_seq' (a := (subC B [1, 1, 1, 0])) (b := (subC B [1, 1, 1, 1])) (by kernel_rfl) (W_block' (id := 0) (c := (subC B [1, 1, 1, 0, 0])) (by kernel_rfl) (C3.sound (K := K) (Q := (blkQ 0 (seqQ (W Try.prog ext (subC B [1, 1, 1, 1]) Q) Q))) (kn := (C2 K)) (fun f w h => blk_n ((fun f w h => seq_n (C2.sound (K := K) (Q := Q) hr h)) f w h)) hr h))) hr trivial trivial
def J (o0 : Value) (w : World) (K : KT) : Prop := C1 K o0 w
theorem sound {o0 : Value} {w : World} (h : J o0 w K) : CallsR Try.prog 7 #[o0] w K :=
  calls_of_W (ext := ext) (args := [o0]) (fn := Try.f7) (c := bodyC Try.f7) mixedOk Try.func7 rfl (by kernel_rfl) (Nat.le_of_ble_eq_true (by kernel_rfl)) (W_flat _ _ _ _ (C1.sound (fun _ _ h => h) h))
end witnesslaw2_laid
/- (*witness/codec.Writer).Bytes -/
namespace codec_Writer_Bytes
noncomputable abbrev B : Code := flat (bodyC Try.f8)
noncomputable abbrev R (K : KT) : Fr → World → Prop := fnPost Try.prog Try.f8.results.toList K .ret
variable {K : KT}
def C1 (K : KT) (w0 : Value) (w : World) : Prop :=
  optW (nilO w0) w fun v5 w =>
  optW (fadO 0 v5) w fun v6 w =>
  optW (ld1 v6 w) w fun v7 w =>
  optW (lenS v7) w fun v8 w =>
  semW Try.prog (Instr.makeSlice 23 v8 v8) w fun v9 w =>
  optW (nilO w0) w fun v12 w =>
  optW (fadO 0 v12) w fun v13 w =>
  optW (ld1 v13 w) w fun v14 w =>
  semW Try.prog (bltS .copy #[23, 23] 3 #[v9, v14]) w fun v15 w =>
  K v9 w
theorem C1.sound {Q : QT} (hr : ∀ f w, R K f w → Q .ret f w) {f : Fr} {w : World} (h : C1 K (f 0) w) : W Try.prog ext (subC B []) Q f w :=
  W_exq (n := fun _ _ => False) (r := R K) (xs := []) (gs := []) (Eq.mp (by kernel_rfl) h) (fun _ _ h => h.elim) hr trivial trivial
def J (w0 : Value) (w : World) (K : KT) : Prop := C1 K w0 w
theorem sound {w0 : Value} {w : World} (h : J w0 w K) : CallsR Try.prog 8 #[w0] w K :=
  calls_of_W (ext := ext) (args := [w0]) (fn := Try.f8) (c := bodyC Try.f8) mixedOk Try.func8 rfl (by kernel_rfl) (Nat.le_of_ble_eq_true (by kernel_rfl)) (W_flat _ _ _ _ (C1.sound (fun _ _ h => h) h))
end codec_Writer_Bytes
/- (*witness/codec.Writer).Len -/
namespace codec_Writer_Len
noncomputable abbrev B : Code := flat (bodyC Try.f9)
noncomputable abbrev R (K : KT) : Fr → World → Prop := fnPost Try.prog Try.f9.results.toList K .ret
variable {K : KT}
def C1 (K : KT) (w0 : Value) (w : World) : Prop :=
  optW (nilO w0) w fun v4 w =>
  optW (fadO 0 v4) w fun v5 w =>
  optW (ld1 v5 w) w fun v6 w =>
  optW (lenS v6) w fun v7 w =>
  K v7 w
theorem C1.sound {Q : QT} (hr : ∀ f w, R K f w → Q .ret f w) {f : Fr} {w : World} (h : C1 K (f 0) w) : W Try.prog ext (subC B []) Q f w :=
  W_exq (n := fun _ _ => False) (r := R K) (xs := []) (gs := []) (Eq.mp (by kernel_rfl) h) (fun _ _ h => h.elim) hr trivial trivial
def J (w0 : Value) (w : World) (K : KT) : Prop := C1 K w0 w
theorem sound {w0 : Value} {w : World} (h : J w0 w K) : CallsR Try.prog 9 #[w0] w K :=
  calls_of_W (ext := ext) (args := [w0]) (fn := Try.f9) (c := bodyC Try.f9) mixedOk Try.func9 rfl (by kernel_rfl) (Nat.le_of_ble_eq_true (by kernel_rfl)) (W_flat _ _ _ _ (C1.sound (fun _ _ h => h) h))
end codec_Writer_Len
/- witness/witnessplain.SameBytes -/
namespace witnessplain_SameBytes
noncomputable abbrev B : Code := flat (bodyC Try.f10)
noncomputable abbrev R (K : KT) : Fr → World → Prop := fnPost Try.prog Try.f10.results.toList K .ret
variable {K : KT}
def C1 (K : KT) (a0 b1 : Value) (w : World) : Prop :=
  CallsR Try.prog 23 #[a0, b1] w fun v7 w =>
  optW (eqO false v7 (.int .i64 0)) w fun v8 w =>
  K v8 w
theorem C1.sound {Q : QT} (hr : ∀ f w, R K f w → Q .ret f w) {f : Fr} {w : World} (h : C1 K (f 0) (f 1) w) : W Try.prog ext (subC B []) Q f w :=
  W_exq (n := fun _ _ => False) (r := R K) (xs := []) (gs := []) (Eq.mp (by kernel_rfl) h) (fun _ _ h => h.elim) hr trivial trivial
def J (a0 b1 : Value) (w : World) (K : KT) : Prop := C1 K a0 b1 w
theorem sound {a0 b1 : Value} {w : World} (h : J a0 b1 w K) : CallsR Try.prog 10 #[a0, b1] w K :=
  calls_of_W (ext := ext) (args := [a0, b1]) (fn := Try.f10) (c := bodyC Try.f10) mixedOk Try.func10 rfl (by kernel_rfl) (Nat.le_of_ble_eq_true (by kernel_rfl)) (W_flat _ _ _ _ (C1.sound (fun _ _ h => h) h))
end witnessplain_SameBytes
/- witness/witnessplain.CopyBytes -/
namespace witnessplain_CopyBytes
noncomputable abbrev B : Code := flat (bodyC Try.f11)
noncomputable abbrev R (K : KT) : Fr → World → Prop := fnPost Try.prog Try.f11.results.toList K .ret
variable {K : KT}
def C1 (K : KT) (b0 : Value) (w : World) : Prop :=
  optW (lenS b0) w fun v5 w =>
  semW Try.prog (Instr.makeSlice 23 v5 v5) w fun v6 w =>
  semW Try.prog (bltS .copy #[23, 23] 3 #[v6, b0]) w fun v9 w =>
  K v6 w
theorem C1.sound {Q : QT} (hr : ∀ f w, R K f w → Q .ret f w) {f : Fr} {w : World} (h : C1 K (f 0) w) : W Try.prog ext (subC B []) Q f w :=
  W_exq (n := fun _ _ => False) (r := R K) (xs := []) (gs := []) (Eq.mp (by kernel_rfl) h) (fun _ _ h => h.elim) hr trivial trivial
def J (b0 : Value) (w : World) (K : KT) : Prop := C1 K b0 w
theorem sound {b0 : Value} {w : World} (h : J b0 w K) : CallsR Try.prog 11 #[b0] w K :=
  calls_of_W (ext := ext) (args := [b0]) (fn := Try.f11) (c := bodyC Try.f11) mixedOk Try.func11 rfl (by kernel_rfl) (Nat.le_of_ble_eq_true (by kernel_rfl)) (W_flat _ _ _ _ (C1.sound (fun _ _ h => h) h))
end witnessplain_CopyBytes
/- (*witness/codec.Writer).Byte -/
namespace codec_Writer_Byte
noncomputable abbrev B : Code := flat (bodyC Try.f12)
noncomputable abbrev R (K : KT) : Fr → World → Prop := fnPost Try.prog Try.f12.results.toList K .ret
variable {K : KT}
def C1 (K : KT) (kn : V0) (w0 b1 : Value) (w : World) : Prop :=
  optW (nilO w0) w fun v6 w =>
  optW (fadO 0 v6) w fun v7 w =>
  optW (ld1 v7 w) w fun v8 w =>
  semW Try.prog (Instr.buildSlice 23 1 #[(0, b1)]) w fun v10 w =>
  semW Try.prog (bltS .append #[23, 23] 23 #[v8, v10]) w fun v11 w =>
  optW (nilO w0) w fun v12 w =>
  optW (fadO 0 v12) w fun v13 w =>
  st1 v13 v11 w fun w =>
  kn w
theorem C1.sound {kn : V0} {Q : QT} (hkn : ∀ f w, kn w → Q .normal f w) (hr : ∀ f w, R K f w → Q .ret f w) {f : Fr} {w : World} (h : C1 K kn (f 0) (f 1) w) : W Try.prog ext (subC B []) Q f w :=
  W_exq (n := fun f w => kn w) (r := R K) (xs := []) (gs := []) (Eq.mp (by kernel_rfl) h) hkn hr trivial trivial
def J (w0 b1 : Value) (w : World) (K : KT) : Prop := C1 K (fun w => K (.tuple #[]) w) w0 b1 w
theorem sound {w0 b1 : Value} {w : World} (h : J w0 b1 w K) : CallsR Try.prog 12 #[w0, b1] w K :=
  calls_of_W (ext := ext) (args := [w0, b1]) (fn := Try.f12) (c := bodyC Try.f12) mixedOk Try.func12 rfl (by kernel_rfl) (Nat.le_of_ble_eq_true (by kernel_rfl)) (W_flat _ _ _ _ (C1.sound (fun f w h => Eq.mp (by kernel_rfl) h) (fun _ _ h => h) h))
end codec_Writer_Byte
/- (*witness/codec.Writer).Word -/
namespace codec_Writer_Word
noncomputable abbrev B : Code := flat (bodyC Try.f13)
noncomputable abbrev R (K : KT) : Fr → World → Prop := fnPost Try.prog Try.f13.results.toList K .ret
variable {K : KT}
def C2 (K : KT) (kx0 : V0) (kn : V3) (w0 n1 i4 : Value) (w : World) : Prop :=
  optW (arO .geq i4 (.int .i64 0)) w fun v6 w =>
  Cnd v6 (
  optW (shO .shr n1 i4) w fun v12 w =>
  optW (cvO .u8 v12) w fun v13 w =>
  CallsR Try.prog 12 #[w0, v13] w fun v14 w =>
  optW (arO .sub i4 (.int .i64 8)) w fun v8 w =>
  kn w0 n1 v8 w) (
  kx0 w)
theorem C2.sound {kx0 : V0} {kn : V3} {Q : QT} (hkx0 : ∀ f w, kx0 w → Q (.exit 0) f w) (hkn : ∀ f w, kn (f 0) (f 1) (f 4) w → Q .normal f w) (hr : ∀ f w, R K f w → Q .ret f w) {f : Fr} {w : World} (h : C2 K kx0 kn (f 0) (f 1) (f 4) w) : W Try.prog ext (subC B [1, 0, 0]) Q f w :=
  W_exq (n := fun f w => kn (f 0) (f 1) (f 4) w) (r := R K) (xs := [(0, fun f w => kx0 w)]) (gs := []) (Eq.mp (by kernel_rfl) h) hkn hr ⟨hkx0, trivial⟩ trivial
def L2 (K : KT) (kx0 : V0) : Nat → V3
  | 0, _, _, _, _ => False
  | k + 1, w0, n1, i4, w => C2 K kx0 (L2 K kx0 k) w0 n1 i4 w
theorem L2.sound {kx0 : V0} {Q : QT} (hkx0 : ∀ f w, kx0 w → Q (.exit 0) f w) (hr : ∀ f w, R K f w → Q .ret f w) : ∀ (k : Nat) (f : Fr) (w : World), L2 K kx0 k (f 0) (f 1) (f 4) w → It (W Try.prog ext (subC B [1, 0, 0])) Q k f w
  | 0, _, _, h => h
  | k + 1, _, _, h => C2.sound (K := K) (Q := seqQ (It (W Try.prog ext (subC B [1, 0, 0])) Q k) Q) hkx0 (fun f w h => seq_n (L2.sound hkx0 hr k f w h)) hr h
def C1 (K : KT) (kn : V0) (w0 n1 : Value) (w : World) : Prop :=
  ∃ k, L2 K kn k w0 n1 (.int .i64 24) w
theorem C1.sound {kn : V0} {Q : QT} (hkn : ∀ f w, kn w → Q .normal f w) (hr : ∀ f w, R K f w → Q .ret f w) {f : Fr} {w : World} (h : C1 K kn (f 0) (f 1) w) : W Try.prog ext (subC B []) Q f w :=
  W_pre 1 (c2 := (subC B [1])) (by kernel_rfl) (n := fun f w => ∃ k, L2 K kn k (f 0) (f 1) (f 4) w) (r := R K) (xs := []) (gs := []) (Eq.mp (by kernel_rfl) h) (fun f w h => W_block' (id := 0) (c := (subC B [1, 0])) (by kernel_rfl) (W_loop' (c := (subC B [1, 0, 0])) (by kernel_rfl) (h.elim fun k h => ⟨k, L2.sound (K := K) (Q := (blkQ 0 Q)) (kx0 := kn) (fun f w h => blk_x (hkn f w h)) hr k _ _ h⟩))) hr trivial trivial
def J (w0 n1 : Value) (w : World) (K : KT) : Prop := C1 K (fun w => K (.tuple #[]) w) w0 n1 w
theorem sound {w0 n1 : Value} {w : World} (h : J w0 n1 w K) : CallsR Try.prog 13 #[w0, n1] w K :=
  calls_of_W (ext := ext) (args := [w0, n1]) (fn := Try.f13) (c := bodyC Try.f13) mixedOk Try.func13 rfl (by kernel_rfl) (Nat.le_of_ble_eq_true (by kernel_rfl)) (W_flat _ _ _ _ (C1.sound (fun f w h => Eq.mp (by kernel_rfl) h) (fun _ _ h => h) h))
end codec_Writer_Word
/- (*witness/codec.Writer).Long -/
namespace codec_Writer_Long
noncomputable abbrev B : Code := flat (bodyC Try.f14)
noncomputable abbrev R (K : KT) : Fr → World → Prop := fnPost Try.prog Try.f14.results.toList K .ret
variable {K : KT}
def C1 (K : KT) (kn : V0) (w0 n1 : Value) (w : World) : Prop :=
  optW (shO .shr n1 (.int .u64 32)) w fun v6 w =>
  optW (cvO .u32 v6) w fun v7 w =>
  CallsR Try.prog 13 #[w0, v7] w fun v8 w =>
  optW (cvO .u32 n1) w fun v11 w =>
  CallsR Try.prog 13 #[w0, v11] w fun v12 w =>
  kn w
theorem C1.sound {kn : V0} {Q : QT} (hkn : ∀ f w, kn w → Q .normal f w) (hr : ∀ f w, R K f w → Q .ret f w) {f : Fr} {w : World} (h : C1 K kn (f 0) (f 1) w) : W Try.prog ext (subC B []) Q f w :=
  W_exq (n := fun f w => kn w) (r := R K) (xs := []) (gs := []) (Eq.mp (by kernel_rfl) h) hkn hr trivial trivial
def J (w0 n1 : Value) (w : World) (K : KT) : Prop := C1 K (fun w => K (.tuple #[]) w) w0 n1 w
theorem sound {w0 n1 : Value} {w : World} (h : J w0 n1 w K) : CallsR Try.prog 14 #[w0, n1] w K :=
  calls_of_W (ext := ext) (args := [w0, n1]) (fn := Try.f14) (c := bodyC Try.f14) mixedOk Try.func14 rfl (by kernel_rfl) (Nat.le_of_ble_eq_true (by kernel_rfl)) (W_flat _ _ _ _ (C1.sound (fun f w h => Eq.mp (by kernel_rfl) h) (fun _ _ h => h) h))
end codec_Writer_Long
/- (*witness/codec.Writer).Uint -/
namespace codec_Writer_Uint
noncomputable abbrev B : Code := flat (bodyC Try.f15)
noncomputable abbrev R (K : KT) : Fr → World → Prop := fnPost Try.prog Try.f15.results.toList K .ret
variable {K : KT}
def C2 (K : KT) (kn : V0) (w0 n1 : Value) (w : World) : Prop :=
  optW (cvO .u8 n1) w fun v15 w =>
  CallsR Try.prog 12 #[w0, v15] w fun v16 w =>
  kn w
theorem C2.sound {kn : V0} {Q : QT} (hkn : ∀ f w, kn w → Q .normal f w) (hr : ∀ f w, R K f w → Q .ret f w) {f : Fr} {w : World} (h : C2 K kn (f 0) (f 1) w) : W Try.prog ext (subC B [1]) Q f w :=
  W_exq (n := fun f w => kn w) (r := R K) (xs := []) (gs := []) (Eq.mp (by kernel_rfl) h) hkn hr trivial trivial
def C3 (K : KT) (kx0 : V2) (kn : V2) (w0 n1 : Value) (w : World) : Prop :=
  optW (arO .geq n1 (.int .u64 128)) w fun v5 w =>
  Cnd v5 (
  optW (cvO .u8 n1) w fun v10 w =>
  optW (arO .or v10 (.int .u8 128)) w fun v11 w =>
  CallsR Try.prog 12 #[w0, v11] w fun v12 w =>
  optW (shO .shr n1 (.int .u64 7)) w fun v7 w =>
  kn w0 v7 w) (
  kx0 w0 n1 w)
theorem C3.sound {kx0 : V2} {kn : V2} {Q : QT} (hkx0 : ∀ f w, kx0 (f 0) (f 1) w → Q (.exit 0) f w) (hkn : ∀ f w, kn (f 0) (f 1) w → Q .normal f w) (hr : ∀ f w, R K f w → Q .ret f w) {f : Fr} {w : World} (h : C3 K kx0 kn (f 0) (f 1) w) : W Try.prog ext (subC B [0, 0, 0]) Q f w :=
  W_exq (n := fun f w => kn (f 0) (f 1) w) (r := R K) (xs := [(0, fun f w => kx0 (f 0) (f 1) w)]) (gs := []) (Eq.mp (by kernel_rfl) h) hkn hr ⟨hkx0, trivial⟩ trivial
def L3 (K : KT) (kx0 : V2) : Nat → V2
  | 0, _, _, _ => False
  | k + 1, w0, n1, w => C3 K kx0 (L3 K kx0 k) w0 n1 w
theorem L3.sound {kx0 : V2} {Q : QT} (hkx0 : ∀ f w, kx0 (f 0) (f 1) w → Q (.exit 0) f w) (hr : ∀ f w, R K f w → Q .ret f w) : ∀ (k : Nat) (f : Fr) (w : World), L3 K kx0 k (f 0) (f 1) w → It (W Try.prog ext (subC B [0, 0, 0])) Q k f w
  | 0, _, _, h => h
  | k + 1, _, _, h => C3.sound (K := K) (Q := seqQ (It (W Try.prog ext (subC B [0, 0, 0])) Q k) Q) hkx0 (fun f w h => seq_n (L3.sound hkx0 hr k f w h)) hr h
def C1 (K : KT) (kn : V0) (w0 n1 : Value) (w : World) : Prop :=
  ∃ k, L3 K (C2 K kn) k w0 n1 w
theorem C1.sound {kn : V0} {Q : QT} (hkn : ∀ f w, kn w → Q .normal f w) (hr : ∀ f w, R K f w → Q .ret f w) {f : Fr} {w : World} (h : C1 K kn (f 0) (f 1) w) : W Try.prog ext (subC B []) Q f w :=
  W_seq' (a := (subC B [0])) (b := (subC B [1])) (by kernel_rfl) (W_block' (id := 0) (c := (subC B [0, 0])) (by kernel_rfl) (W_loop' (c := (subC B [0, 0, 0])) (by kernel_rfl) (h.elim fun k h => ⟨k, L3.sound (K := K) (Q := (blkQ 0 (seqQ (W Try.prog ext (subC B [1]) Q) Q))) (kx0 := (C2 K kn)) (fun f w h => blk_x ((fun f w h => seq_n (C2.sound (K := K) (Q := Q) (kn := kn) hkn hr h)) f w h)) hr k _ _ h⟩)))
def J (w0 n1 : Value) (w : World) (K : KT) : Prop := C1 K (fun w => K (.tuple #[]) w) w0 n1 w
theorem sound {w0 n1 : Value} {w : World} (h : J w0 n1 w K) : CallsR Try.prog 15 #[w0, n1] w K :=
  calls_of_W (ext := ext) (args := [w0, n1]) (fn := Try.f15) (c := bodyC Try.f15) mixedOk Try.func15 rfl (by kernel_rfl) (Nat.le_of_ble_eq_true (by kernel_rfl)) (W_flat _ _ _ _ (C1.sound (fun f w h => Eq.mp (by kernel_rfl) h) (fun _ _ h => h) h))
end codec_Writer_Uint
/- (*witness/codec.Writer).Raw -/
namespace codec_Writer_Raw
noncomputable abbrev B : Code := flat (bodyC Try.f16)
noncomputable abbrev R (K : KT) : Fr → World → Prop := fnPost Try.prog Try.f16.results.toList K .ret
variable {K : KT}
def C1 (K : KT) (kn : V0) (w0 b1 : Value) (w : World) : Prop :=
  optW (nilO w0) w fun v6 w =>
  optW (fadO 0 v6) w fun v7 w =>
  optW (ld1 v7 w) w fun v8 w =>
  semW Try.prog (bltS .append #[23, 23] 23 #[v8, b1]) w fun v10 w =>
  optW (nilO w0) w fun v11 w =>
  optW (fadO 0 v11) w fun v12 w =>
  st1 v12 v10 w fun w =>
  kn w
theorem C1.sound {kn : V0} {Q : QT} (hkn : ∀ f w, kn w → Q .normal f w) (hr : ∀ f w, R K f w → Q .ret f w) {f : Fr} {w : World} (h : C1 K kn (f 0) (f 1) w) : W Try.prog ext (subC B []) Q f w :=
  W_exq (n := fun f w => kn w) (r := R K) (xs := []) (gs := []) (Eq.mp (by kernel_rfl) h) hkn hr trivial trivial
def J (w0 b1 : Value) (w : World) (K : KT) : Prop := C1 K (fun w => K (.tuple #[]) w) w0 b1 w
theorem sound {w0 b1 : Value} {w : World} (h : J w0 b1 w K) : CallsR Try.prog 16 #[w0, b1] w K :=
  calls_of_W (ext := ext) (args := [w0, b1]) (fn := Try.f16) (c := bodyC Try.f16) mixedOk Try.func16 rfl (by kernel_rfl) (Nat.le_of_ble_eq_true (by kernel_rfl)) (W_flat _ _ _ _ (C1.sound (fun f w h => Eq.mp (by kernel_rfl) h) (fun _ _ h => h) h))
end codec_Writer_Raw
/- (*witness/codec.Writer).Text -/
namespace codec_Writer_Text
noncomputable abbrev B : Code := flat (bodyC Try.f17)
noncomputable abbrev R (K : KT) : Fr → World → Prop := fnPost Try.prog Try.f17.results.toList K .ret
variable {K : KT}
def C1 (K : KT) (kn : V0) (w0 b1 : Value) (w : World) : Prop :=
  optW (lenS b1) w fun v6 w =>
  optW (cvO .u64 v6) w fun v7 w =>
  CallsR Try.prog 15 #[w0, v7] w fun v8 w =>
  CallsR Try.prog 16 #[w0, b1] w fun v11 w =>
  kn w
theorem C1.sound {kn : V0} {Q : QT} (hkn : ∀ f w, kn w → Q .normal f w) (hr : ∀ f w, R K f w → Q .ret f w) {f : Fr} {w : World} (h : C1 K kn (f 0) (f 1) w) : W Try.prog ext (subC B []) Q f w :=
  W_exq (n := fun f w => kn w) (r := R K) (xs := []) (gs := []) (Eq.mp (by kernel_rfl) h) hkn hr trivial trivial
def J (w0 b1 : Value) (w : World) (K : KT) : Prop := C1 K (fun w => K (.tuple #[]) w) w0 b1 w
theorem sound {w0 b1 : Value} {w : World} (h : J w0 b1 w K) : CallsR Try.prog 17 #[w0, b1] w K :=
  calls_of_W (ext := ext) (args := [w0, b1]) (fn := Try.f17) (c := bodyC Try.f17) mixedOk Try.func17 rfl (by kernel_rfl) (Nat.le_of_ble_eq_true (by kernel_rfl)) (W_flat _ _ _ _ (C1.sound (fun f w h => Eq.mp (by kernel_rfl) h) (fun _ _ h => h) h))
end codec_Writer_Text
/- (*witness/codec.Writer).Sum -/
namespace codec_Writer_Sum
noncomputable abbrev B : Code := flat (bodyC Try.f18)
noncomputable abbrev R (K : KT) : Fr → World → Prop := fnPost Try.prog Try.f18.results.toList K .ret
variable {K : KT}
def C1 (K : KT) (kn : V0) (w0 s1 : Value) (w : World) : Prop :=
  newW (Value.cells s1) 31 w fun s3 w =>
  optW (slA 32 1 s3 none none none) w fun v5 w =>
  CallsR Try.prog 16 #[w0, v5] w fun v6 w =>
  kn w
theorem C1.sound {kn : V0} {Q : QT} (hkn : ∀ f w, kn w → Q .normal f w) (hr : ∀ f w, R K f w → Q .ret f w) {f : Fr} {w : World} (h : C1 K kn (f 0) (f 1) w) : W Try.prog ext (subC B []) Q f w :=
  W_exq (n := fun f w => kn w) (r := R K) (xs := []) (gs := []) (Eq.mp (by kernel_rfl) h) hkn hr trivial trivial
def J (w0 s1 : Value) (w : World) (K : KT) : Prop := C1 K (fun w => K (.tuple #[]) w) w0 s1 w
theorem sound {w0 s1 : Value} {w : World} (h : J w0 s1 w K) : CallsR Try.prog 18 #[w0, s1] w K :=
  calls_of_W (ext := ext) (args := [w0, s1]) (fn := Try.f18) (c := bodyC Try.f18) mixedOk Try.func18 rfl (by kernel_rfl) (Nat.le_of_ble_eq_true (by kernel_rfl)) (W_flat _ _ _ _ (C1.sound (fun f w h => Eq.mp (by kernel_rfl) h) (fun _ _ h => h) h))
end codec_Writer_Sum
/- (*witness/codec.Writer).Addr -/
namespace codec_Writer_Addr
noncomputable abbrev B : Code := flat (bodyC Try.f19)
noncomputable abbrev R (K : KT) : Fr → World → Prop := fnPost Try.prog Try.f19.results.toList K .ret
variable {K : KT}
def C1 (K : KT) (kn : V0) (w0 a1 : Value) (w : World) : Prop :=
  newW (Value.cells a1) 33 w fun a3 w =>
  optW (fadO 0 a3) w fun v5 w =>
  optW (ldN 32 v5 w) w fun v6 w =>
  CallsR Try.prog 18 #[w0, v6] w fun v7 w =>
  optW (fadO 32 a3) w fun v9 w =>
  optW (ld1 v9 w) w fun v10 w =>
  CallsR Try.prog 12 #[w0, v10] w fun v11 w =>
  kn w
theorem C1.sound {kn : V0} {Q : QT} (hkn : ∀ f w, kn w → Q .normal f w) (hr : ∀ f w, R K f w → Q .ret f w) {f : Fr} {w : World} (h : C1 K kn (f 0) (f 1) w) : W Try.prog ext (subC B []) Q f w :=
  W_exq (n := fun f w => kn w) (r := R K) (xs := []) (gs := []) (Eq.mp (by kernel_rfl) h) hkn hr trivial trivial
def J (w0 a1 : Value) (w : World) (K : KT) : Prop := C1 K (fun w => K (.tuple #[]) w) w0 a1 w
theorem sound {w0 a1 : Value} {w : World} (h : J w0 a1 w K) : CallsR Try.prog 19 #[w0, a1] w K :=
  calls_of_W (ext := ext) (args := [w0, a1]) (fn := Try.f19) (c := bodyC Try.f19) mixedOk Try.func19 rfl (by kernel_rfl) (Nat.le_of_ble_eq_true (by kernel_rfl)) (W_flat _ _ _ _ (C1.sound (fun f w h => Eq.mp (by kernel_rfl) h) (fun _ _ h => h) h))
end codec_Writer_Addr
/- witness/witnessref2.High -/
namespace witnessref2_High
noncomputable abbrev B : Code := flat (bodyC Try.f20)
noncomputable abbrev R (K : KT) : Fr → World → Prop := fnPost Try.prog Try.f20.results.toList K .ret
variable {K : KT}
def C2 (K : KT) (b5 : Value) (w : World) : Prop :=
  K b5 w
theorem C2.sound {Q : QT} (hr : ∀ f w, R K f w → Q .ret f w) {f : Fr} {w : World} (h : C2 K (f 5) w) : W Try.prog ext (subC B [1, 1, 1, 1]) Q f w :=
  W_exq (n := fun _ _ => False) (r := R K) (xs := []) (gs := []) (Eq.mp (by kernel_rfl) h) (fun _ _ h => h.elim) hr trivial trivial
def C3 (K : KT) (kx0 : V1) (kn : V3) (x0 b5 i6 : Value) (w : World) : Prop :=
  optW (arO .geq i6 (.int .i64 0)) w fun v12 w =>
  Cnd v12 (
  optW (arO .rem x0 (.int .u64 256)) w fun v18 w =>
  optW (cvO .u8 v18) w fun v19 w =>
  optW (ixS 1 b5 i6) w fun v20 w =>
  st1 v20 v19 w fun w =>
  optW (arO .quo x0 (.int .u64 256)) w fun v22 w =>
  optW (arO .sub i6 (.int .i64 1)) w fun v14 w =>
  kn v22 b5 v14 w) (
  kx0 b5 w)
theorem C3.sound {kx0 : V1} {kn : V3} {Q : QT} (hkx0 : ∀ f w, kx0 (f 5) w → Q (.exit 0) f w) (hkn : ∀ f w, kn (f 0) (f 5) (f 6) w → Q .normal f w) (hr : ∀ f w, R K f w → Q .ret f w) {f : Fr} {w : World} (h : C3 K kx0 kn (f 0) (f 5) (f 6) w) : W Try.prog ext (subC B [1, 1, 1, 0, 0, 0]) Q f w :=
  W_exq (n := fun f w => kn (f 0) (f 5) (f 6) w) (r := R K) (xs := [(0, fun f w => kx0 (f 5) w)]) (gs := []) (Eq.mp (by kernel_rfl) h) hkn hr ⟨hkx0, trivial⟩ trivial
def L3 (K : KT) (kx0 : V1) : Nat → V3
  | 0, _, _, _, _ => False
  | k + 1, x0, b5, i6, w => C3 K kx0 (L3 K kx0 k) x0 b5 i6 w
theorem L3.sound {kx0 : V1} {Q : QT} (hkx0 : ∀ f w, kx0 (f 5) w → Q (.exit 0) f w) (hr : ∀ f w, R K f w → Q .ret f w) : ∀ (k : Nat) (f : Fr) (w : World), L3 K kx0 k (f 0) (f 5) (f 6) w → It (W Try.prog ext (subC B [1, 1, 1, 0, 0, 0])) Q k f w
  | 0, _, _, h => h
  | k + 1, _, _, h => C3.sound (K := K) (Q := seqQ (It (W Try.prog ext (subC B [1, 1, 1, 0, 0, 0])) Q k) Q) hkx0 (fun f w h => seq_n (L3.sound hkx0 hr k f w h)) hr h
def C1 (K : KT) (x0 n1 : Value) (w : World) : Prop :=
  semW Try.prog (Instr.makeSlice 23 n1 n1) w fun v8 w =>
  optW (arO .sub n1 (.int .i64 1)) w fun v10 w =>
  ∃ k, L3 K (C2 K) k x0 v8 v10 w
theorem C1.sound {Q : QT} (hr : ∀ f w, R K f w → Q .ret f w) {f : Fr} {w : World} (h : C1 K (f 0) (f 1) w) : W Try.prog ext (subC B []) Q f w :=
  W_pre 3 (c2 := (subC B [1, 1, 1])) (by kernel_rfl) (n := fun f w => ∃ k, L3 K (C2 K) k (f 0) (f 5) (f 6) w) (r := R K) (xs := []) (gs := []) (Eq.mp (by kernel_rfl) h) (fun f w h => W_seq' (a := (subC B [1, 1, 1, 0])) (b := (subC B [1, 1, 1, 1])) (by kernel_rfl) (W_block' (id := 0) (c := (subC B [1, 1, 1, 0, 0])) (by kernel_rfl) (W_loop' (c := (subC B [1, 1, 1, 0, 0, 0])) (by kernel_rfl) (h.elim fun k h => ⟨k, L3.sound (K := K) (Q := (blkQ 0 (seqQ (W Try.prog ext (subC B [1, 1, 1, 1]) Q) Q))) (kx0 := (C2 K)) (fun f w h => blk_x ((fun f w h => seq_n (C2.sound (K := K) (Q := Q) hr h)) f w h)) hr k _ _ h⟩)))) hr trivial trivial
def J (x0 n1 : Value) (w : World) (K : KT) : Prop := C1 K x0 n1 w
theorem sound {x0 n1 : Value} {w : World} (h : J x0 n1 w K) : CallsR Try.prog 20 #[x0, n1] w K :=
  calls_of_W (ext := ext) (args := [x0, n1]) (fn := Try.f20) (c := bodyC Try.f20) mixedOk Try.func20 rfl (by kernel_rfl) (Nat.le_of_ble_eq_true (by kernel_rfl)) (W_flat _ _ _ _ (C1.sound (fun _ _ h => h) h))
end witnessref2_High
/- witness/witnessref2.Num -/
namespace witnessref2_Num
noncomputable abbrev B : Code := flat (bodyC Try.f21)
noncomputable abbrev R (K : KT) : Fr → World → Prop := fnPost Try.prog Try.f21.results.toList K .ret
variable {K : KT}
def C1 (K : KT) (n0 : Value) (w : World) : Prop :=
  optW (arO .lss n0 (.int .u64 128)) w fun v4 w =>
  Cnd v4 (
  optW (cvO .u8 n0) w fun v6 w =>
  semW Try.prog (Instr.buildSlice 23 1 #[(0, v6)]) w fun v7 w =>
  K v7 w) (
  optW (arO .rem n0 (.int .u64 128)) w fun v9 w =>
  optW (arO .add v9 (.int .u64 128)) w fun v10 w =>
  optW (cvO .u8 v10) w fun v11 w =>
  semW Try.prog (Instr.buildSlice 23 1 #[(0, v11)]) w fun v12 w =>
  optW (arO .quo n0 (.int .u64 128)) w fun v14 w =>
  CallsR Try.prog 21 #[v14] w fun v15 w =>
  semW Try.prog (bltS .append #[23, 23] 23 #[v12, v15]) w fun v16 w =>
  K v16 w)
theorem C1.sound {Q : QT} (hr : ∀ f w, R K f w → Q .ret f w) {f : Fr} {w : World} (h : C1 K (f 0) w) : W Try.prog ext (subC B []) Q f w :=
  W_exq (n := fun _ _ => False) (r := R K) (xs := []) (gs := []) (Eq.mp (by kernel_rfl) h) (fun _ _ h => h.elim) hr trivial trivial
def J (n0 : Value) (w : World) (K : KT) : Prop := C1 K n0 w
theorem sound {n0 : Value} {w : World} (h : J n0 w K) : CallsR Try.prog 21 #[n0] w K :=
  calls_of_W (ext := ext) (args := [n0]) (fn := Try.f21) (c := bodyC Try.f21) mixedOk Try.func21 rfl (by kernel_rfl) (Nat.le_of_ble_eq_true (by kernel_rfl)) (W_flat _ _ _ _ (C1.sound (fun _ _ h => h) h))
end witnessref2_Num
/- witness/witnessref2.Text -/
namespace witnessref2_Text
noncomputable abbrev B : Code := flat (bodyC Try.f22)
noncomputable abbrev R (K : KT) : Fr → World → Prop := fnPost Try.prog Try.f22.results.toList K .ret
variable {K : KT}
def C1 (K : KT) (t0 : Value) (w : World) : Prop :=
  optW (lenS t0) w fun v4 w =>
  optW (cvO .u64 v4) w fun v5 w =>
  CallsR Try.prog 21 #[v5] w fun v6 w =>
  semW Try.prog (bltS .append #[23, 23] 23 #[v6, t0]) w fun v8 w =>
  K v8 w
theorem C1.sound {Q : QT} (hr : ∀ f w, R K f w → Q .ret f w) {f : Fr} {w : World} (h : C1 K (f 0) w) : W Try.prog ext (subC B []) Q f w :=
  W_exq (n := fun _ _ => False) (r := R K) (xs := []) (gs := []) (Eq.mp (by kernel_rfl) h) (fun _ _ h => h.elim) hr trivial trivial
def J (t0 : Value) (w : World) (K : KT) : Prop := C1 K t0 w
theorem sound {t0 : Value} {w : World} (h : J t0 w K) : CallsR Try.prog 22 #[t0] w K :=
  calls_of_W (ext := ext) (args := [t0]) (fn := Try.f22) (c := bodyC Try.f22) mixedOk Try.func22 rfl (by kernel_rfl) (Nat.le_of_ble_eq_true (by kernel_rfl)) (W_flat _ _ _ _ (C1.sound (fun _ _ h => h) h))
end witnessref2_Text
/- witness/witnessplain.Compare -/
namespace witnessplain_Compare
noncomputable abbrev B : Code := flat (bodyC Try.f23)
noncomputable abbrev R (K : KT) : Fr → World → Prop := fnPost Try.prog Try.f23.results.toList K .ret
variable {K : KT}
def C2 (K : KT) (a0 b1 : Value) (w : World) : Prop :=
  optW (lenS a0) w fun v37 w =>
  optW (lenS b1) w fun v39 w =>
  optW (arO .lss v37 v39) w fun v40 w =>
  Cnd v40 (
  K (.int .i64 (-1)) w) (
  optW (lenS a0) w fun v42 w =>
  optW (lenS b1) w fun v44 w =>
  optW (arO .gtr v42 v44) w fun v45 w =>
  Cnd v45 (
  K (.int .i64 1) w) (
  K (.int .i64 0) w))
theorem C2.sound {Q : QT} (hr : ∀ f w, R K f w → Q .ret f w) {f : Fr} {w : World} (h : C2 K (f 0) (f 1) w) : W Try.prog ext (subC B [1, 1, 1]) Q f w :=
  W_exq (n := fun _ _ => False) (r := R K) (xs := []) (gs := []) (Eq.mp (by kernel_rfl) h) (fun _ _ h => h.elim) hr trivial trivial
def C3 (K : KT) (kx0 : V2) (kn : V3) (a0 b1 i5 : Value) (w : World) : Prop :=
  optW (lenS a0) w fun v8 w =>
  optW (arO .lss i5 v8) w fun v9 w =>
  gOp v9 true w (fun K => K i5 w) fun v11 w =>
  gOp v9 true w (fun K => K b1 w) fun v12 w =>
  gOp v9 true w (fun K => optW (lenS v12) w K) fun v13 w =>
  gOp v9 true w (fun K => optW (arO .lss v11 v13) w K) fun v14 w =>
  optW (pickO v9 v14 (.bool false)) w fun v15 w =>
  Cnd v15 (
  drw w fun w =>
  optW (ixS 1 a0 i5) w fun v20 w =>
  optW (ld1 v20 w) w fun v21 w =>
  optW (ixS 1 b1 i5) w fun v24 w =>
  optW (ld1 v24 w) w fun v25 w =>
  optW (eqO true v21 v25) w fun v26 w =>
  Cnd v26 (
  drw w fun w =>
  optW (ixS 1 a0 i5) w fun v29 w =>
  optW (ld1 v29 w) w fun v30 w =>
  optW (ixS 1 b1 i5) w fun v33 w =>
  optW (ld1 v33 w) w fun v34 w =>
  optW (arO .lss v30 v34) w fun v35 w =>
  Cnd v35 (
  K (.int .i64 (-1)) w) (
  K (.int .i64 1) w)) (
  optW (arO .add i5 (.int .i64 1)) w fun v17 w =>
  kn a0 b1 v17 w)) (
  kx0 a0 b1 w)
theorem C3.sound {kx0 : V2} {kn : V3} {Q : QT} (hkx0 : ∀ f w, kx0 (f 0) (f 1) w → Q (.exit 0) f w) (hkn : ∀ f w, kn (f 0) (f 1) (f 5) w → Q .normal f w) (hr : ∀ f w, R K f w → Q .ret f w) {f : Fr} {w : World} (h : C3 K kx0 kn (f 0) (f 1) (f 5) w) : W Try.prog ext (subC B [1, 1, 0, 0, 0]) Q f w :=
  W_exq (n := fun f w => kn (f 0) (f 1) (f 5) w) (r := R K) (xs := [(0, fun f w => kx0 (f 0) (f 1) w)]) (gs := []) (Eq.mp (by kernel_rfl) h) hkn hr ⟨hkx0, trivial⟩ trivial
def L3 (K : KT) (kx0 : V2) : Nat → V3
  | 0, _, _, _, _ => False
  | k + 1, a0, b1, i5, w => C3 K kx0 (L3 K kx0 k) a0 b1 i5 w
theorem L3.sound {kx0 : V2} {Q : QT} (hkx0 : ∀ f w, kx0 (f 0) (f 1) w → Q (.exit 0) f w) (hr : ∀ f w, R K f w → Q .ret f w) : ∀ (k : Nat) (f : Fr) (w : World), L3 K kx0 k (f 0) (f 1) (f 5) w → It (W Try.prog ext (subC B [1, 1, 0, 0, 0])) Q k f w
  | 0, _, _, h => h
  | k + 1, _, _, h => C3.sound (K := K) (Q := seqQ (It (W Try.prog ext (subC B [1, 1, 0, 0, 0])) Q k) Q) hkx0 (fun f w h => seq_n (L3.sound hkx0 hr k f w h)) hr h
def C1 (K : KT) (a0 b1 : Value) (w : World) : Prop :=
  ∃ k, L3 K (C2 K) k a0 b1 (.int .i64 0) w
theorem C1.sound {Q : QT} (hr : ∀ f w, R K f w → Q .ret f w) {f : Fr} {w : World} (h : C1 K (f 0) (f 1) w) : W Try.prog ext (subC B []) Q f w :=
  W_pre 2 (c2 := (subC B [1, 1])) (by kernel_rfl) (n := fun f w => ∃ k, L3 K (C2 K) k (f 0) (f 1) (f 5) w) (r := R K) (xs := []) (gs := []) (Eq.mp (by kernel_rfl) h) (fun f w h => W_seq' (a := (subC B [1, 1, 0])) (b := (subC B [1, 1, 1])) (by kernel_rfl) (W_block' (id := 0) (c := (subC B [1, 1, 0, 0])) (by kernel_rfl) (W_loop' (c := (subC B [1, 1, 0, 0, 0])) (by kernel_rfl) (h.elim fun k h => ⟨k, L3.sound (K := K) (Q := (blkQ 0 (seqQ (W Try.prog ext (subC B [1, 1, 1]) Q) Q))) (kx0 := (C2 K)) (fun f w h => blk_x ((fun f w h => seq_n (C2.sound (K := K) (Q := Q) hr h)) f w h)) hr k _ _ h⟩)))) hr trivial trivial
def J (a0 b1 : Value) (w : World) (K : KT) : Prop := C1 K a0 b1 w
theorem sound {a0 b1 : Value} {w : World} (h : J a0 b1 w K) : CallsR Try.prog 23 #[a0, b1] w K :=
  calls_of_W (ext := ext) (args := [a0, b1]) (fn := Try.f23) (c := bodyC Try.f23) mixedOk Try.func23 rfl (by kernel_rfl) (Nat.le_of_ble_eq_true (by kernel_rfl)) (W_flat _ _ _ _ (C1.sound (fun _ _ h => h) h))
end witnessplain_Compare
end Go.Proofs.Ytmljgkjcoemadaa
