-- PRINTED: what each function asks ahead of a call, and that it is enough (wip/tools/dec.py)
import Derived.Test.YtklieghmbhofnaaDoorBase
namespace Go.Proofs.YtklieghmbhofnaaDoor
open Go Go.Ev
set_option maxRecDepth 100000
/- witness/witnesslaw1.DigestTexts -/
namespace witnesslaw1_DigestTexts
noncomputable abbrev B : Code := flat (bodyC Tryd.f6)
noncomputable abbrev R (K : KT) : Fr → World → Prop := fnPost Tryd.prog Tryd.f6.results.toList K .ret
variable {K : KT}
def C1 (K : KT) (parts0 : Value) (w : World) : Prop :=
  CallsR Tryd.prog 12 #[parts0] w fun v7 w =>
  optW (extO v7 0) w fun v8 w =>
  optW (extO v7 1) w fun v9 w =>
  CallsR Tryd.prog 26 #[v8] w fun v11 w =>
  CallsR Tryd.prog 18 #[parts0] w fun v13 w =>
  CallsR Tryd.prog 22 #[v13] w fun v14 w =>
  semW Tryd.prog (do eqGuard .eql 43 (.tmp 0) (.tmp 0) v11 v14; binOp .eql 43 v11 v14) w fun v15 w =>
  gOp v15 true w (fun K => K parts0 w) fun v17 w =>
  gOp v15 true w (fun K => K v9 w) fun v18 w =>
  gOp v15 true w (fun K => CallsR Tryd.prog 15 #[v17, v18] w K) fun v19 w =>
  optW (pickO v15 v19 (.bool false)) w fun v20 w =>
  K v20 w
theorem C1.sound {Q : QT} (hr : ∀ f w, R K f w → Q .ret f w) {f : Fr} {w : World} (h : C1 K (f 0) w) : W Tryd.prog ext (subC B []) Q f w :=
  W_exq (n := fun _ _ => False) (r := R K) (xs := []) (gs := []) (Eq.mp (by kernel_rfl) h) (fun _ _ h => h.elim) hr trivial trivial
def J (parts0 : Value) (w : World) (K : KT) : Prop := C1 K parts0 w
theorem sound {parts0 : Value} {w : World} (h : J parts0 w K) : CallsR Tryd.prog 6 #[parts0] w K :=
  calls_of_W (ext := ext) (args := [parts0]) (fn := Tryd.f6) (c := bodyC Tryd.f6) mixedOk Tryd.func6 rfl (by kernel_rfl) (Nat.le_of_ble_eq_true (by kernel_rfl)) (W_flat _ _ _ _ (C1.sound (fun _ _ h => h) h))
end witnesslaw1_DigestTexts
/- witness/witnesslaw1.DigestMacs -/
namespace witnesslaw1_DigestMacs
noncomputable abbrev B : Code := flat (bodyC Tryd.f7)
noncomputable abbrev R (K : KT) : Fr → World → Prop := fnPost Tryd.prog Tryd.f7.results.toList K .ret
variable {K : KT}
def C1 (K : KT) (key0 text1 : Value) (w : World) : Prop :=
  semW Tryd.prog (Instr.buildSlice 24 2 #[(0, key0), (1, text1)]) w fun v10 w =>
  CallsR Tryd.prog 12 #[v10] w fun v13 w =>
  optW (extO v13 0) w fun v14 w =>
  optW (extO v13 1) w fun v15 w =>
  drw w fun w =>
  optW (ixS 1 v14 (.int .i64 0)) w fun v17 w =>
  optW (ld1 v17 w) w fun v18 w =>
  optW (ixS 1 v14 (.int .i64 1)) w fun v20 w =>
  optW (ld1 v20 w) w fun v21 w =>
  CallsR Tryd.prog 27 #[v18, v21] w fun v22 w =>
  CallsR Tryd.prog 28 #[key0, text1] w fun v25 w =>
  semW Tryd.prog (do eqGuard .eql 43 (.tmp 0) (.tmp 0) v22 v25; binOp .eql 43 v22 v25) w fun v26 w =>
  gOp v26 true w (fun K => K v10 w) fun v28 w =>
  gOp v26 true w (fun K => K v15 w) fun v29 w =>
  gOp v26 true w (fun K => CallsR Tryd.prog 15 #[v28, v29] w K) fun v30 w =>
  optW (pickO v26 v30 (.bool false)) w fun v31 w =>
  K v31 w
theorem C1.sound {Q : QT} (hr : ∀ f w, R K f w → Q .ret f w) {f : Fr} {w : World} (h : C1 K (f 0) (f 1) w) : W Tryd.prog ext (subC B []) Q f w :=
  W_exq (n := fun _ _ => False) (r := R K) (xs := []) (gs := []) (Eq.mp (by kernel_rfl) h) (fun _ _ h => h.elim) hr trivial trivial
def J (key0 text1 : Value) (w : World) (K : KT) : Prop := C1 K key0 text1 w
theorem sound {key0 text1 : Value} {w : World} (h : J key0 text1 w K) : CallsR Tryd.prog 7 #[key0, text1] w K :=
  calls_of_W (ext := ext) (args := [key0, text1]) (fn := Tryd.f7) (c := bodyC Tryd.f7) mixedOk Tryd.func7 rfl (by kernel_rfl) (Nat.le_of_ble_eq_true (by kernel_rfl)) (W_flat _ _ _ _ (C1.sound (fun _ _ h => h) h))
end witnesslaw1_DigestMacs
/- witness/digest.Mac -/
namespace digest_Mac
noncomputable abbrev B : Code := flat (bodyC Tryd.f27)
noncomputable abbrev R (K : KT) : Fr → World → Prop := fnPost Tryd.prog Tryd.f27.results.toList K .ret
variable {K : KT}
def C3 (K : KT) (text1 v4 inner6 outer7 : Value) (w : World) : Prop :=
  optW (slA 64 1 inner6 none none none) w fun v35 w =>
  semW Tryd.prog (Instr.buildSlice 24 2 #[(0, v35), (1, text1)]) w fun v37 w =>
  CallsR Tryd.prog 26 #[v37] w fun v38 w =>
  newW (zCells Tryd.prog 43) 43 w fun s9 w =>
  stN 32 s9 v38 w fun w =>
  drw w fun w =>
  optW (slA 64 1 outer7 none none none) w fun v39 w =>
  optW (slA 32 1 s9 none none none) w fun v40 w =>
  semW Tryd.prog (Instr.buildSlice 24 2 #[(0, v39), (1, v40)]) w fun v41 w =>
  CallsR Tryd.prog 26 #[v41] w fun v42 w =>
  stN 32 v4 v42 w fun w =>
  resC Tryd.prog v4 43 w fun r0 =>
  K r0 w
theorem C3.sound {Q : QT} (hr : ∀ f w, R K f w → Q .ret f w) {f : Fr} {w : World} (h : C3 K (f 1) (f 4) (f 6) (f 7) w) : W Tryd.prog ext (subC B [1, 1, 1, 1, 1, 1, 1, 1]) Q f w :=
  W_exq (n := fun _ _ => False) (r := R K) (xs := []) (gs := []) (Eq.mp (by kernel_rfl) h) (fun _ _ h => h.elim) hr trivial trivial
def C4 (K : KT) (kx0 : V4) (kn : V5) (text1 v4 inner6 outer7 v21 : Value) (w : World) : Prop :=
  optW (arO .lss v21 (.int .i64 64)) w fun v22 w =>
  Cnd v22 (
  optW (ixA 64 1 inner6 v21) w fun v25 w =>
  optW (ld1 v25 w) w fun v26 w =>
  optW (arO .xor v26 (.int .u8 54)) w fun v27 w =>
  optW (ixA 64 1 inner6 v21) w fun v28 w =>
  st1 v28 v27 w fun w =>
  optW (ixA 64 1 outer7 v21) w fun v30 w =>
  optW (ld1 v30 w) w fun v31 w =>
  optW (arO .xor v31 (.int .u8 92)) w fun v32 w =>
  optW (ixA 64 1 outer7 v21) w fun v33 w =>
  st1 v33 v32 w fun w =>
  optW (arO .add v21 (.int .i64 1)) w fun v34 w =>
  kn text1 v4 inner6 outer7 v34 w) (
  kx0 text1 v4 inner6 outer7 w)
theorem C4.sound {kx0 : V4} {kn : V5} {Q : QT} (hkx0 : ∀ f w, kx0 (f 1) (f 4) (f 6) (f 7) w → Q (.exit 0) f w) (hkn : ∀ f w, kn (f 1) (f 4) (f 6) (f 7) (f 21) w → Q .normal f w) (hr : ∀ f w, R K f w → Q .ret f w) {f : Fr} {w : World} (h : C4 K kx0 kn (f 1) (f 4) (f 6) (f 7) (f 21) w) : W Tryd.prog ext (subC B [1, 1, 1, 1, 1, 1, 1, 0, 0, 0]) Q f w :=
  W_exq (n := fun f w => kn (f 1) (f 4) (f 6) (f 7) (f 21) w) (r := R K) (xs := [(0, fun f w => kx0 (f 1) (f 4) (f 6) (f 7) w)]) (gs := []) (Eq.mp (by kernel_rfl) h) hkn hr ⟨hkx0, trivial⟩ trivial
def L4 (K : KT) (kx0 : V4) : Nat → V5
  | 0, _, _, _, _, _, _ => False
  | k + 1, text1, v4, inner6, outer7, v21, w => C4 K kx0 (L4 K kx0 k) text1 v4 inner6 outer7 v21 w
theorem L4.sound {kx0 : V4} {Q : QT} (hkx0 : ∀ f w, kx0 (f 1) (f 4) (f 6) (f 7) w → Q (.exit 0) f w) (hr : ∀ f w, R K f w → Q .ret f w) : ∀ (k : Nat) (f : Fr) (w : World), L4 K kx0 k (f 1) (f 4) (f 6) (f 7) (f 21) w → It (W Tryd.prog ext (subC B [1, 1, 1, 1, 1, 1, 1, 0, 0, 0])) Q k f w
  | 0, _, _, h => h
  | k + 1, _, _, h => C4.sound (K := K) (Q := seqQ (It (W Tryd.prog ext (subC B [1, 1, 1, 1, 1, 1, 1, 0, 0, 0])) Q k) Q) hkx0 (fun f w h => seq_n (L4.sound hkx0 hr k f w h)) hr h
def C2 (K : KT) (key0 text1 v4 : Value) (w : World) : Prop :=
  newW (zCells Tryd.prog 60) 60 w fun inner6 w =>
  newW (zCells Tryd.prog 60) 60 w fun outer7 w =>
  optW (slA 64 1 inner6 none none none) w fun v17 w =>
  semW Tryd.prog (bltS .copy #[23, 23] 3 #[v17, key0]) w fun v19 w =>
  optW (ldN 64 inner6 w) w fun v20 w =>
  stN 64 outer7 v20 w fun w =>
  ∃ k, L4 K (C3 K) k text1 v4 inner6 outer7 (.int .i64 0) w
theorem C2.sound {Q : QT} (hr : ∀ f w, R K f w → Q .ret f w) {f : Fr} {w : World} (h : C2 K (f 0) (f 1) (f 4) w) : W Tryd.prog ext (subC B [1, 1, 1]) Q f w :=
  W_pre 4 (c2 := (subC B [1, 1, 1, 1, 1, 1, 1])) (by kernel_rfl) (n := fun f w => ∃ k, L4 K (C3 K) k (f 1) (f 4) (f 6) (f 7) (f 21) w) (r := R K) (xs := []) (gs := []) (Eq.mp (by kernel_rfl) h) (fun f w h => W_seq' (a := (subC B [1, 1, 1, 1, 1, 1, 1, 0])) (b := (subC B [1, 1, 1, 1, 1, 1, 1, 1])) (by kernel_rfl) (W_block' (id := 0) (c := (subC B [1, 1, 1, 1, 1, 1, 1, 0, 0])) (by kernel_rfl) (W_loop' (c := (subC B [1, 1, 1, 1, 1, 1, 1, 0, 0, 0])) (by kernel_rfl) (h.elim fun k h => ⟨k, L4.sound (K := K) (Q := (blkQ 0 (seqQ (W Tryd.prog ext (subC B [1, 1, 1, 1, 1, 1, 1, 1]) Q) Q))) (kx0 := (C3 K)) (fun f w h => blk_x ((fun f w h => seq_n (C3.sound (K := K) (Q := Q) hr h)) f w h)) hr k _ _ h⟩)))) hr trivial trivial
def C1 (K : KT) (key0 text1 : Value) (w : World) : Prop :=
  newW (zCells Tryd.prog 43) 43 w fun v4 w =>
  optW (lenS key0) w fun v11 w =>
  optW (arO .gtr v11 (.int .i64 64)) w fun v12 w =>
  Cnd v12 (
  semW Tryd.prog (Instr.buildSlice 24 1 #[(0, key0)]) w fun v14 w =>
  CallsR Tryd.prog 26 #[v14] w fun v15 w =>
  newW (zCells Tryd.prog 43) 43 w fun s5 w =>
  stN 32 s5 v15 w fun w =>
  optW (slA 32 1 s5 none none none) w fun v16 w =>
  C2 K v16 text1 v4 w) (
  C2 K key0 text1 v4 w)
theorem C1.sound {Q : QT} (hr : ∀ f w, R K f w → Q .ret f w) {f : Fr} {w : World} (h : C1 K (f 0) (f 1) w) : W Tryd.prog ext (subC B []) Q f w :=
  W_pre 3 (c2 := (subC B [1, 1, 1])) (by kernel_rfl) (n := fun f w => C2 K (f 0) (f 1) (f 4) w) (r := R K) (xs := []) (gs := []) (Eq.mp (by kernel_rfl) h) (fun f w h => C2.sound (K := K) (Q := Q) hr h) hr trivial trivial
def J (key0 text1 : Value) (w : World) (K : KT) : Prop := C1 K key0 text1 w
theorem sound {key0 text1 : Value} {w : World} (h : J key0 text1 w K) : CallsR Tryd.prog 27 #[key0, text1] w K :=
  calls_of_W (ext := ext) (args := [key0, text1]) (fn := Tryd.f27) (c := bodyC Tryd.f27) mixedOk Tryd.func27 rfl (by kernel_rfl) (Nat.le_of_ble_eq_true (by kernel_rfl)) (W_flat _ _ _ _ (C1.sound (fun _ _ h => h) h))
end digest_Mac
/- witness/witnessref1.Mac -/
namespace witnessref1_Mac
noncomputable abbrev B : Code := flat (bodyC Tryd.f28)
noncomputable abbrev R (K : KT) : Fr → World → Prop := fnPost Tryd.prog Tryd.f28.results.toList K .ret
variable {K : KT}
def C3 (K : KT) (text1 v4 inner7 outer8 : Value) (w : World) : Prop :=
  semW Tryd.prog (bltS .append #[23, 23] 23 #[inner7, text1]) w fun v42 w =>
  CallsR Tryd.prog 22 #[v42] w fun v43 w =>
  newW (zCells Tryd.prog 43) 43 w fun s10 w =>
  stN 32 s10 v43 w fun w =>
  optW (slA 32 1 s10 none none none) w fun v45 w =>
  semW Tryd.prog (bltS .append #[23, 23] 23 #[outer8, v45]) w fun v46 w =>
  CallsR Tryd.prog 22 #[v46] w fun v47 w =>
  stN 32 v4 v47 w fun w =>
  resC Tryd.prog v4 43 w fun r0 =>
  K r0 w
theorem C3.sound {Q : QT} (hr : ∀ f w, R K f w → Q .ret f w) {f : Fr} {w : World} (h : C3 K (f 1) (f 4) (f 7) (f 8) w) : W Tryd.prog ext (subC B [1, 1, 1, 1, 1, 1, 1, 1]) Q f w :=
  W_exq (n := fun _ _ => False) (r := R K) (xs := []) (gs := []) (Eq.mp (by kernel_rfl) h) (fun _ _ h => h.elim) hr trivial trivial
def C4 (K : KT) (kx0 : V4) (kn : V6) (text1 v4 k5 inner7 outer8 i9 : Value) (w : World) : Prop :=
  optW (arO .lss i9 (.int .i64 64)) w fun v23 w =>
  Cnd v23 (
  optW (ixA 64 1 k5 i9) w fun v28 w =>
  optW (ld1 v28 w) w fun v29 w =>
  optW (arO .xor v29 (.int .u8 54)) w fun v30 w =>
  semW Tryd.prog (Instr.buildSlice 23 1 #[(0, v30)]) w fun v31 w =>
  semW Tryd.prog (bltS .append #[23, 23] 23 #[inner7, v31]) w fun v32 w =>
  optW (ixA 64 1 k5 i9) w fun v35 w =>
  optW (ld1 v35 w) w fun v36 w =>
  optW (arO .xor v36 (.int .u8 92)) w fun v37 w =>
  semW Tryd.prog (Instr.buildSlice 23 1 #[(0, v37)]) w fun v38 w =>
  semW Tryd.prog (bltS .append #[23, 23] 23 #[outer8, v38]) w fun v39 w =>
  optW (arO .add i9 (.int .i64 1)) w fun v25 w =>
  kn text1 v4 k5 v32 v39 v25 w) (
  kx0 text1 v4 inner7 outer8 w)
theorem C4.sound {kx0 : V4} {kn : V6} {Q : QT} (hkx0 : ∀ f w, kx0 (f 1) (f 4) (f 7) (f 8) w → Q (.exit 0) f w) (hkn : ∀ f w, kn (f 1) (f 4) (f 5) (f 7) (f 8) (f 9) w → Q .normal f w) (hr : ∀ f w, R K f w → Q .ret f w) {f : Fr} {w : World} (h : C4 K kx0 kn (f 1) (f 4) (f 5) (f 7) (f 8) (f 9) w) : W Tryd.prog ext (subC B [1, 1, 1, 1, 1, 1, 1, 0, 0, 0]) Q f w :=
  W_exq (n := fun f w => kn (f 1) (f 4) (f 5) (f 7) (f 8) (f 9) w) (r := R K) (xs := [(0, fun f w => kx0 (f 1) (f 4) (f 7) (f 8) w)]) (gs := []) (Eq.mp (by kernel_rfl) h) hkn hr ⟨hkx0, trivial⟩ trivial
def L4 (K : KT) (kx0 : V4) : Nat → V6
  | 0, _, _, _, _, _, _, _ => False
  | k + 1, text1, v4, k5, inner7, outer8, i9, w => C4 K kx0 (L4 K kx0 k) text1 v4 k5 inner7 outer8 i9 w
theorem L4.sound {kx0 : V4} {Q : QT} (hkx0 : ∀ f w, kx0 (f 1) (f 4) (f 7) (f 8) w → Q (.exit 0) f w) (hr : ∀ f w, R K f w → Q .ret f w) : ∀ (k : Nat) (f : Fr) (w : World), L4 K kx0 k (f 1) (f 4) (f 5) (f 7) (f 8) (f 9) w → It (W Tryd.prog ext (subC B [1, 1, 1, 1, 1, 1, 1, 0, 0, 0])) Q k f w
  | 0, _, _, h => h
  | k + 1, _, _, h => C4.sound (K := K) (Q := seqQ (It (W Tryd.prog ext (subC B [1, 1, 1, 1, 1, 1, 1, 0, 0, 0])) Q k) Q) hkx0 (fun f w h => seq_n (L4.sound hkx0 hr k f w h)) hr h
def C2 (K : KT) (text1 v4 k5 : Value) (w : World) : Prop :=
  ∃ k, L4 K (C3 K) k text1 v4 k5 (.slice none 0 0) (.slice none 0 0) (.int .i64 0) w
theorem C2.sound {Q : QT} (hr : ∀ f w, R K f w → Q .ret f w) {f : Fr} {w : World} (h : C2 K (f 1) (f 4) (f 5) w) : W Tryd.prog ext (subC B [1, 1, 1, 1]) Q f w :=
  W_pre 3 (c2 := (subC B [1, 1, 1, 1, 1, 1, 1])) (by kernel_rfl) (n := fun f w => ∃ k, L4 K (C3 K) k (f 1) (f 4) (f 5) (f 7) (f 8) (f 9) w) (r := R K) (xs := []) (gs := []) (Eq.mp (by kernel_rfl) h) (fun f w h => W_seq' (a := (subC B [1, 1, 1, 1, 1, 1, 1, 0])) (b := (subC B [1, 1, 1, 1, 1, 1, 1, 1])) (by kernel_rfl) (W_block' (id := 0) (c := (subC B [1, 1, 1, 1, 1, 1, 1, 0, 0])) (by kernel_rfl) (W_loop' (c := (subC B [1, 1, 1, 1, 1, 1, 1, 0, 0, 0])) (by kernel_rfl) (h.elim fun k h => ⟨k, L4.sound (K := K) (Q := (blkQ 0 (seqQ (W Tryd.prog ext (subC B [1, 1, 1, 1, 1, 1, 1, 1]) Q) Q))) (kx0 := (C3 K)) (fun f w h => blk_x ((fun f w h => seq_n (C3.sound (K := K) (Q := Q) hr h)) f w h)) hr k _ _ h⟩)))) hr trivial trivial
def C1 (K : KT) (key0 text1 : Value) (w : World) : Prop :=
  newW (zCells Tryd.prog 43) 43 w fun v4 w =>
  newW (zCells Tryd.prog 60) 60 w fun k5 w =>
  optW (lenS key0) w fun v12 w =>
  optW (arO .gtr v12 (.int .i64 64)) w fun v13 w =>
  Cnd v13 (
  CallsR Tryd.prog 22 #[key0] w fun v15 w =>
  newW (zCells Tryd.prog 43) 43 w fun s6 w =>
  stN 32 s6 v15 w fun w =>
  drw w fun w =>
  optW (slA 64 1 k5 none none none) w fun v16 w =>
  optW (slA 32 1 s6 none none none) w fun v17 w =>
  semW Tryd.prog (bltS .copy #[23, 23] 3 #[v16, v17]) w fun v18 w =>
  C2 K text1 v4 k5 w) (
  optW (slA 64 1 k5 none none none) w fun v19 w =>
  semW Tryd.prog (bltS .copy #[23, 23] 3 #[v19, key0]) w fun v21 w =>
  C2 K text1 v4 k5 w)
theorem C1.sound {Q : QT} (hr : ∀ f w, R K f w → Q .ret f w) {f : Fr} {w : World} (h : C1 K (f 0) (f 1) w) : W Tryd.prog ext (subC B []) Q f w :=
  W_pre 4 (c2 := (subC B [1, 1, 1, 1])) (by kernel_rfl) (n := fun f w => C2 K (f 1) (f 4) (f 5) w) (r := R K) (xs := []) (gs := []) (Eq.mp (by kernel_rfl) h) (fun f w h => C2.sound (K := K) (Q := Q) hr h) hr trivial trivial
def J (key0 text1 : Value) (w : World) (K : KT) : Prop := C1 K key0 text1 w
theorem sound {key0 text1 : Value} {w : World} (h : J key0 text1 w K) : CallsR Tryd.prog 28 #[key0, text1] w K :=
  calls_of_W (ext := ext) (args := [key0, text1]) (fn := Tryd.f28) (c := bodyC Tryd.f28) mixedOk Tryd.func28 rfl (by kernel_rfl) (Nat.le_of_ble_eq_true (by kernel_rfl)) (W_flat _ _ _ _ (C1.sound (fun _ _ h => h) h))
end witnessref1_Mac
end Go.Proofs.YtklieghmbhofnaaDoor
