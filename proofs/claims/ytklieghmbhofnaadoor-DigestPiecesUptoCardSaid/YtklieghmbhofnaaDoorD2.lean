-- PRINTED: what each function asks ahead of a call, and that it is enough (wip/tools/dec.py)
import Derived.Test.YtklieghmbhofnaaDoorBase
namespace Go.Proofs.YtklieghmbhofnaaDoor
open Go Go.Ev
set_option maxRecDepth 100000
/- witness/digest.Check -/
namespace digest_Check
noncomputable abbrev B : Code := flat (bodyC Tryd.f16)
noncomputable abbrev R (K : KT) : Fr → World → Prop := fnPost Tryd.prog Tryd.f16.results.toList K .ret
variable {K : KT}
def C2 (K : KT) (c3 : Value) (w : World) : Prop :=
  K c3 w
theorem C2.sound {Q : QT} (hr : ∀ f w, R K f w → Q .ret f w) {f : Fr} {w : World} (h : C2 K (f 3) w) : W Tryd.prog ext (subC B [1, 1, 1, 1]) Q f w :=
  W_exq (n := fun _ _ => False) (r := R K) (xs := []) (gs := []) (Eq.mp (by kernel_rfl) h) (fun _ _ h => h.elim) hr trivial trivial
def C3 (K : KT) (kx0 : V1) (kn : V4) (c3 v6 v7 v8 : Value) (w : World) : Prop :=
  optW (arO .lss v8 v7) w fun v9 w =>
  Cnd v9 (
  optW (ixS 1 v6 v8) w fun v10 w =>
  optW (ld1 v10 w) w fun v11 w =>
  CallsR Tryd.prog 13 #[c3, v11] w fun v14 w =>
  optW (arO .add v8 (.int .i64 1)) w fun v15 w =>
  kn v14 v6 v7 v15 w) (
  kx0 c3 w)
theorem C3.sound {kx0 : V1} {kn : V4} {Q : QT} (hkx0 : ∀ f w, kx0 (f 3) w → Q (.exit 0) f w) (hkn : ∀ f w, kn (f 3) (f 6) (f 7) (f 8) w → Q .normal f w) (hr : ∀ f w, R K f w → Q .ret f w) {f : Fr} {w : World} (h : C3 K kx0 kn (f 3) (f 6) (f 7) (f 8) w) : W Tryd.prog ext (subC B [1, 1, 1, 0, 0, 0]) Q f w :=
  W_exq (n := fun f w => kn (f 3) (f 6) (f 7) (f 8) w) (r := R K) (xs := [(0, fun f w => kx0 (f 3) w)]) (gs := []) (Eq.mp (by kernel_rfl) h) hkn hr ⟨hkx0, trivial⟩ trivial
def L3 (K : KT) (kx0 : V1) : Nat → V4
  | 0, _, _, _, _, _ => False
  | k + 1, c3, v6, v7, v8, w => C3 K kx0 (L3 K kx0 k) c3 v6 v7 v8 w
theorem L3.sound {kx0 : V1} {Q : QT} (hkx0 : ∀ f w, kx0 (f 3) w → Q (.exit 0) f w) (hr : ∀ f w, R K f w → Q .ret f w) : ∀ (k : Nat) (f : Fr) (w : World), L3 K kx0 k (f 3) (f 6) (f 7) (f 8) w → It (W Tryd.prog ext (subC B [1, 1, 1, 0, 0, 0])) Q k f w
  | 0, _, _, h => h
  | k + 1, _, _, h => C3.sound (K := K) (Q := seqQ (It (W Tryd.prog ext (subC B [1, 1, 1, 0, 0, 0])) Q k) Q) hkx0 (fun f w h => seq_n (L3.sound hkx0 hr k f w h)) hr h
def C1 (K : KT) (parts0 : Value) (w : World) : Prop :=
  optW (lenS parts0) w fun v7 w =>
  ∃ k, L3 K (C2 K) k (.int .u32 0) parts0 v7 (.int .i64 0) w
theorem C1.sound {Q : QT} (hr : ∀ f w, R K f w → Q .ret f w) {f : Fr} {w : World} (h : C1 K (f 0) w) : W Tryd.prog ext (subC B []) Q f w :=
  W_pre 3 (c2 := (subC B [1, 1, 1])) (by kernel_rfl) (n := fun f w => ∃ k, L3 K (C2 K) k (f 3) (f 6) (f 7) (f 8) w) (r := R K) (xs := []) (gs := []) (Eq.mp (by kernel_rfl) h) (fun f w h => W_seq' (a := (subC B [1, 1, 1, 0])) (b := (subC B [1, 1, 1, 1])) (by kernel_rfl) (W_block' (id := 0) (c := (subC B [1, 1, 1, 0, 0])) (by kernel_rfl) (W_loop' (c := (subC B [1, 1, 1, 0, 0, 0])) (by kernel_rfl) (h.elim fun k h => ⟨k, L3.sound (K := K) (Q := (blkQ 0 (seqQ (W Tryd.prog ext (subC B [1, 1, 1, 1]) Q) Q))) (kx0 := (C2 K)) (fun f w h => blk_x ((fun f w h => seq_n (C2.sound (K := K) (Q := Q) hr h)) f w h)) hr k _ _ h⟩)))) hr trivial trivial
def J (parts0 : Value) (w : World) (K : KT) : Prop := C1 K parts0 w
theorem sound {parts0 : Value} {w : World} (h : J parts0 w K) : CallsR Tryd.prog 16 #[parts0] w K :=
  calls_of_W (ext := ext) (args := [parts0]) (fn := Tryd.f16) (c := bodyC Tryd.f16) mixedOk Tryd.func16 rfl (by kernel_rfl) (Nat.le_of_ble_eq_true (by kernel_rfl)) (W_flat _ _ _ _ (C1.sound (fun _ _ h => h) h))
end digest_Check
/- witness/witnessref1.Check -/
namespace witnessref1_Check
noncomputable abbrev B : Code := flat (bodyC Tryd.f17)
noncomputable abbrev R (K : KT) : Fr → World → Prop := fnPost Tryd.prog Tryd.f17.results.toList K .ret
variable {K : KT}
def C1 (K : KT) (text0 : Value) (w : World) : Prop :=
  CallsR Tryd.prog 14 #[(.int .u32 0), text0] w fun v4 w =>
  K v4 w
theorem C1.sound {Q : QT} (hr : ∀ f w, R K f w → Q .ret f w) {f : Fr} {w : World} (h : C1 K (f 0) w) : W Tryd.prog ext (subC B []) Q f w :=
  W_exq (n := fun _ _ => False) (r := R K) (xs := []) (gs := []) (Eq.mp (by kernel_rfl) h) (fun _ _ h => h.elim) hr trivial trivial
def J (text0 : Value) (w : World) (K : KT) : Prop := C1 K text0 w
theorem sound {text0 : Value} {w : World} (h : J text0 w K) : CallsR Tryd.prog 17 #[text0] w K :=
  calls_of_W (ext := ext) (args := [text0]) (fn := Tryd.f17) (c := bodyC Tryd.f17) mixedOk Tryd.func17 rfl (by kernel_rfl) (Nat.le_of_ble_eq_true (by kernel_rfl)) (W_flat _ _ _ _ (C1.sound (fun _ _ h => h) h))
end witnessref1_Check
/- witness/witnessref1.Join -/
namespace witnessref1_Join
noncomputable abbrev B : Code := flat (bodyC Tryd.f18)
noncomputable abbrev R (K : KT) : Fr → World → Prop := fnPost Tryd.prog Tryd.f18.results.toList K .ret
variable {K : KT}
def C2 (K : KT) (b3 : Value) (w : World) : Prop :=
  K b3 w
theorem C2.sound {Q : QT} (hr : ∀ f w, R K f w → Q .ret f w) {f : Fr} {w : World} (h : C2 K (f 3) w) : W Tryd.prog ext (subC B [1, 1, 1, 1]) Q f w :=
  W_exq (n := fun _ _ => False) (r := R K) (xs := []) (gs := []) (Eq.mp (by kernel_rfl) h) (fun _ _ h => h.elim) hr trivial trivial
def C3 (K : KT) (kx0 : V1) (kn : V3) (parts0 b3 i4 : Value) (w : World) : Prop :=
  optW (lenS parts0) w fun v7 w =>
  optW (arO .lss i4 v7) w fun v8 w =>
  Cnd v8 (
  optW (ixS 1 parts0 i4) w fun v14 w =>
  optW (ld1 v14 w) w fun v15 w =>
  semW Tryd.prog (bltS .append #[23, 23] 23 #[b3, v15]) w fun v16 w =>
  optW (arO .add i4 (.int .i64 1)) w fun v10 w =>
  kn parts0 v16 v10 w) (
  kx0 b3 w)
theorem C3.sound {kx0 : V1} {kn : V3} {Q : QT} (hkx0 : ∀ f w, kx0 (f 3) w → Q (.exit 0) f w) (hkn : ∀ f w, kn (f 0) (f 3) (f 4) w → Q .normal f w) (hr : ∀ f w, R K f w → Q .ret f w) {f : Fr} {w : World} (h : C3 K kx0 kn (f 0) (f 3) (f 4) w) : W Tryd.prog ext (subC B [1, 1, 1, 0, 0, 0]) Q f w :=
  W_exq (n := fun f w => kn (f 0) (f 3) (f 4) w) (r := R K) (xs := [(0, fun f w => kx0 (f 3) w)]) (gs := []) (Eq.mp (by kernel_rfl) h) hkn hr ⟨hkx0, trivial⟩ trivial
def L3 (K : KT) (kx0 : V1) : Nat → V3
  | 0, _, _, _, _ => False
  | k + 1, parts0, b3, i4, w => C3 K kx0 (L3 K kx0 k) parts0 b3 i4 w
theorem L3.sound {kx0 : V1} {Q : QT} (hkx0 : ∀ f w, kx0 (f 3) w → Q (.exit 0) f w) (hr : ∀ f w, R K f w → Q .ret f w) : ∀ (k : Nat) (f : Fr) (w : World), L3 K kx0 k (f 0) (f 3) (f 4) w → It (W Tryd.prog ext (subC B [1, 1, 1, 0, 0, 0])) Q k f w
  | 0, _, _, h => h
  | k + 1, _, _, h => C3.sound (K := K) (Q := seqQ (It (W Tryd.prog ext (subC B [1, 1, 1, 0, 0, 0])) Q k) Q) hkx0 (fun f w h => seq_n (L3.sound hkx0 hr k f w h)) hr h
def C1 (K : KT) (parts0 : Value) (w : World) : Prop :=
  ∃ k, L3 K (C2 K) k parts0 (.slice none 0 0) (.int .i64 0) w
theorem C1.sound {Q : QT} (hr : ∀ f w, R K f w → Q .ret f w) {f : Fr} {w : World} (h : C1 K (f 0) w) : W Tryd.prog ext (subC B []) Q f w :=
  W_pre 3 (c2 := (subC B [1, 1, 1])) (by kernel_rfl) (n := fun f w => ∃ k, L3 K (C2 K) k (f 0) (f 3) (f 4) w) (r := R K) (xs := []) (gs := []) (Eq.mp (by kernel_rfl) h) (fun f w h => W_seq' (a := (subC B [1, 1, 1, 0])) (b := (subC B [1, 1, 1, 1])) (by kernel_rfl) (W_block' (id := 0) (c := (subC B [1, 1, 1, 0, 0])) (by kernel_rfl) (W_loop' (c := (subC B [1, 1, 1, 0, 0, 0])) (by kernel_rfl) (h.elim fun k h => ⟨k, L3.sound (K := K) (Q := (blkQ 0 (seqQ (W Tryd.prog ext (subC B [1, 1, 1, 1]) Q) Q))) (kx0 := (C2 K)) (fun f w h => blk_x ((fun f w h => seq_n (C2.sound (K := K) (Q := Q) hr h)) f w h)) hr k _ _ h⟩)))) hr trivial trivial
def J (parts0 : Value) (w : World) (K : KT) : Prop := C1 K parts0 w
theorem sound {parts0 : Value} {w : World} (h : J parts0 w K) : CallsR Tryd.prog 18 #[parts0] w K :=
  calls_of_W (ext := ext) (args := [parts0]) (fn := Tryd.f18) (c := bodyC Tryd.f18) mixedOk Tryd.func18 rfl (by kernel_rfl) (Nat.le_of_ble_eq_true (by kernel_rfl)) (W_flat _ _ _ _ (C1.sound (fun _ _ h => h) h))
end witnessref1_Join
/- witness/witnesslaw1.DigestChecks -/
namespace witnesslaw1_DigestChecks
noncomputable abbrev B : Code := flat (bodyC Tryd.f4)
noncomputable abbrev R (K : KT) : Fr → World → Prop := fnPost Tryd.prog Tryd.f4.results.toList K .ret
variable {K : KT}
def C1 (K : KT) (parts0 : Value) (w : World) : Prop :=
  CallsR Tryd.prog 12 #[parts0] w fun v7 w =>
  optW (extO v7 0) w fun v8 w =>
  optW (extO v7 1) w fun v9 w =>
  CallsR Tryd.prog 16 #[v8] w fun v11 w =>
  CallsR Tryd.prog 18 #[parts0] w fun v13 w =>
  CallsR Tryd.prog 17 #[v13] w fun v14 w =>
  optW (eqO false v11 v14) w fun v15 w =>
  gOp v15 true w (fun K => K parts0 w) fun v17 w =>
  gOp v15 true w (fun K => K v9 w) fun v18 w =>
  gOp v15 true w (fun K => CallsR Tryd.prog 15 #[v17, v18] w K) fun v19 w =>
  optW (pickO v15 v19 (.bool false)) w fun v20 w =>
  K v20 w
theorem C1.sound {Q : QT} (hr : ∀ f w, R K f w → Q .ret f w) {f : Fr} {w : World} (h : C1 K (f 0) w) : W Tryd.prog ext (subC B []) Q f w :=
  W_exq (n := fun _ _ => False) (r := R K) (xs := []) (gs := []) (Eq.mp (by kernel_rfl) h) (fun _ _ h => h.elim) hr trivial trivial
def J (parts0 : Value) (w : World) (K : KT) : Prop := C1 K parts0 w
theorem sound {parts0 : Value} {w : World} (h : J parts0 w K) : CallsR Tryd.prog 4 #[parts0] w K :=
  calls_of_W (ext := ext) (args := [parts0]) (fn := Tryd.f4) (c := bodyC Tryd.f4) mixedOk Tryd.func4 rfl (by kernel_rfl) (Nat.le_of_ble_eq_true (by kernel_rfl)) (W_flat _ _ _ _ (C1.sound (fun _ _ h => h) h))
end witnesslaw1_DigestChecks
end Go.Proofs.YtklieghmbhofnaaDoor
