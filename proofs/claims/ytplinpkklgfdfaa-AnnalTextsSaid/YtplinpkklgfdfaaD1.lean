-- PRINTED: what each function asks ahead of a call, and that it is enough (wip/tools/dec.py)
import Derived.Test.YtplinpkklgfdfaaBase
namespace Go.Proofs.Ytplinpkklgfdfaa
open Go Go.Ev
set_option maxRecDepth 100000
/- witness/witnesslaw13.AnnalTexts -/
namespace witnesslaw13_AnnalTexts
noncomputable abbrev B : Code := flat (bodyC Try.f3)
noncomputable abbrev R (K : KT) : Fr → World → Prop := fnPost Try.prog Try.f3.results.toList K .ret
variable {K : KT}
def C2 (K : KT) (v6 : Value) (w : World) : Prop :=
  K v6 w
theorem C2.sound {Q : QT} (hr : ∀ f w, R K f w → Q .ret f w) {f : Fr} {w : World} (h : C2 K (f 6) w) : W Try.prog ext (subC B [1, 1]) Q f w :=
  W_exq (n := fun _ _ => False) (r := R K) (xs := []) (gs := []) (Eq.mp (by kernel_rfl) h) (fun _ _ h => h.elim) hr trivial trivial
def D3 (kn : V1) (l3 left4 right5 : Value) (w : World) : Prop :=
  ∃ I : World → Prop, I w.drew ∧ drw w fun w =>
  rdI I (fun w => ldN 33 l3 w) fun v7 =>
  CallsR Try.prog 5 #[v7] w fun v8 w => I w ∧
  rdI I (fun w => ldN 33 l3 w) fun v9 =>
  CallsR Try.prog 6 #[v9] w fun v10 w => I w ∧
  CallsR Try.prog 4 #[v8, v10] w fun v11 w => I w ∧
  rdG I v11 true (fun w => ldN 32 left4 w) fun v13 =>
  rdG I v11 true (fun w => ldN 32 right5 w) fun v14 =>
  gOp v11 true w (fun K => CallsR Try.prog 7 #[v13, v14] w K) fun v15 w => I w ∧
  rdG I v11 true (fun w => ldN 32 left4 w) fun v16 =>
  rdG I v11 true (fun w => ldN 32 right5 w) fun v17 =>
  gOp v11 true w (fun K => CallsR Try.prog 8 #[v16, v17] w K) fun v18 w => I w ∧
  gOp v11 true w (fun K => CallsR Try.prog 4 #[v15, v18] w K) fun v19 w => I w ∧
  optW (pickO v11 v19 (.bool false)) w fun v20 w => 
  kn v20 w
def C1 (K : KT) (l0 left1 right2 : Value) (w : World) : Prop :=
  newW (Value.cells l0) 26 w fun l3 w =>
  newW (Value.cells left1) 24 w fun left4 w =>
  newW (Value.cells right2) 24 w fun right5 w =>
  D3 (C2 K) l3 left4 right5 w
theorem C1.sound {Q : QT} (hr : ∀ f w, R K f w → Q .ret f w) {f : Fr} {w : World} (h : C1 K (f 0) (f 1) (f 2) w) : W Try.prog ext (subC B []) Q f w :=
  W_pre 1 (c2 := (subC B [1])) (by kernel_rfl) (n := fun f w => D3 (C2 K) (f 3) (f 4) (f 5) w) (r := R K) (xs := []) (gs := []) (Eq.mp (by kernel_rfl) h) (fun f w h => W_seq' (a := (subC B [1, 0])) (b := (subC B [1, 1])) (by kernel_rfl) (W_drawI' (id := 1) (ops := (opsC (subC B [1, 0]))) (N := fun f w => (C2 K) (f 6) w) (by kernel_rfl) (by kernel_rfl) (by kernel_rfl) (Eq.mp (by kernel_rfl) h) (fun f w h => seq_n (C2.sound (K := K) (Q := Q) hr h)))) hr trivial trivial
def J (l0 left1 right2 : Value) (w : World) (K : KT) : Prop := C1 K l0 left1 right2 w
theorem sound {l0 left1 right2 : Value} {w : World} (h : J l0 left1 right2 w K) : CallsR Try.prog 3 #[l0, left1, right2] w K :=
  calls_of_W (ext := ext) (args := [l0, left1, right2]) (fn := Try.f3) (c := bodyC Try.f3) mixedOk Try.func3 rfl (by kernel_rfl) (Nat.le_of_ble_eq_true (by kernel_rfl)) (W_flat _ _ _ _ (C1.sound (fun _ _ h => h) h))
end witnesslaw13_AnnalTexts
/- witness/witnessplain.SameBytes -/
namespace witnessplain_SameBytes
noncomputable abbrev B : Code := flat (bodyC Try.f4)
noncomputable abbrev R (K : KT) : Fr → World → Prop := fnPost Try.prog Try.f4.results.toList K .ret
variable {K : KT}
def C1 (K : KT) (a0 b1 : Value) (w : World) : Prop :=
  CallsR Try.prog 9 #[a0, b1] w fun v7 w =>
  optW (eqO false v7 (.int .i64 0)) w fun v8 w =>
  K v8 w
theorem C1.sound {Q : QT} (hr : ∀ f w, R K f w → Q .ret f w) {f : Fr} {w : World} (h : C1 K (f 0) (f 1) w) : W Try.prog ext (subC B []) Q f w :=
  W_exq (n := fun _ _ => False) (r := R K) (xs := []) (gs := []) (Eq.mp (by kernel_rfl) h) (fun _ _ h => h.elim) hr trivial trivial
def J (a0 b1 : Value) (w : World) (K : KT) : Prop := C1 K a0 b1 w
theorem sound {a0 b1 : Value} {w : World} (h : J a0 b1 w K) : CallsR Try.prog 4 #[a0, b1] w K :=
  calls_of_W (ext := ext) (args := [a0, b1]) (fn := Try.f4) (c := bodyC Try.f4) mixedOk Try.func4 rfl (by kernel_rfl) (Nat.le_of_ble_eq_true (by kernel_rfl)) (W_flat _ _ _ _ (C1.sound (fun _ _ h => h) h))
end witnessplain_SameBytes
/- witness/annals.LeafText -/
namespace annals_LeafText
noncomputable abbrev B : Code := flat (bodyC Try.f5)
noncomputable abbrev R (K : KT) : Fr → World → Prop := fnPost Try.prog Try.f5.results.toList K .ret
variable {K : KT}
def C1 (K : KT) (l0 : Value) (w : World) : Prop :=
  newW (Value.cells l0) 26 w fun l1 w =>
  newW (zCells Try.prog 34) 34 w fun w3 w =>
  CallsR Try.prog 10 #[w3, (.int .u8 21)] w fun v4 w =>
  optW (fadO 0 l1) w fun v5 w =>
  optW (ld1 v5 w) w fun v6 w =>
  CallsR Try.prog 11 #[w3, v6] w fun v7 w =>
  optW (fadO 1 l1) w fun v8 w =>
  optW (ldN 32 v8 w) w fun v9 w =>
  CallsR Try.prog 12 #[w3, v9] w fun v10 w =>
  CallsR Try.prog 13 #[w3] w fun v11 w =>
  K v11 w
theorem C1.sound {Q : QT} (hr : ∀ f w, R K f w → Q .ret f w) {f : Fr} {w : World} (h : C1 K (f 0) w) : W Try.prog ext (subC B []) Q f w :=
  W_exq (n := fun _ _ => False) (r := R K) (xs := []) (gs := []) (Eq.mp (by kernel_rfl) h) (fun _ _ h => h.elim) hr trivial trivial
def J (l0 : Value) (w : World) (K : KT) : Prop := C1 K l0 w
theorem sound {l0 : Value} {w : World} (h : J l0 w K) : CallsR Try.prog 5 #[l0] w K :=
  calls_of_W (ext := ext) (args := [l0]) (fn := Try.f5) (c := bodyC Try.f5) mixedOk Try.func5 rfl (by kernel_rfl) (Nat.le_of_ble_eq_true (by kernel_rfl)) (W_flat _ _ _ _ (C1.sound (fun _ _ h => h) h))
end annals_LeafText
/- witness/witnessref13.LeafText -/
namespace witnessref13_LeafText
noncomputable abbrev B : Code := flat (bodyC Try.f6)
noncomputable abbrev R (K : KT) : Fr → World → Prop := fnPost Try.prog Try.f6.results.toList K .ret
variable {K : KT}
def C1 (K : KT) (l0 : Value) (w : World) : Prop :=
  newW (Value.cells l0) 26 w fun l1 w =>
  semW Try.prog (Instr.buildSlice 28 1 #[(0, (.int .u8 21))]) w fun v4 w =>
  optW (fadO 0 l1) w fun v5 w =>
  optW (ld1 v5 w) w fun v6 w =>
  CallsR Try.prog 14 #[v6, (.int .i64 8)] w fun v7 w =>
  semW Try.prog (bltS .append #[28, 28] 28 #[v4, v7]) w fun v8 w =>
  optW (fadO 1 l1) w fun v10 w =>
  optW (ldN 32 v10 w) w fun v11 w =>
  CallsR Try.prog 15 #[v11] w fun v12 w =>
  semW Try.prog (bltS .append #[28, 28] 28 #[v8, v12]) w fun v13 w =>
  K v13 w
theorem C1.sound {Q : QT} (hr : ∀ f w, R K f w → Q .ret f w) {f : Fr} {w : World} (h : C1 K (f 0) w) : W Try.prog ext (subC B []) Q f w :=
  W_exq (n := fun _ _ => False) (r := R K) (xs := []) (gs := []) (Eq.mp (by kernel_rfl) h) (fun _ _ h => h.elim) hr trivial trivial
def J (l0 : Value) (w : World) (K : KT) : Prop := C1 K l0 w
theorem sound {l0 : Value} {w : World} (h : J l0 w K) : CallsR Try.prog 6 #[l0] w K :=
  calls_of_W (ext := ext) (args := [l0]) (fn := Try.f6) (c := bodyC Try.f6) mixedOk Try.func6 rfl (by kernel_rfl) (Nat.le_of_ble_eq_true (by kernel_rfl)) (W_flat _ _ _ _ (C1.sound (fun _ _ h => h) h))
end witnessref13_LeafText
/- witness/annals.ForkText -/
namespace annals_ForkText
noncomputable abbrev B : Code := flat (bodyC Try.f7)
noncomputable abbrev R (K : KT) : Fr → World → Prop := fnPost Try.prog Try.f7.results.toList K .ret
variable {K : KT}
def C1 (K : KT) (left0 right1 : Value) (w : World) : Prop :=
  newW (Value.cells left0) 24 w fun left2 w =>
  newW (Value.cells right1) 24 w fun right3 w =>
  newW (zCells Try.prog 34) 34 w fun w5 w =>
  CallsR Try.prog 10 #[w5, (.int .u8 22)] w fun v6 w =>
  optW (ldN 32 left2 w) w fun v7 w =>
  CallsR Try.prog 12 #[w5, v7] w fun v8 w =>
  optW (ldN 32 right3 w) w fun v9 w =>
  CallsR Try.prog 12 #[w5, v9] w fun v10 w =>
  CallsR Try.prog 13 #[w5] w fun v11 w =>
  K v11 w
theorem C1.sound {Q : QT} (hr : ∀ f w, R K f w → Q .ret f w) {f : Fr} {w : World} (h : C1 K (f 0) (f 1) w) : W Try.prog ext (subC B []) Q f w :=
  W_exq (n := fun _ _ => False) (r := R K) (xs := []) (gs := []) (Eq.mp (by kernel_rfl) h) (fun _ _ h => h.elim) hr trivial trivial
def J (left0 right1 : Value) (w : World) (K : KT) : Prop := C1 K left0 right1 w
theorem sound {left0 right1 : Value} {w : World} (h : J left0 right1 w K) : CallsR Try.prog 7 #[left0, right1] w K :=
  calls_of_W (ext := ext) (args := [left0, right1]) (fn := Try.f7) (c := bodyC Try.f7) mixedOk Try.func7 rfl (by kernel_rfl) (Nat.le_of_ble_eq_true (by kernel_rfl)) (W_flat _ _ _ _ (C1.sound (fun _ _ h => h) h))
end annals_ForkText
/- witness/witnessref13.ForkText -/
namespace witnessref13_ForkText
noncomputable abbrev B : Code := flat (bodyC Try.f8)
noncomputable abbrev R (K : KT) : Fr → World → Prop := fnPost Try.prog Try.f8.results.toList K .ret
variable {K : KT}
def C1 (K : KT) (left0 right1 : Value) (w : World) : Prop :=
  newW (Value.cells left0) 24 w fun left2 w =>
  newW (Value.cells right1) 24 w fun right3 w =>
  semW Try.prog (Instr.buildSlice 28 1 #[(0, (.int .u8 22))]) w fun v6 w =>
  optW (ldN 32 left2 w) w fun v7 w =>
  CallsR Try.prog 15 #[v7] w fun v8 w =>
  semW Try.prog (bltS .append #[28, 28] 28 #[v6, v8]) w fun v9 w =>
  optW (ldN 32 right3 w) w fun v11 w =>
  CallsR Try.prog 15 #[v11] w fun v12 w =>
  semW Try.prog (bltS .append #[28, 28] 28 #[v9, v12]) w fun v13 w =>
  K v13 w
theorem C1.sound {Q : QT} (hr : ∀ f w, R K f w → Q .ret f w) {f : Fr} {w : World} (h : C1 K (f 0) (f 1) w) : W Try.prog ext (subC B []) Q f w :=
  W_exq (n := fun _ _ => False) (r := R K) (xs := []) (gs := []) (Eq.mp (by kernel_rfl) h) (fun _ _ h => h.elim) hr trivial trivial
def J (left0 right1 : Value) (w : World) (K : KT) : Prop := C1 K left0 right1 w
theorem sound {left0 right1 : Value} {w : World} (h : J left0 right1 w K) : CallsR Try.prog 8 #[left0, right1] w K :=
  calls_of_W (ext := ext) (args := [left0, right1]) (fn := Try.f8) (c := bodyC Try.f8) mixedOk Try.func8 rfl (by kernel_rfl) (Nat.le_of_ble_eq_true (by kernel_rfl)) (W_flat _ _ _ _ (C1.sound (fun _ _ h => h) h))
end witnessref13_ForkText
/- witness/witnessplain.Compare -/
namespace witnessplain_Compare
noncomputable abbrev B : Code := flat (bodyC Try.f9)
noncomputable abbrev R (K : KT) : Fr → World → Prop := fnPost Try.prog Try.f9.results.toList K .ret
variable {K : KT}
def C2 (K : KT) (a0 b1 : Value) (w : World) : Prop :=
  optW (lenS a0) w fun v37 w =>
  optW (lenS b1) w fun v39 w =>
  optW (arO .lss v37 v39) w fun v40 w =>
  Cnd v40 (
  K (.int .i64 (-1)) w) (
  optW (lenS a0) w fun v42 w =>
  optW (lenS b1) w fun v44 w =>
  optW (arO .gtr v42 v44) w fun v45 w =>
  Cnd v45 (
  K (.int .i64 1) w) (
  K (.int .i64 0) w))
theorem C2.sound {Q : QT} (hr : ∀ f w, R K f w → Q .ret f w) {f : Fr} {w : World} (h : C2 K (f 0) (f 1) w) : W Try.prog ext (subC B [1, 1, 1]) Q f w :=
  W_exq (n := fun _ _ => False) (r := R K) (xs := []) (gs := []) (Eq.mp (by kernel_rfl) h) (fun _ _ h => h.elim) hr trivial trivial
def C3 (K : KT) (kx0 : V2) (kn : V3) (a0 b1 i5 : Value) (w : World) : Prop :=
  optW (lenS a0) w fun v8 w =>
  optW (arO .lss i5 v8) w fun v9 w =>
  gOp v9 true w (fun K => K i5 w) fun v11 w =>
  gOp v9 true w (fun K => K b1 w) fun v12 w =>
  gOp v9 true w (fun K => optW (lenS v12) w K) fun v13 w =>
  gOp v9 true w (fun K => optW (arO .lss v11 v13) w K) fun v14 w =>
  optW (pickO v9 v14 (.bool false)) w fun v15 w =>
  Cnd v15 (
  drw w fun w =>
  optW (ixS 1 a0 i5) w fun v20 w =>
  optW (ld1 v20 w) w fun v21 w =>
  optW (ixS 1 b1 i5) w fun v24 w =>
  optW (ld1 v24 w) w fun v25 w =>
  optW (eqO true v21 v25) w fun v26 w =>
  Cnd v26 (
  drw w fun w =>
  optW (ixS 1 a0 i5) w fun v29 w =>
  optW (ld1 v29 w) w fun v30 w =>
  optW (ixS 1 b1 i5) w fun v33 w =>
  optW (ld1 v33 w) w fun v34 w =>
  optW (arO .lss v30 v34) w fun v35 w =>
  Cnd v35 (
  K (.int .i64 (-1)) w) (
  K (.int .i64 1) w)) (
  optW (arO .add i5 (.int .i64 1)) w fun v17 w =>
  kn a0 b1 v17 w)) (
  kx0 a0 b1 w)
theorem C3.sound {kx0 : V2} {kn : V3} {Q : QT} (hkx0 : ∀ f w, kx0 (f 0) (f 1) w → Q (.exit 0) f w) (hkn : ∀ f w, kn (f 0) (f 1) (f 5) w → Q .normal f w) (hr : ∀ f w, R K f w → Q .ret f w) {f : Fr} {w : World} (h : C3 K kx0 kn (f 0) (f 1) (f 5) w) : W Try.prog ext (subC B [1, 1, 0, 0, 0]) Q f w :=
  W_exq (n := fun f w => kn (f 0) (f 1) (f 5) w) (r := R K) (xs := [(0, fun f w => kx0 (f 0) (f 1) w)]) (gs := []) (Eq.mp (by kernel_rfl) h) hkn hr ⟨hkx0, trivial⟩ trivial
def L3 (K : KT) (kx0 : V2) : Nat → V3
  | 0, _, _, _, _ => False
  | k + 1, a0, b1, i5, w => C3 K kx0 (L3 K kx0 k) a0 b1 i5 w
theorem L3.sound {kx0 : V2} {Q : QT} (hkx0 : ∀ f w, kx0 (f 0) (f 1) w → Q (.exit 0) f w) (hr : ∀ f w, R K f w → Q .ret f w) : ∀ (k : Nat) (f : Fr) (w : World), L3 K kx0 k (f 0) (f 1) (f 5) w → It (W Try.prog ext (subC B [1, 1, 0, 0, 0])) Q k f w
  | 0, _, _, h => h
  | k + 1, _, _, h => C3.sound (K := K) (Q := seqQ (It (W Try.prog ext (subC B [1, 1, 0, 0, 0])) Q k) Q) hkx0 (fun f w h => seq_n (L3.sound hkx0 hr k f w h)) hr h
def C1 (K : KT) (a0 b1 : Value) (w : World) : Prop :=
  ∃ k, L3 K (C2 K) k a0 b1 (.int .i64 0) w
theorem C1.sound {Q : QT} (hr : ∀ f w, R K f w → Q .ret f w) {f : Fr} {w : World} (h : C1 K (f 0) (f 1) w) : W Try.prog ext (subC B []) Q f w :=
  W_pre 2 (c2 := (subC B [1, 1])) (by kernel_rfl) (n := fun f w => ∃ k, L3 K (C2 K) k (f 0) (f 1) (f 5) w) (r := R K) (xs := []) (gs := []) (Eq.mp (by kernel_rfl) h) (fun f w h => W_seq' (a := (subC B [1, 1, 0])) (b := (subC B [1, 1, 1])) (by kernel_rfl) (W_block' (id := 0) (c := (subC B [1, 1, 0, 0])) (by kernel_rfl) (W_loop' (c := (subC B [1, 1, 0, 0, 0])) (by kernel_rfl) (h.elim fun k h => ⟨k, L3.sound (K := K) (Q := (blkQ 0 (seqQ (W Try.prog ext (subC B [1, 1, 1]) Q) Q))) (kx0 := (C2 K)) (fun f w h => blk_x ((fun f w h => seq_n (C2.sound (K := K) (Q := Q) hr h)) f w h)) hr k _ _ h⟩)))) hr trivial trivial
def J (a0 b1 : Value) (w : World) (K : KT) : Prop := C1 K a0 b1 w
theorem sound {a0 b1 : Value} {w : World} (h : J a0 b1 w K) : CallsR Try.prog 9 #[a0, b1] w K :=
  calls_of_W (ext := ext) (args := [a0, b1]) (fn := Try.f9) (c := bodyC Try.f9) mixedOk Try.func9 rfl (by kernel_rfl) (Nat.le_of_ble_eq_true (by kernel_rfl)) (W_flat _ _ _ _ (C1.sound (fun _ _ h => h) h))
end witnessplain_Compare
/- (*witness/codec.Writer).Byte -/
namespace codec_Writer_Byte
noncomputable abbrev B : Code := flat (bodyC Try.f10)
noncomputable abbrev R (K : KT) : Fr → World → Prop := fnPost Try.prog Try.f10.results.toList K .ret
variable {K : KT}
def C1 (K : KT) (kn : V0) (w0 b1 : Value) (w : World) : Prop :=
  optW (nilO w0) w fun v6 w =>
  optW (fadO 0 v6) w fun v7 w =>
  optW (ld1 v7 w) w fun v8 w =>
  semW Try.prog (Instr.buildSlice 28 1 #[(0, b1)]) w fun v10 w =>
  semW Try.prog (bltS .append #[28, 28] 28 #[v8, v10]) w fun v11 w =>
  optW (nilO w0) w fun v12 w =>
  optW (fadO 0 v12) w fun v13 w =>
  st1 v13 v11 w fun w =>
  kn w
theorem C1.sound {kn : V0} {Q : QT} (hkn : ∀ f w, kn w → Q .normal f w) (hr : ∀ f w, R K f w → Q .ret f w) {f : Fr} {w : World} (h : C1 K kn (f 0) (f 1) w) : W Try.prog ext (subC B []) Q f w :=
  W_exq (n := fun f w => kn w) (r := R K) (xs := []) (gs := []) (Eq.mp (by kernel_rfl) h) hkn hr trivial trivial
def J (w0 b1 : Value) (w : World) (K : KT) : Prop := C1 K (fun w => K (.tuple #[]) w) w0 b1 w
theorem sound {w0 b1 : Value} {w : World} (h : J w0 b1 w K) : CallsR Try.prog 10 #[w0, b1] w K :=
  calls_of_W (ext := ext) (args := [w0, b1]) (fn := Try.f10) (c := bodyC Try.f10) mixedOk Try.func10 rfl (by kernel_rfl) (Nat.le_of_ble_eq_true (by kernel_rfl)) (W_flat _ _ _ _ (C1.sound (fun f w h => Eq.mp (by kernel_rfl) h) (fun _ _ h => h) h))
end codec_Writer_Byte
/- (*witness/codec.Writer).Long -/
namespace codec_Writer_Long
noncomputable abbrev B : Code := flat (bodyC Try.f11)
noncomputable abbrev R (K : KT) : Fr → World → Prop := fnPost Try.prog Try.f11.results.toList K .ret
variable {K : KT}
def C1 (K : KT) (kn : V0) (w0 n1 : Value) (w : World) : Prop :=
  optW (shO .shr n1 (.int .u64 32)) w fun v6 w =>
  optW (cvO .u32 v6) w fun v7 w =>
  CallsR Try.prog 16 #[w0, v7] w fun v8 w =>
  optW (cvO .u32 n1) w fun v11 w =>
  CallsR Try.prog 16 #[w0, v11] w fun v12 w =>
  kn w
theorem C1.sound {kn : V0} {Q : QT} (hkn : ∀ f w, kn w → Q .normal f w) (hr : ∀ f w, R K f w → Q .ret f w) {f : Fr} {w : World} (h : C1 K kn (f 0) (f 1) w) : W Try.prog ext (subC B []) Q f w :=
  W_exq (n := fun f w => kn w) (r := R K) (xs := []) (gs := []) (Eq.mp (by kernel_rfl) h) hkn hr trivial trivial
def J (w0 n1 : Value) (w : World) (K : KT) : Prop := C1 K (fun w => K (.tuple #[]) w) w0 n1 w
theorem sound {w0 n1 : Value} {w : World} (h : J w0 n1 w K) : CallsR Try.prog 11 #[w0, n1] w K :=
  calls_of_W (ext := ext) (args := [w0, n1]) (fn := Try.f11) (c := bodyC Try.f11) mixedOk Try.func11 rfl (by kernel_rfl) (Nat.le_of_ble_eq_true (by kernel_rfl)) (W_flat _ _ _ _ (C1.sound (fun f w h => Eq.mp (by kernel_rfl) h) (fun _ _ h => h) h))
end codec_Writer_Long
/- (*witness/codec.Writer).Sum -/
namespace codec_Writer_Sum
noncomputable abbrev B : Code := flat (bodyC Try.f12)
noncomputable abbrev R (K : KT) : Fr → World → Prop := fnPost Try.prog Try.f12.results.toList K .ret
variable {K : KT}
def C1 (K : KT) (kn : V0) (w0 s1 : Value) (w : World) : Prop :=
  newW (Value.cells s1) 24 w fun s3 w =>
  optW (slA 32 1 s3 none none none) w fun v5 w =>
  CallsR Try.prog 17 #[w0, v5] w fun v6 w =>
  kn w
theorem C1.sound {kn : V0} {Q : QT} (hkn : ∀ f w, kn w → Q .normal f w) (hr : ∀ f w, R K f w → Q .ret f w) {f : Fr} {w : World} (h : C1 K kn (f 0) (f 1) w) : W Try.prog ext (subC B []) Q f w :=
  W_exq (n := fun f w => kn w) (r := R K) (xs := []) (gs := []) (Eq.mp (by kernel_rfl) h) hkn hr trivial trivial
def J (w0 s1 : Value) (w : World) (K : KT) : Prop := C1 K (fun w => K (.tuple #[]) w) w0 s1 w
theorem sound {w0 s1 : Value} {w : World} (h : J w0 s1 w K) : CallsR Try.prog 12 #[w0, s1] w K :=
  calls_of_W (ext := ext) (args := [w0, s1]) (fn := Try.f12) (c := bodyC Try.f12) mixedOk Try.func12 rfl (by kernel_rfl) (Nat.le_of_ble_eq_true (by kernel_rfl)) (W_flat _ _ _ _ (C1.sound (fun f w h => Eq.mp (by kernel_rfl) h) (fun _ _ h => h) h))
end codec_Writer_Sum
/- (*witness/codec.Writer).Bytes -/
namespace codec_Writer_Bytes
noncomputable abbrev B : Code := flat (bodyC Try.f13)
noncomputable abbrev R (K : KT) : Fr → World → Prop := fnPost Try.prog Try.f13.results.toList K .ret
variable {K : KT}
def C1 (K : KT) (w0 : Value) (w : World) : Prop :=
  optW (nilO w0) w fun v5 w =>
  optW (fadO 0 v5) w fun v6 w =>
  optW (ld1 v6 w) w fun v7 w =>
  optW (lenS v7) w fun v8 w =>
  semW Try.prog (Instr.makeSlice 28 v8 v8) w fun v9 w =>
  optW (nilO w0) w fun v12 w =>
  optW (fadO 0 v12) w fun v13 w =>
  optW (ld1 v13 w) w fun v14 w =>
  semW Try.prog (bltS .copy #[28, 28] 3 #[v9, v14]) w fun v15 w =>
  K v9 w
theorem C1.sound {Q : QT} (hr : ∀ f w, R K f w → Q .ret f w) {f : Fr} {w : World} (h : C1 K (f 0) w) : W Try.prog ext (subC B []) Q f w :=
  W_exq (n := fun _ _ => False) (r := R K) (xs := []) (gs := []) (Eq.mp (by kernel_rfl) h) (fun _ _ h => h.elim) hr trivial trivial
def J (w0 : Value) (w : World) (K : KT) : Prop := C1 K w0 w
theorem sound {w0 : Value} {w : World} (h : J w0 w K) : CallsR Try.prog 13 #[w0] w K :=
  calls_of_W (ext := ext) (args := [w0]) (fn := Try.f13) (c := bodyC Try.f13) mixedOk Try.func13 rfl (by kernel_rfl) (Nat.le_of_ble_eq_true (by kernel_rfl)) (W_flat _ _ _ _ (C1.sound (fun _ _ h => h) h))
end codec_Writer_Bytes
/- witness/witnessref2.High -/
namespace witnessref2_High
noncomputable abbrev B : Code := flat (bodyC Try.f14)
noncomputable abbrev R (K : KT) : Fr → World → Prop := fnPost Try.prog Try.f14.results.toList K .ret
variable {K : KT}
def C2 (K : KT) (b5 : Value) (w : World) : Prop :=
  K b5 w
theorem C2.sound {Q : QT} (hr : ∀ f w, R K f w → Q .ret f w) {f : Fr} {w : World} (h : C2 K (f 5) w) : W Try.prog ext (subC B [1, 1, 1, 1]) Q f w :=
  W_exq (n := fun _ _ => False) (r := R K) (xs := []) (gs := []) (Eq.mp (by kernel_rfl) h) (fun _ _ h => h.elim) hr trivial trivial
def C3 (K : KT) (kx0 : V1) (kn : V3) (x0 b5 i6 : Value) (w : World) : Prop :=
  optW (arO .geq i6 (.int .i64 0)) w fun v12 w =>
  Cnd v12 (
  optW (arO .rem x0 (.int .u64 256)) w fun v18 w =>
  optW (cvO .u8 v18) w fun v19 w =>
  optW (ixS 1 b5 i6) w fun v20 w =>
  st1 v20 v19 w fun w =>
  optW (arO .quo x0 (.int .u64 256)) w fun v22 w =>
  optW (arO .sub i6 (.int .i64 1)) w fun v14 w =>
  kn v22 b5 v14 w) (
  kx0 b5 w)
theorem C3.sound {kx0 : V1} {kn : V3} {Q : QT} (hkx0 : ∀ f w, kx0 (f 5) w → Q (.exit 0) f w) (hkn : ∀ f w, kn (f 0) (f 5) (f 6) w → Q .normal f w) (hr : ∀ f w, R K f w → Q .ret f w) {f : Fr} {w : World} (h : C3 K kx0 kn (f 0) (f 5) (f 6) w) : W Try.prog ext (subC B [1, 1, 1, 0, 0, 0]) Q f w :=
  W_exq (n := fun f w => kn (f 0) (f 5) (f 6) w) (r := R K) (xs := [(0, fun f w => kx0 (f 5) w)]) (gs := []) (Eq.mp (by kernel_rfl) h) hkn hr ⟨hkx0, trivial⟩ trivial
def L3 (K : KT) (kx0 : V1) : Nat → V3
  | 0, _, _, _, _ => False
  | k + 1, x0, b5, i6, w => C3 K kx0 (L3 K kx0 k) x0 b5 i6 w
theorem L3.sound {kx0 : V1} {Q : QT} (hkx0 : ∀ f w, kx0 (f 5) w → Q (.exit 0) f w) (hr : ∀ f w, R K f w → Q .ret f w) : ∀ (k : Nat) (f : Fr) (w : World), L3 K kx0 k (f 0) (f 5) (f 6) w → It (W Try.prog ext (subC B [1, 1, 1, 0, 0, 0])) Q k f w
  | 0, _, _, h => h
  | k + 1, _, _, h => C3.sound (K := K) (Q := seqQ (It (W Try.prog ext (subC B [1, 1, 1, 0, 0, 0])) Q k) Q) hkx0 (fun f w h => seq_n (L3.sound hkx0 hr k f w h)) hr h
def C1 (K : KT) (x0 n1 : Value) (w : World) : Prop :=
  semW Try.prog (Instr.makeSlice 28 n1 n1) w fun v8 w =>
  optW (arO .sub n1 (.int .i64 1)) w fun v10 w =>
  ∃ k, L3 K (C2 K) k x0 v8 v10 w
theorem C1.sound {Q : QT} (hr : ∀ f w, R K f w → Q .ret f w) {f : Fr} {w : World} (h : C1 K (f 0) (f 1) w) : W Try.prog ext (subC B []) Q f w :=
  W_pre 3 (c2 := (subC B [1, 1, 1])) (by kernel_rfl) (n := fun f w => ∃ k, L3 K (C2 K) k (f 0) (f 5) (f 6) w) (r := R K) (xs := []) (gs := []) (Eq.mp (by kernel_rfl) h) (fun f w h => W_seq' (a := (subC B [1, 1, 1, 0])) (b := (subC B [1, 1, 1, 1])) (by kernel_rfl) (W_block' (id := 0) (c := (subC B [1, 1, 1, 0, 0])) (by kernel_rfl) (W_loop' (c := (subC B [1, 1, 1, 0, 0, 0])) (by kernel_rfl) (h.elim fun k h => ⟨k, L3.sound (K := K) (Q := (blkQ 0 (seqQ (W Try.prog ext (subC B [1, 1, 1, 1]) Q) Q))) (kx0 := (C2 K)) (fun f w h => blk_x ((fun f w h => seq_n (C2.sound (K := K) (Q := Q) hr h)) f w h)) hr k _ _ h⟩)))) hr trivial trivial
def J (x0 n1 : Value) (w : World) (K : KT) : Prop := C1 K x0 n1 w
theorem sound {x0 n1 : Value} {w : World} (h : J x0 n1 w K) : CallsR Try.prog 14 #[x0, n1] w K :=
  calls_of_W (ext := ext) (args := [x0, n1]) (fn := Try.f14) (c := bodyC Try.f14) mixedOk Try.func14 rfl (by kernel_rfl) (Nat.le_of_ble_eq_true (by kernel_rfl)) (W_flat _ _ _ _ (C1.sound (fun _ _ h => h) h))
end witnessref2_High
/- witness/witnessref13.sum -/
namespace witnessref13_sum
noncomputable abbrev B : Code := flat (bodyC Try.f15)
noncomputable abbrev R (K : KT) : Fr → World → Prop := fnPost Try.prog Try.f15.results.toList K .ret
variable {K : KT}
def C2 (K : KT) (b3 : Value) (w : World) : Prop :=
  K b3 w
theorem C2.sound {Q : QT} (hr : ∀ f w, R K f w → Q .ret f w) {f : Fr} {w : World} (h : C2 K (f 3) w) : W Try.prog ext (subC B [1, 1, 1, 1]) Q f w :=
  W_exq (n := fun _ _ => False) (r := R K) (xs := []) (gs := []) (Eq.mp (by kernel_rfl) h) (fun _ _ h => h.elim) hr trivial trivial
def C3 (K : KT) (kx0 : V1) (kn : V3) (s1 b3 i4 : Value) (w : World) : Prop :=
  optW (arO .lss i4 (.int .i64 32)) w fun v6 w =>
  Cnd v6 (
  optW (ixA 32 1 s1 i4) w fun v11 w =>
  optW (ld1 v11 w) w fun v12 w =>
  semW Try.prog (Instr.buildSlice 28 1 #[(0, v12)]) w fun v13 w =>
  semW Try.prog (bltS .append #[28, 28] 28 #[b3, v13]) w fun v14 w =>
  optW (arO .add i4 (.int .i64 1)) w fun v8 w =>
  kn s1 v14 v8 w) (
  kx0 b3 w)
theorem C3.sound {kx0 : V1} {kn : V3} {Q : QT} (hkx0 : ∀ f w, kx0 (f 3) w → Q (.exit 0) f w) (hkn : ∀ f w, kn (f 1) (f 3) (f 4) w → Q .normal f w) (hr : ∀ f w, R K f w → Q .ret f w) {f : Fr} {w : World} (h : C3 K kx0 kn (f 1) (f 3) (f 4) w) : W Try.prog ext (subC B [1, 1, 1, 0, 0, 0]) Q f w :=
  W_exq (n := fun f w => kn (f 1) (f 3) (f 4) w) (r := R K) (xs := [(0, fun f w => kx0 (f 3) w)]) (gs := []) (Eq.mp (by kernel_rfl) h) hkn hr ⟨hkx0, trivial⟩ trivial
def L3 (K : KT) (kx0 : V1) : Nat → V3
  | 0, _, _, _, _ => False
  | k + 1, s1, b3, i4, w => C3 K kx0 (L3 K kx0 k) s1 b3 i4 w
theorem L3.sound {kx0 : V1} {Q : QT} (hkx0 : ∀ f w, kx0 (f 3) w → Q (.exit 0) f w) (hr : ∀ f w, R K f w → Q .ret f w) : ∀ (k : Nat) (f : Fr) (w : World), L3 K kx0 k (f 1) (f 3) (f 4) w → It (W Try.prog ext (subC B [1, 1, 1, 0, 0, 0])) Q k f w
  | 0, _, _, h => h
  | k + 1, _, _, h => C3.sound (K := K) (Q := seqQ (It (W Try.prog ext (subC B [1, 1, 1, 0, 0, 0])) Q k) Q) hkx0 (fun f w h => seq_n (L3.sound hkx0 hr k f w h)) hr h
def C1 (K : KT) (s0 : Value) (w : World) : Prop :=
  newW (Value.cells s0) 24 w fun s1 w =>
  ∃ k, L3 K (C2 K) k s1 (.slice none 0 0) (.int .i64 0) w
theorem C1.sound {Q : QT} (hr : ∀ f w, R K f w → Q .ret f w) {f : Fr} {w : World} (h : C1 K (f 0) w) : W Try.prog ext (subC B []) Q f w :=
  W_pre 3 (c2 := (subC B [1, 1, 1])) (by kernel_rfl) (n := fun f w => ∃ k, L3 K (C2 K) k (f 1) (f 3) (f 4) w) (r := R K) (xs := []) (gs := []) (Eq.mp (by kernel_rfl) h) (fun f w h => W_seq' (a := (subC B [1, 1, 1, 0])) (b := (subC B [1, 1, 1, 1])) (by kernel_rfl) (W_block' (id := 0) (c := (subC B [1, 1, 1, 0, 0])) (by kernel_rfl) (W_loop' (c := (subC B [1, 1, 1, 0, 0, 0])) (by kernel_rfl) (h.elim fun k h => ⟨k, L3.sound (K := K) (Q := (blkQ 0 (seqQ (W Try.prog ext (subC B [1, 1, 1, 1]) Q) Q))) (kx0 := (C2 K)) (fun f w h => blk_x ((fun f w h => seq_n (C2.sound (K := K) (Q := Q) hr h)) f w h)) hr k _ _ h⟩)))) hr trivial trivial
def J (s0 : Value) (w : World) (K : KT) : Prop := C1 K s0 w
theorem sound {s0 : Value} {w : World} (h : J s0 w K) : CallsR Try.prog 15 #[s0] w K :=
  calls_of_W (ext := ext) (args := [s0]) (fn := Try.f15) (c := bodyC Try.f15) mixedOk Try.func15 rfl (by kernel_rfl) (Nat.le_of_ble_eq_true (by kernel_rfl)) (W_flat _ _ _ _ (C1.sound (fun _ _ h => h) h))
end witnessref13_sum
/- (*witness/codec.Writer).Word -/
namespace codec_Writer_Word
noncomputable abbrev B : Code := flat (bodyC Try.f16)
noncomputable abbrev R (K : KT) : Fr → World → Prop := fnPost Try.prog Try.f16.results.toList K .ret
variable {K : KT}
def C2 (K : KT) (kx0 : V0) (kn : V3) (w0 n1 i4 : Value) (w : World) : Prop :=
  optW (arO .geq i4 (.int .i64 0)) w fun v6 w =>
  Cnd v6 (
  optW (shO .shr n1 i4) w fun v12 w =>
  optW (cvO .u8 v12) w fun v13 w =>
  CallsR Try.prog 10 #[w0, v13] w fun v14 w =>
  optW (arO .sub i4 (.int .i64 8)) w fun v8 w =>
  kn w0 n1 v8 w) (
  kx0 w)
theorem C2.sound {kx0 : V0} {kn : V3} {Q : QT} (hkx0 : ∀ f w, kx0 w → Q (.exit 0) f w) (hkn : ∀ f w, kn (f 0) (f 1) (f 4) w → Q .normal f w) (hr : ∀ f w, R K f w → Q .ret f w) {f : Fr} {w : World} (h : C2 K kx0 kn (f 0) (f 1) (f 4) w) : W Try.prog ext (subC B [1, 0, 0]) Q f w :=
  W_exq (n := fun f w => kn (f 0) (f 1) (f 4) w) (r := R K) (xs := [(0, fun f w => kx0 w)]) (gs := []) (Eq.mp (by kernel_rfl) h) hkn hr ⟨hkx0, trivial⟩ trivial
def L2 (K : KT) (kx0 : V0) : Nat → V3
  | 0, _, _, _, _ => False
  | k + 1, w0, n1, i4, w => C2 K kx0 (L2 K kx0 k) w0 n1 i4 w
theorem L2.sound {kx0 : V0} {Q : QT} (hkx0 : ∀ f w, kx0 w → Q (.exit 0) f w) (hr : ∀ f w, R K f w → Q .ret f w) : ∀ (k : Nat) (f : Fr) (w : World), L2 K kx0 k (f 0) (f 1) (f 4) w → It (W Try.prog ext (subC B [1, 0, 0])) Q k f w
  | 0, _, _, h => h
  | k + 1, _, _, h => C2.sound (K := K) (Q := seqQ (It (W Try.prog ext (subC B [1, 0, 0])) Q k) Q) hkx0 (fun f w h => seq_n (L2.sound hkx0 hr k f w h)) hr h
def C1 (K : KT) (kn : V0) (w0 n1 : Value) (w : World) : Prop :=
  ∃ k, L2 K kn k w0 n1 (.int .i64 24) w
theorem C1.sound {kn : V0} {Q : QT} (hkn : ∀ f w, kn w → Q .normal f w) (hr : ∀ f w, R K f w → Q .ret f w) {f : Fr} {w : World} (h : C1 K kn (f 0) (f 1) w) : W Try.prog ext (subC B []) Q f w :=
  W_pre 1 (c2 := (subC B [1])) (by kernel_rfl) (n := fun f w => ∃ k, L2 K kn k (f 0) (f 1) (f 4) w) (r := R K) (xs := []) (gs := []) (Eq.mp (by kernel_rfl) h) (fun f w h => W_block' (id := 0) (c := (subC B [1, 0])) (by kernel_rfl) (W_loop' (c := (subC B [1, 0, 0])) (by kernel_rfl) (h.elim fun k h => ⟨k, L2.sound (K := K) (Q := (blkQ 0 Q)) (kx0 := kn) (fun f w h => blk_x (hkn f w h)) hr k _ _ h⟩))) hr trivial trivial
def J (w0 n1 : Value) (w : World) (K : KT) : Prop := C1 K (fun w => K (.tuple #[]) w) w0 n1 w
theorem sound {w0 n1 : Value} {w : World} (h : J w0 n1 w K) : CallsR Try.prog 16 #[w0, n1] w K :=
  calls_of_W (ext := ext) (args := [w0, n1]) (fn := Try.f16) (c := bodyC Try.f16) mixedOk Try.func16 rfl (by kernel_rfl) (Nat.le_of_ble_eq_true (by kernel_rfl)) (W_flat _ _ _ _ (C1.sound (fun f w h => Eq.mp (by kernel_rfl) h) (fun _ _ h => h) h))
end codec_Writer_Word
/- (*witness/codec.Writer).Raw -/
namespace codec_Writer_Raw
noncomputable abbrev B : Code := flat (bodyC Try.f17)
noncomputable abbrev R (K : KT) : Fr → World → Prop := fnPost Try.prog Try.f17.results.toList K .ret
variable {K : KT}
def C1 (K : KT) (kn : V0) (w0 b1 : Value) (w : World) : Prop :=
  optW (nilO w0) w fun v6 w =>
  optW (fadO 0 v6) w fun v7 w =>
  optW (ld1 v7 w) w fun v8 w =>
  semW Try.prog (bltS .append #[28, 28] 28 #[v8, b1]) w fun v10 w =>
  optW (nilO w0) w fun v11 w =>
  optW (fadO 0 v11) w fun v12 w =>
  st1 v12 v10 w fun w =>
  kn w
theorem C1.sound {kn : V0} {Q : QT} (hkn : ∀ f w, kn w → Q .normal f w) (hr : ∀ f w, R K f w → Q .ret f w) {f : Fr} {w : World} (h : C1 K kn (f 0) (f 1) w) : W Try.prog ext (subC B []) Q f w :=
  W_exq (n := fun f w => kn w) (r := R K) (xs := []) (gs := []) (Eq.mp (by kernel_rfl) h) hkn hr trivial trivial
def J (w0 b1 : Value) (w : World) (K : KT) : Prop := C1 K (fun w => K (.tuple #[]) w) w0 b1 w
theorem sound {w0 b1 : Value} {w : World} (h : J w0 b1 w K) : CallsR Try.prog 17 #[w0, b1] w K :=
  calls_of_W (ext := ext) (args := [w0, b1]) (fn := Try.f17) (c := bodyC Try.f17) mixedOk Try.func17 rfl (by kernel_rfl) (Nat.le_of_ble_eq_true (by kernel_rfl)) (W_flat _ _ _ _ (C1.sound (fun f w h => Eq.mp (by kernel_rfl) h) (fun _ _ h => h) h))
end codec_Writer_Raw
end Go.Proofs.Ytplinpkklgfdfaa
