-- PRINTED: what each function asks ahead of a call, and that it is enough (wip/tools/dec.py)
import Derived.Test.YtklieghmbhofnaaBase
namespace Go.Proofs.Ytklieghmbhofnaa
open Go Go.Ev
set_option maxRecDepth 100000
/- witness/witnesslaw1.DigestHexes -/
namespace witnesslaw1_DigestHexes
noncomputable abbrev B : Code := flat (bodyC Try.f4)
noncomputable abbrev R (K : KT) : Fr → World → Prop := fnPost Try.prog Try.f4.results.toList K .ret
variable {K : KT}
def C2 (K : KT) (v4 : Value) (w : World) : Prop :=
  K v4 w
theorem C2.sound {Q : QT} (hr : ∀ f w, R K f w → Q .ret f w) {f : Fr} {w : World} (h : C2 K (f 4) w) : W Try.prog ext (subC B [1, 1, 1, 1]) Q f w :=
  W_exq (n := fun _ _ => False) (r := R K) (xs := []) (gs := []) (Eq.mp (by kernel_rfl) h) (fun _ _ h => h.elim) hr trivial trivial
def D3 (kn : V1) (s2 p5 e6 q7 f8 : Value) (w : World) : Prop :=
  ∃ I : World → Prop, I w.drew ∧ drw w fun w =>
  rdI I (fun w => ldN 32 s2 w) fun v19 =>
  CallsR Try.prog 10 #[v19] w fun v20 w => I w ∧
  rdI I (fun w => ldN 32 s2 w) fun v21 =>
  CallsR Try.prog 11 #[v21] w fun v22 w => I w ∧
  optW (eqO false v20 v22) w fun v23 w => 
  rdG I v23 true (fun w => ldN 32 p5 w) fun v25 =>
  rdG I v23 true (fun w => ldN 32 q7 w) fun v26 =>
  gOp v23 true w (fun K => semW Try.prog (do eqGuard .eql 25 (.tmp 0) (.tmp 0) v25 v26; binOp .eql 25 v25 v26) w K) fun v27 w => I w ∧
  optW (pickO v23 v27 (.bool false)) w fun v28 w => 
  gOp v28 true w (fun K => K e6 w) fun v30 w => 
  gOp v28 true w (fun K => K f8 w) fun v31 w => 
  gOp v28 true w (fun K => optW (eqO false v30 v31) w K) fun v32 w => 
  optW (pickO v28 v32 (.bool false)) w fun v33 w => 
  kn v33 w
def C1 (K : KT) (s0 t1 : Value) (w : World) : Prop :=
  newW (Value.cells s0) 22 w fun s2 w =>
  CallsR Try.prog 8 #[t1] w fun v11 w =>
  optW (extO v11 0) w fun v12 w =>
  optW (extO v11 1) w fun v13 w =>
  newW (zCells Try.prog 25) 25 w fun p5 w =>
  stN 32 p5 v12 w fun w =>
  CallsR Try.prog 9 #[t1] w fun v16 w =>
  optW (extO v16 0) w fun v17 w =>
  optW (extO v16 1) w fun v18 w =>
  newW (zCells Try.prog 25) 25 w fun q7 w =>
  stN 32 q7 v17 w fun w =>
  D3 (C2 K) s2 p5 v13 q7 v18 w
theorem C1.sound {Q : QT} (hr : ∀ f w, R K f w → Q .ret f w) {f : Fr} {w : World} (h : C1 K (f 0) (f 1) w) : W Try.prog ext (subC B []) Q f w :=
  W_pre 3 (c2 := (subC B [1, 1, 1])) (by kernel_rfl) (n := fun f w => D3 (C2 K) (f 2) (f 5) (f 6) (f 7) (f 8) w) (r := R K) (xs := []) (gs := []) (Eq.mp (by kernel_rfl) h) (fun f w h => W_seq' (a := (subC B [1, 1, 1, 0])) (b := (subC B [1, 1, 1, 1])) (by kernel_rfl) (W_drawI' (id := 3) (ops := (opsC (subC B [1, 1, 1, 0]))) (N := fun f w => (C2 K) (f 4) w) (by kernel_rfl) (by kernel_rfl) (by kernel_rfl) (Eq.mp (by kernel_rfl) h) (fun f w h => seq_n (C2.sound (K := K) (Q := Q) hr h)))) hr trivial trivial
def J (s0 t1 : Value) (w : World) (K : KT) : Prop := C1 K s0 t1 w
theorem sound {s0 t1 : Value} {w : World} (h : J s0 t1 w K) : CallsR Try.prog 4 #[s0, t1] w K :=
  calls_of_W (ext := ext) (args := [s0, t1]) (fn := Try.f4) (c := bodyC Try.f4) mixedOk Try.func4 rfl (by kernel_rfl) (Nat.le_of_ble_eq_true (by kernel_rfl)) (W_flat _ _ _ _ (C1.sound (fun _ _ h => h) h))
end witnesslaw1_DigestHexes
/- witness/witnesslaw1.DigestBack -/
namespace witnesslaw1_DigestBack
noncomputable abbrev B : Code := flat (bodyC Try.f5)
noncomputable abbrev R (K : KT) : Fr → World → Prop := fnPost Try.prog Try.f5.results.toList K .ret
variable {K : KT}
def C1 (K : KT) (s0 t1 : Value) (w : World) : Prop :=
  newW (Value.cells s0) 22 w fun s2 w =>
  optW (ldN 32 s2 w) w fun v10 w =>
  CallsR Try.prog 10 #[v10] w fun v11 w =>
  CallsR Try.prog 8 #[v11] w fun v12 w =>
  optW (extO v12 0) w fun v13 w =>
  optW (extO v12 1) w fun v14 w =>
  newW (zCells Try.prog 25) 25 w fun p5 w =>
  stN 32 p5 v13 w fun w =>
  optW (ldN 32 p5 w) w fun v15 w =>
  optW (ldN 32 s2 w) w fun v16 w =>
  semW Try.prog (do eqGuard .neq 25 (.tmp 0) (.tmp 0) v15 v16; binOp .neq 25 v15 v16) w fun v17 w =>
  gOp v17 false w (fun K => K v14 w) fun v19 w =>
  gOp v17 false w (fun K => optW (eqO true v19 (.int .i64 0)) w K) fun v20 w =>
  optW (pickO v17 (.bool true) v20) w fun v21 w =>
  gOp v21 false w (fun K => optW (ldN 32 s2 w) w K) fun v23 w =>
  gOp v21 false w (fun K => CallsR Try.prog 10 #[v23] w K) fun v24 w =>
  gOp v21 false w (fun K => optW (lenT v24) w K) fun v25 w =>
  gOp v21 false w (fun K => optW (eqO true v25 (.int .i64 64)) w K) fun v26 w =>
  optW (pickO v21 (.bool true) v26) w fun v27 w =>
  Cnd v27 (
  K (.bool false) w) (
  CallsR Try.prog 8 #[t1] w fun v30 w =>
  optW (extO v30 0) w fun v31 w =>
  optW (extO v30 1) w fun v32 w =>
  newW (zCells Try.prog 25) 25 w fun q7 w =>
  stN 32 q7 v31 w fun w =>
  optW (eqO false v32 (.int .i64 0)) w fun v34 w =>
  Cnd v34 (
  optW (ldN 32 q7 w) w fun v35 w =>
  CallsR Try.prog 10 #[v35] w fun v36 w =>
  optW (eqO false v36 t1) w fun v38 w =>
  K v38 w) (
  optW (eqO false v32 (.int .i64 10)) w fun v40 w =>
  gOp v40 true w (fun K => optW (ldN 32 q7 w) w K) fun v42 w =>
  gOp v40 true w (fun K => semW Try.prog (Instr.build 22 #[]) w K) fun v43 w =>
  gOp v40 true w (fun K => semW Try.prog (do eqGuard .eql 25 (.tmp 0) (.tmp 0) v42 v43; binOp .eql 25 v42 v43) w K) fun v44 w =>
  optW (pickO v40 v44 (.bool false)) w fun v45 w =>
  K v45 w))
theorem C1.sound {Q : QT} (hr : ∀ f w, R K f w → Q .ret f w) {f : Fr} {w : World} (h : C1 K (f 0) (f 1) w) : W Try.prog ext (subC B []) Q f w :=
  W_exq (n := fun _ _ => False) (r := R K) (xs := []) (gs := []) (Eq.mp (by kernel_rfl) h) (fun _ _ h => h.elim) hr trivial trivial
def J (s0 t1 : Value) (w : World) (K : KT) : Prop := C1 K s0 t1 w
theorem sound {s0 t1 : Value} {w : World} (h : J s0 t1 w K) : CallsR Try.prog 5 #[s0, t1] w K :=
  calls_of_W (ext := ext) (args := [s0, t1]) (fn := Try.f5) (c := bodyC Try.f5) mixedOk Try.func5 rfl (by kernel_rfl) (Nat.le_of_ble_eq_true (by kernel_rfl)) (W_flat _ _ _ _ (C1.sound (fun _ _ h => h) h))
end witnesslaw1_DigestBack
/- witness/digest.Parse -/
namespace digest_Parse
noncomputable abbrev B : Code := flat (bodyC Try.f8)
noncomputable abbrev R (K : KT) : Fr → World → Prop := fnPost Try.prog Try.f8.results.toList K .ret
variable {K : KT}
def C2 (K : KT) (v2 out4 : Value) (w : World) : Prop :=
  optW (ldN 32 out4 w) w fun v35 w =>
  stN 32 v2 v35 w fun w =>
  resC Try.prog v2 25 w fun r0 =>
  K (.tuple #[r0, (.int .i64 0)]) w
theorem C2.sound {Q : QT} (hr : ∀ f w, R K f w → Q .ret f w) {f : Fr} {w : World} (h : C2 K (f 2) (f 4) w) : W Try.prog ext (subC B [1, 1, 1, 1, 1, 1]) Q f w :=
  W_exq (n := fun _ _ => False) (r := R K) (xs := []) (gs := []) (Eq.mp (by kernel_rfl) h) (fun _ _ h => h.elim) hr trivial trivial
def C3 (K : KT) (kx0 : V2) (kn : V5) (s0 v2 out4 v12 v13 : Value) (w : World) : Prop :=
  optW (arO .lss v13 v12) w fun v14 w =>
  Cnd v14 (
  optW (idxT s0 v13) w fun v18 w =>
  CallsR Try.prog 13 #[(.string { data := #[48, 49, 50, 51, 52, 53, 54, 55, 56, 57, 97, 98, 99, 100, 101, 102] }), v18] w fun v19 w =>
  optW (arO .lss v19 (.int .i64 0)) w fun v21 w =>
  Cnd v21 (
  semW Try.prog (Instr.build 25 #[]) w fun v22 w =>
  stN 32 v2 v22 w fun w =>
  resC Try.prog v2 25 w fun r0 =>
  K (.tuple #[r0, (.int .i64 10)]) w) (
  optW (arO .quo v13 (.int .i64 2)) w fun v24 w =>
  optW (arO .quo v13 (.int .i64 2)) w fun v26 w =>
  optW (ixA 32 1 out4 v26) w fun v27 w =>
  optW (ld1 v27 w) w fun v28 w =>
  optW (shO .shl v28 (.int .u64 4)) w fun v29 w =>
  optW (cvO .u8 v19) w fun v31 w =>
  optW (arO .or v29 v31) w fun v32 w =>
  optW (ixA 32 1 out4 v24) w fun v33 w =>
  st1 v33 v32 w fun w =>
  optW (arO .add v13 (.int .i64 1)) w fun v34 w =>
  kn s0 v2 out4 v12 v34 w)) (
  kx0 v2 out4 w)
theorem C3.sound {kx0 : V2} {kn : V5} {Q : QT} (hkx0 : ∀ f w, kx0 (f 2) (f 4) w → Q (.exit 0) f w) (hkn : ∀ f w, kn (f 0) (f 2) (f 4) (f 12) (f 13) w → Q .normal f w) (hr : ∀ f w, R K f w → Q .ret f w) {f : Fr} {w : World} (h : C3 K kx0 kn (f 0) (f 2) (f 4) (f 12) (f 13) w) : W Try.prog ext (subC B [1, 1, 1, 1, 1, 0, 0, 0]) Q f w :=
  W_exq (n := fun f w => kn (f 0) (f 2) (f 4) (f 12) (f 13) w) (r := R K) (xs := [(0, fun f w => kx0 (f 2) (f 4) w)]) (gs := []) (Eq.mp (by kernel_rfl) h) hkn hr ⟨hkx0, trivial⟩ trivial
def L3 (K : KT) (kx0 : V2) : Nat → V5
  | 0, _, _, _, _, _, _ => False
  | k + 1, s0, v2, out4, v12, v13, w => C3 K kx0 (L3 K kx0 k) s0 v2 out4 v12 v13 w
theorem L3.sound {kx0 : V2} {Q : QT} (hkx0 : ∀ f w, kx0 (f 2) (f 4) w → Q (.exit 0) f w) (hr : ∀ f w, R K f w → Q .ret f w) : ∀ (k : Nat) (f : Fr) (w : World), L3 K kx0 k (f 0) (f 2) (f 4) (f 12) (f 13) w → It (W Try.prog ext (subC B [1, 1, 1, 1, 1, 0, 0, 0])) Q k f w
  | 0, _, _, h => h
  | k + 1, _, _, h => C3.sound (K := K) (Q := seqQ (It (W Try.prog ext (subC B [1, 1, 1, 1, 1, 0, 0, 0])) Q k) Q) hkx0 (fun f w h => seq_n (L3.sound hkx0 hr k f w h)) hr h
def C1 (K : KT) (s0 : Value) (w : World) : Prop :=
  newW (zCells Try.prog 25) 25 w fun v2 w =>
  newW (zCells Try.prog 25) 25 w fun out4 w =>
  optW (lenT s0) w fun v8 w =>
  optW (eqO true v8 (.int .i64 64)) w fun v9 w =>
  Cnd v9 (
  semW Try.prog (Instr.build 25 #[]) w fun v10 w =>
  stN 32 v2 v10 w fun w =>
  resC Try.prog v2 25 w fun r0 =>
  K (.tuple #[r0, (.int .i64 10)]) w) (
  optW (lenT s0) w fun v12 w =>
  ∃ k, L3 K (C2 K) k s0 v2 out4 v12 (.int .i64 0) w)
theorem C1.sound {Q : QT} (hr : ∀ f w, R K f w → Q .ret f w) {f : Fr} {w : World} (h : C1 K (f 0) w) : W Try.prog ext (subC B []) Q f w :=
  W_pre 5 (c2 := (subC B [1, 1, 1, 1, 1])) (by kernel_rfl) (n := fun f w => ∃ k, L3 K (C2 K) k (f 0) (f 2) (f 4) (f 12) (f 13) w) (r := R K) (xs := []) (gs := []) (Eq.mp (by kernel_rfl) h) (fun f w h => W_seq' (a := (subC B [1, 1, 1, 1, 1, 0])) (b := (subC B [1, 1, 1, 1, 1, 1])) (by kernel_rfl) (W_block' (id := 0) (c := (subC B [1, 1, 1, 1, 1, 0, 0])) (by kernel_rfl) (W_loop' (c := (subC B [1, 1, 1, 1, 1, 0, 0, 0])) (by kernel_rfl) (h.elim fun k h => ⟨k, L3.sound (K := K) (Q := (blkQ 0 (seqQ (W Try.prog ext (subC B [1, 1, 1, 1, 1, 1]) Q) Q))) (kx0 := (C2 K)) (fun f w h => blk_x ((fun f w h => seq_n (C2.sound (K := K) (Q := Q) hr h)) f w h)) hr k _ _ h⟩)))) hr trivial trivial
def J (s0 : Value) (w : World) (K : KT) : Prop := C1 K s0 w
theorem sound {s0 : Value} {w : World} (h : J s0 w K) : CallsR Try.prog 8 #[s0] w K :=
  calls_of_W (ext := ext) (args := [s0]) (fn := Try.f8) (c := bodyC Try.f8) mixedOk Try.func8 rfl (by kernel_rfl) (Nat.le_of_ble_eq_true (by kernel_rfl)) (W_flat _ _ _ _ (C1.sound (fun _ _ h => h) h))
end digest_Parse
/- witness/witnessref1.Parse -/
namespace witnessref1_Parse
noncomputable abbrev B : Code := flat (bodyC Try.f9)
noncomputable abbrev R (K : KT) : Fr → World → Prop := fnPost Try.prog Try.f9.results.toList K .ret
variable {K : KT}
def C2 (K : KT) (v2 s4 : Value) (w : World) : Prop :=
  optW (ldN 32 s4 w) w fun v41 w =>
  stN 32 v2 v41 w fun w =>
  resC Try.prog v2 25 w fun r0 =>
  K (.tuple #[r0, (.int .i64 0)]) w
theorem C2.sound {Q : QT} (hr : ∀ f w, R K f w → Q .ret f w) {f : Fr} {w : World} (h : C2 K (f 2) (f 4) w) : W Try.prog ext (subC B [1, 1, 1, 1, 1, 1]) Q f w :=
  W_exq (n := fun _ _ => False) (r := R K) (xs := []) (gs := []) (Eq.mp (by kernel_rfl) h) (fun _ _ h => h.elim) hr trivial trivial
def C4 (K : KT) (kn : V4) (t0 v2 s4 i5 : Value) (w : World) : Prop :=
  optW (arO .add i5 (.int .i64 1)) w fun v15 w =>
  kn t0 v2 s4 v15 w
theorem C4.sound {kn : V4} {Q : QT} (hkn : ∀ f w, kn (f 0) (f 2) (f 4) (f 5) w → Q .normal f w) (hr : ∀ f w, R K f w → Q .ret f w) {f : Fr} {w : World} (h : C4 K kn (f 0) (f 2) (f 4) (f 5) w) : W Try.prog ext (subC B [1, 1, 1, 1, 1, 0, 0, 0, 1, 1, 1]) Q f w :=
  W_exq (n := fun f w => kn (f 0) (f 2) (f 4) (f 5) w) (r := R K) (xs := []) (gs := []) (Eq.mp (by kernel_rfl) h) hkn hr trivial trivial
def C6 (K : KT) (kn : V4) (t0 v2 s4 i5 d6 : Value) (w : World) : Prop :=
  optW (arO .lss d6 (.int .i64 0)) w fun v28 w =>
  Cnd v28 (
  semW Try.prog (Instr.build 25 #[]) w fun v29 w =>
  stN 32 v2 v29 w fun w =>
  resC Try.prog v2 25 w fun r0 =>
  K (.tuple #[r0, (.int .i64 10)]) w) (
  optW (arO .quo i5 (.int .i64 2)) w fun v31 w =>
  optW (arO .quo i5 (.int .i64 2)) w fun v33 w =>
  optW (ixA 32 1 s4 v33) w fun v34 w =>
  optW (ld1 v34 w) w fun v35 w =>
  optW (arO .mul v35 (.int .u8 16)) w fun v36 w =>
  optW (cvO .u8 d6) w fun v38 w =>
  optW (arO .add v36 v38) w fun v39 w =>
  optW (ixA 32 1 s4 v31) w fun v40 w =>
  st1 v40 v39 w fun w =>
  kn t0 v2 s4 i5 w)
theorem C6.sound {kn : V4} {Q : QT} (hkn : ∀ f w, kn (f 0) (f 2) (f 4) (f 5) w → Q .normal f w) (hr : ∀ f w, R K f w → Q .ret f w) {f : Fr} {w : World} (h : C6 K kn (f 0) (f 2) (f 4) (f 5) (f 6) w) : W Try.prog ext (subC B [1, 1, 1, 1, 1, 0, 0, 0, 1, 1, 0, 0, 1, 1, 1]) Q f w :=
  W_exq (n := fun f w => kn (f 0) (f 2) (f 4) (f 5) w) (r := R K) (xs := []) (gs := []) (Eq.mp (by kernel_rfl) h) hkn hr trivial trivial
def C8 (K : KT) (kn : V6) (t0 v2 s4 i5 d6 k7 : Value) (w : World) : Prop :=
  optW (arO .add k7 (.int .i64 1)) w fun v19 w =>
  kn t0 v2 s4 i5 d6 v19 w
theorem C8.sound {kn : V6} {Q : QT} (hkn : ∀ f w, kn (f 0) (f 2) (f 4) (f 5) (f 6) (f 7) w → Q .normal f w) (hr : ∀ f w, R K f w → Q .ret f w) {f : Fr} {w : World} (h : C8 K kn (f 0) (f 2) (f 4) (f 5) (f 6) (f 7) w) : W Try.prog ext (subC B [1, 1, 1, 1, 1, 0, 0, 0, 1, 1, 0, 0, 1, 1, 0, 0, 0, 1, 1, 1]) Q f w :=
  W_exq (n := fun f w => kn (f 0) (f 2) (f 4) (f 5) (f 6) (f 7) w) (r := R K) (xs := []) (gs := []) (Eq.mp (by kernel_rfl) h) hkn hr trivial trivial
def C9 (K : KT) (kn : V6) (t0 v2 s4 i5 d6 k7 : Value) (w : World) : Prop :=
  drw w fun w =>
  optW (idxT (.string { data := #[48, 49, 50, 51, 52, 53, 54, 55, 56, 57, 97, 98, 99, 100, 101, 102] }) k7) w fun v21 w =>
  optW (idxT t0 i5) w fun v24 w =>
  optW (eqO false v21 v24) w fun v25 w =>
  Cnd v25 (
  kn t0 v2 s4 i5 k7 k7 w) (
  kn t0 v2 s4 i5 d6 k7 w)
theorem C9.sound {kn : V6} {Q : QT} (hkn : ∀ f w, kn (f 0) (f 2) (f 4) (f 5) (f 6) (f 7) w → Q .normal f w) (hr : ∀ f w, R K f w → Q .ret f w) {f : Fr} {w : World} (h : C9 K kn (f 0) (f 2) (f 4) (f 5) (f 6) (f 7) w) : W Try.prog ext (subC B [1, 1, 1, 1, 1, 0, 0, 0, 1, 1, 0, 0, 1, 1, 0, 0, 0, 1, 1, 0, 0]) Q f w :=
  W_exq (n := fun f w => kn (f 0) (f 2) (f 4) (f 5) (f 6) (f 7) w) (r := R K) (xs := []) (gs := []) (Eq.mp (by kernel_rfl) h) hkn hr trivial trivial
def C7 (K : KT) (kx2 : V5) (kn : V6) (t0 v2 s4 i5 d6 k7 : Value) (w : World) : Prop :=
  optW (arO .lss k7 (.int .i64 16)) w fun v17 w =>
  Cnd v17 (
  C9 K (C8 K kn) t0 v2 s4 i5 d6 k7 w) (
  kx2 t0 v2 s4 i5 d6 w)
theorem C7.sound {kx2 : V5} {kn : V6} {Q : QT} (hkx2 : ∀ f w, kx2 (f 0) (f 2) (f 4) (f 5) (f 6) w → Q (.exit 2) f w) (hkn : ∀ f w, kn (f 0) (f 2) (f 4) (f 5) (f 6) (f 7) w → Q .normal f w) (hr : ∀ f w, R K f w → Q .ret f w) {f : Fr} {w : World} (h : C7 K kx2 kn (f 0) (f 2) (f 4) (f 5) (f 6) (f 7) w) : W Try.prog ext (subC B [1, 1, 1, 1, 1, 0, 0, 0, 1, 1, 0, 0, 1, 1, 0, 0, 0]) Q f w :=
  W_pre 2 (c2 := (subC B [1, 1, 1, 1, 1, 0, 0, 0, 1, 1, 0, 0, 1, 1, 0, 0, 0, 1, 1])) (by kernel_rfl) (n := fun f w => C9 K (C8 K kn) (f 0) (f 2) (f 4) (f 5) (f 6) (f 7) w) (r := R K) (xs := [(2, fun f w => kx2 (f 0) (f 2) (f 4) (f 5) (f 6) w)]) (gs := []) (Eq.mp (by kernel_rfl) h) (fun f w h => W_seq' (a := (subC B [1, 1, 1, 1, 1, 0, 0, 0, 1, 1, 0, 0, 1, 1, 0, 0, 0, 1, 1, 0])) (b := (subC B [1, 1, 1, 1, 1, 0, 0, 0, 1, 1, 0, 0, 1, 1, 0, 0, 0, 1, 1, 1])) (by kernel_rfl) (W_block' (id := 3) (c := (subC B [1, 1, 1, 1, 1, 0, 0, 0, 1, 1, 0, 0, 1, 1, 0, 0, 0, 1, 1, 0, 0])) (by kernel_rfl) (C9.sound (K := K) (Q := (blkQ 3 (seqQ (W Try.prog ext (subC B [1, 1, 1, 1, 1, 0, 0, 0, 1, 1, 0, 0, 1, 1, 0, 0, 0, 1, 1, 1]) Q) Q))) (kn := (C8 K kn)) (fun f w h => blk_n ((fun f w h => seq_n (C8.sound (K := K) (Q := Q) (kn := kn) hkn hr h)) f w h)) hr h))) hr ⟨hkx2, trivial⟩ trivial
def L7 (K : KT) (kx2 : V5) : Nat → V6
  | 0, _, _, _, _, _, _, _ => False
  | k + 1, t0, v2, s4, i5, d6, k7, w => C7 K kx2 (L7 K kx2 k) t0 v2 s4 i5 d6 k7 w
theorem L7.sound {kx2 : V5} {Q : QT} (hkx2 : ∀ f w, kx2 (f 0) (f 2) (f 4) (f 5) (f 6) w → Q (.exit 2) f w) (hr : ∀ f w, R K f w → Q .ret f w) : ∀ (k : Nat) (f : Fr) (w : World), L7 K kx2 k (f 0) (f 2) (f 4) (f 5) (f 6) (f 7) w → It (W Try.prog ext (subC B [1, 1, 1, 1, 1, 0, 0, 0, 1, 1, 0, 0, 1, 1, 0, 0, 0])) Q k f w
  | 0, _, _, h => h
  | k + 1, _, _, h => C7.sound (K := K) (Q := seqQ (It (W Try.prog ext (subC B [1, 1, 1, 1, 1, 0, 0, 0, 1, 1, 0, 0, 1, 1, 0, 0, 0])) Q k) Q) hkx2 (fun f w h => seq_n (L7.sound hkx2 hr k f w h)) hr h
def C5 (K : KT) (kn : V4) (t0 v2 s4 i5 : Value) (w : World) : Prop :=
  ∃ k, L7 K (C6 K kn) k t0 v2 s4 i5 (.int .i64 (-1)) (.int .i64 0) w
theorem C5.sound {kn : V4} {Q : QT} (hkn : ∀ f w, kn (f 0) (f 2) (f 4) (f 5) w → Q .normal f w) (hr : ∀ f w, R K f w → Q .ret f w) {f : Fr} {w : World} (h : C5 K kn (f 0) (f 2) (f 4) (f 5) w) : W Try.prog ext (subC B [1, 1, 1, 1, 1, 0, 0, 0, 1, 1, 0, 0]) Q f w :=
  W_pre 2 (c2 := (subC B [1, 1, 1, 1, 1, 0, 0, 0, 1, 1, 0, 0, 1, 1])) (by kernel_rfl) (n := fun f w => ∃ k, L7 K (C6 K kn) k (f 0) (f 2) (f 4) (f 5) (f 6) (f 7) w) (r := R K) (xs := []) (gs := []) (Eq.mp (by kernel_rfl) h) (fun f w h => W_seq' (a := (subC B [1, 1, 1, 1, 1, 0, 0, 0, 1, 1, 0, 0, 1, 1, 0])) (b := (subC B [1, 1, 1, 1, 1, 0, 0, 0, 1, 1, 0, 0, 1, 1, 1])) (by kernel_rfl) (W_block' (id := 2) (c := (subC B [1, 1, 1, 1, 1, 0, 0, 0, 1, 1, 0, 0, 1, 1, 0, 0])) (by kernel_rfl) (W_loop' (c := (subC B [1, 1, 1, 1, 1, 0, 0, 0, 1, 1, 0, 0, 1, 1, 0, 0, 0])) (by kernel_rfl) (h.elim fun k h => ⟨k, L7.sound (K := K) (Q := (blkQ 2 (seqQ (W Try.prog ext (subC B [1, 1, 1, 1, 1, 0, 0, 0, 1, 1, 0, 0, 1, 1, 1]) Q) Q))) (kx2 := (C6 K kn)) (fun f w h => blk_x ((fun f w h => seq_n (C6.sound (K := K) (Q := Q) (kn := kn) hkn hr h)) f w h)) hr k _ _ h⟩)))) hr trivial trivial
def C3 (K : KT) (kx0 : V2) (kn : V4) (t0 v2 s4 i5 : Value) (w : World) : Prop :=
  optW (arO .lss i5 (.int .i64 64)) w fun v13 w =>
  Cnd v13 (
  C5 K (C4 K kn) t0 v2 s4 i5 w) (
  kx0 v2 s4 w)
theorem C3.sound {kx0 : V2} {kn : V4} {Q : QT} (hkx0 : ∀ f w, kx0 (f 2) (f 4) w → Q (.exit 0) f w) (hkn : ∀ f w, kn (f 0) (f 2) (f 4) (f 5) w → Q .normal f w) (hr : ∀ f w, R K f w → Q .ret f w) {f : Fr} {w : World} (h : C3 K kx0 kn (f 0) (f 2) (f 4) (f 5) w) : W Try.prog ext (subC B [1, 1, 1, 1, 1, 0, 0, 0]) Q f w :=
  W_pre 2 (c2 := (subC B [1, 1, 1, 1, 1, 0, 0, 0, 1, 1])) (by kernel_rfl) (n := fun f w => C5 K (C4 K kn) (f 0) (f 2) (f 4) (f 5) w) (r := R K) (xs := [(0, fun f w => kx0 (f 2) (f 4) w)]) (gs := []) (Eq.mp (by kernel_rfl) h) (fun f w h => W_seq' (a := (subC B [1, 1, 1, 1, 1, 0, 0, 0, 1, 1, 0])) (b := (subC B [1, 1, 1, 1, 1, 0, 0, 0, 1, 1, 1])) (by kernel_rfl) (W_block' (id := 1) (c := (subC B [1, 1, 1, 1, 1, 0, 0, 0, 1, 1, 0, 0])) (by kernel_rfl) (C5.sound (K := K) (Q := (blkQ 1 (seqQ (W Try.prog ext (subC B [1, 1, 1, 1, 1, 0, 0, 0, 1, 1, 1]) Q) Q))) (kn := (C4 K kn)) (fun f w h => blk_n ((fun f w h => seq_n (C4.sound (K := K) (Q := Q) (kn := kn) hkn hr h)) f w h)) hr h))) hr ⟨hkx0, trivial⟩ trivial
def L3 (K : KT) (kx0 : V2) : Nat → V4
  | 0, _, _, _, _, _ => False
  | k + 1, t0, v2, s4, i5, w => C3 K kx0 (L3 K kx0 k) t0 v2 s4 i5 w
theorem L3.sound {kx0 : V2} {Q : QT} (hkx0 : ∀ f w, kx0 (f 2) (f 4) w → Q (.exit 0) f w) (hr : ∀ f w, R K f w → Q .ret f w) : ∀ (k : Nat) (f : Fr) (w : World), L3 K kx0 k (f 0) (f 2) (f 4) (f 5) w → It (W Try.prog ext (subC B [1, 1, 1, 1, 1, 0, 0, 0])) Q k f w
  | 0, _, _, h => h
  | k + 1, _, _, h => C3.sound (K := K) (Q := seqQ (It (W Try.prog ext (subC B [1, 1, 1, 1, 1, 0, 0, 0])) Q k) Q) hkx0 (fun f w h => seq_n (L3.sound hkx0 hr k f w h)) hr h
def C1 (K : KT) (t0 : Value) (w : World) : Prop :=
  newW (zCells Try.prog 25) 25 w fun v2 w =>
  newW (zCells Try.prog 25) 25 w fun s4 w =>
  optW (lenT t0) w fun v9 w =>
  optW (eqO true v9 (.int .i64 64)) w fun v10 w =>
  Cnd v10 (
  optW (ldN 32 s4 w) w fun v11 w =>
  stN 32 v2 v11 w fun w =>
  resC Try.prog v2 25 w fun r0 =>
  K (.tuple #[r0, (.int .i64 10)]) w) (
  ∃ k, L3 K (C2 K) k t0 v2 s4 (.int .i64 0) w)
theorem C1.sound {Q : QT} (hr : ∀ f w, R K f w → Q .ret f w) {f : Fr} {w : World} (h : C1 K (f 0) w) : W Try.prog ext (subC B []) Q f w :=
  W_pre 5 (c2 := (subC B [1, 1, 1, 1, 1])) (by kernel_rfl) (n := fun f w => ∃ k, L3 K (C2 K) k (f 0) (f 2) (f 4) (f 5) w) (r := R K) (xs := []) (gs := []) (Eq.mp (by kernel_rfl) h) (fun f w h => W_seq' (a := (subC B [1, 1, 1, 1, 1, 0])) (b := (subC B [1, 1, 1, 1, 1, 1])) (by kernel_rfl) (W_block' (id := 0) (c := (subC B [1, 1, 1, 1, 1, 0, 0])) (by kernel_rfl) (W_loop' (c := (subC B [1, 1, 1, 1, 1, 0, 0, 0])) (by kernel_rfl) (h.elim fun k h => ⟨k, L3.sound (K := K) (Q := (blkQ 0 (seqQ (W Try.prog ext (subC B [1, 1, 1, 1, 1, 1]) Q) Q))) (kx0 := (C2 K)) (fun f w h => blk_x ((fun f w h => seq_n (C2.sound (K := K) (Q := Q) hr h)) f w h)) hr k _ _ h⟩)))) hr trivial trivial
def J (t0 : Value) (w : World) (K : KT) : Prop := C1 K t0 w
theorem sound {t0 : Value} {w : World} (h : J t0 w K) : CallsR Try.prog 9 #[t0] w K :=
  calls_of_W (ext := ext) (args := [t0]) (fn := Try.f9) (c := bodyC Try.f9) mixedOk Try.func9 rfl (by kernel_rfl) (Nat.le_of_ble_eq_true (by kernel_rfl)) (W_flat _ _ _ _ (C1.sound (fun _ _ h => h) h))
end witnessref1_Parse
/- witness/digest.Hex -/
namespace digest_Hex
noncomputable abbrev B : Code := flat (bodyC Try.f10)
noncomputable abbrev R (K : KT) : Fr → World → Prop := fnPost Try.prog Try.f10.results.toList K .ret
variable {K : KT}
def C2 (K : KT) (b3 : Value) (w : World) : Prop :=
  CallsR Try.prog 15 #[b3] w fun v19 w =>
  K v19 w
theorem C2.sound {Q : QT} (hr : ∀ f w, R K f w → Q .ret f w) {f : Fr} {w : World} (h : C2 K (f 3) w) : W Try.prog ext (subC B [1, 1, 1, 1]) Q f w :=
  W_exq (n := fun _ _ => False) (r := R K) (xs := []) (gs := []) (Eq.mp (by kernel_rfl) h) (fun _ _ h => h.elim) hr trivial trivial
def C3 (K : KT) (kx0 : V1) (kn : V3) (b3 v6 v7 : Value) (w : World) : Prop :=
  optW (arO .lss v7 (.int .i64 32)) w fun v8 w =>
  Cnd v8 (
  optW (idxO false 32 1 v6 v7) w fun v9 w =>
  optW (shO .shr v9 (.int .u64 4)) w fun v11 w =>
  optW (idxT (.string { data := #[48, 49, 50, 51, 52, 53, 54, 55, 56, 57, 97, 98, 99, 100, 101, 102] }) v11) w fun v12 w =>
  CallsR Try.prog 14 #[b3, v12] w fun v13 w =>
  optW (arO .and v9 (.int .u8 15)) w fun v15 w =>
  optW (idxT (.string { data := #[48, 49, 50, 51, 52, 53, 54, 55, 56, 57, 97, 98, 99, 100, 101, 102] }) v15) w fun v16 w =>
  CallsR Try.prog 14 #[b3, v16] w fun v17 w =>
  optW (arO .add v7 (.int .i64 1)) w fun v18 w =>
  kn b3 v6 v18 w) (
  kx0 b3 w)
theorem C3.sound {kx0 : V1} {kn : V3} {Q : QT} (hkx0 : ∀ f w, kx0 (f 3) w → Q (.exit 0) f w) (hkn : ∀ f w, kn (f 3) (f 6) (f 7) w → Q .normal f w) (hr : ∀ f w, R K f w → Q .ret f w) {f : Fr} {w : World} (h : C3 K kx0 kn (f 3) (f 6) (f 7) w) : W Try.prog ext (subC B [1, 1, 1, 0, 0, 0]) Q f w :=
  W_exq (n := fun f w => kn (f 3) (f 6) (f 7) w) (r := R K) (xs := [(0, fun f w => kx0 (f 3) w)]) (gs := []) (Eq.mp (by kernel_rfl) h) hkn hr ⟨hkx0, trivial⟩ trivial
def L3 (K : KT) (kx0 : V1) : Nat → V3
  | 0, _, _, _, _ => False
  | k + 1, b3, v6, v7, w => C3 K kx0 (L3 K kx0 k) b3 v6 v7 w
theorem L3.sound {kx0 : V1} {Q : QT} (hkx0 : ∀ f w, kx0 (f 3) w → Q (.exit 0) f w) (hr : ∀ f w, R K f w → Q .ret f w) : ∀ (k : Nat) (f : Fr) (w : World), L3 K kx0 k (f 3) (f 6) (f 7) w → It (W Try.prog ext (subC B [1, 1, 1, 0, 0, 0])) Q k f w
  | 0, _, _, h => h
  | k + 1, _, _, h => C3.sound (K := K) (Q := seqQ (It (W Try.prog ext (subC B [1, 1, 1, 0, 0, 0])) Q k) Q) hkx0 (fun f w h => seq_n (L3.sound hkx0 hr k f w h)) hr h
def C1 (K : KT) (s0 : Value) (w : World) : Prop :=
  newW (Value.cells s0) 25 w fun s1 w =>
  newW (zCells Try.prog 39) 39 w fun b3 w =>
  optW (ldN 32 s1 w) w fun v6 w =>
  ∃ k, L3 K (C2 K) k b3 v6 (.int .i64 0) w
theorem C1.sound {Q : QT} (hr : ∀ f w, R K f w → Q .ret f w) {f : Fr} {w : World} (h : C1 K (f 0) w) : W Try.prog ext (subC B []) Q f w :=
  W_pre 3 (c2 := (subC B [1, 1, 1])) (by kernel_rfl) (n := fun f w => ∃ k, L3 K (C2 K) k (f 3) (f 6) (f 7) w) (r := R K) (xs := []) (gs := []) (Eq.mp (by kernel_rfl) h) (fun f w h => W_seq' (a := (subC B [1, 1, 1, 0])) (b := (subC B [1, 1, 1, 1])) (by kernel_rfl) (W_block' (id := 0) (c := (subC B [1, 1, 1, 0, 0])) (by kernel_rfl) (W_loop' (c := (subC B [1, 1, 1, 0, 0, 0])) (by kernel_rfl) (h.elim fun k h => ⟨k, L3.sound (K := K) (Q := (blkQ 0 (seqQ (W Try.prog ext (subC B [1, 1, 1, 1]) Q) Q))) (kx0 := (C2 K)) (fun f w h => blk_x ((fun f w h => seq_n (C2.sound (K := K) (Q := Q) hr h)) f w h)) hr k _ _ h⟩)))) hr trivial trivial
def J (s0 : Value) (w : World) (K : KT) : Prop := C1 K s0 w
theorem sound {s0 : Value} {w : World} (h : J s0 w K) : CallsR Try.prog 10 #[s0] w K :=
  calls_of_W (ext := ext) (args := [s0]) (fn := Try.f10) (c := bodyC Try.f10) mixedOk Try.func10 rfl (by kernel_rfl) (Nat.le_of_ble_eq_true (by kernel_rfl)) (W_flat _ _ _ _ (C1.sound (fun _ _ h => h) h))
end digest_Hex
/- witness/witnessref1.Hex -/
namespace witnessref1_Hex
noncomputable abbrev B : Code := flat (bodyC Try.f11)
noncomputable abbrev R (K : KT) : Fr → World → Prop := fnPost Try.prog Try.f11.results.toList K .ret
variable {K : KT}
def C2 (K : KT) (b3 : Value) (w : World) : Prop :=
  optW (strO b3 w) w fun v23 w =>
  K v23 w
theorem C2.sound {Q : QT} (hr : ∀ f w, R K f w → Q .ret f w) {f : Fr} {w : World} (h : C2 K (f 3) w) : W Try.prog ext (subC B [1, 1, 1, 1]) Q f w :=
  W_exq (n := fun _ _ => False) (r := R K) (xs := []) (gs := []) (Eq.mp (by kernel_rfl) h) (fun _ _ h => h.elim) hr trivial trivial
def C3 (K : KT) (kx0 : V1) (kn : V3) (s1 b3 i4 : Value) (w : World) : Prop :=
  optW (arO .lss i4 (.int .i64 32)) w fun v6 w =>
  Cnd v6 (
  drw w fun w =>
  optW (ixA 32 1 s1 i4) w fun v11 w =>
  optW (ld1 v11 w) w fun v12 w =>
  optW (arO .quo v12 (.int .u8 16)) w fun v13 w =>
  optW (idxT (.string { data := #[48, 49, 50, 51, 52, 53, 54, 55, 56, 57, 97, 98, 99, 100, 101, 102] }) v13) w fun v14 w =>
  optW (ixA 32 1 s1 i4) w fun v16 w =>
  optW (ld1 v16 w) w fun v17 w =>
  optW (arO .rem v17 (.int .u8 16)) w fun v18 w =>
  optW (idxT (.string { data := #[48, 49, 50, 51, 52, 53, 54, 55, 56, 57, 97, 98, 99, 100, 101, 102] }) v18) w fun v19 w =>
  semW Try.prog (Instr.buildSlice 37 2 #[(0, v14), (1, v19)]) w fun v20 w =>
  semW Try.prog (bltS .append #[37, 37] 37 #[b3, v20]) w fun v21 w =>
  optW (arO .add i4 (.int .i64 1)) w fun v8 w =>
  kn s1 v21 v8 w) (
  kx0 b3 w)
theorem C3.sound {kx0 : V1} {kn : V3} {Q : QT} (hkx0 : ∀ f w, kx0 (f 3) w → Q (.exit 0) f w) (hkn : ∀ f w, kn (f 1) (f 3) (f 4) w → Q .normal f w) (hr : ∀ f w, R K f w → Q .ret f w) {f : Fr} {w : World} (h : C3 K kx0 kn (f 1) (f 3) (f 4) w) : W Try.prog ext (subC B [1, 1, 1, 0, 0, 0]) Q f w :=
  W_exq (n := fun f w => kn (f 1) (f 3) (f 4) w) (r := R K) (xs := [(0, fun f w => kx0 (f 3) w)]) (gs := []) (Eq.mp (by kernel_rfl) h) hkn hr ⟨hkx0, trivial⟩ trivial
def L3 (K : KT) (kx0 : V1) : Nat → V3
  | 0, _, _, _, _ => False
  | k + 1, s1, b3, i4, w => C3 K kx0 (L3 K kx0 k) s1 b3 i4 w
theorem L3.sound {kx0 : V1} {Q : QT} (hkx0 : ∀ f w, kx0 (f 3) w → Q (.exit 0) f w) (hr : ∀ f w, R K f w → Q .ret f w) : ∀ (k : Nat) (f : Fr) (w : World), L3 K kx0 k (f 1) (f 3) (f 4) w → It (W Try.prog ext (subC B [1, 1, 1, 0, 0, 0])) Q k f w
  | 0, _, _, h => h
  | k + 1, _, _, h => C3.sound (K := K) (Q := seqQ (It (W Try.prog ext (subC B [1, 1, 1, 0, 0, 0])) Q k) Q) hkx0 (fun f w h => seq_n (L3.sound hkx0 hr k f w h)) hr h
def C1 (K : KT) (s0 : Value) (w : World) : Prop :=
  newW (Value.cells s0) 25 w fun s1 w =>
  ∃ k, L3 K (C2 K) k s1 (.slice none 0 0) (.int .i64 0) w
theorem C1.sound {Q : QT} (hr : ∀ f w, R K f w → Q .ret f w) {f : Fr} {w : World} (h : C1 K (f 0) w) : W Try.prog ext (subC B []) Q f w :=
  W_pre 3 (c2 := (subC B [1, 1, 1])) (by kernel_rfl) (n := fun f w => ∃ k, L3 K (C2 K) k (f 1) (f 3) (f 4) w) (r := R K) (xs := []) (gs := []) (Eq.mp (by kernel_rfl) h) (fun f w h => W_seq' (a := (subC B [1, 1, 1, 0])) (b := (subC B [1, 1, 1, 1])) (by kernel_rfl) (W_block' (id := 0) (c := (subC B [1, 1, 1, 0, 0])) (by kernel_rfl) (W_loop' (c := (subC B [1, 1, 1, 0, 0, 0])) (by kernel_rfl) (h.elim fun k h => ⟨k, L3.sound (K := K) (Q := (blkQ 0 (seqQ (W Try.prog ext (subC B [1, 1, 1, 1]) Q) Q))) (kx0 := (C2 K)) (fun f w h => blk_x ((fun f w h => seq_n (C2.sound (K := K) (Q := Q) hr h)) f w h)) hr k _ _ h⟩)))) hr trivial trivial
def J (s0 : Value) (w : World) (K : KT) : Prop := C1 K s0 w
theorem sound {s0 : Value} {w : World} (h : J s0 w K) : CallsR Try.prog 11 #[s0] w K :=
  calls_of_W (ext := ext) (args := [s0]) (fn := Try.f11) (c := bodyC Try.f11) mixedOk Try.func11 rfl (by kernel_rfl) (Nat.le_of_ble_eq_true (by kernel_rfl)) (W_flat _ _ _ _ (C1.sound (fun _ _ h => h) h))
end witnessref1_Hex
/- (*strings.Builder).WriteByte -/
namespace strings_Builder_WriteByte
noncomputable abbrev B : Code := flat (bodyC Try.f14)
noncomputable abbrev R (K : KT) : Fr → World → Prop := fnPost Try.prog Try.f14.results.toList K .ret
variable {K : KT}
def C1 (K : KT) (b0 c1 : Value) (w : World) : Prop :=
  CallsR Try.prog 18 #[b0] w fun v6 w =>
  optW (nilO b0) w fun v9 w =>
  optW (fadO 1 v9) w fun v10 w =>
  optW (ld1 v10 w) w fun v11 w =>
  semW Try.prog (Instr.buildSlice 37 1 #[(0, c1)]) w fun v13 w =>
  semW Try.prog (bltS .append #[37, 37] 37 #[v11, v13]) w fun v14 w =>
  optW (nilO b0) w fun v15 w =>
  optW (fadO 1 v15) w fun v16 w =>
  st1 v16 v14 w fun w =>
  K .nilIface w
theorem C1.sound {Q : QT} (hr : ∀ f w, R K f w → Q .ret f w) {f : Fr} {w : World} (h : C1 K (f 0) (f 1) w) : W Try.prog ext (subC B []) Q f w :=
  W_exq (n := fun _ _ => False) (r := R K) (xs := []) (gs := []) (Eq.mp (by kernel_rfl) h) (fun _ _ h => h.elim) hr trivial trivial
def J (b0 c1 : Value) (w : World) (K : KT) : Prop := C1 K b0 c1 w
theorem sound {b0 c1 : Value} {w : World} (h : J b0 c1 w K) : CallsR Try.prog 14 #[b0, c1] w K :=
  calls_of_W (ext := ext) (args := [b0, c1]) (fn := Try.f14) (c := bodyC Try.f14) mixedOk Try.func14 rfl (by kernel_rfl) (Nat.le_of_ble_eq_true (by kernel_rfl)) (W_flat _ _ _ _ (C1.sound (fun _ _ h => h) h))
end strings_Builder_WriteByte
/- (*strings.Builder).copyCheck -/
namespace strings_Builder_copyCheck
noncomputable abbrev B : Code := flat (bodyC Try.f18)
noncomputable abbrev R (K : KT) : Fr → World → Prop := fnPost Try.prog Try.f18.results.toList K .ret
variable {K : KT}
def C1 (K : KT) (kn : V0) (b0 : Value) (w : World) : Prop :=
  optW (nilO b0) w fun v3 w =>
  optW (fadO 0 v3) w fun v4 w =>
  optW (ld1 v4 w) w fun v5 w =>
  semW Try.prog (do eqGuard .eql 36 (.tmp 0) (.const undef) v5 (.pointer none); binOp .eql 36 v5 (.pointer none)) w fun v6 w =>
  Cnd v6 (
  semW Try.prog (convert 36 45 b0) w fun v9 w =>
  semW Try.prog (valueN (callFunc 20 #[v9])) w fun v10 w =>
  semW Try.prog (convert 45 36 v10) w fun v11 w =>
  optW (nilO b0) w fun v12 w =>
  optW (fadO 0 v12) w fun v13 w =>
  st1 v13 v11 w fun w =>
  kn w) (
  optW (nilO b0) w fun v15 w =>
  optW (fadO 0 v15) w fun v16 w =>
  optW (ld1 v16 w) w fun v17 w =>
  semW Try.prog (do eqGuard .neq 36 (.tmp 0) (.tmp 0) v17 b0; binOp .neq 36 v17 b0) w fun v19 w =>
  Cnd v19 (
  False) (
  kn w))
theorem C1.sound {kn : V0} {Q : QT} (hkn : ∀ f w, kn w → Q .normal f w) (hr : ∀ f w, R K f w → Q .ret f w) {f : Fr} {w : World} (h : C1 K kn (f 0) w) : W Try.prog ext (subC B []) Q f w :=
  W_exq (n := fun f w => kn w) (r := R K) (xs := []) (gs := []) (Eq.mp (by kernel_rfl) h) hkn hr trivial trivial
def J (b0 : Value) (w : World) (K : KT) : Prop := C1 K (fun w => K (.tuple #[]) w) b0 w
theorem sound {b0 : Value} {w : World} (h : J b0 w K) : CallsR Try.prog 18 #[b0] w K :=
  calls_of_W (ext := ext) (args := [b0]) (fn := Try.f18) (c := bodyC Try.f18) mixedOk Try.func18 rfl (by kernel_rfl) (Nat.le_of_ble_eq_true (by kernel_rfl)) (W_flat _ _ _ _ (C1.sound (fun f w h => Eq.mp (by kernel_rfl) h) (fun _ _ h => h) h))
end strings_Builder_copyCheck
end Go.Proofs.Ytklieghmbhofnaa
