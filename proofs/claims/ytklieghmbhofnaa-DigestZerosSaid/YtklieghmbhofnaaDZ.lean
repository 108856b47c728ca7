-- PRINTED: what each function asks ahead of a call, and that it is enough (wip/tools/dec.py)
import Derived.Test.YtklieghmbhofnaaBase
namespace Go.Proofs.Ytklieghmbhofnaa
open Go Go.Ev
set_option maxRecDepth 100000
/- witness/witnesslaw1.DigestZeros -/
namespace witnesslaw1_DigestZeros
noncomputable abbrev B : Code := flat (bodyC Try.f3)
noncomputable abbrev R (K : KT) : Fr → World → Prop := fnPost Try.prog Try.f3.results.toList K .ret
variable {K : KT}
def C2 (K : KT) (v2 : Value) (w : World) : Prop :=
  K v2 w
theorem C2.sound {Q : QT} (hr : ∀ f w, R K f w → Q .ret f w) {f : Fr} {w : World} (h : C2 K (f 2) w) : W Try.prog ext (subC B [1, 1]) Q f w :=
  W_exq (n := fun _ _ => False) (r := R K) (xs := []) (gs := []) (Eq.mp (by kernel_rfl) h) (fun _ _ h => h.elim) hr trivial trivial
def D3 (kn : V1) (s1 : Value) (w : World) : Prop :=
  ∃ I : World → Prop, I w.drew ∧ drw w fun w =>
  rdI I (fun w => ldN 32 s1 w) fun v3 =>
  CallsR Try.prog 6 #[v3] w fun v4 w => I w ∧
  rdI I (fun w => ldN 32 s1 w) fun v5 =>
  CallsR Try.prog 7 #[v5] w fun v6 w => I w ∧
  optW (eqO false v4 v6) w fun v7 w => 
  kn v7 w
def C1 (K : KT) (s0 : Value) (w : World) : Prop :=
  newW (Value.cells s0) 22 w fun s1 w =>
  D3 (C2 K) s1 w
theorem C1.sound {Q : QT} (hr : ∀ f w, R K f w → Q .ret f w) {f : Fr} {w : World} (h : C1 K (f 0) w) : W Try.prog ext (subC B []) Q f w :=
  W_pre 1 (c2 := (subC B [1])) (by kernel_rfl) (n := fun f w => D3 (C2 K) (f 1) w) (r := R K) (xs := []) (gs := []) (Eq.mp (by kernel_rfl) h) (fun f w h => W_seq' (a := (subC B [1, 0])) (b := (subC B [1, 1])) (by kernel_rfl) (W_drawI' (id := 1) (ops := (opsC (subC B [1, 0]))) (N := fun f w => (C2 K) (f 2) w) (by kernel_rfl) (by kernel_rfl) (by kernel_rfl) (Eq.mp (by kernel_rfl) h) (fun f w h => seq_n (C2.sound (K := K) (Q := Q) hr h)))) hr trivial trivial
def J (s0 : Value) (w : World) (K : KT) : Prop := C1 K s0 w
theorem sound {s0 : Value} {w : World} (h : J s0 w K) : CallsR Try.prog 3 #[s0] w K :=
  calls_of_W (ext := ext) (args := [s0]) (fn := Try.f3) (c := bodyC Try.f3) mixedOk Try.func3 rfl (by kernel_rfl) (Nat.le_of_ble_eq_true (by kernel_rfl)) (W_flat _ _ _ _ (C1.sound (fun _ _ h => h) h))
end witnesslaw1_DigestZeros
/- witness/digest.Zeros -/
namespace digest_Zeros
noncomputable abbrev B : Code := flat (bodyC Try.f6)
noncomputable abbrev R (K : KT) : Fr → World → Prop := fnPost Try.prog Try.f6.results.toList K .ret
variable {K : KT}
def C2 (K : KT) (w : World) : Prop :=
  K (.int .i64 256) w
theorem C2.sound {Q : QT} (hr : ∀ f w, R K f w → Q .ret f w) {f : Fr} {w : World} (h : C2 K w) : W Try.prog ext (subC B [1, 1, 1]) Q f w :=
  W_exq (n := fun _ _ => False) (r := R K) (xs := []) (gs := []) (Eq.mp (by kernel_rfl) h) (fun _ _ h => h.elim) hr trivial trivial
def C3 (K : KT) (kx0 : V0) (kn : V2) (v5 v6 : Value) (w : World) : Prop :=
  optW (arO .lss v6 (.int .i64 32)) w fun v7 w =>
  Cnd v7 (
  optW (idxO false 32 1 v5 v6) w fun v9 w =>
  optW (eqO true v9 (.int .u8 0)) w fun v11 w =>
  Cnd v11 (
  optW (arO .mul (.int .i64 8) v6) w fun v13 w =>
  CallsR Try.prog 12 #[v9] w fun v15 w =>
  optW (arO .add v13 v15) w fun v16 w =>
  K v16 w) (
  optW (arO .add v6 (.int .i64 1)) w fun v17 w =>
  kn v5 v17 w)) (
  kx0 w)
theorem C3.sound {kx0 : V0} {kn : V2} {Q : QT} (hkx0 : ∀ f w, kx0 w → Q (.exit 0) f w) (hkn : ∀ f w, kn (f 5) (f 6) w → Q .normal f w) (hr : ∀ f w, R K f w → Q .ret f w) {f : Fr} {w : World} (h : C3 K kx0 kn (f 5) (f 6) w) : W Try.prog ext (subC B [1, 1, 0, 0, 0]) Q f w :=
  W_exq (n := fun f w => kn (f 5) (f 6) w) (r := R K) (xs := [(0, fun f w => kx0 w)]) (gs := []) (Eq.mp (by kernel_rfl) h) hkn hr ⟨hkx0, trivial⟩ trivial
def L3 (K : KT) (kx0 : V0) : Nat → V2
  | 0, _, _, _ => False
  | k + 1, v5, v6, w => C3 K kx0 (L3 K kx0 k) v5 v6 w
theorem L3.sound {kx0 : V0} {Q : QT} (hkx0 : ∀ f w, kx0 w → Q (.exit 0) f w) (hr : ∀ f w, R K f w → Q .ret f w) : ∀ (k : Nat) (f : Fr) (w : World), L3 K kx0 k (f 5) (f 6) w → It (W Try.prog ext (subC B [1, 1, 0, 0, 0])) Q k f w
  | 0, _, _, h => h
  | k + 1, _, _, h => C3.sound (K := K) (Q := seqQ (It (W Try.prog ext (subC B [1, 1, 0, 0, 0])) Q k) Q) hkx0 (fun f w h => seq_n (L3.sound hkx0 hr k f w h)) hr h
def C1 (K : KT) (s0 : Value) (w : World) : Prop :=
  newW (Value.cells s0) 25 w fun s1 w =>
  optW (ldN 32 s1 w) w fun v5 w =>
  ∃ k, L3 K (C2 K) k v5 (.int .i64 0) w
theorem C1.sound {Q : QT} (hr : ∀ f w, R K f w → Q .ret f w) {f : Fr} {w : World} (h : C1 K (f 0) w) : W Try.prog ext (subC B []) Q f w :=
  W_pre 2 (c2 := (subC B [1, 1])) (by kernel_rfl) (n := fun f w => ∃ k, L3 K (C2 K) k (f 5) (f 6) w) (r := R K) (xs := []) (gs := []) (Eq.mp (by kernel_rfl) h) (fun f w h => W_seq' (a := (subC B [1, 1, 0])) (b := (subC B [1, 1, 1])) (by kernel_rfl) (W_block' (id := 0) (c := (subC B [1, 1, 0, 0])) (by kernel_rfl) (W_loop' (c := (subC B [1, 1, 0, 0, 0])) (by kernel_rfl) (h.elim fun k h => ⟨k, L3.sound (K := K) (Q := (blkQ 0 (seqQ (W Try.prog ext (subC B [1, 1, 1]) Q) Q))) (kx0 := (C2 K)) (fun f w h => blk_x ((fun f w h => seq_n (C2.sound (K := K) (Q := Q) hr h)) f w h)) hr k _ _ h⟩)))) hr trivial trivial
def J (s0 : Value) (w : World) (K : KT) : Prop := C1 K s0 w
theorem sound {s0 : Value} {w : World} (h : J s0 w K) : CallsR Try.prog 6 #[s0] w K :=
  calls_of_W (ext := ext) (args := [s0]) (fn := Try.f6) (c := bodyC Try.f6) mixedOk Try.func6 rfl (by kernel_rfl) (Nat.le_of_ble_eq_true (by kernel_rfl)) (W_flat _ _ _ _ (C1.sound (fun _ _ h => h) h))
end digest_Zeros
/- witness/witnessref1.Zeros -/
namespace witnessref1_Zeros
noncomputable abbrev B : Code := flat (bodyC Try.f7)
noncomputable abbrev R (K : KT) : Fr → World → Prop := fnPost Try.prog Try.f7.results.toList K .ret
variable {K : KT}
def C2 (K : KT) (w : World) : Prop :=
  K (.int .i64 256) w
theorem C2.sound {Q : QT} (hr : ∀ f w, R K f w → Q .ret f w) {f : Fr} {w : World} (h : C2 K w) : W Try.prog ext (subC B [1, 1, 1]) Q f w :=
  W_exq (n := fun _ _ => False) (r := R K) (xs := []) (gs := []) (Eq.mp (by kernel_rfl) h) (fun _ _ h => h.elim) hr trivial trivial
def C3 (K : KT) (kx0 : V0) (kn : V2) (s1 i3 : Value) (w : World) : Prop :=
  optW (arO .lss i3 (.int .i64 256)) w fun v5 w =>
  Cnd v5 (
  optW (arO .quo i3 (.int .i64 8)) w fun v9 w =>
  optW (ixA 32 1 s1 v9) w fun v10 w =>
  optW (ld1 v10 w) w fun v11 w =>
  optW (arO .rem i3 (.int .i64 8)) w fun v13 w =>
  optW (arO .sub (.int .i64 7) v13) w fun v14 w =>
  optW (shO .shr v11 v14) w fun v15 w =>
  optW (arO .and v15 (.int .u8 1)) w fun v16 w =>
  optW (eqO false v16 (.int .u8 1)) w fun v17 w =>
  Cnd v17 (
  K i3 w) (
  optW (arO .add i3 (.int .i64 1)) w fun v7 w =>
  kn s1 v7 w)) (
  kx0 w)
theorem C3.sound {kx0 : V0} {kn : V2} {Q : QT} (hkx0 : ∀ f w, kx0 w → Q (.exit 0) f w) (hkn : ∀ f w, kn (f 1) (f 3) w → Q .normal f w) (hr : ∀ f w, R K f w → Q .ret f w) {f : Fr} {w : World} (h : C3 K kx0 kn (f 1) (f 3) w) : W Try.prog ext (subC B [1, 1, 0, 0, 0]) Q f w :=
  W_exq (n := fun f w => kn (f 1) (f 3) w) (r := R K) (xs := [(0, fun f w => kx0 w)]) (gs := []) (Eq.mp (by kernel_rfl) h) hkn hr ⟨hkx0, trivial⟩ trivial
def L3 (K : KT) (kx0 : V0) : Nat → V2
  | 0, _, _, _ => False
  | k + 1, s1, i3, w => C3 K kx0 (L3 K kx0 k) s1 i3 w
theorem L3.sound {kx0 : V0} {Q : QT} (hkx0 : ∀ f w, kx0 w → Q (.exit 0) f w) (hr : ∀ f w, R K f w → Q .ret f w) : ∀ (k : Nat) (f : Fr) (w : World), L3 K kx0 k (f 1) (f 3) w → It (W Try.prog ext (subC B [1, 1, 0, 0, 0])) Q k f w
  | 0, _, _, h => h
  | k + 1, _, _, h => C3.sound (K := K) (Q := seqQ (It (W Try.prog ext (subC B [1, 1, 0, 0, 0])) Q k) Q) hkx0 (fun f w h => seq_n (L3.sound hkx0 hr k f w h)) hr h
def C1 (K : KT) (s0 : Value) (w : World) : Prop :=
  newW (Value.cells s0) 25 w fun s1 w =>
  ∃ k, L3 K (C2 K) k s1 (.int .i64 0) w
theorem C1.sound {Q : QT} (hr : ∀ f w, R K f w → Q .ret f w) {f : Fr} {w : World} (h : C1 K (f 0) w) : W Try.prog ext (subC B []) Q f w :=
  W_pre 2 (c2 := (subC B [1, 1])) (by kernel_rfl) (n := fun f w => ∃ k, L3 K (C2 K) k (f 1) (f 3) w) (r := R K) (xs := []) (gs := []) (Eq.mp (by kernel_rfl) h) (fun f w h => W_seq' (a := (subC B [1, 1, 0])) (b := (subC B [1, 1, 1])) (by kernel_rfl) (W_block' (id := 0) (c := (subC B [1, 1, 0, 0])) (by kernel_rfl) (W_loop' (c := (subC B [1, 1, 0, 0, 0])) (by kernel_rfl) (h.elim fun k h => ⟨k, L3.sound (K := K) (Q := (blkQ 0 (seqQ (W Try.prog ext (subC B [1, 1, 1]) Q) Q))) (kx0 := (C2 K)) (fun f w h => blk_x ((fun f w h => seq_n (C2.sound (K := K) (Q := Q) hr h)) f w h)) hr k _ _ h⟩)))) hr trivial trivial
def J (s0 : Value) (w : World) (K : KT) : Prop := C1 K s0 w
theorem sound {s0 : Value} {w : World} (h : J s0 w K) : CallsR Try.prog 7 #[s0] w K :=
  calls_of_W (ext := ext) (args := [s0]) (fn := Try.f7) (c := bodyC Try.f7) mixedOk Try.func7 rfl (by kernel_rfl) (Nat.le_of_ble_eq_true (by kernel_rfl)) (W_flat _ _ _ _ (C1.sound (fun _ _ h => h) h))
end witnessref1_Zeros
/- math/bits.LeadingZeros8 -/
namespace bits_LeadingZeros8
noncomputable abbrev B : Code := flat (bodyC Try.f12)
noncomputable abbrev R (K : KT) : Fr → World → Prop := fnPost Try.prog Try.f12.results.toList K .ret
variable {K : KT}
def C1 (K : KT) (x0 : Value) (w : World) : Prop :=
  CallsR Try.prog 16 #[x0] w fun v4 w =>
  optW (arO .sub (.int .i64 8) v4) w fun v5 w =>
  K v5 w
theorem C1.sound {Q : QT} (hr : ∀ f w, R K f w → Q .ret f w) {f : Fr} {w : World} (h : C1 K (f 0) w) : W Try.prog ext (subC B []) Q f w :=
  W_exq (n := fun _ _ => False) (r := R K) (xs := []) (gs := []) (Eq.mp (by kernel_rfl) h) (fun _ _ h => h.elim) hr trivial trivial
def J (x0 : Value) (w : World) (K : KT) : Prop := C1 K x0 w
theorem sound {x0 : Value} {w : World} (h : J x0 w K) : CallsR Try.prog 12 #[x0] w K :=
  calls_of_W (ext := ext) (args := [x0]) (fn := Try.f12) (c := bodyC Try.f12) mixedOk Try.func12 rfl (by kernel_rfl) (Nat.le_of_ble_eq_true (by kernel_rfl)) (W_flat _ _ _ _ (C1.sound (fun _ _ h => h) h))
end bits_LeadingZeros8
/- math/bits.Len8 -/
namespace bits_Len8
noncomputable abbrev B : Code := flat (bodyC Try.f16)
noncomputable abbrev R (K : KT) : Fr → World → Prop := fnPost Try.prog Try.f16.results.toList K .ret
variable {K : KT}
def C1 (K : KT) (x0 : Value) (w : World) : Prop :=
  optW (idxT (.string { data := #[0, 1, 2, 2, 3, 3, 3, 3, 4, 4, 4, 4, 4, 4, 4, 4, 5, 5, 5, 5, 5, 5, 5, 5, 5, 5, 5, 5, 5, 5, 5, 5, 6, 6, 6, 6, 6, 6, 6, 6, 6, 6, 6, 6, 6, 6, 6, 6, 6, 6, 6, 6, 6, 6, 6, 6, 6, 6, 6, 6, 6, 6, 6, 6, 7, 7, 7, 7, 7, 7, 7, 7, 7, 7, 7, 7, 7, 7, 7, 7, 7, 7, 7, 7, 7, 7, 7, 7, 7, 7, 7, 7, 7, 7, 7, 7, 7, 7, 7, 7, 7, 7, 7, 7, 7, 7, 7, 7, 7, 7, 7, 7, 7, 7, 7, 7, 7, 7, 7, 7, 7, 7, 7, 7, 7, 7, 7, 7, 8, 8, 8, 8, 8, 8, 8, 8, 8, 8, 8, 8, 8, 8, 8, 8, 8, 8, 8, 8, 8, 8, 8, 8, 8, 8, 8, 8, 8, 8, 8, 8, 8, 8, 8, 8, 8, 8, 8, 8, 8, 8, 8, 8, 8, 8, 8, 8, 8, 8, 8, 8, 8, 8, 8, 8, 8, 8, 8, 8, 8, 8, 8, 8, 8, 8, 8, 8, 8, 8, 8, 8, 8, 8, 8, 8, 8, 8, 8, 8, 8, 8, 8, 8, 8, 8, 8, 8, 8, 8, 8, 8, 8, 8, 8, 8, 8, 8, 8, 8, 8, 8, 8, 8, 8, 8, 8, 8, 8, 8, 8, 8, 8, 8, 8, 8, 8, 8, 8, 8, 8, 8, 8, 8, 8, 8, 8, 8] }) x0) w fun v4 w =>
  optW (cvO .i64 v4) w fun v5 w =>
  K v5 w
theorem C1.sound {Q : QT} (hr : ∀ f w, R K f w → Q .ret f w) {f : Fr} {w : World} (h : C1 K (f 0) w) : W Try.prog ext (subC B []) Q f w :=
  W_exq (n := fun _ _ => False) (r := R K) (xs := []) (gs := []) (Eq.mp (by kernel_rfl) h) (fun _ _ h => h.elim) hr trivial trivial
def J (x0 : Value) (w : World) (K : KT) : Prop := C1 K x0 w
theorem sound {x0 : Value} {w : World} (h : J x0 w K) : CallsR Try.prog 16 #[x0] w K :=
  calls_of_W (ext := ext) (args := [x0]) (fn := Try.f16) (c := bodyC Try.f16) mixedOk Try.func16 rfl (by kernel_rfl) (Nat.le_of_ble_eq_true (by kernel_rfl)) (W_flat _ _ _ _ (C1.sound (fun _ _ h => h) h))
end bits_Len8
end Go.Proofs.Ytklieghmbhofnaa
