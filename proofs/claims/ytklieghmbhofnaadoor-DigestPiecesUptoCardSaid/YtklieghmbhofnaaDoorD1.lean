-- PRINTED: what each function asks ahead of a call, and that it is enough (wip/tools/dec.py)
import Derived.Test.YtklieghmbhofnaaDoorBase
namespace Go.Proofs.YtklieghmbhofnaaDoor
open Go Go.Ev
set_option maxRecDepth 100000
/- witness/digest.More -/
namespace digest_More
noncomputable abbrev B : Code := flat (bodyC Tryd.f13)
noncomputable abbrev R (K : KT) : Fr → World → Prop := fnPost Tryd.prog Tryd.f13.results.toList K .ret
variable {K : KT}
def C2 (K : KT) (c0 : Value) (w : World) : Prop :=
  optW (unO .xor c0) w fun v35 w =>
  K v35 w
theorem C2.sound {Q : QT} (hr : ∀ f w, R K f w → Q .ret f w) {f : Fr} {w : World} (h : C2 K (f 0) w) : W Tryd.prog ext (subC B [1, 1, 1, 1]) Q f w :=
  W_exq (n := fun _ _ => False) (r := R K) (xs := []) (gs := []) (Eq.mp (by kernel_rfl) h) (fun _ _ h => h.elim) hr trivial trivial
def C3 (K : KT) (kx0 : V1) (kn : V4) (c0 v9 v10 v11 : Value) (w : World) : Prop :=
  optW (arO .lss v11 v10) w fun v12 w =>
  Cnd v12 (
  optW (ixS 1 v9 v11) w fun v13 w =>
  optW (ld1 v13 w) w fun v14 w =>
  optW (cvO .u32 v14) w fun v17 w =>
  optW (arO .xor c0 v17) w fun v18 w =>
  optW (shO .shr v18 (.int .u64 4)) w fun v20 w =>
  optW (arO .and v18 (.int .u32 15)) w fun v22 w =>
  optW (ixA 16 1 (.pointer (some ⟨0, 0, none⟩)) v22) w fun v23 w =>
  optW (ld1 v23 w) w fun v24 w =>
  optW (arO .xor v20 v24) w fun v25 w =>
  optW (shO .shr v25 (.int .u64 4)) w fun v27 w =>
  optW (arO .and v25 (.int .u32 15)) w fun v29 w =>
  optW (ixA 16 1 (.pointer (some ⟨0, 0, none⟩)) v29) w fun v30 w =>
  optW (ld1 v30 w) w fun v31 w =>
  optW (arO .xor v27 v31) w fun v32 w =>
  optW (arO .add v11 (.int .i64 1)) w fun v33 w =>
  kn v32 v9 v10 v33 w) (
  kx0 c0 w)
theorem C3.sound {kx0 : V1} {kn : V4} {Q : QT} (hkx0 : ∀ f w, kx0 (f 0) w → Q (.exit 0) f w) (hkn : ∀ f w, kn (f 0) (f 9) (f 10) (f 11) w → Q .normal f w) (hr : ∀ f w, R K f w → Q .ret f w) {f : Fr} {w : World} (h : C3 K kx0 kn (f 0) (f 9) (f 10) (f 11) w) : W Tryd.prog ext (subC B [1, 1, 1, 0, 0, 0]) Q f w :=
  W_exq (n := fun f w => kn (f 0) (f 9) (f 10) (f 11) w) (r := R K) (xs := [(0, fun f w => kx0 (f 0) w)]) (gs := []) (Eq.mp (by kernel_rfl) h) hkn hr ⟨hkx0, trivial⟩ trivial
def L3 (K : KT) (kx0 : V1) : Nat → V4
  | 0, _, _, _, _, _ => False
  | k + 1, c0, v9, v10, v11, w => C3 K kx0 (L3 K kx0 k) c0 v9 v10 v11 w
theorem L3.sound {kx0 : V1} {Q : QT} (hkx0 : ∀ f w, kx0 (f 0) w → Q (.exit 0) f w) (hr : ∀ f w, R K f w → Q .ret f w) : ∀ (k : Nat) (f : Fr) (w : World), L3 K kx0 k (f 0) (f 9) (f 10) (f 11) w → It (W Tryd.prog ext (subC B [1, 1, 1, 0, 0, 0])) Q k f w
  | 0, _, _, h => h
  | k + 1, _, _, h => C3.sound (K := K) (Q := seqQ (It (W Tryd.prog ext (subC B [1, 1, 1, 0, 0, 0])) Q k) Q) hkx0 (fun f w h => seq_n (L3.sound hkx0 hr k f w h)) hr h
def C1 (K : KT) (c0 b1 : Value) (w : World) : Prop :=
  optW (unO .xor c0) w fun v8 w =>
  optW (lenS b1) w fun v10 w =>
  ∃ k, L3 K (C2 K) k v8 b1 v10 (.int .i64 0) w
theorem C1.sound {Q : QT} (hr : ∀ f w, R K f w → Q .ret f w) {f : Fr} {w : World} (h : C1 K (f 0) (f 1) w) : W Tryd.prog ext (subC B []) Q f w :=
  W_pre 3 (c2 := (subC B [1, 1, 1])) (by kernel_rfl) (n := fun f w => ∃ k, L3 K (C2 K) k (f 0) (f 9) (f 10) (f 11) w) (r := R K) (xs := []) (gs := []) (Eq.mp (by kernel_rfl) h) (fun f w h => W_seq' (a := (subC B [1, 1, 1, 0])) (b := (subC B [1, 1, 1, 1])) (by kernel_rfl) (W_block' (id := 0) (c := (subC B [1, 1, 1, 0, 0])) (by kernel_rfl) (W_loop' (c := (subC B [1, 1, 1, 0, 0, 0])) (by kernel_rfl) (h.elim fun k h => ⟨k, L3.sound (K := K) (Q := (blkQ 0 (seqQ (W Tryd.prog ext (subC B [1, 1, 1, 1]) Q) Q))) (kx0 := (C2 K)) (fun f w h => blk_x ((fun f w h => seq_n (C2.sound (K := K) (Q := Q) hr h)) f w h)) hr k _ _ h⟩)))) hr trivial trivial
def J (c0 b1 : Value) (w : World) (K : KT) : Prop := C1 K c0 b1 w
theorem sound {c0 b1 : Value} {w : World} (h : J c0 b1 w K) : CallsR Tryd.prog 13 #[c0, b1] w K :=
  calls_of_W (ext := ext) (args := [c0, b1]) (fn := Tryd.f13) (c := bodyC Tryd.f13) mixedOk Tryd.func13 rfl (by kernel_rfl) (Nat.le_of_ble_eq_true (by kernel_rfl)) (W_flat _ _ _ _ (C1.sound (fun _ _ h => h) h))
end digest_More
/- witness/witnessref1.More -/
namespace witnessref1_More
noncomputable abbrev B : Code := flat (bodyC Tryd.f14)
noncomputable abbrev R (K : KT) : Fr → World → Prop := fnPost Tryd.prog Tryd.f14.results.toList K .ret
variable {K : KT}
def C2 (K : KT) (r5 : Value) (w : World) : Prop :=
  optW (unO .xor r5) w fun v39 w =>
  K v39 w
theorem C2.sound {Q : QT} (hr : ∀ f w, R K f w → Q .ret f w) {f : Fr} {w : World} (h : C2 K (f 5) w) : W Tryd.prog ext (subC B [1, 1, 1, 1]) Q f w :=
  W_exq (n := fun _ _ => False) (r := R K) (xs := []) (gs := []) (Eq.mp (by kernel_rfl) h) (fun _ _ h => h.elim) hr trivial trivial
def C4 (K : KT) (kn : V3) (b1 r5 i6 : Value) (w : World) : Prop :=
  optW (arO .add i6 (.int .i64 1)) w fun v16 w =>
  kn b1 r5 v16 w
theorem C4.sound {kn : V3} {Q : QT} (hkn : ∀ f w, kn (f 1) (f 5) (f 6) w → Q .normal f w) (hr : ∀ f w, R K f w → Q .ret f w) {f : Fr} {w : World} (h : C4 K kn (f 1) (f 5) (f 6) w) : W Tryd.prog ext (subC B [1, 1, 1, 0, 0, 0, 1, 1, 1]) Q f w :=
  W_exq (n := fun f w => kn (f 1) (f 5) (f 6) w) (r := R K) (xs := []) (gs := []) (Eq.mp (by kernel_rfl) h) hkn hr trivial trivial
def C7 (K : KT) (kn : V4) (b1 r5 i6 k7 : Value) (w : World) : Prop :=
  optW (arO .add k7 (.int .i64 1)) w fun v20 w =>
  kn b1 r5 i6 v20 w
theorem C7.sound {kn : V4} {Q : QT} (hkn : ∀ f w, kn (f 1) (f 5) (f 6) (f 7) w → Q .normal f w) (hr : ∀ f w, R K f w → Q .ret f w) {f : Fr} {w : World} (h : C7 K kn (f 1) (f 5) (f 6) (f 7) w) : W Tryd.prog ext (subC B [1, 1, 1, 0, 0, 0, 1, 1, 0, 0, 1, 0, 0, 1, 1, 1]) Q f w :=
  W_exq (n := fun f w => kn (f 1) (f 5) (f 6) (f 7) w) (r := R K) (xs := []) (gs := []) (Eq.mp (by kernel_rfl) h) hkn hr trivial trivial
def C8 (K : KT) (kn : V4) (b1 r5 i6 k7 : Value) (w : World) : Prop :=
  optW (ixS 1 b1 i6) w fun v23 w =>
  optW (ld1 v23 w) w fun v24 w =>
  optW (shO .shr v24 k7) w fun v26 w =>
  optW (cvO .u32 v26) w fun v27 w =>
  optW (arO .and v27 (.int .u32 1)) w fun v28 w =>
  optW (arO .and r5 (.int .u32 1)) w fun v30 w =>
  optW (arO .xor v28 v30) w fun v31 w =>
  optW (shO .shr r5 (.int .u64 1)) w fun v33 w =>
  optW (eqO false v31 (.int .u32 1)) w fun v35 w =>
  Cnd v35 (
  optW (arO .xor v33 (.int .u32 2197175160)) w fun v37 w =>
  kn b1 v37 i6 k7 w) (
  kn b1 v33 i6 k7 w)
theorem C8.sound {kn : V4} {Q : QT} (hkn : ∀ f w, kn (f 1) (f 5) (f 6) (f 7) w → Q .normal f w) (hr : ∀ f w, R K f w → Q .ret f w) {f : Fr} {w : World} (h : C8 K kn (f 1) (f 5) (f 6) (f 7) w) : W Tryd.prog ext (subC B [1, 1, 1, 0, 0, 0, 1, 1, 0, 0, 1, 0, 0, 1, 1, 0, 0]) Q f w :=
  W_exq (n := fun f w => kn (f 1) (f 5) (f 6) (f 7) w) (r := R K) (xs := []) (gs := []) (Eq.mp (by kernel_rfl) h) hkn hr trivial trivial
def C6 (K : KT) (kx2 : V3) (kn : V4) (b1 r5 i6 k7 : Value) (w : World) : Prop :=
  optW (arO .lss k7 (.int .i64 8)) w fun v18 w =>
  Cnd v18 (
  C8 K (C7 K kn) b1 r5 i6 k7 w) (
  kx2 b1 r5 i6 w)
theorem C6.sound {kx2 : V3} {kn : V4} {Q : QT} (hkx2 : ∀ f w, kx2 (f 1) (f 5) (f 6) w → Q (.exit 2) f w) (hkn : ∀ f w, kn (f 1) (f 5) (f 6) (f 7) w → Q .normal f w) (hr : ∀ f w, R K f w → Q .ret f w) {f : Fr} {w : World} (h : C6 K kx2 kn (f 1) (f 5) (f 6) (f 7) w) : W Tryd.prog ext (subC B [1, 1, 1, 0, 0, 0, 1, 1, 0, 0, 1, 0, 0]) Q f w :=
  W_pre 2 (c2 := (subC B [1, 1, 1, 0, 0, 0, 1, 1, 0, 0, 1, 0, 0, 1, 1])) (by kernel_rfl) (n := fun f w => C8 K (C7 K kn) (f 1) (f 5) (f 6) (f 7) w) (r := R K) (xs := [(2, fun f w => kx2 (f 1) (f 5) (f 6) w)]) (gs := []) (Eq.mp (by kernel_rfl) h) (fun f w h => W_seq' (a := (subC B [1, 1, 1, 0, 0, 0, 1, 1, 0, 0, 1, 0, 0, 1, 1, 0])) (b := (subC B [1, 1, 1, 0, 0, 0, 1, 1, 0, 0, 1, 0, 0, 1, 1, 1])) (by kernel_rfl) (W_block' (id := 3) (c := (subC B [1, 1, 1, 0, 0, 0, 1, 1, 0, 0, 1, 0, 0, 1, 1, 0, 0])) (by kernel_rfl) (C8.sound (K := K) (Q := (blkQ 3 (seqQ (W Tryd.prog ext (subC B [1, 1, 1, 0, 0, 0, 1, 1, 0, 0, 1, 0, 0, 1, 1, 1]) Q) Q))) (kn := (C7 K kn)) (fun f w h => blk_n ((fun f w h => seq_n (C7.sound (K := K) (Q := Q) (kn := kn) hkn hr h)) f w h)) hr h))) hr ⟨hkx2, trivial⟩ trivial
def L6 (K : KT) (kx2 : V3) : Nat → V4
  | 0, _, _, _, _, _ => False
  | k + 1, b1, r5, i6, k7, w => C6 K kx2 (L6 K kx2 k) b1 r5 i6 k7 w
theorem L6.sound {kx2 : V3} {Q : QT} (hkx2 : ∀ f w, kx2 (f 1) (f 5) (f 6) w → Q (.exit 2) f w) (hr : ∀ f w, R K f w → Q .ret f w) : ∀ (k : Nat) (f : Fr) (w : World), L6 K kx2 k (f 1) (f 5) (f 6) (f 7) w → It (W Tryd.prog ext (subC B [1, 1, 1, 0, 0, 0, 1, 1, 0, 0, 1, 0, 0])) Q k f w
  | 0, _, _, h => h
  | k + 1, _, _, h => C6.sound (K := K) (Q := seqQ (It (W Tryd.prog ext (subC B [1, 1, 1, 0, 0, 0, 1, 1, 0, 0, 1, 0, 0])) Q k) Q) hkx2 (fun f w h => seq_n (L6.sound hkx2 hr k f w h)) hr h
def C5 (K : KT) (kn : V3) (b1 r5 i6 : Value) (w : World) : Prop :=
  ∃ k, L6 K kn k b1 r5 i6 (.int .i64 0) w
theorem C5.sound {kn : V3} {Q : QT} (hkn : ∀ f w, kn (f 1) (f 5) (f 6) w → Q .normal f w) (hr : ∀ f w, R K f w → Q .ret f w) {f : Fr} {w : World} (h : C5 K kn (f 1) (f 5) (f 6) w) : W Tryd.prog ext (subC B [1, 1, 1, 0, 0, 0, 1, 1, 0, 0]) Q f w :=
  W_pre 1 (c2 := (subC B [1, 1, 1, 0, 0, 0, 1, 1, 0, 0, 1])) (by kernel_rfl) (n := fun f w => ∃ k, L6 K kn k (f 1) (f 5) (f 6) (f 7) w) (r := R K) (xs := []) (gs := []) (Eq.mp (by kernel_rfl) h) (fun f w h => W_block' (id := 2) (c := (subC B [1, 1, 1, 0, 0, 0, 1, 1, 0, 0, 1, 0])) (by kernel_rfl) (W_loop' (c := (subC B [1, 1, 1, 0, 0, 0, 1, 1, 0, 0, 1, 0, 0])) (by kernel_rfl) (h.elim fun k h => ⟨k, L6.sound (K := K) (Q := (blkQ 2 Q)) (kx2 := kn) (fun f w h => blk_x (hkn f w h)) hr k _ _ h⟩))) hr trivial trivial
def C3 (K : KT) (kx0 : V1) (kn : V3) (b1 r5 i6 : Value) (w : World) : Prop :=
  optW (lenS b1) w fun v13 w =>
  optW (arO .lss i6 v13) w fun v14 w =>
  Cnd v14 (
  C5 K (C4 K kn) b1 r5 i6 w) (
  kx0 r5 w)
theorem C3.sound {kx0 : V1} {kn : V3} {Q : QT} (hkx0 : ∀ f w, kx0 (f 5) w → Q (.exit 0) f w) (hkn : ∀ f w, kn (f 1) (f 5) (f 6) w → Q .normal f w) (hr : ∀ f w, R K f w → Q .ret f w) {f : Fr} {w : World} (h : C3 K kx0 kn (f 1) (f 5) (f 6) w) : W Tryd.prog ext (subC B [1, 1, 1, 0, 0, 0]) Q f w :=
  W_pre 2 (c2 := (subC B [1, 1, 1, 0, 0, 0, 1, 1])) (by kernel_rfl) (n := fun f w => C5 K (C4 K kn) (f 1) (f 5) (f 6) w) (r := R K) (xs := [(0, fun f w => kx0 (f 5) w)]) (gs := []) (Eq.mp (by kernel_rfl) h) (fun f w h => W_seq' (a := (subC B [1, 1, 1, 0, 0, 0, 1, 1, 0])) (b := (subC B [1, 1, 1, 0, 0, 0, 1, 1, 1])) (by kernel_rfl) (W_block' (id := 1) (c := (subC B [1, 1, 1, 0, 0, 0, 1, 1, 0, 0])) (by kernel_rfl) (C5.sound (K := K) (Q := (blkQ 1 (seqQ (W Tryd.prog ext (subC B [1, 1, 1, 0, 0, 0, 1, 1, 1]) Q) Q))) (kn := (C4 K kn)) (fun f w h => blk_n ((fun f w h => seq_n (C4.sound (K := K) (Q := Q) (kn := kn) hkn hr h)) f w h)) hr h))) hr ⟨hkx0, trivial⟩ trivial
def L3 (K : KT) (kx0 : V1) : Nat → V3
  | 0, _, _, _, _ => False
  | k + 1, b1, r5, i6, w => C3 K kx0 (L3 K kx0 k) b1 r5 i6 w
theorem L3.sound {kx0 : V1} {Q : QT} (hkx0 : ∀ f w, kx0 (f 5) w → Q (.exit 0) f w) (hr : ∀ f w, R K f w → Q .ret f w) : ∀ (k : Nat) (f : Fr) (w : World), L3 K kx0 k (f 1) (f 5) (f 6) w → It (W Tryd.prog ext (subC B [1, 1, 1, 0, 0, 0])) Q k f w
  | 0, _, _, h => h
  | k + 1, _, _, h => C3.sound (K := K) (Q := seqQ (It (W Tryd.prog ext (subC B [1, 1, 1, 0, 0, 0])) Q k) Q) hkx0 (fun f w h => seq_n (L3.sound hkx0 hr k f w h)) hr h
def C1 (K : KT) (c0 b1 : Value) (w : World) : Prop :=
  optW (unO .xor c0) w fun v10 w =>
  ∃ k, L3 K (C2 K) k b1 v10 (.int .i64 0) w
theorem C1.sound {Q : QT} (hr : ∀ f w, R K f w → Q .ret f w) {f : Fr} {w : World} (h : C1 K (f 0) (f 1) w) : W Tryd.prog ext (subC B []) Q f w :=
  W_pre 3 (c2 := (subC B [1, 1, 1])) (by kernel_rfl) (n := fun f w => ∃ k, L3 K (C2 K) k (f 1) (f 5) (f 6) w) (r := R K) (xs := []) (gs := []) (Eq.mp (by kernel_rfl) h) (fun f w h => W_seq' (a := (subC B [1, 1, 1, 0])) (b := (subC B [1, 1, 1, 1])) (by kernel_rfl) (W_block' (id := 0) (c := (subC B [1, 1, 1, 0, 0])) (by kernel_rfl) (W_loop' (c := (subC B [1, 1, 1, 0, 0, 0])) (by kernel_rfl) (h.elim fun k h => ⟨k, L3.sound (K := K) (Q := (blkQ 0 (seqQ (W Tryd.prog ext (subC B [1, 1, 1, 1]) Q) Q))) (kx0 := (C2 K)) (fun f w h => blk_x ((fun f w h => seq_n (C2.sound (K := K) (Q := Q) hr h)) f w h)) hr k _ _ h⟩)))) hr trivial trivial
def J (c0 b1 : Value) (w : World) (K : KT) : Prop := C1 K c0 b1 w
theorem sound {c0 b1 : Value} {w : World} (h : J c0 b1 w K) : CallsR Tryd.prog 14 #[c0, b1] w K :=
  calls_of_W (ext := ext) (args := [c0, b1]) (fn := Tryd.f14) (c := bodyC Tryd.f14) mixedOk Tryd.func14 rfl (by kernel_rfl) (Nat.le_of_ble_eq_true (by kernel_rfl)) (W_flat _ _ _ _ (C1.sound (fun _ _ h => h) h))
end witnessref1_More
/- witness/witnesslaw1.handed -/
namespace witnesslaw1_handed
noncomputable abbrev B : Code := flat (bodyC Tryd.f12)
noncomputable abbrev R (K : KT) : Fr → World → Prop := fnPost Tryd.prog Tryd.f12.results.toList K .ret
variable {K : KT}
def C2 (K : KT) (give4 full5 : Value) (w : World) : Prop :=
  K (.tuple #[give4, full5]) w
theorem C2.sound {Q : QT} (hr : ∀ f w, R K f w → Q .ret f w) {f : Fr} {w : World} (h : C2 K (f 4) (f 5) w) : W Tryd.prog ext (subC B [1, 1, 1, 1, 1]) Q f w :=
  W_exq (n := fun _ _ => False) (r := R K) (xs := []) (gs := []) (Eq.mp (by kernel_rfl) h) (fun _ _ h => h.elim) hr trivial trivial
def C3 (K : KT) (kx0 : V2) (kn : V4) (parts0 give4 full5 i6 : Value) (w : World) : Prop :=
  optW (lenS parts0) w fun v10 w =>
  optW (arO .lss i6 v10) w fun v11 w =>
  Cnd v11 (
  optW (ixS 1 parts0 i6) w fun v17 w =>
  optW (ld1 v17 w) w fun v18 w =>
  semW Tryd.prog (bltS .append #[23, 23] 23 #[(.slice none 0 0), v18]) w fun v19 w =>
  optW (cvO .u8 i6) w fun v22 w =>
  semW Tryd.prog (Instr.buildSlice 23 3 #[(0, (.int .u8 165)), (1, (.int .u8 90)), (2, v22)]) w fun v23 w =>
  semW Tryd.prog (bltS .append #[23, 23] 23 #[v19, v23]) w fun v24 w =>
  semW Tryd.prog (Instr.buildSlice 24 1 #[(0, v24)]) w fun v27 w =>
  semW Tryd.prog (bltS .append #[24, 24] 24 #[full5, v27]) w fun v28 w =>
  optW (ixS 1 parts0 i6) w fun v33 w =>
  optW (ld1 v33 w) w fun v34 w =>
  optW (lenS v34) w fun v35 w =>
  optW (slS 1 v24 none (some v35) none) w fun v36 w =>
  semW Tryd.prog (Instr.buildSlice 24 1 #[(0, v36)]) w fun v37 w =>
  semW Tryd.prog (bltS .append #[24, 24] 24 #[give4, v37]) w fun v38 w =>
  optW (arO .add i6 (.int .i64 1)) w fun v13 w =>
  kn parts0 v38 v28 v13 w) (
  kx0 give4 full5 w)
theorem C3.sound {kx0 : V2} {kn : V4} {Q : QT} (hkx0 : ∀ f w, kx0 (f 4) (f 5) w → Q (.exit 0) f w) (hkn : ∀ f w, kn (f 0) (f 4) (f 5) (f 6) w → Q .normal f w) (hr : ∀ f w, R K f w → Q .ret f w) {f : Fr} {w : World} (h : C3 K kx0 kn (f 0) (f 4) (f 5) (f 6) w) : W Tryd.prog ext (subC B [1, 1, 1, 1, 0, 0, 0]) Q f w :=
  W_exq (n := fun f w => kn (f 0) (f 4) (f 5) (f 6) w) (r := R K) (xs := [(0, fun f w => kx0 (f 4) (f 5) w)]) (gs := []) (Eq.mp (by kernel_rfl) h) hkn hr ⟨hkx0, trivial⟩ trivial
def L3 (K : KT) (kx0 : V2) : Nat → V4
  | 0, _, _, _, _, _ => False
  | k + 1, parts0, give4, full5, i6, w => C3 K kx0 (L3 K kx0 k) parts0 give4 full5 i6 w
theorem L3.sound {kx0 : V2} {Q : QT} (hkx0 : ∀ f w, kx0 (f 4) (f 5) w → Q (.exit 0) f w) (hr : ∀ f w, R K f w → Q .ret f w) : ∀ (k : Nat) (f : Fr) (w : World), L3 K kx0 k (f 0) (f 4) (f 5) (f 6) w → It (W Tryd.prog ext (subC B [1, 1, 1, 1, 0, 0, 0])) Q k f w
  | 0, _, _, h => h
  | k + 1, _, _, h => C3.sound (K := K) (Q := seqQ (It (W Tryd.prog ext (subC B [1, 1, 1, 1, 0, 0, 0])) Q k) Q) hkx0 (fun f w h => seq_n (L3.sound hkx0 hr k f w h)) hr h
def C1 (K : KT) (parts0 : Value) (w : World) : Prop :=
  ∃ k, L3 K (C2 K) k parts0 (.slice none 0 0) (.slice none 0 0) (.int .i64 0) w
theorem C1.sound {Q : QT} (hr : ∀ f w, R K f w → Q .ret f w) {f : Fr} {w : World} (h : C1 K (f 0) w) : W Tryd.prog ext (subC B []) Q f w :=
  W_pre 4 (c2 := (subC B [1, 1, 1, 1])) (by kernel_rfl) (n := fun f w => ∃ k, L3 K (C2 K) k (f 0) (f 4) (f 5) (f 6) w) (r := R K) (xs := []) (gs := []) (Eq.mp (by kernel_rfl) h) (fun f w h => W_seq' (a := (subC B [1, 1, 1, 1, 0])) (b := (subC B [1, 1, 1, 1, 1])) (by kernel_rfl) (W_block' (id := 0) (c := (subC B [1, 1, 1, 1, 0, 0])) (by kernel_rfl) (W_loop' (c := (subC B [1, 1, 1, 1, 0, 0, 0])) (by kernel_rfl) (h.elim fun k h => ⟨k, L3.sound (K := K) (Q := (blkQ 0 (seqQ (W Tryd.prog ext (subC B [1, 1, 1, 1, 1]) Q) Q))) (kx0 := (C2 K)) (fun f w h => blk_x ((fun f w h => seq_n (C2.sound (K := K) (Q := Q) hr h)) f w h)) hr k _ _ h⟩)))) hr trivial trivial
def J (parts0 : Value) (w : World) (K : KT) : Prop := C1 K parts0 w
theorem sound {parts0 : Value} {w : World} (h : J parts0 w K) : CallsR Tryd.prog 12 #[parts0] w K :=
  calls_of_W (ext := ext) (args := [parts0]) (fn := Tryd.f12) (c := bodyC Tryd.f12) mixedOk Tryd.func12 rfl (by kernel_rfl) (Nat.le_of_ble_eq_true (by kernel_rfl)) (W_flat _ _ _ _ (C1.sound (fun _ _ h => h) h))
end witnesslaw1_handed
/- witness/witnesslaw1.kept -/
namespace witnesslaw1_kept
noncomputable abbrev B : Code := flat (bodyC Tryd.f15)
noncomputable abbrev R (K : KT) : Fr → World → Prop := fnPost Tryd.prog Tryd.f15.results.toList K .ret
variable {K : KT}
def C2 (K : KT) (w : World) : Prop :=
  K (.bool true) w
theorem C2.sound {Q : QT} (hr : ∀ f w, R K f w → Q .ret f w) {f : Fr} {w : World} (h : C2 K w) : W Tryd.prog ext (subC B [1, 1, 1]) Q f w :=
  W_exq (n := fun _ _ => False) (r := R K) (xs := []) (gs := []) (Eq.mp (by kernel_rfl) h) (fun _ _ h => h.elim) hr trivial trivial
def C3 (K : KT) (kx0 : V0) (kn : V3) (parts0 full1 i5 : Value) (w : World) : Prop :=
  optW (lenS parts0) w fun v9 w =>
  optW (arO .lss i5 v9) w fun v10 w =>
  Cnd v10 (
  optW (ixS 1 parts0 i5) w fun v15 w =>
  optW (ld1 v15 w) w fun v16 w =>
  optW (lenS v16) w fun v17 w =>
  drw w fun w =>
  optW (ixS 1 full1 i5) w fun v20 w =>
  optW (ld1 v20 w) w fun v21 w =>
  optW (slS 1 v21 none (some v17) none) w fun v23 w =>
  optW (strO v23 w) w fun v24 w =>
  optW (ixS 1 parts0 i5) w fun v27 w =>
  optW (ld1 v27 w) w fun v28 w =>
  optW (strO v28 w) w fun v29 w =>
  optW (eqO true v24 v29) w fun v30 w =>
  gOp v30 false w (fun K => K full1 w) fun v32 w =>
  gOp v30 false w (fun K => K i5 w) fun v33 w =>
  gOp v30 false w (fun K => optW (ixS 1 v32 v33) w K) fun v34 w =>
  gOp v30 false w (fun K => optW (ld1 v34 w) w K) fun v35 w =>
  gOp v30 false w (fun K => K v17 w) fun v36 w =>
  gOp v30 false w (fun K => optW (ixS 1 v35 v36) w K) fun v37 w =>
  gOp v30 false w (fun K => optW (ld1 v37 w) w K) fun v38 w =>
  gOp v30 false w (fun K => optW (eqO true v38 (.int .u8 165)) w K) fun v39 w =>
  optW (pickO v30 (.bool true) v39) w fun v40 w =>
  gOp v40 false w (fun K => K full1 w) fun v42 w =>
  gOp v40 false w (fun K => K i5 w) fun v43 w =>
  gOp v40 false w (fun K => optW (ixS 1 v42 v43) w K) fun v44 w =>
  gOp v40 false w (fun K => optW (ld1 v44 w) w K) fun v45 w =>
  gOp v40 false w (fun K => K v17 w) fun v46 w =>
  gOp v40 false w (fun K => optW (arO .add v46 (.int .i64 1)) w K) fun v47 w =>
  gOp v40 false w (fun K => optW (ixS 1 v45 v47) w K) fun v48 w =>
  gOp v40 false w (fun K => optW (ld1 v48 w) w K) fun v49 w =>
  gOp v40 false w (fun K => optW (eqO true v49 (.int .u8 90)) w K) fun v50 w =>
  optW (pickO v40 (.bool true) v50) w fun v51 w =>
  gOp v51 false w (fun K => K full1 w) fun v53 w =>
  gOp v51 false w (fun K => K i5 w) fun v54 w =>
  gOp v51 false w (fun K => optW (ixS 1 v53 v54) w K) fun v55 w =>
  gOp v51 false w (fun K => optW (ld1 v55 w) w K) fun v56 w =>
  gOp v51 false w (fun K => K v17 w) fun v57 w =>
  gOp v51 false w (fun K => optW (arO .add v57 (.int .i64 2)) w K) fun v58 w =>
  gOp v51 false w (fun K => optW (ixS 1 v56 v58) w K) fun v59 w =>
  gOp v51 false w (fun K => optW (ld1 v59 w) w K) fun v60 w =>
  gOp v51 false w (fun K => K i5 w) fun v61 w =>
  gOp v51 false w (fun K => optW (cvO .u8 v61) w K) fun v62 w =>
  gOp v51 false w (fun K => optW (eqO true v60 v62) w K) fun v63 w =>
  optW (pickO v51 (.bool true) v63) w fun v64 w =>
  Cnd v64 (
  K (.bool false) w) (
  optW (arO .add i5 (.int .i64 1)) w fun v12 w =>
  kn parts0 full1 v12 w)) (
  kx0 w)
theorem C3.sound {kx0 : V0} {kn : V3} {Q : QT} (hkx0 : ∀ f w, kx0 w → Q (.exit 0) f w) (hkn : ∀ f w, kn (f 0) (f 1) (f 5) w → Q .normal f w) (hr : ∀ f w, R K f w → Q .ret f w) {f : Fr} {w : World} (h : C3 K kx0 kn (f 0) (f 1) (f 5) w) : W Tryd.prog ext (subC B [1, 1, 0, 0, 0]) Q f w :=
  W_exq (n := fun f w => kn (f 0) (f 1) (f 5) w) (r := R K) (xs := [(0, fun f w => kx0 w)]) (gs := []) (Eq.mp (by kernel_rfl) h) hkn hr ⟨hkx0, trivial⟩ trivial
def L3 (K : KT) (kx0 : V0) : Nat → V3
  | 0, _, _, _, _ => False
  | k + 1, parts0, full1, i5, w => C3 K kx0 (L3 K kx0 k) parts0 full1 i5 w
theorem L3.sound {kx0 : V0} {Q : QT} (hkx0 : ∀ f w, kx0 w → Q (.exit 0) f w) (hr : ∀ f w, R K f w → Q .ret f w) : ∀ (k : Nat) (f : Fr) (w : World), L3 K kx0 k (f 0) (f 1) (f 5) w → It (W Tryd.prog ext (subC B [1, 1, 0, 0, 0])) Q k f w
  | 0, _, _, h => h
  | k + 1, _, _, h => C3.sound (K := K) (Q := seqQ (It (W Tryd.prog ext (subC B [1, 1, 0, 0, 0])) Q k) Q) hkx0 (fun f w h => seq_n (L3.sound hkx0 hr k f w h)) hr h
def C1 (K : KT) (parts0 full1 : Value) (w : World) : Prop :=
  ∃ k, L3 K (C2 K) k parts0 full1 (.int .i64 0) w
theorem C1.sound {Q : QT} (hr : ∀ f w, R K f w → Q .ret f w) {f : Fr} {w : World} (h : C1 K (f 0) (f 1) w) : W Tryd.prog ext (subC B []) Q f w :=
  W_pre 2 (c2 := (subC B [1, 1])) (by kernel_rfl) (n := fun f w => ∃ k, L3 K (C2 K) k (f 0) (f 1) (f 5) w) (r := R K) (xs := []) (gs := []) (Eq.mp (by kernel_rfl) h) (fun f w h => W_seq' (a := (subC B [1, 1, 0])) (b := (subC B [1, 1, 1])) (by kernel_rfl) (W_block' (id := 0) (c := (subC B [1, 1, 0, 0])) (by kernel_rfl) (W_loop' (c := (subC B [1, 1, 0, 0, 0])) (by kernel_rfl) (h.elim fun k h => ⟨k, L3.sound (K := K) (Q := (blkQ 0 (seqQ (W Tryd.prog ext (subC B [1, 1, 1]) Q) Q))) (kx0 := (C2 K)) (fun f w h => blk_x ((fun f w h => seq_n (C2.sound (K := K) (Q := Q) hr h)) f w h)) hr k _ _ h⟩)))) hr trivial trivial
def J (parts0 full1 : Value) (w : World) (K : KT) : Prop := C1 K parts0 full1 w
theorem sound {parts0 full1 : Value} {w : World} (h : J parts0 full1 w K) : CallsR Tryd.prog 15 #[parts0, full1] w K :=
  calls_of_W (ext := ext) (args := [parts0, full1]) (fn := Tryd.f15) (c := bodyC Tryd.f15) mixedOk Tryd.func15 rfl (by kernel_rfl) (Nat.le_of_ble_eq_true (by kernel_rfl)) (W_flat _ _ _ _ (C1.sound (fun _ _ h => h) h))
end witnesslaw1_kept
/- witness/witnesslaw1.DigestMores -/
namespace witnesslaw1_DigestMores
noncomputable abbrev B : Code := flat (bodyC Tryd.f3)
noncomputable abbrev R (K : KT) : Fr → World → Prop := fnPost Tryd.prog Tryd.f3.results.toList K .ret
variable {K : KT}
def C1 (K : KT) (c0 b1 : Value) (w : World) : Prop :=
  semW Tryd.prog (Instr.buildSlice 24 1 #[(0, b1)]) w fun v9 w =>
  CallsR Tryd.prog 12 #[v9] w fun v12 w =>
  optW (extO v12 0) w fun v13 w =>
  optW (extO v12 1) w fun v14 w =>
  optW (ixS 1 v13 (.int .i64 0)) w fun v17 w =>
  optW (ld1 v17 w) w fun v18 w =>
  CallsR Tryd.prog 13 #[c0, v18] w fun v19 w =>
  CallsR Tryd.prog 14 #[c0, b1] w fun v22 w =>
  optW (eqO false v19 v22) w fun v23 w =>
  gOp v23 true w (fun K => K v9 w) fun v25 w =>
  gOp v23 true w (fun K => K v14 w) fun v26 w =>
  gOp v23 true w (fun K => CallsR Tryd.prog 15 #[v25, v26] w K) fun v27 w =>
  optW (pickO v23 v27 (.bool false)) w fun v28 w =>
  K v28 w
theorem C1.sound {Q : QT} (hr : ∀ f w, R K f w → Q .ret f w) {f : Fr} {w : World} (h : C1 K (f 0) (f 1) w) : W Tryd.prog ext (subC B []) Q f w :=
  W_exq (n := fun _ _ => False) (r := R K) (xs := []) (gs := []) (Eq.mp (by kernel_rfl) h) (fun _ _ h => h.elim) hr trivial trivial
def J (c0 b1 : Value) (w : World) (K : KT) : Prop := C1 K c0 b1 w
theorem sound {c0 b1 : Value} {w : World} (h : J c0 b1 w K) : CallsR Tryd.prog 3 #[c0, b1] w K :=
  calls_of_W (ext := ext) (args := [c0, b1]) (fn := Tryd.f3) (c := bodyC Tryd.f3) mixedOk Tryd.func3 rfl (by kernel_rfl) (Nat.le_of_ble_eq_true (by kernel_rfl)) (W_flat _ _ _ _ (C1.sound (fun _ _ h => h) h))
end witnesslaw1_DigestMores
end Go.Proofs.YtklieghmbhofnaaDoor
