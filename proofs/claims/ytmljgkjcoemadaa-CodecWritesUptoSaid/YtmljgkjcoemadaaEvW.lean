/-
  Regions whose order does not matter; 'W_sound': what W tells is enough for the model's own 'Code.wp'; calls.
-/
import Derived.Test.YtmljgkjcoemadaaEv
namespace Go.Ev
open Go
/-- An operation under its guard. -/
def stepO (P : Program) (ext : Nat → Bool) (ops : List Oper) (o : Oper) (f : Fr) (w : World) (K : Value → World → Prop) : Prop := match o.guard with
  | none => OpS P ext f o.op o.type w K
  | some (j, b) => gOp (guardOf ops f j) b w (fun K => OpS P ext f o.op o.type w K) K
section
variable {P : Program} {ext : Nat → Bool}
theorem Ops_cons {ops : List Oper} {o : Oper} {os : List Oper} {f : Fr} {w : World} {K : Fr → World → Prop} : Ops P ext ops (o :: os) f w K = stepO P ext ops o f w fun v w => Ops P ext ops os (f.putO o.dst v) w K := by
  unfold stepO
  show (match o.guard with | none => _ | some (j, b) => _) = _
  cases o.guard with
  | none => rfl
  | some jb => rfl
theorem optW_mono {O : Option Value} {w : World} {K K' : Value → World → Prop} (hk : ∀ v w, K v w → K' v w) (h : optW O w K) : optW O w K' := by
  cases O with
  | none => exact h
  | some v => exact hk _ _ h
theorem stW_mono {K K' : World → Prop} (hk : ∀ w, K w → K' w) : ∀ (vs : List Value) (a : Addr) (i : Nat) (w : World), stW vs a i w K → stW vs a i w K'
  | [], _, _, _, h => hk _ h
  | _ :: vs, a, i, _, h => ⟨h.1, stW_mono hk vs a (i + 1) _ h.2⟩
theorem stN_mono {n : Nat} {x v : Value} {w : World} {K K' : World → Prop} (hk : ∀ w, K w → K' w) (h : stN n x v w K) : stN n x v w K' := by
  unfold stN at h
  split at h
  · exact ⟨h.1, stW_mono hk _ _ _ _ h.2⟩
  · exact h.elim
theorem st1_mono {x v : Value} {w : World} {K K' : World → Prop} (hk : ∀ w, K w → K' w) (h : st1 x v w K) : st1 x v w K' := by
  unfold st1 at h
  split at h
  · exact ⟨h.1, hk _ h.2⟩
  · exact h.elim
theorem storeW_mono {t : TypeId} {x v : Value} {w : World} {K K' : World → Prop} (hk : ∀ w, K w → K' w) (h : storeW P t x v w K) : storeW P t x v w K' := by
  unfold storeW at *
  cases hg : aggT P t with
  | true => rw [hg, cond_true] at h; rw [cond_true]; exact stN_mono hk h
  | false =>
    rw [hg, cond_false] at h
    rw [cond_false]
    cases hn : Nat.beq (szOf P t) 1 with
    | true => rw [hn, cond_true] at h; rw [cond_true]; exact st1_mono hk h
    | false => rw [hn, cond_false] at h; rw [cond_false]; exact stN_mono hk h
theorem OpS_mono {f : Fr} {op : Op} {ty : TypeId} {w : World} {K K' : Value → World → Prop} (hk : ∀ v w, K v w → K' v w) (h : OpS P ext f op ty w K) : OpS P ext f op ty w K' := by
  cases op <;> simp only [OpS] at h ⊢ <;> first
    | exact hk _ _ h
    | exact optW_mono hk h
    | exact semW_mono h hk
    | exact semW_mono h (fun _ w h => hk _ w h)
    | exact storeW_mono (fun w h => hk _ w h) h
    | exact h.elim
    | skip
  case load t x => unfold loadW at *; cases hg : aggT P t <;> (rw [hg] at h; exact optW_mono hk h)
  case binOp o t x y u =>
    cases o <;> simp only [] at h ⊢ <;> first | exact optW_mono hk h | (unfold eqTypeW at *; split at h <;> first | exact optW_mono hk h | exact semW_mono h hk)
  case convert s d x => unfold convW at *; split at h <;> first | exact optW_mono hk h | exact semW_mono h hk | (split at h <;> first | exact optW_mono hk h | exact semW_mono h hk)
  case makeInterface t x => unfold ifaceW at *; split at h <;> first | exact hk _ _ h | exact h.elim
  case slice t x lo hi mx =>
    unfold sliceW at *
    split at h
    · exact optW_mono hk h
    · exact optW_mono hk h
    · split at h <;> first | exact optW_mono hk h | exact h.elim
    · exact h.elim
  case fieldAddr s x i =>
    unfold fieldAddrW at *
    split at h
    · split at h
      · rename_i fd _
        cases hb : Nat.beq (szOf P fd.type) 0 with
        | true => rw [hb, cond_true] at h; exact semW_mono h hk
        | false => rw [hb, cond_false] at h; exact optW_mono hk h
      · exact h.elim
    · exact h.elim
  case field t x i =>
    unfold fieldW at *
    split at h
    · split at h <;> first | exact optW_mono hk h | exact h.elim
    · exact h.elim
  case indexAddr t x i => unfold indexAddrW at *; split at h <;> first | exact optW_mono hk h | exact h.elim
  case index t x i => unfold indexW at *; split at h <;> first | exact optW_mono hk h | exact h.elim
  case call c =>
    obtain ⟨callee, args, argTypes⟩ := c
    cases callee with
    | value x =>
      cases x with
      | func g =>
        simp only at h ⊢
        cases hx : ext g with
        | true => rw [hx, cond_true] at h; rw [cond_true]; exact semW_mono h hk
        | false => rw [hx, cond_false] at h; rw [cond_false]; exact CallsR.mono h hk
      | _ => obtain ⟨g, first, cap, h1, h2, h3⟩ := h; exact ⟨g, first, cap, h1, h2, h3.mono hk⟩
    | invoke r m => obtain ⟨t, v, g, x, h1, h2, h3, h4⟩ := h; exact ⟨t, v, g, x, h1, h2, h3, h4.mono hk⟩
    | builtin b =>
      simp only at h ⊢
      unfold bltW at *
      split at h
      · split at h <;> first | exact optW_mono hk h | exact hk _ _ h | exact semW_mono h hk
      · exact semW_mono h hk
theorem stepO_mono {ops : List Oper} {o : Oper} {f : Fr} {w : World} {K K' : Value → World → Prop} (hk : ∀ v w, K v w → K' v w) (h : stepO P ext ops o f w K) : stepO P ext ops o f w K' := by
  unfold stepO at *
  cases hg : o.guard with
  | none => rw [hg] at h; exact OpS_mono hk h
  | some jb =>
    obtain ⟨j, b⟩ := jb
    rw [hg] at h
    simp only at h ⊢
    unfold gOp at *
    split at h
    · rename_i x _
      cases hx : x == b with
      | true => rw [hx, cond_true] at h; exact OpS_mono hk h
      | false => rw [hx, cond_false] at h; exact hk _ _ h
    · exact hk _ _ h
/-- What ends well ends somewhere. -/
theorem optW_out {O : Option Value} {w : World} {K : Value → World → Prop} (h : optW O w K) : ∃ v w', K v w' := by
  cases O with
  | none => exact h.elim
  | some v => exact ⟨_, _, h⟩
theorem semW_out {α : Type} {m : Sem α} {w : World} {K : α → World → Prop} (h : semW P m w K) : ∃ v w', K v w' := let ⟨v, w', _, b⟩ := h; ⟨v, w', b⟩
theorem CallsR.out {g : FuncId} {args : Array Value} {w : World} {K : Value → World → Prop} (h : CallsR P g args w K) : ∃ v w', K v w' := by
  obtain ⟨e, w', fr, ⟨v, _, hv⟩, _⟩ := h []
  exact ⟨v, w', hv⟩
theorem stW_out {K : World → Prop} : ∀ (vs : List Value) (a : Addr) (i : Nat) (w : World), stW vs a i w K → ∃ w', K w'
  | [], _, _, w, h => ⟨w, h⟩
  | _ :: vs, a, i, _, h => stW_out vs a (i + 1) _ h.2
theorem storeW_out {t : TypeId} {x v : Value} {w : World} {K : World → Prop} (h : storeW P t x v w K) : ∃ w', K w' := by
  have hn : ∀ n, stN n x v w K → ∃ w', K w' := by
    intro n h
    unfold stN at h
    split at h
    · exact stW_out _ _ _ _ h.2
    · exact h.elim
  unfold storeW at h
  cases hg : aggT P t with
  | true => rw [hg, cond_true] at h; exact hn _ h
  | false =>
    rw [hg, cond_false] at h
    cases hb : Nat.beq (szOf P t) 1 with
    | true =>
      rw [hb, cond_true] at h
      unfold st1 at h
      split at h
      · exact ⟨_, h.2⟩
      · exact h.elim
    | false => rw [hb, cond_false] at h; exact hn _ h
theorem OpS_out {f : Fr} {op : Op} {ty : TypeId} {w : World} {K : Value → World → Prop} (h : OpS P ext f op ty w K) : ∃ v w', K v w' := by
  cases op <;> simp only [OpS] at h <;> first
    | exact ⟨_, _, h⟩
    | exact optW_out h
    | exact semW_out h
    | (obtain ⟨_, w', h⟩ := semW_out h; exact ⟨_, w', h⟩)
    | (obtain ⟨w', h⟩ := storeW_out h; exact ⟨_, w', h⟩)
    | exact h.elim
    | skip
  case load t x => unfold loadW at h; cases hg : aggT P t <;> (rw [hg] at h; exact optW_out h)
  case binOp o t x y u =>
    cases o <;> simp only [] at h <;> first | exact optW_out h | (unfold eqTypeW at h; split at h <;> first | exact optW_out h | exact semW_out h)
  case convert s d x => unfold convW at h; split at h <;> first | exact optW_out h | exact semW_out h | (split at h <;> first | exact optW_out h | exact semW_out h)
  case makeInterface t x => unfold ifaceW at h; split at h <;> first | exact ⟨_, _, h⟩ | exact h.elim
  case slice t x lo hi mx =>
    unfold sliceW at h
    split at h
    · exact optW_out h
    · exact optW_out h
    · split at h <;> first | exact optW_out h | exact h.elim
    · exact h.elim
  case fieldAddr s x i =>
    unfold fieldAddrW at h
    split at h
    · split at h
      · rename_i fd _
        cases hb : Nat.beq (szOf P fd.type) 0 with
        | true => rw [hb, cond_true] at h; exact semW_out h
        | false => rw [hb, cond_false] at h; exact optW_out h
      · exact h.elim
    · exact h.elim
  case field t x i =>
    unfold fieldW at h
    split at h
    · split at h <;> first | exact optW_out h | exact h.elim
    · exact h.elim
  case indexAddr t x i => unfold indexAddrW at h; split at h <;> first | exact optW_out h | exact h.elim
  case index t x i => unfold indexW at h; split at h <;> first | exact optW_out h | exact h.elim
  case call c =>
    obtain ⟨callee, args, argTypes⟩ := c
    cases callee with
    | value x =>
      cases x with
      | func g =>
        simp only at h
        cases hx : ext g with
        | true => rw [hx, cond_true] at h; exact semW_out h
        | false => rw [hx, cond_false] at h; exact h.out
      | _ => obtain ⟨g, first, cap, h1, h2, h3⟩ := h; exact h3.out
    | invoke r m => obtain ⟨t, v, g, x, h1, h2, h3, h4⟩ := h; exact h4.out
    | builtin b =>
      simp only at h
      unfold bltW at h
      split at h
      · split at h <;> first | exact optW_out h | exact ⟨_, _, h⟩ | exact semW_out h
      · exact semW_out h
theorem stepO_out {ops : List Oper} {o : Oper} {f : Fr} {w : World} {K : Value → World → Prop} (h : stepO P ext ops o f w K) : ∃ v w', K v w' := by
  unfold stepO at h
  cases hg : o.guard with
  | none => rw [hg] at h; exact OpS_out h
  | some jb =>
    obtain ⟨j, b⟩ := jb
    rw [hg] at h
    simp only at h
    unfold gOp at h
    split at h
    · rename_i x _
      cases hx : x == b with
      | true => rw [hx, cond_true] at h; exact OpS_out h
      | false => rw [hx, cond_false] at h; exact ⟨_, _, h⟩
    · exact ⟨_, _, h⟩
/-- What an operation does hangs on the slots that it looks at. -/
theorem ev_congr {f f' : Fr} {x : Operand} {l : List Operand} (hm : x ∈ l) (h : ∀ t ∈ usesOp.us l, f t = f' t) : ev f x = ev f' x := by
  cases x with
  | tmp t => exact h t (by unfold usesOp.us; rw [List.mem_filterMap]; exact ⟨_, hm, rfl⟩)
  | _ => rfl
theorem map_congr {f f' : Fr} {l l' : List Operand} (hs : ∀ x ∈ l, x ∈ l') (h : ∀ t ∈ usesOp.us l', f t = f' t) : l.map (ev f) = l.map (ev f') := List.map_congr_left fun x hx => ev_congr (hs x hx) h
theorem oev_congr {f f' : Fr} {x : Option Operand} {l : List Operand} (hs : ∀ y ∈ x.toList, y ∈ l) (h : ∀ t ∈ usesOp.us l, f t = f' t) : oev f x = oev f' x := by
  cases x with
  | none => rfl
  | some y => simp only [oev]; rw [ev_congr (hs y (by simp)) h]
theorem OpS_congr {f f' : Fr} {op : Op} {ty : TypeId} {w : World} {K : Value → World → Prop} (h : ∀ t ∈ usesOp op, f t = f' t) : OpS P ext f op ty w K = OpS P ext f' op ty w K := by
  have E1 : ∀ (x : Operand), (∀ t ∈ usesOp.us [x], f t = f' t) → ev f x = ev f' x := fun x h => ev_congr (by simp) h
  have E2 : ∀ (x y : Operand), (∀ t ∈ usesOp.us [x, y], f t = f' t) → ev f x = ev f' x ∧ ev f y = ev f' y := fun x y h => ⟨ev_congr (by simp) h, ev_congr (by simp) h⟩
  have E3 : ∀ (x y z : Operand), (∀ t ∈ usesOp.us [x, y, z], f t = f' t) → ev f x = ev f' x ∧ ev f y = ev f' y ∧ ev f z = ev f' z := fun x y z h => ⟨ev_congr (by simp) h, ev_congr (by simp) h, ev_congr (by simp) h⟩
  have EP : ∀ (ps : Array (Nat × Operand)), (∀ t ∈ usesOp.us (ps.toList.map (·.2)), f t = f' t) → (ps.toList.map fun (i, x) => (i, ev f x)) = (ps.toList.map fun (i, x) => (i, ev f' x)) := fun ps h =>
    List.map_congr_left fun p hp => by
      obtain ⟨i, x⟩ := p
      simp only
      rw [ev_congr (f := f) (f' := f') (List.mem_map.2 ⟨(i, x), hp, rfl⟩) h]
  cases op with
  | move x => simp only [usesOp] at h; simp only [OpS, E1 x h]
  | assign x => simp only [usesOp] at h; simp only [OpS, E1 x h]
  | box t x => simp only [usesOp] at h; simp only [OpS, E1 x h]
  | load t x => simp only [usesOp] at h; simp only [OpS, E1 x h]
  | nilCheck x => simp only [usesOp] at h; simp only [OpS, E1 x h]
  | unOp o t x => simp only [usesOp] at h; simp only [OpS, E1 x h]
  | convert s d x => simp only [usesOp] at h; simp only [OpS, E1 x h]
  | makeInterface t x => simp only [usesOp] at h; simp only [OpS, E1 x h]
  | fieldAddr s x i => simp only [usesOp] at h; simp only [OpS, E1 x h]
  | field s x i => simp only [usesOp] at h; simp only [OpS, E1 x h]
  | extract x i => simp only [usesOp] at h; simp only [OpS, E1 x h]
  | range t x => simp only [usesOp] at h; simp only [OpS, E1 x h]
  | next x i => simp only [usesOp] at h; simp only [OpS, E1 x h]
  | entry x => simp only [usesOp] at h; simp only [OpS, E1 x h]
  | typeAssert x t a ok => simp only [usesOp] at h; simp only [OpS, E1 x h]
  | pick c a b => simp only [usesOp] at h; obtain ⟨e1, e2, e3⟩ := E3 _ _ _ h; simp only [OpS, e1, e2, e3]
  | build t ps => simp only [usesOp] at h; simp only [OpS, EP ps h]
  | buildSlice t n ps => simp only [usesOp] at h; simp only [OpS, EP ps h]
  | store t a v => simp only [usesOp] at h; obtain ⟨e1, e2⟩ := E2 _ _ h; simp only [OpS, e1, e2]
  | binOp o t a v u => simp only [usesOp] at h; obtain ⟨e1, e2⟩ := E2 _ _ h; simp only [OpS, e1, e2]
  | makeSlice t a v => simp only [usesOp] at h; obtain ⟨e1, e2⟩ := E2 _ _ h; simp only [OpS, e1, e2]
  | indexAddr t a v => simp only [usesOp] at h; obtain ⟨e1, e2⟩ := E2 _ _ h; simp only [OpS, e1, e2]
  | index t a v => simp only [usesOp] at h; obtain ⟨e1, e2⟩ := E2 _ _ h; simp only [OpS, e1, e2]
  | lookup t a v ok => simp only [usesOp] at h; obtain ⟨e1, e2⟩ := E2 _ _ h; simp only [OpS, e1, e2]
  | mapEntry t a v => simp only [usesOp] at h; obtain ⟨e1, e2⟩ := E2 _ _ h; simp only [OpS, e1, e2]
  | mapUpdate t m k v => simp only [usesOp] at h; obtain ⟨e1, e2, e3⟩ := E3 _ _ _ h; simp only [OpS, e1, e2, e3]
  | insert t m k v => simp only [usesOp] at h; obtain ⟨e1, e2, e3⟩ := E3 _ _ _ h; simp only [OpS, e1, e2, e3]
  | entryStore t m k v => simp only [usesOp] at h; obtain ⟨e1, e2, e3⟩ := E3 _ _ _ h; simp only [OpS, e1, e2, e3]
  | makeFunc fn a b =>
    simp only [usesOp] at h
    simp only [OpS]
    rw [map_congr (f := f) (f' := f') (l := a.toList) (fun x hx => List.mem_append_left _ hx) h, map_congr (f := f) (f' := f') (l := b.toList) (fun x hx => List.mem_append_right _ hx) h]
  | makeMap t r => simp only [usesOp] at h; simp only [OpS]; rw [oev_congr (f := f) (f' := f') (fun y hy => hy) h]
  | slice t x l hi m =>
    simp only [usesOp] at h
    simp only [OpS]
    rw [ev_congr (f := f) (f' := f') (x := x) (List.mem_cons_self ..) h, oev_congr (f := f) (f' := f') (x := l) (fun y hy => List.mem_cons_of_mem _ (List.mem_append_left _ (List.mem_append_left _ hy))) h,
      oev_congr (f := f) (f' := f') (x := hi) (fun y hy => List.mem_cons_of_mem _ (List.mem_append_left _ (List.mem_append_right _ hy))) h, oev_congr (f := f) (f' := f') (x := m) (fun y hy => List.mem_cons_of_mem _ (List.mem_append_right _ hy)) h]
  | call c =>
    obtain ⟨callee, args, argTypes⟩ := c
    simp only [usesOp] at h
    have ea : args.toList.map (ev f) = args.toList.map (ev f') := map_congr (fun x hx => List.mem_append_right _ hx) h
    cases callee with
    | value x =>
      have ex : ev f x = ev f' x := ev_congr (List.mem_append_left _ (by simp)) h
      cases x <;> simp only [OpS, ea, ex]
    | invoke r m =>
      have ex : ev f r = ev f' r := ev_congr (List.mem_append_left _ (by simp)) h
      simp only [OpS, ea, ex]
    | builtin b => simp only [OpS, ea]
  | _ => rfl
theorem stepO_congr {ops : List Oper} {o : Oper} {f f' : Fr} {w : World} {K : Value → World → Prop} (h : ∀ t ∈ usesG ops o, f t = f' t) : stepO P ext ops o f w K = stepO P ext ops o f' w K := by
  unfold stepO
  unfold usesG at h
  have h2 : ∀ t ∈ usesOp o.op, f t = f' t := fun t ht => h t (List.mem_append_right _ ht)
  cases hg : o.guard with
  | none => exact OpS_congr h2
  | some jb =>
    obtain ⟨j, b⟩ := jb
    rw [hg] at h
    simp only at h ⊢
    have e : guardOf ops f j = guardOf ops f' j := by
      unfold guardOf
      cases hj : ops[j]? with
      | none => rfl
      | some g =>
        rw [hj] at h
        simp only
        cases hd : g.dst with
        | none => rfl
        | some d => exact h d (List.mem_append_left _ (by simp [hd]))
    rw [e]
    congr 1
    funext K
    exact OpS_congr h2
/-- An operation that looks at its operands alone; one that looks at memory, too. -/
def PureS (P : Program) (ext : Nat → Bool) (ops : List Oper) (o : Oper) : Prop := ∃ pv : Fr → Option Value, ∀ f w K, stepO P ext ops o f w K ↔ ∃ v, pv f = some v ∧ K v w
def ReadS (P : Program) (ext : Nat → Bool) (ops : List Oper) (o : Oper) : Prop := ∃ rv : Fr → World → Option Value, ∀ f w K, stepO P ext ops o f w K ↔ ∃ v, rv f w = some v ∧ K v w
theorem optW_iff {O : Option Value} {w : World} {K : Value → World → Prop} : optW O w K ↔ ∃ v, O = some v ∧ K v w := by
  cases O with
  | none => exact ⟨fun h => h.elim, fun ⟨_, h, _⟩ => by cases h⟩
  | some u => exact ⟨fun h => ⟨u, rfl, h⟩, fun ⟨_, h, k⟩ => by cases h; exact k⟩
theorem K_iff {u : Value} {w : World} {K : Value → World → Prop} : K u w ↔ ∃ v, some u = some v ∧ K v w := ⟨fun h => ⟨u, rfl, h⟩, fun ⟨_, h, k⟩ => by cases h; exact k⟩
theorem F_iff {w : World} {K : Value → World → Prop} : False ↔ ∃ v, (none : Option Value) = some v ∧ K v w := ⟨fun h => h.elim, fun ⟨_, h, _⟩ => by cases h⟩
theorem OpS_pure {op : Op} {ty : TypeId} (hc : clsOp P op = 0) : ∃ pv : Fr → Option Value, ∀ f w K, OpS P ext f op ty w K ↔ ∃ v, pv f = some v ∧ K v w := by
  cases op with
  | move x => exact ⟨fun f => some (ev f x), fun f w K => K_iff⟩
  | assign x => exact ⟨fun f => some (ev f x), fun f w K => K_iff⟩
  | pick c a b => exact ⟨fun f => pickO (ev f c) (ev f a) (ev f b), fun f w K => optW_iff⟩
  | nilCheck x => exact ⟨fun f => nilO (ev f x), fun f w K => optW_iff⟩
  | unOp o t x => exact ⟨fun f => unO o (ev f x), fun f w K => optW_iff⟩
  | extract x i => exact ⟨fun f => extO (ev f x) i, fun f w K => optW_iff⟩
  | makeFunc fn a b => exact ⟨fun f => some (.func fn (a.toList.map (ev f)).toArray (b.toList.map (ev f)).toArray), fun f w K => K_iff⟩
  | field s x i =>
    simp only [OpS, fieldW]
    split
    · split
      · exact ⟨_, fun f w K => optW_iff⟩
      · exact ⟨fun _ => none, fun f w K => F_iff⟩
    · exact ⟨fun _ => none, fun f w K => F_iff⟩
  | indexAddr t x i =>
    simp only [OpS, indexAddrW]
    split
    · exact ⟨_, fun f w K => optW_iff⟩
    · exact ⟨_, fun f w K => optW_iff⟩
    · exact ⟨fun _ => none, fun f w K => F_iff⟩
  | index t x i =>
    simp only [OpS, indexW]
    split
    · exact ⟨_, fun f w K => optW_iff⟩
    · exact ⟨_, fun f w K => optW_iff⟩
    · exact ⟨fun _ => none, fun f w K => F_iff⟩
  | makeInterface t x =>
    simp only [OpS, ifaceW]
    split
    · exact ⟨fun _ => none, fun f w K => F_iff⟩
    · exact ⟨fun _ => none, fun f w K => F_iff⟩
    · exact ⟨fun f => some (.iface t (ev f x)), fun f w K => K_iff⟩
  | slice t x lo hi mx =>
    simp only [OpS, sliceW]
    split
    · exact ⟨_, fun f w K => optW_iff⟩
    · exact ⟨_, fun f w K => optW_iff⟩
    · cases mx with
      | none => exact ⟨fun f => slT (ev f x) (oev f lo) (oev f hi), fun f w K => optW_iff⟩
      | some m => exact ⟨fun _ => none, fun f w K => F_iff⟩
    · exact ⟨fun _ => none, fun f w K => F_iff⟩
  | fieldAddr s x i =>
    simp only [clsOp] at hc
    simp only [OpS, fieldAddrW]
    split at hc
    · split at hc
      · rename_i fd _
        cases hb : Nat.beq (szOf P fd.type) 0 with
        | true => rw [hb] at hc; simp at hc
        | false =>
          simp only [*, cond_false]
          exact ⟨_, fun f w K => optW_iff⟩
      · simp at hc
    · simp at hc
  | binOp o t x y u =>
    cases o <;> simp only [OpS] <;> simp only [clsOp] at hc <;> first
      | exact ⟨_, fun f w K => optW_iff⟩
      | (simp only [eqTypeW]; split at hc <;> first | (simp at hc; done) | (simp only [*]; exact ⟨_, fun f w K => optW_iff⟩) | exact ⟨_, fun f w K => optW_iff⟩)
  | convert s d x =>
    simp only [clsOp] at hc
    simp only [OpS, convW]
    split at hc
    · first | (simp only [*]; exact ⟨_, fun f w K => optW_iff⟩) | exact ⟨_, fun f w K => optW_iff⟩
    · split at hc <;> simp at hc
    · simp at hc
  | call c =>
    obtain ⟨callee, args, argTypes⟩ := c
    simp only [clsOp] at hc
    split at hc
    · rename_i t x h2 h3
      simp only [OpS, bltW, h2, h3, List.map_cons, List.map_nil]
      split at hc <;> first
        | (simp at hc; done)
        | (simp only [*]; exact ⟨_, fun f w K => optW_iff⟩) | exact ⟨_, fun f w K => optW_iff⟩
        | (simp only [*]; exact ⟨_, fun f w K => K_iff⟩) | exact ⟨_, fun f w K => K_iff⟩
    · simp at hc
  | _ => simp [clsOp] at hc
theorem pureS {ops : List Oper} {o : Oper} (hc : clsOp P o.op = 0) : PureS P ext ops o := by
  obtain ⟨pv, hp⟩ := OpS_pure (P := P) (ext := ext) (ty := o.type) hc
  cases hg : o.guard with
  | none => exact ⟨pv, fun f w K => by simp only [stepO, hg]; exact hp f w K⟩
  | some jb =>
    obtain ⟨j, b⟩ := jb
    refine ⟨fun f => match guardOf ops f j with | .bool x => (bif x == b then pv f else some undef) | _ => some undef, fun f w K => ?_⟩
    simp only [stepO, hg]
    unfold gOp
    generalize guardOf ops f j = gv
    cases gv with
    | bool x =>
      simp only
      cases hx : x == b with
      | true => simp only [cond_true]; exact hp f w K
      | false => simp only [cond_false]; exact K_iff
    | _ => exact K_iff
theorem OpS_read {op : Op} {ty : TypeId} (hc : clsOp P op ≤ 1) : ∃ rv : Fr → World → Option Value, ∀ f w K, OpS P ext f op ty w K ↔ ∃ v, rv f w = some v ∧ K v w := by
  by_cases h0 : clsOp P op = 0
  · obtain ⟨pv, hp⟩ := OpS_pure (P := P) (ext := ext) (ty := ty) h0
    exact ⟨fun f _ => pv f, hp⟩
  have h1 : clsOp P op = 1 := by omega
  cases op with
  | load t x =>
    simp only [OpS, loadW]
    cases aggT P t with
    | true => simp only [cond_true]; exact ⟨fun f w => ldN (szOf P t) (ev f x) w, fun f w K => optW_iff⟩
    | false => simp only [cond_false]; exact ⟨fun f w => ld1 (ev f x) w, fun f w K => optW_iff⟩
  | convert s d x =>
    simp only [clsOp] at h1
    simp only [OpS, convW]
    split at h1
    · simp at h1
    · split at h1
      · first | (simp only [*]; exact ⟨fun f w => strO (ev f x) w, fun f w K => optW_iff⟩) | exact ⟨fun f w => strO (ev f x) w, fun f w K => optW_iff⟩
      · simp at h1
    · simp at h1
  | fieldAddr s x i => exfalso; simp only [clsOp] at h1; (repeat' split at h1) <;> first | (simp at h1; done) | (rename_i fd _; cases hb : Nat.beq (szOf P fd.type) 0 <;> (rw [hb] at h1; simp at h1))
  | binOp o t x y u => exfalso; simp only [clsOp] at h1; (repeat' split at h1) <;> simp at h1
  | call c => exfalso; simp only [clsOp] at h1; (repeat' split at h1) <;> simp at h1
  | _ => simp [clsOp] at h1
theorem readS {ops : List Oper} {o : Oper} (hc : clsOp P o.op ≤ 1) : ReadS P ext ops o := by
  obtain ⟨pv, hp⟩ := OpS_read (P := P) (ext := ext) (ty := o.type) hc
  cases hg : o.guard with
  | none => exact ⟨pv, fun f w K => by simp only [stepO, hg]; exact hp f w K⟩
  | some jb =>
    obtain ⟨j, b⟩ := jb
    refine ⟨fun f w => match guardOf ops f j with | .bool x => (bif x == b then pv f w else some undef) | _ => some undef, fun f w K => ?_⟩
    simp only [stepO, hg]
    unfold gOp
    generalize guardOf ops f j = gv
    cases gv with
    | bool x =>
      simp only
      cases hx : x == b with
      | true => simp only [cond_true]; exact hp f w K
      | false => simp only [cond_false]; exact K_iff
    | _ => exact K_iff
theorem put_comm {f : Fr} {a b : Option Nat} {u v : Value} (h : apartO a b = true) : (f.putO a u).putO b v = (f.putO b v).putO a u := by
  cases a with
  | none => rfl
  | some a =>
    cases b with
    | none => rfl
    | some b =>
      simp only [apartO, Bool.not_eq_true'] at h
      have hne : a ≠ b := by intro e; subst e; rw [Nat.beq_refl] at h; simp at h
      funext i
      simp only [Fr.putO, Fr.put]
      cases h1 : Nat.beq i b with
      | false => rfl
      | true =>
        have := Nat.eq_of_beq_eq_true h1
        subst this
        have h2 : Nat.beq i a = false := by cases h2 : Nat.beq i a with | false => rfl | true => exact absurd (Nat.eq_of_beq_eq_true h2) (Ne.symm hne)
        rw [h2]
        rfl
theorem put_same {f : Fr} {a : Option Nat} {u : Value} {l : List Nat} (h : notIn a l = true) : ∀ t ∈ l, (f.putO a u) t = f t := by
  intro t ht
  cases a with
  | none => rfl
  | some a =>
    simp only [notIn, List.all_eq_true, Bool.not_eq_true'] at h
    have := h t ht
    simp only [Fr.putO, Fr.put]
    have h2 : Nat.beq t a = false := by
      cases h2 : Nat.beq t a with
      | false => rfl
      | true => have e := Nat.eq_of_beq_eq_true h2; subst e; rw [Nat.beq_refl] at this; simp at this
    rw [h2]
    rfl
theorem swap_step {ops : List Oper} {a o : Oper} {f : Fr} {w : World} {K : Fr → World → Prop} (hc : commO false P ops a o = true)
    (h : stepO P ext ops a f w fun u w => stepO P ext ops o (f.putO a.dst u) w fun v w => K ((f.putO a.dst u).putO o.dst v) w) : stepO P ext ops o f w fun v w => stepO P ext ops a (f.putO o.dst v) w fun u w => K ((f.putO o.dst v).putO a.dst u) w := by
  simp only [commO, cond_false, Bool.and_eq_true, Bool.or_eq_true] at hc
  obtain ⟨⟨⟨hcl, hap⟩, hao⟩, hoa⟩ := hc
  have eo : ∀ u w K, stepO P ext ops o (f.putO a.dst u) w K = stepO P ext ops o f w K := fun u w K => stepO_congr (put_same hao)
  have ea : ∀ u w K, stepO P ext ops a (f.putO o.dst u) w K = stepO P ext ops a f w K := fun u w K => stepO_congr (put_same hoa)
  simp only [eo] at h
  simp only [ea]
  rcases hcl with (h0 | h0) | h0
  · obtain ⟨pv, hp⟩ := pureS (P := P) (ext := ext) (ops := ops) (Nat.eq_of_beq_eq_true h0)
    obtain ⟨v, hv, h⟩ := (hp _ _ _).1 h
    refine stepO_mono (fun u w h => ?_) h
    exact (hp _ _ _).2 ⟨v, hv, by rw [put_comm hap] at h; exact h⟩
  · obtain ⟨pv, hp⟩ := pureS (P := P) (ext := ext) (ops := ops) (Nat.eq_of_beq_eq_true h0)
    obtain ⟨u, w1, h1⟩ := stepO_out h
    obtain ⟨v, hv, _⟩ := (hp _ _ _).1 h1
    refine (hp _ _ _).2 ⟨v, hv, stepO_mono (fun u w h => ?_) h⟩
    obtain ⟨v', hv', h⟩ := (hp _ _ _).1 h
    rw [hv] at hv'
    cases hv'
    rw [put_comm hap] at h
    exact h
  · obtain ⟨ra, ha⟩ := readS (P := P) (ext := ext) (ops := ops) (Nat.le_of_ble_eq_true h0.1)
    obtain ⟨ro, ho⟩ := readS (P := P) (ext := ext) (ops := ops) (Nat.le_of_ble_eq_true h0.2)
    obtain ⟨u, hu, h⟩ := (ha _ _ _).1 h
    obtain ⟨v, hv, h⟩ := (ho _ _ _).1 h
    rw [put_comm hap] at h
    exact (ho _ _ _).2 ⟨v, hv, (ha _ _ _).2 ⟨u, hu, h⟩⟩
theorem Ops_mono {ops : List Oper} {K K' : Fr → World → Prop} (hk : ∀ f w, K f w → K' f w) : ∀ (l : List Oper) (f : Fr) (w : World), Ops P ext ops l f w K → Ops P ext ops l f w K'
  | [], f, w, h => hk _ _ h
  | o :: l, f, w, h => by rw [Ops_cons] at h ⊢; exact stepO_mono (fun v w h => Ops_mono hk l _ w h) h
theorem Ops_append {ops : List Oper} {K : Fr → World → Prop} : ∀ (l l' : List Oper) (f : Fr) (w : World), Ops P ext ops (l ++ l') f w K = Ops P ext ops l f w fun f w => Ops P ext ops l' f w K
  | [], l', f, w => rfl
  | o :: l, l', f, w => by rw [List.cons_append, Ops_cons, Ops_cons]; simp only [Ops_append l l']
/-- Steps of whatever kind, one behind the other. -/
abbrev StepK := Oper → Fr → World → (Value → World → Prop) → Prop
noncomputable def Seq (St : StepK) (l : List Oper) : Fr → World → (Fr → World → Prop) → Prop :=
  List.rec (motive := fun _ => Fr → World → (Fr → World → Prop) → Prop) (fun f w K => K f w) (fun o _ ih f w K => St o f w fun v w => ih (f.putO o.dst v) w K) l
theorem Seq_Ops {ops : List Oper} {K : Fr → World → Prop} : ∀ (l : List Oper) (f : Fr) (w : World), Ops P ext ops l f w K = Seq (stepO P ext ops) l f w K
  | [], f, w => rfl
  | o :: l, f, w => by
    rw [Ops_cons]
    show _ = stepO P ext ops o f w fun v w => Seq (stepO P ext ops) l (f.putO o.dst v) w K
    have e : (fun v w => Ops P ext ops l (f.putO o.dst v) w K) = fun v w => Seq (stepO P ext ops) l (f.putO o.dst v) w K := by
      funext v w
      exact Seq_Ops l _ w
    rw [e]
/-- Steps that may be swapped. -/
structure Swaps (St : StepK) (comm : Oper → Oper → Bool) : Prop where
  mono : ∀ {o f w} {K K' : Value → World → Prop}, (∀ v w, K v w → K' v w) → St o f w K → St o f w K'
  swap : ∀ {a o f w} {K : Fr → World → Prop}, comm a o = true → (St a f w fun u w => St o (f.putO a.dst u) w fun v w => K ((f.putO a.dst u).putO o.dst v) w) → St o f w fun v w => St a (f.putO o.dst v) w fun u w => K ((f.putO o.dst v).putO a.dst u) w
theorem bubble {St : StepK} {comm : Oper → Oper → Bool} (hs : Swaps St comm) {o : Oper} {l2 : List Oper} {K : Fr → World → Prop} : ∀ (l1 : List Oper) (f : Fr) (w : World), (∀ a ∈ l1, comm a o = true) → Seq St (l1 ++ o :: l2) f w K → Seq St (o :: (l1 ++ l2)) f w K
  | [], f, w, _, h => h
  | a :: l1, f, w, hc, h => by
    refine hs.swap (K := fun f w => Seq St (l1 ++ l2) f w K) (hc a (List.mem_cons_self ..)) ?_
    exact hs.mono (fun v w h => bubble hs l1 _ w (fun b hb => hc b (List.mem_cons_of_mem _ hb)) h) h
theorem swaps_plain {ops : List Oper} : Swaps (stepO P ext ops) (commO false P ops) :=
  ⟨fun hk h => stepO_mono hk h, fun {a o f w K} hc h => swap_step hc h⟩
/-- What is loaded stays as it is: I. -/
def stepI (I : World → Prop) (P : Program) (ext : Nat → Bool) (ops : List Oper) : StepK := fun o f w K =>
  bif Nat.ble (clsOp P o.op) 1 then ∃ v, (∀ w, I w → stepO P ext ops o f w fun u w' => u = v ∧ w' = w) ∧ K v w else stepO P ext ops o f w fun v w => I w ∧ K v w
end
theorem testBit_maskOf {ms : List Nat} {j : Nat} : ∀ (es : List Nat) (m : Nat), Nat.testBit (es.foldl (fun m e => m ||| 2 ^ e ||| ms.getD e 0) m) j = true → Nat.testBit m j = true ∨ ∃ e ∈ es, j = e ∨ Nat.testBit (ms.getD e 0) j = true
  | [], m, h => .inl h
  | e :: es, m, h => by
    rw [List.foldl_cons] at h
    rcases testBit_maskOf es _ h with h | ⟨e', h1, h2⟩
    · rw [Nat.testBit_or, Nat.testBit_or, Bool.or_eq_true, Bool.or_eq_true] at h
      rcases h with (h | h) | h
      · exact .inl h
      · rw [Nat.testBit_two_pow] at h
        exact .inr ⟨e, List.mem_cons_self .., .inl (by have := of_decide_eq_true h; omega)⟩
      · exact .inr ⟨e, List.mem_cons_self .., .inr h⟩
    · exact .inr ⟨e', List.mem_cons_of_mem _ h1, h2⟩
theorem masks_prefix : ∀ (os : List Oper) (ms : List Nat) (i : Nat), i < ms.length → (masks os ms).getD i 0 = ms.getD i 0
  | [], ms, i, h => rfl
  | o :: os, ms, i, h => by
    rw [masks, masks_prefix os _ i (by simp; omega)]
    simp [List.getD_eq_getElem?_getD, List.getElem?_append_left h]
theorem masks_spec : ∀ (os : List Oper) (ms : List Nat) (i j : Nat) (o : Oper), os[i]? = some o → Nat.testBit ((masks os ms).getD (ms.length + i) 0) j = true → ∃ e ∈ edgesOf o, j = e ∨ Nat.testBit ((masks os ms).getD e 0) j = true
  | [], ms, i, j, o, h, _ => by simp at h
  | o' :: os, ms, 0, j, o, h, hb => by
    simp only [List.getElem?_cons_zero, Option.some.injEq] at h
    subst h
    rw [masks, masks_prefix os _ _ (by simp)] at hb
    have e0 : (ms ++ [maskOf ms (edgesOf o')]).getD (ms.length + 0) 0 = maskOf ms (edgesOf o') := by simp
    rw [e0] at hb
    rcases testBit_maskOf _ _ hb with h | ⟨e, h1, h2⟩
    · simp at h
    · refine ⟨e, h1, h2.imp id fun h => ?_⟩
      by_cases hlt : e < ms.length
      · rw [masks, masks_prefix os _ _ (by simp; omega)]
        simpa [List.getD_eq_getElem?_getD, List.getElem?_append_left hlt] using h
      · rw [List.getD_eq_getElem?_getD, List.getElem?_eq_none (by omega)] at h
        simp at h
  | o' :: os, ms, i + 1, j, o, h, hb => by
    rw [masks] at hb ⊢
    exact masks_spec os _ i j o (by simpa using h) (by rw [List.length_append]; simpa [Nat.add_assoc, Nat.add_comm 1 i] using hb)
theorem calmAt_spec {rd : Bool} {P : Program} {ops : List Oper} {m : Nat} {b : Oper} : ∀ (as : List Oper) (j k : Nat) (a : Oper), calmAt rd P ops m b as j = true → as[k]? = some a → Nat.testBit m (j + k) = true ∨ commO rd P ops a b = true
  | [], j, k, a, _, h => by simp at h
  | a' :: as, j, 0, a, hc, h => by
    simp only [calmAt, Bool.and_eq_true, Bool.or_eq_true] at hc
    simp only [List.getElem?_cons_zero, Option.some.injEq] at h
    subst h
    exact hc.1
  | a' :: as, j, k + 1, a, hc, h => by
    simp only [calmAt, Bool.and_eq_true, Bool.or_eq_true] at hc
    have := calmAt_spec as (j + 1) k a hc.2 (by simpa using h)
    rwa [show j + 1 + k = j + (k + 1) by omega] at this
theorem calmFrom_spec {rd : Bool} {P : Program} {ops : List Oper} {ms : List Nat} : ∀ (bs : List Oper) (i k : Nat) (b : Oper), calmFrom rd P ops ms bs i = true → bs[k]? = some b → (∀ e ∈ edgesOf b, e < i + k) ∧ calmAt rd P ops (ms.getD (i + k) 0) b (ops.take (i + k)) 0 = true
  | [], i, k, b, _, h => by simp at h
  | b' :: bs, i, 0, b, hc, h => by
    simp only [calmFrom, Bool.and_eq_true, List.all_eq_true] at hc
    simp only [List.getElem?_cons_zero, Option.some.injEq] at h
    subst h
    exact ⟨fun e he => by have := hc.1.1 e he; simp only [Nat.blt, Nat.ble_eq] at this; omega, hc.1.2⟩
  | b' :: bs, i, k + 1, b, hc, h => by
    simp only [calmFrom, Bool.and_eq_true] at hc
    have := calmFrom_spec bs (i + 1) k b hc.2 (by simpa using h)
    rwa [show i + 1 + k = i + (k + 1) by omega] at this
section
variable {P : Program} {ext : Nat → Bool}
/-- What is left to do, in the order of the text. -/
def remOf (n : Nat) (listed : Array Bool) : List Nat := (List.range' 0 n).filter fun i => !listed.getD i true
theorem mem_ready {ops : Array Oper} {listed : Array Bool} {i : Nat} {o : Oper} (ho : ops[i]? = some o) : i ∈ Region.ready .any ops listed ↔ listed.getD i true = false ∧ ∀ e ∈ edgesOf o, listed.getD e false = true := by
  have hi : i < ops.size := (Array.getElem?_eq_some_iff.1 ho).1
  unfold Region.ready
  rw [List.mem_filter]
  simp only [List.mem_range, hi, true_and, ho, Option.map_some, Option.getD_some, Bool.and_eq_true, Bool.not_eq_true', Array.all_eq_true', Bool.or_eq_true]
  constructor
  · rintro ⟨h1, h2⟩
    refine ⟨h1, fun e he => ?_⟩
    unfold edgesOf at he
    rw [List.mem_filterMap] at he
    obtain ⟨x, hx, he⟩ := he
    cases hb : Region.binds .any x with
    | false => rw [hb] at he; simp at he
    | true =>
      rw [hb] at he
      simp only [cond_true, Option.some.injEq] at he
      subst he
      rcases h2 x (by simpa using hx) with h | h
      · rw [hb] at h; simp at h
      · exact h
  · rintro ⟨h1, h2⟩
    refine ⟨h1, fun x hx => ?_⟩
    cases hb : Region.binds .any x with
    | false => exact .inl rfl
    | true => exact .inr (h2 x.on (by unfold edgesOf; rw [List.mem_filterMap]; exact ⟨x, by simpa using hx, by rw [hb]; rfl⟩))
theorem remOf_split {n i : Nat} {listed : Array Bool} (hi : i < n) (hs : listed.size = n) (hl : listed.getD i true = false) :
    ∃ l1 l2, remOf n listed = l1 ++ i :: l2 ∧ remOf n (listed.setIfInBounds i true) = l1 ++ l2 ∧ ∀ j ∈ l1, j < i ∧ listed.getD j true = false := by
  have hr : List.range' 0 n = List.range' 0 i ++ i :: List.range' (i + 1) (n - i - 1) := by
    have e1 : List.range' 0 n = List.range' 0 i ++ List.range' (0 + 1 * i) (n - i) := by rw [List.range'_append]; congr 1; omega
    rw [e1]
    congr 1
    obtain ⟨m, hm⟩ : ∃ m, n - i = m + 1 := ⟨n - i - 1, by omega⟩
    rw [hm, List.range'_succ]
    simp
  have hg : ∀ j, j ≠ i → (listed.setIfInBounds i true).getD j true = listed.getD j true := by
    intro j hj
    simp only [Array.getD_eq_getD_getElem?]
    rw [Array.getElem?_setIfInBounds_ne (Ne.symm hj)]
  have hg2 : (listed.setIfInBounds i true).getD i true = true := by
    simp only [Array.getD_eq_getD_getElem?]
    rw [Array.getElem?_setIfInBounds_self_of_lt (by omega)]
    rfl
  refine ⟨(List.range' 0 i).filter fun j => !listed.getD j true, (List.range' (i + 1) (n - i - 1)).filter fun j => !listed.getD j true, ?_, ?_, ?_⟩
  · unfold remOf
    rw [hr, List.filter_append, List.filter_cons_of_pos (by simp [hl])]
  · unfold remOf
    rw [hr, List.filter_append, List.filter_cons_of_neg (by simp [hg2])]
    congr 1
    · exact List.filter_congr fun j hj => by rw [List.mem_range'_1] at hj; rw [hg j (by omega)]
    · exact List.filter_congr fun j hj => by rw [List.mem_range'_1] at hj; rw [hg j (by omega)]
  · intro j hj
    rw [List.mem_filter, List.mem_range'_1] at hj
    exact ⟨by omega, by simpa using hj.2⟩
theorem calm_sound {rd : Bool} {ops : Array Oper} (hc : calmFrom rd P ops.toList (masks ops.toList []) ops.toList 0 = true) {St : StepK} (hsw : Swaps St (commO rd P ops.toList)) {I : World → Prop} (hSt : ∀ o f w K, I w → St o f w K → stepO P ext ops.toList o f w fun v w => I w ∧ K v w)
    {K : Fr → World → Prop} : ∀ (k : Nat) (listed : Array Bool) (f : Fr) (w : World), I w → listed.size = ops.size → listed.toList.count false = k →
    (∀ m o, ops[m]? = some o → listed.getD m true = true → ∀ e ∈ edgesOf o, listed.getD e false = true) →
    Seq St ((remOf ops.size listed).filterMap fun i => ops[i]?) f w K → anyW P ext ops K k listed f w := by
  have edge : ∀ i o, ops[i]? = some o → ∀ e ∈ edgesOf o, e < i := fun i o ho e he => by
    have := (calmFrom_spec ops.toList 0 i o hc (by rw [Array.getElem?_toList]; exact ho)).1 e he
    omega
  have nil : ∀ listed : Array Bool, listed.size = ops.size → Region.ready .any ops listed = [] → remOf ops.size listed = [] := by
    intro listed hs hr
    cases hrem : remOf ops.size listed with
    | nil => rfl
    | cons i rest =>
      exfalso
      have hi : i ∈ remOf ops.size listed := by rw [hrem]; exact List.mem_cons_self ..
      have hi2 := hi
      unfold remOf at hi2
      rw [List.mem_filter, List.mem_range'_1] at hi2
      have hlt : i < ops.size := by omega
      have ho : ops[i]? = some ops[i] := Array.getElem?_eq_getElem hlt
      have : i ∈ Region.ready .any ops listed := by
        rw [mem_ready ho]
        refine ⟨by simpa using hi2.2, fun e he => ?_⟩
        have hei := edge i _ ho e he
        cases hle : listed.getD e true with
        | true =>
          rw [Array.getD_eq_getD_getElem?, Array.getElem?_eq_getElem (by omega)] at hle ⊢
          exact hle
        | false =>
          exfalso
          obtain ⟨l1, l2, h1, _, h3⟩ := remOf_split (n := ops.size) (i := i) hlt hs (by simpa using hi2.2)
          have hel : e ∈ l1 := by
            have : e ∈ remOf ops.size listed := by unfold remOf; rw [List.mem_filter, List.mem_range'_1]; exact ⟨by omega, by rw [hle]; rfl⟩
            obtain ⟨l1', l2', h1', _, h3'⟩ := remOf_split (n := ops.size) (i := e) (by omega) hs hle
            rw [h1'] at hrem
            cases l1' with
            | nil => simp at hrem; omega
            | cons x l1' => simp at hrem; have := (h3' x (List.mem_cons_self ..)).1; omega
          rw [h1] at hrem
          cases l1 with
          | nil => simp at hel
          | cons x l1 => simp at hrem; have := (h3 x (List.mem_cons_self ..)).1; omega
      rw [hr] at this
      simp at this
  intro k
  induction k with
  | zero =>
    intro listed f w hI hs hk hcl h
    rw [nil listed hs (ready_none hk)] at h
    exact h
  | succ k ih =>
    intro listed f w hI hs hk hcl h
    refine ⟨fun hr => by rw [nil listed hs hr] at h; exact h, fun i hi o ho => ?_⟩
    have hlt : i < ops.size := (Array.getElem?_eq_some_iff.1 ho).1
    obtain ⟨hl, hpred⟩ := (mem_ready ho).1 hi
    obtain ⟨l1, l2, h1, h2, h3⟩ := remOf_split (n := ops.size) hlt hs hl
    have hmask : ∀ m, m < ops.size → listed.getD m true = true → ∀ j, Nat.testBit ((masks ops.toList []).getD m 0) j = true → listed.getD j true = true := by
      intro m
      induction m using Nat.strongRecOn with
      | _ m ihm =>
        intro hm hlm j hj
        have hom : ops[m]? = some ops[m] := Array.getElem?_eq_getElem hm
        obtain ⟨e, he, hje⟩ := masks_spec ops.toList [] m j ops[m] (by rw [Array.getElem?_toList]; exact hom) (by simpa using hj)
        have hem := edge m _ hom e he
        have hle : listed.getD e true = true := by
          have := hcl m _ hom hlm e he
          rw [Array.getD_eq_getD_getElem?, Array.getElem?_eq_getElem (by omega)] at this ⊢
          exact this
        rcases hje with rfl | hje
        · exact hle
        · exact ihm e hem (by omega) hle j hje
    have hcomm : ∀ a ∈ (l1.filterMap fun i => ops[i]?), commO rd P ops.toList a o = true := by
      intro a ha
      rw [List.mem_filterMap] at ha
      obtain ⟨j, hj, haj⟩ := ha
      obtain ⟨hji, hlj⟩ := h3 j hj
      have hat := (calmFrom_spec ops.toList 0 i o hc (by rw [Array.getElem?_toList]; exact ho)).2
      have := calmAt_spec _ 0 j a hat (by rw [List.getElem?_take_of_lt (by omega), Array.getElem?_toList]; exact haj)
      rcases this with hb | hb
      · exfalso
        simp only [Nat.zero_add] at hb
        obtain ⟨e, he, hje⟩ := masks_spec ops.toList [] i j o (by rw [Array.getElem?_toList]; exact ho) (by simpa using hb)
        have hei := edge i _ ho e he
        have hle : listed.getD e true = true := by
          have := hpred e he
          rw [Array.getD_eq_getD_getElem?, Array.getElem?_eq_getElem (by omega)] at this ⊢
          exact this
        rcases hje with rfl | hje
        · rw [hle] at hlj; simp at hlj
        · have := hmask e (by omega) hle j hje
          rw [this] at hlj; simp at hlj
      · exact hb
    rw [h1, List.filterMap_append, List.filterMap_cons_some ho] at h
    have h5 := bubble hsw _ f w hcomm h
    rw [← List.filterMap_append, ← h2] at h5
    have h6 := hSt o f w _ hI h5
    have key : stepO P ext ops.toList o f w fun v w => anyW P ext ops K k (listed.setIfInBounds i true) (f.putO o.dst v) w := by
      refine stepO_mono (fun v w h => ?_) h6
      refine ih _ _ w h.1 (by simpa using hs) (count_ready hi hk) ?_ h.2
      intro m om hom hlm e he
      have hm : m < ops.size := (Array.getElem?_eq_some_iff.1 hom).1
      have hem := edge m om hom e he
      have old : listed.getD e false = true := by
        by_cases hmi : m = i
        · subst hmi
          rw [ho] at hom
          cases hom
          exact hpred e he
        · refine hcl m om hom ?_ e he
          simp only [Array.getD_eq_getD_getElem?] at hlm ⊢
          rwa [Array.getElem?_setIfInBounds_ne (Ne.symm hmi)] at hlm
      simp only [Array.getD_eq_getD_getElem?] at old ⊢
      by_cases hei : i = e
      · subst hei
        rw [Array.getElem?_setIfInBounds_self_of_lt (by omega)]
        rfl
      · rwa [Array.getElem?_setIfInBounds_ne hei]
    unfold stepO at key
    exact key
theorem fm_congr {α β : Type} {g h : α → Option β} : ∀ {l : List α}, (∀ x ∈ l, g x = h x) → l.filterMap g = l.filterMap h
  | [], _ => rfl
  | a :: l, hh => by
    rw [List.filterMap_cons, List.filterMap_cons, hh a (List.mem_cons_self ..), fm_congr fun x hx => hh x (List.mem_cons_of_mem _ hx)]
theorem range_get : ∀ (l : List Oper) (s : Nat), ((List.range' s l.length).filterMap fun i => l[i - s]?) = l
  | [], s => rfl
  | a :: l, s => by
    rw [List.length_cons, List.range'_succ, List.filterMap_cons_some (b := a) (by simp)]
    congr 1
    have := range_get l (s + 1)
    conv => rhs; rw [← this]
    refine fm_congr fun i hi => ?_
    rw [List.mem_range'_1] at hi
    rw [show i - s = (i - (s + 1)) + 1 by omega]
    simp
theorem calm_all {rd : Bool} {ops : Array Oper} (hc : calmFrom rd P ops.toList (masks ops.toList []) ops.toList 0 = true) {St : StepK} (hsw : Swaps St (commO rd P ops.toList)) {I : World → Prop} (hSt : ∀ o f w K, I w → St o f w K → stepO P ext ops.toList o f w fun v w => I w ∧ K v w)
    {f : Fr} {w : World} {K : Fr → World → Prop} (hI : I w.drew) (h : Seq St ops.toList f w.drew K) : drawW P ext ops.toList f w K := by
  unfold drawW
  refine calm_sound (ops := ops.toList.toArray) (by simpa using hc) (by simpa using hsw) (by simpa using hSt) _ _ f _ hI (by simp) (by simp) ?_ ?_
  · intro m o ho hl
    exfalso
    rw [Array.getD_eq_getD_getElem?] at hl
    have hm : m < ops.toList.toArray.size := (Array.getElem?_eq_some_iff.1 ho).1
    rw [Array.getElem?_replicate, if_pos hm] at hl
    simp at hl
  · have e : (remOf ops.toList.toArray.size (Array.replicate ops.toList.toArray.size false)) = List.range' 0 ops.toList.toArray.size := by
      unfold remOf
      rw [List.filter_eq_self]
      intro i hi
      rw [List.mem_range'_1] at hi
      rw [Array.getD_eq_getD_getElem?, Array.getElem?_replicate, if_pos (by omega)]
      rfl
    rw [e]
    have e2 : ((List.range' 0 ops.toList.toArray.size).filterMap fun i => ops.toList.toArray[i]?) = ops.toList := by
      have := range_get ops.toList 0
      simpa using this
    rw [e2]
    exact h
/-- A region whose order is open, and does not matter. -/
theorem calm_draw {ops : Array Oper} (hc : calm P ops.toList = true) {f : Fr} {w : World} {K : Fr → World → Prop} (h : Ops P ext ops.toList ops.toList f w.drew K) : drawW P ext ops.toList f w K :=
  calm_all (St := stepO P ext ops.toList) (I := fun _ => True) hc swaps_plain (fun _ _ _ _ _ h => stepO_mono (fun _ _ h => ⟨trivial, h⟩) h) trivial (by rw [← Seq_Ops]; exact h)
theorem swaps_I {I : World → Prop} {w0 : World} (h0 : I w0) {ops : List Oper} : Swaps (stepI I P ext ops) (commO true P ops) := by
  refine ⟨fun {o f w K K'} hk h => ?_, fun {a o f w K} hc h => ?_⟩
  · unfold stepI at *
    cases hb : Nat.ble (clsOp P o.op) 1 with
    | true => rw [hb, cond_true] at h; rw [cond_true]; obtain ⟨v, h1, h2⟩ := h; exact ⟨v, h1, hk _ _ h2⟩
    | false => rw [hb, cond_false] at h; rw [cond_false]; exact stepO_mono (fun v w h => ⟨h.1, hk _ _ h.2⟩) h
  · simp only [commO, cond_true, Bool.and_eq_true, Bool.or_eq_true] at hc
    obtain ⟨⟨⟨hcl, hap⟩, hao⟩, hoa⟩ := hc
    have eo : ∀ u w K, stepO P ext ops o (f.putO a.dst u) w K = stepO P ext ops o f w K := fun u w K => stepO_congr (put_same hao)
    have ea : ∀ u w K, stepO P ext ops a (f.putO o.dst u) w K = stepO P ext ops a f w K := fun u w K => stepO_congr (put_same hoa)
    have uniq : ∀ {b : Oper} {v v' : Value}, Nat.ble (clsOp P b.op) 1 = true → (∀ w, I w → stepO P ext ops b f w fun u w' => u = v ∧ w' = w) → (∀ w, I w → stepO P ext ops b f w fun u w' => u = v' ∧ w' = w) → v = v' := by
      intro b v v' hb h1 h2
      obtain ⟨rv, hr⟩ := readS (P := P) (ext := ext) (ops := ops) (Nat.le_of_ble_eq_true hb)
      obtain ⟨x, hx, rfl, _⟩ := (hr _ _ _).1 (h1 w0 h0)
      obtain ⟨y, hy, rfl, _⟩ := (hr _ _ _).1 (h2 w0 h0)
      rw [hx] at hy
      exact Option.some.inj hy
    unfold stepI at *
    simp only [eo] at h
    simp only [ea]
    cases hao' : Nat.ble (clsOp P a.op) 1 with
    | true =>
      rw [hao', cond_true] at h
      obtain ⟨u, h1, h2⟩ := h
      cases hoo : Nat.ble (clsOp P o.op) 1 with
      | true =>
        rw [hoo, cond_true] at h2
        obtain ⟨v, h3, h4⟩ := h2
        simp only [cond_true]
        exact ⟨v, h3, u, h1, by rw [put_comm hap] at h4; exact h4⟩
      | false =>
        rw [hoo, cond_false] at h2
        simp only [cond_true, cond_false]
        exact stepO_mono (fun v w h => ⟨h.1, u, h1, by have := h.2; rw [put_comm hap] at this; exact this⟩) h2
    | false =>
      rw [hao', cond_false] at h
      have hoo : Nat.ble (clsOp P o.op) 1 = true := by rcases hcl with h | h <;> simp_all
      rw [hoo] at h ⊢
      simp only [cond_true, cond_false] at h ⊢
      obtain ⟨u, w1, _, v, h3, _⟩ := stepO_out h
      refine ⟨v, h3, stepO_mono (fun u w h => ⟨h.1, ?_⟩) h⟩
      obtain ⟨_, v', h5, h6⟩ := h
      have := uniq hoo h3 h5
      subst this
      rw [put_comm hap] at h6
      exact h6
/-- The same, plainer where an operation looks at its operands alone. -/
def stepJ (I : World → Prop) (P : Program) (ext : Nat → Bool) (ops : List Oper) : StepK := fun o f w K => match clsOp P o.op with
  | 0 => stepO P ext ops o f w K
  | 1 => ∃ v, (∀ w, I w → stepO P ext ops o f w fun u w' => u = v ∧ w' = w) ∧ K v w
  | _ => stepO P ext ops o f w fun v w => I w ∧ K v w
theorem stepJ_I {I : World → Prop} {ops : List Oper} {o : Oper} {f : Fr} {w : World} {K K' : Value → World → Prop} (hk : ∀ v w, K v w → K' v w) (h : stepJ I P ext ops o f w K) : stepI I P ext ops o f w K' := by
  unfold stepJ at h
  unfold stepI
  split at h
  · rename_i h0
    obtain ⟨pv, hp⟩ := pureS (P := P) (ext := ext) (ops := ops) h0
    obtain ⟨v, hv, h⟩ := (hp _ _ _).1 h
    rw [h0]
    exact ⟨v, fun w _ => (hp _ _ _).2 ⟨v, hv, rfl, rfl⟩, hk _ _ h⟩
  · rename_i h1
    rw [h1]
    obtain ⟨v, h2, h3⟩ := h
    exact ⟨v, h2, hk _ _ h3⟩
  · rename_i h0 h1
    have hb : Nat.ble (clsOp P o.op) 1 = false := by
      cases hb : Nat.ble (clsOp P o.op) 1 with
      | false => rfl
      | true =>
        have := Nat.le_of_ble_eq_true hb
        exfalso
        rcases Nat.eq_zero_or_pos (clsOp P o.op) with e | e
        · exact h0 e
        · exact h1 (by omega)
    rw [hb]
    exact stepO_mono (fun v w h => ⟨h.1, hk _ _ h.2⟩) h
theorem Seq_J {I : World → Prop} {ops : List Oper} {K : Fr → World → Prop} : ∀ (l : List Oper) (f : Fr) (w : World), Seq (stepJ I P ext ops) l f w K → Seq (stepI I P ext ops) l f w K
  | [], f, w, h => h
  | _ :: l, _, _, h => stepJ_I (fun _ _ h => Seq_J l _ _ h) h
/-- A region whose order is open; what it loads stays as it is while it runs: I. -/
theorem calm_drawI (I : World → Prop) {ops : List Oper} (hc : calmI P ops = true) {f : Fr} {w : World} {K : Fr → World → Prop} (hI : I w.drew) (h : Seq (stepI I P ext ops) ops f w.drew K) : drawW P ext ops f w K := by
  have := calm_all (P := P) (ext := ext) (ops := ops.toArray) (rd := true) (St := stepI I P ext ops) (I := I) (f := f) (w := w) (K := K) (by simpa [calmI] using hc) (by simpa using swaps_I hI) ?_ hI (by simpa using h)
  · simpa using this
  · intro o f w K hI h
    simp only at h ⊢
    unfold stepI at h
    cases hb : Nat.ble (clsOp P o.op) 1 with
    | true =>
      rw [hb, cond_true] at h
      obtain ⟨v, h1, h2⟩ := h
      refine stepO_mono (fun u w' h => ?_) (h1 w hI)
      obtain ⟨rfl, rfl⟩ := h
      exact ⟨hI, h2⟩
    | false => rw [hb, cond_false] at h; exact h
end
section
variable {P : Program} {ext : Nat → Bool} {n : Nat}
/-- What the function's table says of its calls. -/
def ExtOk (P : Program) (ext : Nat → Bool) : Prop := ∀ g, ext g = false → okOp P ext (.call { callee := .value (.func g), args := #[], argTypes := #[] }) = true → okCall P g = true
theorem extOk (P : Program) (ext : Nat → Bool) : ExtOk P ext := by
  intro g hg h
  simpa [okOp, hg] using h
/-- The least number of which p holds. -/
theorem least_ex {p : Nat → Prop} : ∀ k, p k → ∃ m, p m ∧ ∀ j, p j → m ≤ j := by
  intro k
  induction k using Nat.strongRecOn with
  | _ k ih =>
    intro hk
    by_cases h : ∃ j, j < k ∧ p j
    · obtain ⟨j, h1, h2⟩ := h; exact ih j h1 h2
    · exact ⟨k, hk, fun j hj => Nat.le_of_not_lt fun hlt => h ⟨j, hlt, hj⟩⟩
open Classical in
noncomputable def least (p : Nat → Prop) : Nat := if h : ∃ m, p m ∧ ∀ j, p j → m ≤ j then h.choose else 0
theorem least_spec {p : Nat → Prop} (h : ∃ k, p k) : p (least p) := by
  have h2 : ∃ m, p m ∧ ∀ j, p j → m ≤ j := let ⟨k, hk⟩ := h; least_ex k hk
  unfold least
  rw [dif_pos h2]
  exact h2.choose_spec.1
theorem least_le {p : Nat → Prop} {j : Nat} (hj : p j) : least p ≤ j := by
  have h2 : ∃ m, p m ∧ ∀ j, p j → m ≤ j := least_ex j hj
  unfold least
  rw [dif_pos h2]
  exact h2.choose_spec.2 j hj
/-- W is enough. -/
theorem W_sound (hm : P.follows .mixedOrders = true) : ∀ (c : Code) (Q : Exit → Fr → World → Prop) (Q' : Exit → Act → World → Prop) (a : Act) (f : Fr) (w : World), okCode P ext n c = true → Rel n a f →
    (∀ e a f w, Rel n a f → Q e f w → Q' e a w) → W P ext c Q f w → c.wp P Q' a w
  | .skip, Q, Q', a, f, w, _, hr, hq, h => wp_skip (hq _ _ _ _ hr h)
  | .label l, Q, Q', a, f, w, _, hr, hq, h => wp_label (hq _ _ _ _ hr h)
  | .region id ops draw, Q, Q', a, f, w, hc, hr, hq, h => by
    have hl : ∀ o ∈ ops.toList, okDst n o = true ∧ okOp P ext o.op = true := by
      intro o ho
      simp only [okCode, List.all_eq_true, Bool.and_eq_true] at hc
      exact hc o ho
    cases draw with
    | true =>
      have h' : drawW P ext ops.toList f w (Q .normal) := by
        change (bif calm P ops.toList then _ else _) at h
        cases hc : calm P ops.toList with
        | true => rw [hc, cond_true] at h; exact calm_draw hc h
        | false => rw [hc, cond_false] at h; exact h
      refine wp_region_any hm (anyW_sound (K := Q .normal) (n := n) (extOk P ext) hl (fun a f w hr h => hq _ _ _ _ hr h) _ _ a f _ ?_ hr h')
      simp
    | false => exact wp_region_list (Ops_sound (n := n) (extOk P ext) (fun a f w hr h => hq _ _ _ _ hr h) ops.toList a f w hl hr h)
  | .seq x y, Q, Q', a, f, w, hc, hr, hq, h => by
    simp only [okCode, Bool.and_eq_true] at hc
    refine wp_seq (W_sound hm x _ _ a f w hc.1 hr ?_ h)
    intro e a f w hr h
    cases e with
    | normal => exact W_sound hm y Q Q' a f w hc.2 hr hq h
    | _ => exact hq _ _ _ _ hr h
  | .cond c x y, Q, Q', a, f, w, hc, hr, hq, h => by
    simp only [okCode, Bool.and_eq_true] at hc
    change Cnd _ _ _ at h
    unfold Cnd at h
    cases hv : ev f c with
    | bool b =>
      rw [hv] at h
      have he : a.eval c = .bool b := by rw [hr.ev, hv]
      cases b with
      | true => exact wp_cond he (W_sound hm x Q Q' a f w hc.1 hr hq h)
      | false => exact wp_cond he (W_sound hm y Q Q' a f w hc.2 hr hq h)
    | _ => rw [hv] at h; exact h.elim
  | .block id c, Q, Q', a, f, w, hc, hr, hq, h => by
    refine wp_block (W_sound hm c _ _ a f w hc hr ?_ h)
    intro e a f w hr h
    cases e with
    | exit i =>
      change (bif Nat.beq i id then _ else _) at h
      unfold Exit.inBlock
      by_cases hi : i = id
      · subst hi
        show (if i = i then _ else _)
        rw [if_pos rfl]
        rw [Nat.beq_refl, cond_true] at h
        exact hq _ _ _ _ hr h
      · show (if i = id then _ else _)
        rw [if_neg hi]
        have hb : Nat.beq i id = false := by cases hb : Nat.beq i id with | false => rfl | true => exact absurd (Nat.eq_of_beq_eq_true hb) hi
        rw [hb, cond_false] at h
        exact hq _ _ _ _ hr h
    | _ => exact hq _ _ _ _ hr h
  | .loop c, Q, Q', a, f, w, hc, hr, hq, h => by
    obtain ⟨k, hk⟩ := h
    refine wp_loop (fun a w => ∃ k, ∃ f, Rel n a f ∧ It (W P ext c) Q k f w) (fun a w => least fun k => ∃ f, Rel n a f ∧ It (W P ext c) Q k f w) ⟨k, f, hr, hk⟩ ?_
    intro a w hI
    obtain ⟨f, hr, hk⟩ := least_spec hI
    generalize (least fun k => ∃ f, Rel n a f ∧ It (W P ext c) Q k f w) = m at hk ⊢
    cases m with
    | zero => exact hk.elim
    | succ m =>
      refine W_sound hm c _ _ a f w hc hr ?_ hk
      intro e a' f' w' hr' h
      cases e with
      | normal => exact ⟨⟨m, f', hr', h⟩, Nat.lt_succ_of_le (least_le (p := fun k => ∃ f, Rel n a' f ∧ It (W P ext c) Q k f w') ⟨f', hr', h⟩)⟩
      | _ => exact hq _ _ _ _ hr' h
  | .exit id, Q, Q', a, f, w, _, hr, hq, h => wp_exit (hq _ _ _ _ hr h)
  | .goto l, Q, Q', a, f, w, _, hr, hq, h => wp_goto (hq _ _ _ _ hr h)
  | .ret, Q, Q', a, f, w, _, hr, hq, h => wp_ret (hq _ _ _ _ hr h)
  | .rangeFunc .., Q, Q', a, f, w, _, hr, hq, h => h.elim
  | .scope _, Q, Q', a, f, w, _, hr, hq, h => h.elim
  | .refuse _, Q, Q', a, f, w, _, hr, hq, h => h.elim
/-- A result that lies in memory. -/
def resC (P : Program) (p : Value) (t : TypeId) (w : World) (K : Value → Prop) : Prop := ∃ v, (do loadVar t (← asAddr p)).run P w = .ok v w ∧ K v
/-- What a function leaves as its result. -/
def resW (P : Program) : List ResultVar → Fr → World → (List Value → Prop) → Prop
  | [], _, _, K => K []
  | .tmp t :: rs, f, w, K => resW P rs f w fun vs => K (f t :: vs)
  | .cell p t :: rs, f, w, K => resC P (f p) t w fun v => resW P rs f w fun vs => K (v :: vs)
def tupleOf : List Value → Value
  | [v] => v
  | vs => .tuple vs.toArray
def rvRead (tmps : Array Value) : ResultVar → Sem Value
  | .tmp t => pure (tmps.getD t undef)
  | .cell a t => do loadVar t (← asAddr (tmps.getD a undef))
theorem results_rv (fn : Func) (tmps : Array Value) : results fn tmps = (do
  let vs ← fn.results.mapM (rvRead tmps)
  pure (if h : vs.size = 1 then vs[0] else .tuple vs)) := by
  unfold results
  congr 1
theorem resW_sound {a : Act} {f : Fr} {w : World} (hr : Rel n a f) : ∀ (rs : List ResultVar) (K : List Value → Prop), resW P rs f w K → ∃ vs, K vs ∧
    (rs.mapM (rvRead a.tmps)).run P w = .ok vs w
  | [], K, h => ⟨[], h, rfl⟩
  | .tmp t :: rs, K, h => by
    obtain ⟨vs, h1, h2⟩ := resW_sound hr rs _ h
    refine ⟨_, h1, ?_⟩
    rw [List.mapM_cons, Sem.run_bind]
    show ((Result.ok (a.tmps.getD t undef) w).andThen _) = _
    rw [Result.andThen_ok, Sem.run_bind, h2, Result.andThen_ok, hr.2.2]
    rfl
  | .cell p t :: rs, K, h => by
    obtain ⟨v, h0, h⟩ := h
    obtain ⟨vs, h1, h2⟩ := resW_sound hr rs _ h
    refine ⟨_, h1, ?_⟩
    rw [← hr.2.2 p] at h0
    rw [List.mapM_cons, Sem.run_bind]
    show ((Sem.run P (do loadVar t (← asAddr (a.tmps.getD p undef))) w).andThen _) = _
    rw [h0, Result.andThen_ok, Sem.run_bind, h2]
    rfl
/-- What must hold ahead of a call. -/
def fnPost (P : Program) (rs : List ResultVar) (K : Value → World → Prop) : Exit → Fr → World → Prop
  | .normal, f, w | .ret, f, w => resW P rs f w fun vs => K (tupleOf vs) w
  | _, _, _ => False
def frameOf (args : List Value) : Fr := fun i => args.getD i undef
theorem calls_of_W (hm : P.follows .mixedOrders = true) {f : FuncId} {fn : Func} {c : Code} {args : List Value} {w : World} {K : Value → World → Prop} (hf : P.funcs[f]? = some fn) (hb : fn.body = some c)
    (hok : okCode P ext fn.ntmps c = true) (hn : args.length ≤ fn.ntmps) (h : W P ext c (fnPost P fn.results.toList K) (frameOf args) w) : CallsR P f args.toArray w K := by
  refine calls_of_wp hf hb (W_sound (n := fn.ntmps) hm c _ _ _ _ w hok ⟨by simp; omega, rfl, fun i => ?_⟩ ?_ h)
  · simp only [frameOf, Array.getD_eq_getD_getElem?, List.getD_eq_getElem?_getD]
    by_cases hi : i < args.length
    · rw [Array.getElem?_append_left (by simpa using hi)]; simp
    · rw [Array.getElem?_append_right (by simpa using hi), List.getElem?_eq_none (by omega)]
      simp only [Array.getElem?_replicate]
      split <;> rfl
  · intro e a f w hr h
    have key : resW P fn.results.toList f w (fun vs => K (tupleOf vs) w) → a.defers = [] ∧ ∃ v, (results fn a.tmps).run P w = .ok v w ∧ ∃ v', Ending.returned v = .returned v' ∧ K v' w := by
      intro h
      obtain ⟨vs, h1, h2⟩ := resW_sound hr _ _ h
      refine ⟨hr.2.1, tupleOf vs, ?_, _, rfl, h1⟩
      rw [results_rv, Sem.run_bind]
      have e3 : (fn.results.mapM (rvRead a.tmps)).run P w = .ok vs.toArray w := by
        rw [Array.mapM_eq_mapM_toList, Sem.run_map, h2]
        rfl
      rw [e3, Result.andThen_ok]
      cases vs with
      | nil => rfl
      | cons x xs => cases xs <;> rfl
    cases e with
    | normal => exact key h
    | ret => exact key h
    | _ => exact h.elim
end
/-- What comes of each way out. -/
def lookX : List (Nat × (Fr → World → Prop)) → Nat → Fr → World → Prop
  | [], _, _, _ => False
  | (j, p) :: xs, i, f, w => bif Nat.beq i j then p f w else lookX xs i f w
def exq (n r : Fr → World → Prop) (xs gs : List (Nat × (Fr → World → Prop))) : Exit → Fr → World → Prop
  | .normal, f, w => n f w
  | .ret, f, w => r f w
  | .exit i, f, w => lookX xs i f w
  | .goto l, f, w => lookX gs l f w
  | _, _, _ => False
def allX (Q : Nat → Fr → World → Prop) : List (Nat × (Fr → World → Prop)) → Prop
  | [] => True
  | (i, p) :: xs => (∀ f w, p f w → Q i f w) ∧ allX Q xs
theorem lookX_all {Q : Nat → Fr → World → Prop} {i : Nat} {f : Fr} {w : World} : ∀ (xs : List (Nat × (Fr → World → Prop))), allX Q xs → lookX xs i f w → Q i f w
  | [], _, h => h.elim
  | (j, p) :: xs, ha, h => by
    unfold lookX at h
    cases hb : Nat.beq i j with
    | true => rw [hb, cond_true] at h; have e := Nat.eq_of_beq_eq_true hb; subst e; exact ha.1 f w h
    | false => rw [hb, cond_false] at h; exact lookX_all xs ha.2 h
section
variable {P : Program} {ext : Nat → Bool}
theorem drawW_mono {ops : List Oper} {f : Fr} {w : World} {K K' : Fr → World → Prop} (hk : ∀ f w, K f w → K' f w) (h : drawW P ext ops f w K) : drawW P ext ops f w K' := by
  unfold drawW at *
  generalize ops.toArray.size = n at h ⊢
  generalize Array.replicate n false = listed at h ⊢
  generalize ({ w with drawn := w.drawn + 1 } : World) = w at h ⊢
  induction n generalizing listed f w with
  | zero => exact hk _ _ h
  | succ n ih =>
    refine ⟨fun hr => hk _ _ (h.1 hr), fun i hi o ho => ?_⟩
    have h2 : stepO P ext ops.toArray.toList o f w fun v w => anyW P ext ops.toArray K n (listed.setIfInBounds i true) (f.putO o.dst v) w := h.2 i hi o ho
    have h3 := stepO_mono (K' := fun v w => anyW P ext ops.toArray K' n (listed.setIfInBounds i true) (f.putO o.dst v) w) (fun v w h => by apply ih; exact h) h2
    exact h3
theorem W_mono : ∀ (c : Code) (Q Q' : Exit → Fr → World → Prop) (f : Fr) (w : World), (∀ e f w, Q e f w → Q' e f w) → W P ext c Q f w → W P ext c Q' f w
  | .skip, Q, Q', f, w, hq, h => hq _ _ _ h
  | .label l, Q, Q', f, w, hq, h => hq _ _ _ h
  | .region id ops draw, Q, Q', f, w, hq, h => by
    cases draw with
    | false => exact Ops_mono (fun f w h => hq _ _ _ h) _ _ _ h
    | true =>
      change (bif calm P ops.toList then _ else _) at h
      change (bif calm P ops.toList then _ else _)
      cases hc : calm P ops.toList with
      | true => rw [hc, cond_true] at h; rw [cond_true]; exact Ops_mono (fun f w h => hq _ _ _ h) _ _ _ h
      | false => rw [hc, cond_false] at h; rw [cond_false]; exact drawW_mono (fun f w h => hq _ _ _ h) h
  | .seq a b, Q, Q', f, w, hq, h => W_mono a _ _ f w (fun e f w h => by cases e <;> first | exact W_mono b _ _ f w hq h | exact hq _ _ _ h) h
  | .cond c a b, Q, Q', f, w, hq, h => by
    change Cnd _ _ _ at h
    change Cnd _ _ _
    unfold Cnd at h ⊢
    split at h
    · exact W_mono a _ _ f w hq h
    · exact W_mono b _ _ f w hq h
    · exact h.elim
  | .block id c, Q, Q', f, w, hq, h => W_mono c _ _ f w (fun e f w h => by
      cases e with
      | exit i =>
        change (bif Nat.beq i id then _ else _) at h
        change (bif Nat.beq i id then _ else _)
        cases hb : Nat.beq i id with
        | true => rw [hb, cond_true] at h; rw [cond_true]; exact hq _ _ _ h
        | false => rw [hb, cond_false] at h; rw [cond_false]; exact hq _ _ _ h
      | _ => exact hq _ _ _ h) h
  | .loop c, Q, Q', f, w, hq, ⟨k, h⟩ => ⟨k, by
      induction k generalizing f w with
      | zero => exact h
      | succ k ih => exact W_mono c _ _ f w (fun e f w h => by cases e <;> first | exact ih f w h | exact hq _ _ _ h) h⟩
  | .exit id, Q, Q', f, w, hq, h => hq _ _ _ h
  | .goto l, Q, Q', f, w, hq, h => hq _ _ _ h
  | .ret, Q, Q', f, w, hq, h => hq _ _ _ h
  | .rangeFunc .., Q, Q', f, w, hq, h => h.elim
  | .scope _, Q, Q', f, w, hq, h => h.elim
  | .refuse _, Q, Q', f, w, hq, h => h.elim
/-- Simple code: way out by way out. -/
theorem W_exq {c : Code} {Q : Exit → Fr → World → Prop} {f : Fr} {w : World} {n r : Fr → World → Prop} {xs gs : List (Nat × (Fr → World → Prop))} (h : W P ext c (exq n r xs gs) f w)
    (hn : ∀ f w, n f w → Q .normal f w) (hr : ∀ f w, r f w → Q .ret f w) (hx : allX (fun i => Q (.exit i)) xs) (hg : allX (fun i => Q (.goto i)) gs) : W P ext c Q f w :=
  W_mono c _ _ f w (fun e f w h => by
    cases e with
    | normal => exact hn _ _ h
    | ret => exact hr _ _ h
    | exit i => exact lookX_all xs hx h
    | goto i => exact lookX_all gs hg h
    | _ => exact h.elim) h
theorem W_seq {a b : Code} {Q : Exit → Fr → World → Prop} {f : Fr} {w : World} (h : W P ext a (seqQ (W P ext b Q) Q) f w) : W P ext (.seq a b) Q f w := h
theorem W_block {id : Nat} {c : Code} {Q : Exit → Fr → World → Prop} {f : Fr} {w : World} (h : W P ext c (blkQ id Q) f w) : W P ext (.block id c) Q f w := h
theorem W_loop {c : Code} {Q : Exit → Fr → World → Prop} {f : Fr} {w : World} (h : ∃ k, It (W P ext c) Q k f w) : W P ext (.loop c) Q f w := h
theorem W_cond {c : Operand} {a b : Code} {Q : Exit → Fr → World → Prop} {f : Fr} {w : World} {A B : Prop} (h : Cnd (ev f c) A B) (ha : A → W P ext a Q f w) (hb : B → W P ext b Q f w) : W P ext (.cond c a b) Q f w := by
  show Cnd _ _ _
  unfold Cnd at *
  split at h
  · exact ha h
  · exact hb h
  · exact h.elim
theorem W_draw {id : Nat} {ops : Array Oper} {Q : Exit → Fr → World → Prop} {f : Fr} {w : World} (hc : calm P ops.toList = false) (h : drawW P ext ops.toList f w (Q .normal)) : W P ext (.region id ops true) Q f w := by
  change (bif calm P ops.toList then _ else _)
  rw [hc]
  exact h
end
/-- Sequences to the right. -/
noncomputable def appC (a : Code) : Code → Code :=
  Code.rec (motive := fun _ => Code → Code) (fun c => .seq .skip c) (fun id ops d c => .seq (.region id ops d) c) (fun a _ _ ib c => .seq a (ib c)) (fun x a b _ _ c => .seq (.cond x a b) c) (fun id a _ c => .seq (.block id a) c) (fun a _ c => .seq (.loop a) c)
    (fun x p a b _ _ c => .seq (.rangeFunc x p a b) c) (fun id c => .seq (.exit id) c) (fun a _ c => .seq (.scope a) c) (fun l c => .seq (.label l) c) (fun l c => .seq (.goto l) c) (fun c => .seq .ret c) (fun s c => .seq (.refuse s) c) a
noncomputable def flat (a : Code) : Code :=
  Code.rec (motive := fun _ => Code) .skip (fun id ops d => .region id ops d) (fun _ _ ia ib => appC ia ib) (fun x _ _ ia ib => .cond x ia ib) (fun id _ ia => .block id ia) (fun _ ia => .loop ia) (fun x p a b _ _ => .rangeFunc x p a b) (fun id => .exit id) (fun a _ => .scope a) (fun l => .label l) (fun l => .goto l) .ret (fun s => .refuse s) a
section
variable {P : Program} {ext : Nat → Bool}
theorem W_app : ∀ (a b : Code) (Q : Exit → Fr → World → Prop) (f : Fr) (w : World), W P ext (appC a b) Q f w → W P ext a (seqQ (W P ext b Q) Q) f w
  | .seq x y, b, Q, f, w, h => W_mono x _ _ f w (fun e f w h => by cases e <;> first | exact W_app y b Q f w h | exact h) h
  | .skip, b, Q, f, w, h | .region .., b, Q, f, w, h | .cond .., b, Q, f, w, h | .block .., b, Q, f, w, h | .loop _, b, Q, f, w, h | .rangeFunc .., b, Q, f, w, h | .exit _, b, Q, f, w, h | .scope _, b, Q, f, w, h | .label _, b, Q, f, w, h | .goto _, b, Q, f, w, h | .ret, b, Q, f, w, h | .refuse _, b, Q, f, w, h => h
theorem W_flat : ∀ (c : Code) (Q : Exit → Fr → World → Prop) (f : Fr) (w : World), W P ext (flat c) Q f w → W P ext c Q f w
  | .seq a b, Q, f, w, h => W_mono a _ _ f w (fun e f w h => by cases e <;> first | exact W_flat b Q f w h | exact h) (W_flat a _ f w (W_app (flat a) (flat b) Q f w h))
  | .cond c a b, Q, f, w, h => by
    change Cnd _ _ _ at h
    change Cnd _ _ _
    unfold Cnd at h ⊢
    split at h
    · exact W_flat a Q f w h
    · exact W_flat b Q f w h
    · exact h.elim
  | .block id c, Q, f, w, h => W_flat c _ f w h
  | .loop c, Q, f, w, ⟨k, h⟩ => ⟨k, by
      induction k generalizing f w with
      | zero => exact h
      | succ k ih => exact W_mono c _ _ f w (fun e f w h => by cases e <;> first | exact ih f w h | exact h) (W_flat c _ f w h)⟩
  | .skip, Q, f, w, h | .region .., Q, f, w, h | .rangeFunc .., Q, f, w, h | .exit _, Q, f, w, h | .scope _, Q, f, w, h | .label _, Q, f, w, h | .goto _, Q, f, w, h | .ret, Q, f, w, h | .refuse _, Q, f, w, h => h
/-- The first m pieces of a sequence; what is behind them. -/
def sndC : Code → Code | .seq _ b => b | c => c
noncomputable def hdC (m : Nat) : Code → Code := Nat.rec (motive := fun _ => Code → Code) (fun _ => .skip) (fun _ ih c => match c with | .seq a b => .seq a (ih b) | _ => .refuse "") m
noncomputable def tlC (m : Nat) : Code → Code := Nat.rec (motive := fun _ => Code → Code) (fun c => c) (fun _ ih c => ih (sndC c)) m
theorem W_tail : ∀ (m : Nat) (c : Code) (Q : Exit → Fr → World → Prop) (f : Fr) (w : World), W P ext (hdC m c) (seqQ (W P ext (tlC m c) Q) Q) f w → W P ext c Q f w
  | 0, c, Q, f, w, h => h
  | m + 1, .seq a b, Q, f, w, h => W_mono a _ _ f w (fun e f w h => by cases e <;> first | (refine W_tail m b Q f w (W_mono _ _ _ f w (fun e f w h => ?_) h); cases e <;> exact h) | exact h) h
  | m + 1, .skip, Q, f, w, h | m + 1, .region .., Q, f, w, h | m + 1, .cond .., Q, f, w, h | m + 1, .block .., Q, f, w, h | m + 1, .loop _, Q, f, w, h | m + 1, .rangeFunc .., Q, f, w, h | m + 1, .exit _, Q, f, w, h | m + 1, .scope _, Q, f, w, h | m + 1, .label _, Q, f, w, h | m + 1, .goto _, Q, f, w, h | m + 1, .ret, Q, f, w, h | m + 1, .refuse _, Q, f, w, h => h.elim
/-- A simple front, and what is behind it. -/
theorem W_pre (m : Nat) {c c2 : Code} (ht : tlC m c = c2) {Q : Exit → Fr → World → Prop} {f : Fr} {w : World} {n r : Fr → World → Prop} {xs gs : List (Nat × (Fr → World → Prop))} (h : W P ext (hdC m c) (exq n r xs gs) f w)
    (hn : ∀ f w, n f w → W P ext c2 Q f w) (hr : ∀ f w, r f w → Q .ret f w) (hx : allX (fun i => Q (.exit i)) xs) (hg : allX (fun i => Q (.goto i)) gs) : W P ext c Q f w := by
  subst ht
  exact W_tail m c Q f w (W_exq h hn hr hx hg)
theorem seq_n {N : Fr → World → Prop} {Q : Exit → Fr → World → Prop} {f : Fr} {w : World} (h : N f w) : seqQ N Q .normal f w := h
theorem blk_x {id : Nat} {Q : Exit → Fr → World → Prop} {f : Fr} {w : World} (h : Q .normal f w) : blkQ id Q (.exit id) f w := by
  show (bif Nat.beq id id then _ else _)
  rw [Nat.beq_refl]
  exact h
theorem blk_n {id : Nat} {Q : Exit → Fr → World → Prop} {f : Fr} {w : World} (h : Q .normal f w) : blkQ id Q .normal f w := h
theorem W_drawI' {x : Code} {id : Nat} {ops : List Oper} (he : x = .region id ops.toArray true) {Q : Exit → Fr → World → Prop} {f : Fr} {w : World} {N : Fr → World → Prop} (hc : calm P ops = false) (hi : calmI P ops = true) (h : ∃ I : World → Prop, I w.drew ∧ Seq (stepJ I P ext ops) ops f w.drew N) (hn : ∀ f w, N f w → Q .normal f w) : W P ext x Q f w := by
  subst he
  obtain ⟨I, hI, h⟩ := h
  exact W_draw (by simpa using hc) (by simpa using drawW_mono hn (calm_drawI I hi hI (Seq_J ops f _ h)))
theorem W_seq' {x a b : Code} (he : x = .seq a b) {Q : Exit → Fr → World → Prop} {f : Fr} {w : World} (h : W P ext a (seqQ (W P ext b Q) Q) f w) : W P ext x Q f w := by subst he; exact h
theorem W_block' {x c : Code} {id : Nat} (he : x = .block id c) {Q : Exit → Fr → World → Prop} {f : Fr} {w : World} (h : W P ext c (blkQ id Q) f w) : W P ext x Q f w := by subst he; exact h
theorem W_loop' {x c : Code} (he : x = .loop c) {Q : Exit → Fr → World → Prop} {f : Fr} {w : World} (h : ∃ k, It (W P ext c) Q k f w) : W P ext x Q f w := by subst he; exact h
theorem W_cond' {x a b : Code} {c : Operand} (he : x = .cond c a b) {Q : Exit → Fr → World → Prop} {f : Fr} {w : World} {A B : Prop} (h : Cnd (ev f c) A B) (ha : A → W P ext a Q f w) (hb : B → W P ext b Q f w) : W P ext x Q f w := by subst he; exact W_cond h ha hb
theorem W_draw' {x : Code} {id : Nat} {ops : List Oper} (he : x = .region id ops.toArray true) {Q : Exit → Fr → World → Prop} {f : Fr} {w : World} (hc : calm P ops = false) (h : drawW P ext ops f w (Q .normal)) : W P ext x Q f w := by subst he; exact W_draw (by simpa using hc) (by simpa using h)
end
abbrev KT := Value → World → Prop
abbrev QT := Exit → Fr → World → Prop
abbrev V0 := World → Prop
abbrev V1 := Value → World → Prop
abbrev V2 := Value → Value → World → Prop
abbrev V3 := Value → Value → Value → World → Prop
abbrev V4 := Value → Value → Value → Value → World → Prop
abbrev V5 := Value → Value → Value → Value → Value → World → Prop
abbrev V6 := Value → Value → Value → Value → Value → Value → World → Prop
abbrev V7 := Value → Value → Value → Value → Value → Value → Value → World → Prop
abbrev V8 := Value → Value → Value → Value → Value → Value → Value → Value → World → Prop
abbrev V9 := Value → Value → Value → Value → Value → Value → Value → Value → Value → World → Prop
abbrev V10 := Value → Value → Value → Value → Value → Value → Value → Value → Value → Value → World → Prop
abbrev V11 := Value → Value → Value → Value → Value → Value → Value → Value → Value → Value → Value → World → Prop
abbrev V12 := Value → Value → Value → Value → Value → Value → Value → Value → Value → Value → Value → Value → World → Prop
abbrev V13 := Value → Value → Value → Value → Value → Value → Value → Value → Value → Value → Value → Value → Value → World → Prop
abbrev V14 := Value → Value → Value → Value → Value → Value → Value → Value → Value → Value → Value → Value → Value → Value → World → Prop
abbrev V15 := Value → Value → Value → Value → Value → Value → Value → Value → Value → Value → Value → Value → Value → Value → Value → World → Prop
abbrev V16 := Value → Value → Value → Value → Value → Value → Value → Value → Value → Value → Value → Value → Value → Value → Value → Value → World → Prop
abbrev V17 := Value → Value → Value → Value → Value → Value → Value → Value → Value → Value → Value → Value → Value → Value → Value → Value → Value → World → Prop
abbrev V18 := Value → Value → Value → Value → Value → Value → Value → Value → Value → Value → Value → Value → Value → Value → Value → Value → Value → Value → World → Prop
abbrev V19 := Value → Value → Value → Value → Value → Value → Value → Value → Value → Value → Value → Value → Value → Value → Value → Value → Value → Value → Value → World → Prop
abbrev V20 := Value → Value → Value → Value → Value → Value → Value → Value → Value → Value → Value → Value → Value → Value → Value → Value → Value → Value → Value → Value → World → Prop
abbrev V21 := Value → Value → Value → Value → Value → Value → Value → Value → Value → Value → Value → Value → Value → Value → Value → Value → Value → Value → Value → Value → Value → World → Prop
abbrev V22 := Value → Value → Value → Value → Value → Value → Value → Value → Value → Value → Value → Value → Value → Value → Value → Value → Value → Value → Value → Value → Value → Value → World → Prop
abbrev V23 := Value → Value → Value → Value → Value → Value → Value → Value → Value → Value → Value → Value → Value → Value → Value → Value → Value → Value → Value → Value → Value → Value → Value → World → Prop
abbrev V24 := Value → Value → Value → Value → Value → Value → Value → Value → Value → Value → Value → Value → Value → Value → Value → Value → Value → Value → Value → Value → Value → Value → Value → Value → World → Prop
abbrev V25 := Value → Value → Value → Value → Value → Value → Value → Value → Value → Value → Value → Value → Value → Value → Value → Value → Value → Value → Value → Value → Value → Value → Value → Value → Value → World → Prop
abbrev V26 := Value → Value → Value → Value → Value → Value → Value → Value → Value → Value → Value → Value → Value → Value → Value → Value → Value → Value → Value → Value → Value → Value → Value → Value → Value → Value → World → Prop
abbrev V27 := Value → Value → Value → Value → Value → Value → Value → Value → Value → Value → Value → Value → Value → Value → Value → Value → Value → Value → Value → Value → Value → Value → Value → Value → Value → Value → Value → World → Prop
abbrev V28 := Value → Value → Value → Value → Value → Value → Value → Value → Value → Value → Value → Value → Value → Value → Value → Value → Value → Value → Value → Value → Value → Value → Value → Value → Value → Value → Value → Value → World → Prop
abbrev V29 := Value → Value → Value → Value → Value → Value → Value → Value → Value → Value → Value → Value → Value → Value → Value → Value → Value → Value → Value → Value → Value → Value → Value → Value → Value → Value → Value → Value → Value → World → Prop
abbrev V30 := Value → Value → Value → Value → Value → Value → Value → Value → Value → Value → Value → Value → Value → Value → Value → Value → Value → Value → Value → Value → Value → Value → Value → Value → Value → Value → Value → Value → Value → Value → World → Prop
abbrev V31 := Value → Value → Value → Value → Value → Value → Value → Value → Value → Value → Value → Value → Value → Value → Value → Value → Value → Value → Value → Value → Value → Value → Value → Value → Value → Value → Value → Value → Value → Value → Value → World → Prop
abbrev V32 := Value → Value → Value → Value → Value → Value → Value → Value → Value → Value → Value → Value → Value → Value → Value → Value → Value → Value → Value → Value → Value → Value → Value → Value → Value → Value → Value → Value → Value → Value → Value → Value → World → Prop
abbrev V33 := Value → Value → Value → Value → Value → Value → Value → Value → Value → Value → Value → Value → Value → Value → Value → Value → Value → Value → Value → Value → Value → Value → Value → Value → Value → Value → Value → Value → Value → Value → Value → Value → Value → World → Prop
abbrev V34 := Value → Value → Value → Value → Value → Value → Value → Value → Value → Value → Value → Value → Value → Value → Value → Value → Value → Value → Value → Value → Value → Value → Value → Value → Value → Value → Value → Value → Value → Value → Value → Value → Value → Value → World → Prop
abbrev V35 := Value → Value → Value → Value → Value → Value → Value → Value → Value → Value → Value → Value → Value → Value → Value → Value → Value → Value → Value → Value → Value → Value → Value → Value → Value → Value → Value → Value → Value → Value → Value → Value → Value → Value → Value → World → Prop
abbrev V36 := Value → Value → Value → Value → Value → Value → Value → Value → Value → Value → Value → Value → Value → Value → Value → Value → Value → Value → Value → Value → Value → Value → Value → Value → Value → Value → Value → Value → Value → Value → Value → Value → Value → Value → Value → Value → World → Prop
abbrev V37 := Value → Value → Value → Value → Value → Value → Value → Value → Value → Value → Value → Value → Value → Value → Value → Value → Value → Value → Value → Value → Value → Value → Value → Value → Value → Value → Value → Value → Value → Value → Value → Value → Value → Value → Value → Value → Value → World → Prop
abbrev V38 := Value → Value → Value → Value → Value → Value → Value → Value → Value → Value → Value → Value → Value → Value → Value → Value → Value → Value → Value → Value → Value → Value → Value → Value → Value → Value → Value → Value → Value → Value → Value → Value → Value → Value → Value → Value → Value → Value → World → Prop
abbrev V39 := Value → Value → Value → Value → Value → Value → Value → Value → Value → Value → Value → Value → Value → Value → Value → Value → Value → Value → Value → Value → Value → Value → Value → Value → Value → Value → Value → Value → Value → Value → Value → Value → Value → Value → Value → Value → Value → Value → Value → World → Prop
abbrev V40 := Value → Value → Value → Value → Value → Value → Value → Value → Value → Value → Value → Value → Value → Value → Value → Value → Value → Value → Value → Value → Value → Value → Value → Value → Value → Value → Value → Value → Value → Value → Value → Value → Value → Value → Value → Value → Value → Value → Value → Value → World → Prop
/-- What is read is the same wherever I holds. -/
def rdI (I : World → Prop) (rd : World → Option Value) (K : Value → Prop) : Prop := ∃ v, (∀ w, I w → optW (rd w) w fun u w' => u = v ∧ w' = w) ∧ K v
def rdG (I : World → Prop) (c : Value) (b : Bool) (rd : World → Option Value) (K : Value → Prop) : Prop := ∃ v, (∀ w, I w → gOp c b w (fun K => optW (rd w) w K) fun u w' => u = v ∧ w' = w) ∧ K v
/-- A piece of code by its place. -/
def kidC (c : Code) (i : Nat) : Code := match c with
  | .seq a b | .cond _ a b => bif Nat.beq i 0 then a else b
  | .block _ c | .loop c | .scope c => c
  | c => c
noncomputable def subC (c : Code) (p : List Nat) : Code := List.rec (motive := fun _ => Code → Code) (fun c => c) (fun i _ ih c => ih (kidC c i)) p c
def bodyC (fn : Func) : Code := match fn.body with | some c => c | none => .skip
def opsC : Code → List Oper
  | .region _ ops _ => ops.toList
  | _ => []
end Go.Ev
