/-
  Regions whose order is open: what each operation needs and leaves, whatever runs between.
-/
import Derived.Test.YtplinpkklgfdfaaEvW
namespace Go.Ev
open Go
/-- The operation that writes a slot. -/
def writerOf : List Oper → Nat → Nat → Option Nat
  | [], _, _ => none
  | o :: os, s, i => match o.dst with
    | some d => bif Nat.beq d s then some i else writerOf os s (i + 1)
    | none => writerOf os s (i + 1)
def writes (ops : List Oper) (s : Nat) : Bool := ops.any fun o => match o.dst with | some d => Nat.beq d s | none => false
/-- The frame: what the region writes is in 'f', all else in 'f0'. -/
def mixF (ops : List Oper) (f f0 : Fr) : Fr := fun s => bif writes ops s then f s else f0 s
def rgUse (ops : List Oper) (m : Nat) (s : Nat) : Bool := bif writes ops s then (match writerOf ops s 0 with | some j => Nat.testBit m j | none => false) else true
def rgAt (ops : List Oper) (ms : List Nat) : List Oper → Nat → Bool
  | [], _ => true
  | o :: os, i => (edgesOf o).all (fun e => Nat.blt e i) && (usesG ops o).all (rgUse ops (ms.getD i 0)) && (match o.dst with | some d => os.all (fun b => apartO (some d) b.dst) && notIn (some d) (usesG ops o) | none => true) && rgAt ops ms os (i + 1)
def rgB (ops : List Oper) : Bool := rgAt ops (masks ops []) ops 0
/-- What is known of the slots that an operation looks at. -/
def rgH (ops : List Oper) (Q : Nat → Value → World → Prop) (f : Fr) (w : World) : List Nat → Prop
  | [] => True
  | s :: l => bif writes ops s then Q s (f s) w ∧ rgH ops Q f w l else rgH ops Q f w l
def rgF (Q : Nat → Value → World → Prop) (f : Fr) (w : World) : List Oper → Prop
  | [] => True
  | o :: os => match o.dst with | some d => Q d (f d) w ∧ rgF Q f w os | none => rgF Q f w os
def rgAll (P : Program) (ext : Nat → Bool) (ops : List Oper) (I : World → Prop) (S : World → World → Prop) (Q : Nat → Value → World → Prop) (f0 : Fr) (N : Fr → World → Prop) : List Oper → Prop
  | [] => ∀ (f : Fr) (w : World), I w → rgF Q f w ops → N (mixF ops f f0) w
  | o :: os => (∀ (f : Fr) (w : World), I w → rgH ops Q f w (usesG ops o) → stepO P ext ops o (mixF ops f f0) w fun v w' => S w w' ∧ (match o.dst with | some d => Q d v w' | none => True)) ∧ rgAll P ext ops I S Q f0 N os
section
variable {P : Program} {ext : Nat → Bool}
theorem rgAll_at {ops : List Oper} {I : World → Prop} {S : World → World → Prop} {Q : Nat → Value → World → Prop} {f0 : Fr} {N : Fr → World → Prop} : ∀ (l : List Oper), rgAll P ext ops I S Q f0 N l →
    (∀ (i : Nat) o, l[i]? = some o → ∀ (f : Fr) (w : World), I w → rgH ops Q f w (usesG ops o) → stepO P ext ops o (mixF ops f f0) w fun v w' => S w w' ∧ (match o.dst with | some d => Q d v w' | none => True)) ∧ ∀ (f : Fr) (w : World), I w → rgF Q f w ops → N (mixF ops f f0) w
  | [], h => ⟨fun i o ho => by simp at ho, h⟩
  | o :: os, h => by
    obtain ⟨h1, h2⟩ := h
    obtain ⟨g1, g2⟩ := rgAll_at os h2
    refine ⟨fun i o' ho => ?_, g2⟩
    cases i with
    | zero =>
      simp only [List.getElem?_cons_zero, Option.some.injEq] at ho
      subst ho
      exact h1
    | succ i => exact g1 i o' (by simpa using ho)
theorem rgAt_spec {ops : List Oper} {ms : List Nat} : ∀ (l : List Oper) (i k : Nat) (o : Oper), rgAt ops ms l i = true → l[k]? = some o → (∀ e ∈ edgesOf o, e < i + k) ∧ (∀ s ∈ usesG ops o, rgUse ops (ms.getD (i + k) 0) s = true) ∧ (∀ d, o.dst = some d → notIn (some d) (usesG ops o) = true ∧ ∀ (j : Nat) b, k < j → l[j]? = some b → apartO (some d) b.dst = true)
  | [], i, k, o, _, h => by simp at h
  | o' :: os, i, 0, o, hc, h => by
    simp only [rgAt, Bool.and_eq_true, List.all_eq_true] at hc
    simp only [List.getElem?_cons_zero, Option.some.injEq] at h
    subst h
    refine ⟨fun e he => by have := hc.1.1.1 e he; simp only [Nat.blt, Nat.ble_eq] at this; omega, by simpa using hc.1.1.2, fun d hd => ?_⟩
    have h3 := hc.1.2
    rw [hd] at h3
    simp only [Bool.and_eq_true, List.all_eq_true] at h3
    refine ⟨h3.2, fun j b hj hb => ?_⟩
    obtain ⟨j', rfl⟩ : ∃ j', j = j' + 1 := ⟨j - 1, by omega⟩
    rw [List.getElem?_cons_succ] at hb
    exact h3.1 b (List.mem_of_getElem? hb)
  | o' :: os, i, k + 1, o, hc, h => by
    simp only [rgAt, Bool.and_eq_true] at hc
    obtain ⟨h1, h2, h3⟩ := rgAt_spec os (i + 1) k o hc.2 (by simpa using h)
    rw [show i + 1 + k = i + (k + 1) by omega] at h1 h2
    refine ⟨h1, h2, fun d hd => ⟨(h3 d hd).1, fun j b hj hb => ?_⟩⟩
    obtain ⟨j', rfl⟩ : ∃ j', j = j' + 1 := ⟨j - 1, by omega⟩
    rw [List.getElem?_cons_succ] at hb
    exact (h3 d hd).2 j' b (by omega) hb
theorem writerOf_spec : ∀ (ops : List Oper) (s i j : Nat), writerOf ops s i = some j → ∃ o, i ≤ j ∧ ops[j - i]? = some o ∧ o.dst = some s
  | [], s, i, j, h => by simp [writerOf] at h
  | o :: os, s, i, j, h => by
    unfold writerOf at h
    have more : ∀ {j}, writerOf os s (i + 1) = some j → ∃ o', i ≤ j ∧ (o :: os)[j - i]? = some o' ∧ o'.dst = some s := by
      intro j h
      obtain ⟨o', h1, h2, h3⟩ := writerOf_spec os s (i + 1) j h
      refine ⟨o', by omega, ?_, h3⟩
      rw [show j - i = (j - (i + 1)) + 1 by omega, List.getElem?_cons_succ]
      exact h2
    split at h
    · rename_i d hd
      cases hb : Nat.beq d s with
      | true =>
        rw [hb] at h
        simp only [cond_true, Option.some.injEq] at h
        subst h
        refine ⟨o, Nat.le_refl _, by simp, ?_⟩
        rw [hd, Nat.eq_of_beq_eq_true hb]
      | false =>
        rw [hb] at h
        exact more h
    · exact more h
theorem writes_false {ops : List Oper} {s : Nat} (h : writes ops s = false) : ∀ o ∈ ops, o.dst ≠ some s := by
  intro o ho hd
  unfold writes at h
  rw [List.any_eq_false] at h
  have := h o ho
  rw [hd] at this
  simp at this
theorem writes_true {ops : List Oper} {o : Oper} {s : Nat} (ho : o ∈ ops) (hd : o.dst = some s) : writes ops s = true := by
  unfold writes
  rw [List.any_eq_true]
  exact ⟨o, ho, by rw [hd]; simp⟩
theorem rgH_mk {ops : List Oper} {Q : Nat → Value → World → Prop} {f : Fr} {w : World} : ∀ (l : List Nat), (∀ s ∈ l, writes ops s = true → Q s (f s) w) → rgH ops Q f w l
  | [], _ => trivial
  | s :: l, h => by
    unfold rgH
    have ih := rgH_mk l fun x hx => h x (List.mem_cons_of_mem _ hx)
    cases hw : writes ops s with
    | true => exact ⟨h s (List.mem_cons_self ..) hw, ih⟩
    | false => exact ih
theorem rgF_mk {Q : Nat → Value → World → Prop} {f : Fr} {w : World} : ∀ (l : List Oper), (∀ o ∈ l, ∀ d, o.dst = some d → Q d (f d) w) → rgF Q f w l
  | [], _ => trivial
  | o :: l, h => by
    unfold rgF
    have ih := rgF_mk l fun x hx => h x (List.mem_cons_of_mem _ hx)
    split
    · rename_i d hd
      exact ⟨h o (List.mem_cons_self ..) d hd, ih⟩
    · exact ih
theorem rg_sound {ops : Array Oper} (hc : rgB ops.toList = true) {I : World → Prop} {S : World → World → Prop} {Q : Nat → Value → World → Prop} {f0 : Fr} {N : Fr → World → Prop} (hIS : ∀ w w', S w w' → I w → I w') (hQS : ∀ s v w w', S w w' → Q s v w → Q s v w')
    (hall : rgAll P ext ops.toList I S Q f0 N ops.toList) : ∀ (k : Nat) (listed : Array Bool) (f : Fr) (w : World), I w → listed.size = ops.size → listed.toList.count false = k →
    (∀ m o, ops[m]? = some o → listed.getD m true = true → ∀ e ∈ edgesOf o, listed.getD e false = true) →
    (∀ s, writes ops.toList s = false → f s = f0 s) → (∀ m o d, ops[m]? = some o → listed.getD m true = true → o.dst = some d → Q d (f d) w) → anyW P ext ops N k listed f w := by
  obtain ⟨hop, hfin⟩ := rgAll_at ops.toList hall
  have spec : ∀ i o, ops[i]? = some o → (∀ e ∈ edgesOf o, e < i) ∧ (∀ s ∈ usesG ops.toList o, rgUse ops.toList ((masks ops.toList []).getD i 0) s = true) ∧ (∀ d, o.dst = some d → notIn (some d) (usesG ops.toList o) = true ∧ ∀ (j : Nat) b, i < j → ops[j]? = some b → apartO (some d) b.dst = true) := fun i o ho => by
    have := rgAt_spec ops.toList 0 i o hc (by rw [Array.getElem?_toList]; exact ho)
    rw [show 0 + i = i by omega] at this
    refine ⟨this.1, this.2.1, fun d hd => ⟨(this.2.2 d hd).1, fun j b hj hb => (this.2.2 d hd).2 j b hj (by rw [Array.getElem?_toList]; exact hb)⟩⟩
  have edge : ∀ i o, ops[i]? = some o → ∀ e ∈ edgesOf o, e < i := fun i o ho => (spec i o ho).1
  have apart : ∀ (i j : Nat) (a b : Oper) (d : Nat), i ≠ j → ops[i]? = some a → ops[j]? = some b → a.dst = some d → b.dst ≠ some d := by
    intro i j a b d hij ha hb hd hd'
    rcases Nat.lt_or_gt_of_ne hij with h | h
    · have := ((spec i a ha).2.2 d hd).2 j b h hb
      rw [hd'] at this
      simp [apartO] at this
    · have := ((spec j b hb).2.2 d hd').2 i a h ha
      rw [hd] at this
      simp [apartO] at this
  have full : ∀ f : Fr, (∀ s, writes ops.toList s = false → f s = f0 s) → mixF ops.toList f f0 = f := by
    intro f hf
    funext s
    unfold mixF
    cases hw : writes ops.toList s with
    | true => rfl
    | false => exact (hf s hw).symm
  have last : ∀ (listed : Array Bool) (f : Fr) (w : World), I w → listed.size = ops.size → remOf ops.size listed = [] → (∀ s, writes ops.toList s = false → f s = f0 s) → (∀ m o d, ops[m]? = some o → listed.getD m true = true → o.dst = some d → Q d (f d) w) → N f w := by
    intro listed f w hI hs hr hf hq
    have := hfin f w hI (rgF_mk _ fun o ho d hd => by
      obtain ⟨m, hm⟩ := List.mem_iff_getElem?.1 ho
      rw [Array.getElem?_toList] at hm
      refine hq m o d hm ?_ hd
      have hlt : m < ops.size := (Array.getElem?_eq_some_iff.1 hm).1
      cases hl : listed.getD m true with
      | true => rfl
      | false =>
        have : m ∈ remOf ops.size listed := by unfold remOf; rw [List.mem_filter, List.mem_range'_1]; exact ⟨by omega, by rw [hl]; rfl⟩
        rw [hr] at this
        simp at this)
    rw [full f hf] at this
    exact this
  have nil : ∀ listed : Array Bool, listed.size = ops.size → Region.ready .any ops listed = [] → remOf ops.size listed = [] := by
    intro listed hs hr
    cases hrem : remOf ops.size listed with
    | nil => rfl
    | cons i rest =>
      exfalso
      have hi : i ∈ remOf ops.size listed := by rw [hrem]; exact List.mem_cons_self ..
      have hi2 := hi
      unfold remOf at hi2
      rw [List.mem_filter, List.mem_range'_1] at hi2
      have hlt : i < ops.size := by omega
      have ho : ops[i]? = some ops[i] := Array.getElem?_eq_getElem hlt
      have : i ∈ Region.ready .any ops listed := by
        rw [mem_ready ho]
        refine ⟨by simpa using hi2.2, fun e he => ?_⟩
        have hei := edge i _ ho e he
        cases hle : listed.getD e true with
        | true =>
          rw [Array.getD_eq_getD_getElem?, Array.getElem?_eq_getElem (by omega)] at hle ⊢
          exact hle
        | false =>
          exfalso
          obtain ⟨l1, l2, h1, _, h3⟩ := remOf_split (n := ops.size) (i := i) hlt hs (by simpa using hi2.2)
          have hel : e ∈ l1 := by
            have : e ∈ remOf ops.size listed := by unfold remOf; rw [List.mem_filter, List.mem_range'_1]; exact ⟨by omega, by rw [hle]; rfl⟩
            obtain ⟨l1', l2', h1', _, h3'⟩ := remOf_split (n := ops.size) (i := e) (by omega) hs hle
            rw [h1'] at hrem
            cases l1' with
            | nil => simp at hrem; omega
            | cons x l1' => simp at hrem; have := (h3' x (List.mem_cons_self ..)).1; omega
          rw [h1] at hrem
          cases l1 with
          | nil => simp at hel
          | cons x l1 => simp at hrem; have := (h3 x (List.mem_cons_self ..)).1; omega
      rw [hr] at this
      simp at this
  intro k
  induction k with
  | zero =>
    intro listed f w hI hs hk hcl hf hq
    exact last listed f w hI hs (nil listed hs (ready_none hk)) hf hq
  | succ k ih =>
    intro listed f w hI hs hk hcl hf hq
    refine ⟨fun hr => last listed f w hI hs (nil listed hs hr) hf hq, fun i hi o ho => ?_⟩
    have hlt : i < ops.size := (Array.getElem?_eq_some_iff.1 ho).1
    obtain ⟨hl, hpred⟩ := (mem_ready ho).1 hi
    have toT : ∀ e, e < ops.size → listed.getD e false = true → listed.getD e true = true := by
      intro e he hh
      rw [Array.getD_eq_getD_getElem?, Array.getElem?_eq_getElem (by omega)] at hh ⊢
      exact hh
    have hmask : ∀ m, m < ops.size → listed.getD m true = true → ∀ j, Nat.testBit ((masks ops.toList []).getD m 0) j = true → listed.getD j true = true := by
      intro m
      induction m using Nat.strongRecOn with
      | _ m ihm =>
        intro hm hlm j hj
        have hom : ops[m]? = some ops[m] := Array.getElem?_eq_getElem hm
        obtain ⟨e, he, hje⟩ := masks_spec ops.toList [] m j ops[m] (by rw [Array.getElem?_toList]; exact hom) (by simpa using hj)
        have hem := edge m _ hom e he
        have hle : listed.getD e true = true := toT e (by omega) (hcl m _ hom hlm e he)
        rcases hje with rfl | hje
        · exact hle
        · exact ihm e hem (by omega) hle j hje
    have huse : ∀ s ∈ usesG ops.toList o, writes ops.toList s = true → Q s (f s) w := by
      intro s hsu hws
      have := (spec i o ho).2.1 s hsu
      unfold rgUse at this
      rw [hws] at this
      simp only [cond_true] at this
      split at this
      · rename_i j hj
        obtain ⟨b, _, hb, hd⟩ := writerOf_spec _ _ _ _ hj
        rw [Nat.sub_zero, Array.getElem?_toList] at hb
        obtain ⟨e, he, hje⟩ := masks_spec ops.toList [] i j o (by rw [Array.getElem?_toList]; exact ho) (by simpa using this)
        have hei := edge i _ ho e he
        have hle : listed.getD e true = true := toT e (by omega) (hpred e he)
        have hlj : listed.getD j true = true := by
          rcases hje with rfl | hje
          · exact hle
          · exact hmask e (by omega) hle j hje
        exact hq j b s hb hlj hd
      · cases this
    have key : stepO P ext ops.toList o f w fun v w => anyW P ext ops N k (listed.setIfInBounds i true) (f.putO o.dst v) w := by
      have h0 := hop i o (by rw [Array.getElem?_toList]; exact ho) f w hI (rgH_mk _ huse)
      rw [full f hf] at h0
      refine stepO_mono (fun v w' h => ?_) h0
      obtain ⟨hS, hQ⟩ := h
      refine ih _ _ w' (hIS _ _ hS hI) (by simpa using hs) (count_ready hi hk) ?_ ?_ ?_
      · intro m om hom hlm e he
        have hm : m < ops.size := (Array.getElem?_eq_some_iff.1 hom).1
        have hem := edge m om hom e he
        have old : listed.getD e false = true := by
          by_cases hmi : m = i
          · subst hmi
            rw [ho] at hom
            cases hom
            exact hpred e he
          · refine hcl m om hom ?_ e he
            simp only [Array.getD_eq_getD_getElem?] at hlm ⊢
            rwa [Array.getElem?_setIfInBounds_ne (Ne.symm hmi)] at hlm
        simp only [Array.getD_eq_getD_getElem?] at old ⊢
        by_cases hei : i = e
        · subst hei
          rw [Array.getElem?_setIfInBounds_self_of_lt (by omega)]
          rfl
        · rwa [Array.getElem?_setIfInBounds_ne hei]
      · intro s hsw
        have hne := writes_false hsw o (Array.mem_toList_iff.2 (Array.mem_of_getElem? ho))
        have : (f.putO o.dst v) s = f s := put_same (l := [s]) (by
          cases hd : o.dst with
          | none => rfl
          | some d =>
            simp only [notIn, List.all_cons, List.all_nil, Bool.and_true]
            cases hb : Nat.beq d s with
            | false => rfl
            | true => exact absurd (by rw [hd, Nat.eq_of_beq_eq_true hb]) hne) s (by simp)
        rw [this]
        exact hf s hsw
      · intro m om d hom hlm hd
        by_cases hmi : m = i
        · subst hmi
          rw [ho] at hom
          cases hom
          rw [hd] at hQ ⊢
          have : (f.putO (some d) v) d = v := by simp [Fr.putO, Fr.put]
          rw [this]
          exact hQ
        · have hlm' : listed.getD m true = true := by
            simp only [Array.getD_eq_getD_getElem?] at hlm ⊢
            rwa [Array.getElem?_setIfInBounds_ne (Ne.symm hmi)] at hlm
          have hap := apart m i om o d hmi hom ho hd
          have : (f.putO o.dst v) d = f d := put_same (l := [d]) (by
            cases hd' : o.dst with
            | none => rfl
            | some d' =>
              simp only [notIn, List.all_cons, List.all_nil, Bool.and_true]
              cases hb : Nat.beq d' d with
              | false => rfl
              | true => exact absurd (by rw [hd', Nat.eq_of_beq_eq_true hb]) hap) d (by simp)
          rw [this]
          exact hQS _ _ _ _ hS (hq m om d hom hlm' hd)
    unfold stepO at key
    exact key
theorem rg_draw {ops : List Oper} (hc : rgB ops = true) {f : Fr} {w : World} {N : Fr → World → Prop} (I : World → Prop) (S : World → World → Prop) (Q : Nat → Value → World → Prop) (hI : I w.drew) (hIS : ∀ w w', S w w' → I w → I w') (hQS : ∀ s v w w', S w w' → Q s v w → Q s v w')
    (hall : rgAll P ext ops I S Q f N ops) : drawW P ext ops f w N := by
  unfold drawW
  refine rg_sound (ops := ops.toArray) (by simpa using hc) hIS hQS (by simpa using hall) _ _ f _ hI (by simp) (by simp) ?_ (fun _ _ => rfl) ?_
  · intro m o ho hl
    exfalso
    rw [Array.getD_eq_getD_getElem?] at hl
    have hm : m < ops.toArray.size := (Array.getElem?_eq_some_iff.1 ho).1
    rw [Array.getElem?_replicate, if_pos hm] at hl
    simp at hl
  · intro m o d ho hl
    exfalso
    rw [Array.getD_eq_getD_getElem?] at hl
    have hm : m < ops.toArray.size := (Array.getElem?_eq_some_iff.1 ho).1
    rw [Array.getElem?_replicate, if_pos hm] at hl
    simp at hl
theorem W_drawR' {x : Code} {id : Nat} {ops : List Oper} (he : x = .region id ops.toArray true) {Q : Exit → Fr → World → Prop} {f : Fr} {w : World} {N : Fr → World → Prop} (hc : calm P ops = false) (hr : rgB ops = true)
    (h : ∃ (I : World → Prop) (S : World → World → Prop) (q : Nat → Value → World → Prop), I w.drew ∧ (∀ w w', S w w' → I w → I w') ∧ (∀ s v w w', S w w' → q s v w → q s v w') ∧ rgAll P ext ops I S q f N ops) (hn : ∀ f w, N f w → Q .normal f w) : W P ext x Q f w := by
  subst he
  obtain ⟨I, S, q, h1, h2, h3, h4⟩ := h
  exact W_draw (by simpa using hc) (by simpa using drawW_mono hn (rg_draw hr I S q h1 h2 h3 h4))
end
end Go.Ev
