/-
  Regions whose order is open: what each operation needs and leaves, whatever runs between.
-/
import Derived.Test.YtmljgkjcoemadaaEvW
namespace Go.Ev
open Go
/-- The operation that writes a slot. -/
def writerOf : List Oper → Nat → Nat → Option Nat
  | [], _, _ => none
  | o :: os, s, i => match o.dst with
    | some d => bif Nat.beq d s then some i else writerOf os s (i + 1)
    | none => writerOf os s (i + 1)
def writes (ops : List Oper) (s : Nat) : Bool := ops.any fun o => match o.dst with | some d => Nat.beq d s | none => false
/-- The frame: what the region writes is in 'f', all else in 'f0'. -/
def mixF (ops : List Oper) (f f0 : Fr) : Fr := fun s => bif writes ops s then f s else f0 s
def rgUse (ops : List Oper) (m : Nat) (s : Nat) : Bool := bif writes ops s then (match writerOf ops s 0 with | some j => Nat.testBit m j | none => false) else true
def rgAt (ops : List Oper) (ms : List Nat) : List Oper → Nat → Bool
  | [], _ => true
  | o :: os, i => (edgesOf o).all (fun e => Nat.blt e i) && (usesG ops o).all (rgUse ops (ms.getD i 0)) && (match o.dst with | some d => os.all (fun b => apartO (some d) b.dst) && notIn (some d) (usesG ops o) | none => true) && rgAt ops ms os (i + 1)
def rgB (ops : List Oper) : Bool := rgAt ops (masks ops []) ops 0
/-- What is known of the slots that an operation looks at. -/
def rgH (ops : List Oper) (Q : Nat → Value → World → Prop) (f : Fr) (w : World) : List Nat → Prop
  | [] => True
  | s :: l => bif writes ops s then Q s (f s) w ∧ rgH ops Q f w l else rgH ops Q f w l
def rgF (Q : Nat → Value → World → Prop) (f : Fr) (w : World) : List Oper → Prop
  | [] => True
  | o :: os => match o.dst with | some d => Q d (f d) w ∧ rgF Q f w os | none => rgF Q f w os
def rgAll (P : Program) (ext : Nat → Bool) (ops : List Oper) (I : World → Prop) (S : World → World → Prop) (Q : Nat → Value → World → Prop) (f0 : Fr) (N : Fr → World → Prop) : List Oper → Prop
  | [] => ∀ (f : Fr) (w : World), I w → rgF Q f w ops → N (mixF ops f f0) w
  | o :: os => (∀ (f : Fr) (w : World), I w → rgH ops Q f w (usesG ops o) → stepO P ext ops o (mixF ops f f0) w fun v w' => S w w' ∧ (match o.dst with | some d => Q d v w' | none => True)) ∧ rgAll P ext ops I S Q f0 N os
section
variable {P : Program} {ext : Nat → Bool}
theorem rgAll_at {ops : List Oper} {I : World → Prop} {S : World → World → Prop} {Q : Nat → Value → World → Prop} {f0 : Fr} {N : Fr → World → Prop} : ∀ (l : List Oper), rgAll P ext ops I S Q f0 N l →
    (∀ (i : Nat) o, l[i]? = some o → ∀ (f : Fr) (w : World), I w → rgH ops Q f w (usesG ops o) → stepO P ext ops o (mixF ops f f0) w fun v w' => S w w' ∧ (match o.dst with | some d => Q d v w' | none => True)) ∧ ∀ (f : Fr) (w : World), I w → rgF Q f w ops → N (mixF ops f f0) w
  | [], h => ⟨fun i o ho => by simp at ho, h⟩
  | o :: os, h => by
    obtain ⟨h1, h2⟩ := h
    obtain ⟨g1, g2⟩ := rgAll_at os h2
    refine ⟨fun i o' ho => ?_, g2⟩
    cases i with
    | zero =>
      simp only [List.getElem?_cons_zero, Option.some.injEq] at ho
      subst ho
      exact h1
    | succ i => exact g1 i o' (by simpa using ho)
theorem rgAt_spec {ops : List Oper} {ms : List Nat} : ∀ (l : List Oper) (i k : Nat) (o : Oper), rgAt ops ms l i = true → l[k]? = some o → (∀ e ∈ edgesOf o, e < i + k) ∧ (∀ s ∈ usesG ops o, rgUse ops (ms.getD (i + k) 0) s = true) ∧ (∀ d, o.dst = some d → notIn (some d) (usesG ops o) = true ∧ ∀ (j : Nat) b, k < j → l[j]? = some b → apartO (some d) b.dst = true)
  | [], i, k, o, _, h => by simp at h
  | o' :: os, i, 0, o, hc, h => by
    simp only [rgAt, Bool.and_eq_true, List.all_eq_true] at hc
    simp only [List.getElem?_cons_zero, Option.some.injEq] at h
    subst h
    refine ⟨fun e he => by have := hc.1.1.1 e he; simp only [Nat.blt, Nat.ble_eq] at this; omega, by simpa using hc.1.1.2, fun d hd => ?_⟩
    have h3 := hc.1.2
    rw [hd] at h3
    simp only [Bool.and_eq_true, List.all_eq_true] at h3
    refine ⟨h3.2, fun j b hj hb => ?_⟩
    obtain ⟨j', rfl⟩ : ∃ j', j = j' + 1 := ⟨j - 1, by omega⟩
    rw [List.getElem?_cons_succ] at hb
    exact h3.1 b (List.mem_of_getElem? hb)
  | o' :: os, i, k + 1, o, hc, h => by
    simp only [rgAt, Bool.and_eq_true] at hc
    obtain ⟨h1, h2, h3⟩ := rgAt_spec os (i + 1) k o hc.2 (by simpa using h)
    rw [show i + 1 + k = i + (k + 1) by omega] at h1 h2
    refine ⟨h1, h2, fun d hd => ⟨(h3 d hd).1, fun j b hj hb => ?_⟩⟩
    obtain ⟨j', rfl⟩ : ∃ j', j = j' + 1 := ⟨j - 1, by omega⟩
    rw [List.getElem?_cons_succ] at hb
    exact (h3 d hd).2 j' b (by omega) hb
theorem writerOf_spec : ∀ (ops : List Oper) (s i j : Nat), writerOf ops s i = some j → ∃ o, i ≤ j ∧ ops[j - i]? = some o ∧ o.dst = some s
  | [], s, i, j, h => by simp [writerOf] at h
  | o :: os, s, i, j, h => by
    unfold writerOf at h
    have more : ∀ {j}, writerOf os s (i + 1) = some j → ∃ o', i ≤ j ∧ (o :: os)[j - i]? = some o' ∧ o'.dst = some s := by
      intro j h
      obtain ⟨o', h1, h2, h3⟩ := writerOf_spec os s (i + 1) j h
      refine ⟨o', by omega, ?_, h3⟩
      rw [show j - i = (j - (i + 1)) + 1 by omega, List.getElem?_cons_succ]
      exact h2
    split at h
    · rename_i d hd
      cases hb : Nat.beq d s with
      | true =>
        rw [hb] at h
        simp only [cond_true, Option.some.injEq] at h
        subst h
        refine ⟨o, Nat.le_refl _, by simp, ?_⟩
        rw [hd, Nat.eq_of_beq_eq_true hb]
      | false =>
        rw [hb] at h
        exact more h
    · exact more h
theorem writes_false {ops : List Oper} {s : Nat} (h : writes ops s = false) : ∀ o ∈ ops, o.dst ≠ some s := by
  intro o ho hd
  unfold writes at h
  rw [List.any_eq_false] at h
  have := h o ho
  rw [hd] at this
  simp at this
theorem writes_true {ops : List Oper} {o : Oper} {s : Nat} (ho : o ∈ ops) (hd : o.dst = some s) : writes ops s = true := by
  unfold writes
  rw [List.any_eq_true]
  exact ⟨o, ho, by rw [hd]; simp⟩
theorem rgH_mk {ops : List Oper} {Q : Nat → Value → World → Prop} {f : Fr} {w : World} : ∀ (l : List Nat), (∀ s ∈ l, writes ops s = true → Q s (f s) w) → rgH ops Q f w l
  | [], _ => trivial
  | s :: l, h => by
    unfold rgH
    have ih := rgH_mk l fun x hx => h x (List.mem_cons_of_mem _ hx)
    cases hw : writes ops s with
    | true => exact ⟨h s (List.mem_cons_self ..) hw, ih⟩
    | false => exact ih
theorem rgF_mk {Q : Nat → Value → World → Prop} {f : Fr} {w : World} : ∀ (l : List Oper), (∀ o ∈ l, ∀ d, o.dst = some d → Q d (f d) w) → rgF Q f w l
  | [], _ => trivial
  | o :: l, h => by
    unfold rgF
    have ih := rgF_mk l fun x hx => h x (List.mem_cons_of_mem _ hx)
    split
    · rename_i d hd
      exact ⟨h o (List.mem_cons_self ..) d hd, ih⟩
    · exact ih
theorem rg_sound {ops : Array Oper} (hc : rgB ops.toList = true) {I : World → Prop} {S : World → World → Prop} {Q : Nat → Value → World → Prop} {f0 : Fr} {N : Fr → World → Prop} (hIS : ∀ w w', S w w' → I w → I w') (hQS : ∀ s v w w', S w w' → Q s v w → Q s v w')
    (hall : rgAll P ext ops.toList I S Q f0 N ops.toList) : ∀ (k : Nat) (listed : Array Bool) (f : Fr) (w : World), I w → listed.size = ops.size → listed.toList.count false = k →
    (∀ m o, ops[m]? = some o → listed.getD m true = true → ∀ e ∈ edgesOf o, listed.getD e false = true) →
    (∀ s, writes ops.toList s = false → f s = f0 s) → (∀ m o d, ops[m]? = some o → listed.getD m true = true → o.dst = some d → Q d (f d) w) → anyW P ext ops N k listed f w := by
  obtain ⟨hop, hfin⟩ := rgAll_at ops.toList hall
  have spec : ∀ i o, ops[i]? = some o → (∀ e ∈ edgesOf o, e < i) ∧ (∀ s ∈ usesG ops.toList o, rgUse ops.toList ((masks ops.toList []).getD i 0) s = true) ∧ (∀ d, o.dst = some d → notIn (some d) (usesG ops.toList o) = true ∧ ∀ (j : Nat) b, i < j → ops[j]? = some b → apartO (some d) b.dst = true) := fun i o ho => by
    have := rgAt_spec ops.toList 0 i o hc (by rw [Array.getElem?_toList]; exact ho)
    rw [show 0 + i = i by omega] at this
    refine ⟨this.1, this.2.1, fun d hd => ⟨(this.2.2 d hd).1, fun j b hj hb => (this.2.2 d hd).2 j b hj (by rw [Array.getElem?_toList]; exact hb)⟩⟩
  have edge : ∀ i o, ops[i]? = some o → ∀ e ∈ edgesOf o, e < i := fun i o ho => (spec i o ho).1
  have apart : ∀ (i j : Nat) (a b : Oper) (d : Nat), i ≠ j → ops[i]? = some a → ops[j]? = some b → a.dst = some d → b.dst ≠ some d := by
    intro i j a b d hij ha hb hd hd'
    rcases Nat.lt_or_gt_of_ne hij with h | h
    · have := ((spec i a ha).2.2 d hd).2 j b h hb
      rw [hd'] at this
      simp [apartO] at this
    · have := ((spec j b hb).2.2 d hd').2 i a h ha
      rw [hd] at this
      simp [apartO] at this
  have full : ∀ f : Fr, (∀ s, writes ops.toList s = false → f s = f0 s) → mixF ops.toList f f0 = f := by
    intro f hf
    funext s
    unfold mixF
    cases hw : writes ops.toList s with
    | true => rfl
    | false => exact (hf s hw).symm
  have last : ∀ (listed : Array Bool) (f : Fr) (w : World), I w → listed.size = ops.size → remOf ops.size listed = [] → (∀ s, writes ops.toList s = false → f s = f0 s) → (∀ m o d, ops[m]? = some o → listed.getD m true = true → o.dst = some d → Q d (f d) w) → N f w := by
    intro listed f w hI hs hr hf hq
    have := hfin f w hI (rgF_mk _ fun o ho d hd => by
      obtain ⟨m, hm⟩ := List.mem_iff_getElem?.1 ho
      rw [Array.getElem?_toList] at hm
      refine hq m o d hm ?_ hd
      have hlt : m < ops.size := (Array.getElem?_eq_some_iff.1 hm).1
      cases hl : listed.getD m true with
      | true => rfl
      | false =>
        have : m ∈ remOf ops.size listed := by unfold remOf; rw [List.mem_filter, List.mem_range'_1]; exact ⟨by omega, by rw [hl]; rfl⟩
        rw [hr] at this
        simp at this)
    rw [full f hf] at this
    exact this
  have nil : ∀ listed : Array Bool, listed.size = ops.size → Region.ready .any ops listed = [] → remOf ops.size listed = [] := by
    intro listed hs hr
    cases hrem : remOf ops.size listed with
    | nil => rfl
    | cons i rest =>
      exfalso
      have hi : i ∈ remOf ops.size listed := by rw [hrem]; exact List.mem_cons_self ..
      have hi2 := hi
      unfold remOf at hi2
      rw [List.mem_filter, List.mem_range'_1] at hi2
      have hlt : i < ops.size := by omega
      have ho : ops[i]? = some ops[i] := Array.getElem?_eq_getElem hlt
      have : i ∈ Region.ready .any ops listed := by
        rw [mem_ready ho]
        refine ⟨by simpa using hi2.2, fun e he => ?_⟩
        have hei := edge i _ ho e he
        cases hle : listed.getD e true with
        | true =>
          rw [Array.getD_eq_getD_getElem?, Array.getElem?_eq_getElem (by omega)] at hle ⊢
          exact hle
        | false =>
          exfalso
          obtain ⟨l1, l2, h1, _, h3⟩ := remOf_split (n := ops.size) (i := i) hlt hs (by simpa using hi2.2)
          have hel : e ∈ l1 := by
            have : e ∈ remOf ops.size listed := by unfold remOf; rw [List.mem_filter, List.mem_range'_1]; exact ⟨by omega, by rw [hle]; rfl⟩
            obtain ⟨l1', l2', h1', _, h3'⟩ := remOf_split (n := ops.size) (i := e) (by omega) hs hle
            rw [h1'] at hrem
            cases l1' with
            | nil => simp at hrem; omega
            | cons x l1' => simp at hrem; have := (h3' x (List.mem_cons_self ..)).1; omega
          rw [h1] at hrem
          cases l1 with
          | nil => simp at hel
          | cons x l1 => simp at hrem; have := (h3 x (List.mem_cons_self ..)).1; omega
      rw [hr] at this
      simp at this
  intro k
  induction k with
  | zero =>
    intro listed f w hI hs hk hcl hf hq
    exact last listed f w hI hs (nil listed hs (ready_none hk)) hf hq
  | succ k ih =>
    intro listed f w hI hs hk hcl hf hq
    refine ⟨fun hr => last listed f w hI hs (nil listed hs hr) hf hq, fun i hi o ho => ?_⟩
    have hlt : i < ops.size := (Array.getElem?_eq_some_iff.1 ho).1
    obtain ⟨hl, hpred⟩ := (mem_ready ho).1 hi
    have toT : ∀ e, e < ops.size → listed.getD e false = true → listed.getD e true = true := by
      intro e he hh
      rw [Array.getD_eq_getD_getElem?, Array.getElem?_eq_getElem (by omega)] at hh ⊢
      exact hh
    have hmask : ∀ m, m < ops.size → listed.getD m true = true → ∀ j, Nat.testBit ((masks ops.toList []).getD m 0) j = true → listed.getD j true = true := by
      intro m
      induction m using Nat.strongRecOn with
      | _ m ihm =>
        intro hm hlm j hj
        have hom : ops[m]? = some ops[m] := Array.getElem?_eq_getElem hm
        obtain ⟨e, he, hje⟩ := masks_spec ops.toList [] m j ops[m] (by rw [Array.getElem?_toList]; exact hom) (by simpa using hj)
        have hem := edge m _ hom e he
        have hle : listed.getD e true = true := toT e (by omega) (hcl m _ hom hlm e he)
        rcases hje with rfl | hje
        · exact hle
        · exact ihm e hem (by omega) hle j hje
    have huse : ∀ s ∈ usesG ops.toList o, writes ops.toList s = true → Q s (f s) w := by
      intro s hsu hws
      have := (spec i o ho).2.1 s hsu
      unfold rgUse at this
      rw [hws] at this
      simp only [cond_true] at this
      split at this
      · rename_i j hj
        obtain ⟨b, _, hb, hd⟩ := writerOf_spec _ _ _ _ hj
        rw [Nat.sub_zero, Array.getElem?_toList] at hb
        obtain ⟨e, he, hje⟩ := masks_spec ops.toList [] i j o (by rw [Array.getElem?_toList]; exact ho) (by simpa using this)
        have hei := edge i _ ho e he
        have hle : listed.getD e true = true := toT e (by omega) (hpred e he)
        have hlj : listed.getD j true = true := by
          rcases hje with rfl | hje
          · exact hle
          · exact hmask e (by omega) hle j hje
        exact hq j b s hb hlj hd
      · cases this
    have key : stepO P ext ops.toList o f w fun v w => anyW P ext ops N k (listed.setIfInBounds i true) (f.putO o.dst v) w := by
      have h0 := hop i o (by rw [Array.getElem?_toList]; exact ho) f w hI (rgH_mk _ huse)
      rw [full f hf] at h0
      refine stepO_mono (fun v w' h => ?_) h0
      obtain ⟨hS, hQ⟩ := h
      refine ih _ _ w' (hIS _ _ hS hI) (by simpa using hs) (count_ready hi hk) ?_ ?_ ?_
      · intro m om hom hlm e he
        have hm : m < ops.size := (Array.getElem?_eq_some_iff.1 hom).1
        have hem := edge m om hom e he
        have old : listed.getD e false = true := by
          by_cases hmi : m = i
          · subst hmi
            rw [ho] at hom
            cases hom
            exact hpred e he
          · refine hcl m om hom ?_ e he
            simp only [Array.getD_eq_getD_getElem?] at hlm ⊢
            rwa [Array.getElem?_setIfInBounds_ne (Ne.symm hmi)] at hlm
        simp only [Array.getD_eq_getD_getElem?] at old ⊢
        by_cases hei : i = e
        · subst hei
          rw [Array.getElem?_setIfInBounds_self_of_lt (by omega)]
          rfl
        · rwa [Array.getElem?_setIfInBounds_ne hei]
      · intro s hsw
        have hne := writes_false hsw o (Array.mem_toList_iff.2 (Array.mem_of_getElem? ho))
        have : (f.putO o.dst v) s = f s := put_same (l := [s]) (by
          cases hd : o.dst with
          | none => rfl
          | some d =>
            simp only [notIn, List.all_cons, List.all_nil, Bool.and_true]
            cases hb : Nat.beq d s with
            | false => rfl
            | true => exact absurd (by rw [hd, Nat.eq_of_beq_eq_true hb]) hne) s (by simp)
        rw [this]
        exact hf s hsw
      · intro m om d hom hlm hd
        by_cases hmi : m = i
        · subst hmi
          rw [ho] at hom
          cases hom
          rw [hd] at hQ ⊢
          have : (f.putO (some d) v) d = v := by simp [Fr.putO, Fr.put]
          rw [this]
          exact hQ
        · have hlm' : listed.getD m true = true := by
            simp only [Array.getD_eq_getD_getElem?] at hlm ⊢
            rwa [Array.getElem?_setIfInBounds_ne (Ne.symm hmi)] at hlm
          have hap := apart m i om o d hmi hom ho hd
          have : (f.putO o.dst v) d = f d := put_same (l := [d]) (by
            cases hd' : o.dst with
            | none => rfl
            | some d' =>
              simp only [notIn, List.all_cons, List.all_nil, Bool.and_true]
              cases hb : Nat.beq d' d with
              | false => rfl
              | true => exact absurd (by rw [hd', Nat.eq_of_beq_eq_true hb]) hap) d (by simp)
          rw [this]
          exact hQS _ _ _ _ hS (hq m om d hom hlm' hd)
    unfold stepO at key
    exact key
theorem rg_draw {ops : List Oper} (hc : rgB ops = true) {f : Fr} {w : World} {N : Fr → World → Prop} (I : World → Prop) (S : World → World → Prop) (Q : Nat → Value → World → Prop) (hI : I w.drew) (hIS : ∀ w w', S w w' → I w → I w') (hQS : ∀ s v w w', S w w' → Q s v w → Q s v w')
    (hall : rgAll P ext ops I S Q f N ops) : drawW P ext ops f w N := by
  unfold drawW
  refine rg_sound (ops := ops.toArray) (by simpa using hc) hIS hQS (by simpa using hall) _ _ f _ hI (by simp) (by simp) ?_ (fun _ _ => rfl) ?_
  · intro m o ho hl
    exfalso
    rw [Array.getD_eq_getD_getElem?] at hl
    have hm : m < ops.toArray.size := (Array.getElem?_eq_some_iff.1 ho).1
    rw [Array.getElem?_replicate, if_pos hm] at hl
    simp at hl
  · intro m o d ho hl
    exfalso
    rw [Array.getD_eq_getD_getElem?] at hl
    have hm : m < ops.toArray.size := (Array.getElem?_eq_some_iff.1 ho).1
    rw [Array.getElem?_replicate, if_pos hm] at hl
    simp at hl
theorem W_drawR' {x : Code} {id : Nat} {ops : List Oper} (he : x = .region id ops.toArray true) {Q : Exit → Fr → World → Prop} {f : Fr} {w : World} {N : Fr → World → Prop} (hc : calm P ops = false) (hr : rgB ops = true)
    (h : ∃ (I : World → Prop) (S : World → World → Prop) (q : Nat → Value → World → Prop), I w.drew ∧ (∀ w w', S w w' → I w → I w') ∧ (∀ s v w w', S w w' → q s v w → q s v w') ∧ rgAll P ext ops I S q f N ops) (hn : ∀ f w, N f w → Q .normal f w) : W P ext x Q f w := by
  subst he
  obtain ⟨I, S, q, h1, h2, h3, h4⟩ := h
  exact W_draw (by simpa using hc) (by simpa using drawW_mono hn (rg_draw hr I S q h1 h2 h3 h4))
/-! ### where the last operation goes last in every order -/
def lastB (ops : List Oper) : Bool := rgB ops && (List.range (ops.length - 1)).all (fun j => Nat.testBit ((masks ops []).getD (ops.length - 1) 0) j) && Nat.ble 1 ops.length
def rgAllL (P : Program) (ext : Nat → Bool) (ops : List Oper) (I : World → Prop) (S : World → World → Prop) (Q : Nat → Value → World → Prop) (f0 : Fr) (N : Fr → World → Prop) : List Oper → Prop
  | [] => True
  | [o] => ∀ (f : Fr) (w : World), I w → rgF Q f w ops.dropLast → stepO P ext ops o (mixF ops f f0) w fun v w' => N ((mixF ops f f0).putO o.dst v) w'
  | o :: o2 :: os => (∀ (f : Fr) (w : World), I w → rgH ops Q f w (usesG ops o) → stepO P ext ops o (mixF ops f f0) w fun v w' => S w w' ∧ (match o.dst with | some d => Q d v w' | none => True)) ∧ rgAllL P ext ops I S Q f0 N (o2 :: os)
theorem rgAllL_at {ops : List Oper} {I : World → Prop} {S : World → World → Prop} {Q : Nat → Value → World → Prop} {f0 : Fr} {N : Fr → World → Prop} : ∀ (l : List Oper), rgAllL P ext ops I S Q f0 N l →
    (∀ (i : Nat) o, i + 1 < l.length → l[i]? = some o → ∀ (f : Fr) (w : World), I w → rgH ops Q f w (usesG ops o) → stepO P ext ops o (mixF ops f f0) w fun v w' => S w w' ∧ (match o.dst with | some d => Q d v w' | none => True)) ∧
    (∀ o, l[l.length - 1]? = some o → ∀ (f : Fr) (w : World), I w → rgF Q f w ops.dropLast → stepO P ext ops o (mixF ops f f0) w fun v w' => N ((mixF ops f f0).putO o.dst v) w')
  | [], _ => ⟨fun i o h => by simp at h, fun o h => by simp at h⟩
  | [o], h => ⟨fun i o' hi => by simp at hi, fun o' ho => by simp at ho; subst ho; exact h⟩
  | o :: o2 :: os, h => by
    obtain ⟨h1, h2⟩ := h
    obtain ⟨g1, g2⟩ := rgAllL_at (o2 :: os) h2
    refine ⟨fun i o' hi ho => ?_, fun o' ho => g2 o' (by simpa using ho)⟩
    cases i with
    | zero =>
      simp only [List.getElem?_cons_zero, Option.some.injEq] at ho
      subst ho
      exact h1
    | succ i => exact g1 i o' (by simpa using hi) (by simpa using ho)
theorem rgL_sound {ops : Array Oper} (hB : lastB ops.toList = true) {I : World → Prop} {S : World → World → Prop} {Q : Nat → Value → World → Prop} {f0 : Fr} {N : Fr → World → Prop} (hIS : ∀ w w', S w w' → I w → I w') (hQS : ∀ s v w w', S w w' → Q s v w → Q s v w')
    (hall : rgAllL P ext ops.toList I S Q f0 N ops.toList) : ∀ (k : Nat) (listed : Array Bool) (f : Fr) (w : World), I w → listed.size = ops.size → listed.toList.count false = k + 1 →
    (∀ m o, ops[m]? = some o → listed.getD m true = true → ∀ e ∈ edgesOf o, listed.getD e false = true) →
    (∀ s, writes ops.toList s = false → f s = f0 s) → (∀ m o d, ops[m]? = some o → listed.getD m true = true → o.dst = some d → Q d (f d) w) → listed.getD (ops.size - 1) true = false → anyW P ext ops N (k + 1) listed f w := by
  unfold lastB at hB
  simp only [Bool.and_eq_true, List.all_eq_true, List.mem_range, Nat.ble_eq, Array.length_toList] at hB
  obtain ⟨⟨hc, hlast⟩, hpos⟩ := hB
  obtain ⟨hop, hfin⟩ := rgAllL_at ops.toList hall
  have spec : ∀ i o, ops[i]? = some o → (∀ e ∈ edgesOf o, e < i) ∧ (∀ s ∈ usesG ops.toList o, rgUse ops.toList ((masks ops.toList []).getD i 0) s = true) ∧ (∀ d, o.dst = some d → notIn (some d) (usesG ops.toList o) = true ∧ ∀ (j : Nat) b, i < j → ops[j]? = some b → apartO (some d) b.dst = true) := fun i o ho => by
    have := rgAt_spec ops.toList 0 i o hc (by rw [Array.getElem?_toList]; exact ho)
    rw [show 0 + i = i by omega] at this
    refine ⟨this.1, this.2.1, fun d hd => ⟨(this.2.2 d hd).1, fun j b hj hb => (this.2.2 d hd).2 j b hj (by rw [Array.getElem?_toList]; exact hb)⟩⟩
  have edge : ∀ i o, ops[i]? = some o → ∀ e ∈ edgesOf o, e < i := fun i o ho => (spec i o ho).1
  have apart : ∀ (i j : Nat) (a b : Oper) (d : Nat), i ≠ j → ops[i]? = some a → ops[j]? = some b → a.dst = some d → b.dst ≠ some d := by
    intro i j a b d hij ha hb hd hd'
    rcases Nat.lt_or_gt_of_ne hij with h | h
    · have := ((spec i a ha).2.2 d hd).2 j b h hb
      rw [hd'] at this
      simp [apartO] at this
    · have := ((spec j b hb).2.2 d hd').2 i a h ha
      rw [hd] at this
      simp [apartO] at this
  have full : ∀ f : Fr, (∀ s, writes ops.toList s = false → f s = f0 s) → mixF ops.toList f f0 = f := by
    intro f hf
    funext s
    unfold mixF
    cases hw : writes ops.toList s with
    | true => rfl
    | false => exact (hf s hw).symm
  have some_ready : ∀ listed : Array Bool, listed.size = ops.size → listed.getD (ops.size - 1) true = false → Region.ready .any ops listed ≠ [] := by
    intro listed hs hl hr
    have key : ∀ m, m < ops.size → listed.getD m true = false → False := by
      intro m
      induction m using Nat.strongRecOn with
      | _ m ih =>
        intro hm hlm
        have ho : ops[m]? = some ops[m] := Array.getElem?_eq_getElem hm
        have : m ∈ Region.ready .any ops listed := by
          rw [mem_ready ho]
          refine ⟨hlm, fun e he => ?_⟩
          have hem := edge m _ ho e he
          cases hle : listed.getD e true with
          | true =>
            rw [Array.getD_eq_getD_getElem?, Array.getElem?_eq_getElem (by omega)] at hle ⊢
            exact hle
          | false => exact (ih e hem (by omega) hle).elim
        rw [hr] at this
        simp at this
    exact key (ops.size - 1) (by omega) hl
  intro k
  induction k with
  | zero =>
    intro listed f w hI hs hk hcl hf hq hlf
    refine ⟨fun hr => (some_ready listed hs hlf hr).elim, fun i hi o ho => ?_⟩
    have hlt : i < ops.size := (Array.getElem?_eq_some_iff.1 ho).1
    obtain ⟨hl, hpred⟩ := (mem_ready ho).1 hi
    have only : ∀ j, j < ops.size → j ≠ i → listed.getD j true = true := by
      intro j hj hji
      cases hlj : listed.getD j true with
      | true => rfl
      | false =>
        exfalso
        have hc2 := count_ready hi hk
        have : false ∈ (listed.setIfInBounds i true).toList := by
          rw [Array.mem_toList_iff, Array.mem_iff_getElem]
          refine ⟨j, by simp; omega, ?_⟩
          rw [Array.getElem_setIfInBounds_ne (by omega) (Ne.symm hji)]
          rw [Array.getD_eq_getD_getElem?, Array.getElem?_eq_getElem (by omega)] at hlj
          exact hlj
        have := List.count_pos_iff.2 this
        omega
    have hil : i = ops.size - 1 := by
      by_cases h : i = ops.size - 1
      · exact h
      · have := only (ops.size - 1) (by omega) (Ne.symm h)
        rw [this] at hlf
        simp at hlf
    have key : stepO P ext ops.toList o f w fun v w => anyW P ext ops N 0 (listed.setIfInBounds i true) (f.putO o.dst v) w := by
      have h0 := hfin o (by rw [Array.length_toList, Array.getElem?_toList, ← hil]; exact ho) f w hI (rgF_mk _ fun b hb d hd => by
        obtain ⟨m, hm⟩ := List.mem_iff_getElem?.1 hb
        have hml : m < ops.toList.dropLast.length := (List.getElem?_eq_some_iff.1 hm).1
        rw [List.length_dropLast, Array.length_toList] at hml
        rw [List.getElem?_dropLast] at hm
        rw [if_pos (by rw [Array.length_toList]; exact hml), Array.getElem?_toList] at hm
        exact hq m b d hm (only m (by omega) (by omega)) hd)
      rw [full f hf] at h0
      exact h0
    unfold stepO at key
    exact key
  | succ k ih =>
    intro listed f w hI hs hk hcl hf hq hlf
    refine ⟨fun hr => (some_ready listed hs hlf hr).elim, fun i hi o ho => ?_⟩
    have hlt : i < ops.size := (Array.getElem?_eq_some_iff.1 ho).1
    obtain ⟨hl, hpred⟩ := (mem_ready ho).1 hi
    have toT : ∀ e, e < ops.size → listed.getD e false = true → listed.getD e true = true := by
      intro e he hh
      rw [Array.getD_eq_getD_getElem?, Array.getElem?_eq_getElem (by omega)] at hh ⊢
      exact hh
    have hmask : ∀ m, m < ops.size → listed.getD m true = true → ∀ j, Nat.testBit ((masks ops.toList []).getD m 0) j = true → listed.getD j true = true := by
      intro m
      induction m using Nat.strongRecOn with
      | _ m ihm =>
        intro hm hlm j hj
        have hom : ops[m]? = some ops[m] := Array.getElem?_eq_getElem hm
        obtain ⟨e, he, hje⟩ := masks_spec ops.toList [] m j ops[m] (by rw [Array.getElem?_toList]; exact hom) (by simpa using hj)
        have hem := edge m _ hom e he
        have hle : listed.getD e true = true := toT e (by omega) (hcl m _ hom hlm e he)
        rcases hje with rfl | hje
        · exact hle
        · exact ihm e hem (by omega) hle j hje
    have hpredT : ∀ j, Nat.testBit ((masks ops.toList []).getD i 0) j = true → listed.getD j true = true := by
      intro j hj
      obtain ⟨e, he, hje⟩ := masks_spec ops.toList [] i j o (by rw [Array.getElem?_toList]; exact ho) (by simpa using hj)
      have hei := edge i _ ho e he
      have hle : listed.getD e true = true := toT e (by omega) (hpred e he)
      rcases hje with rfl | hje
      · exact hle
      · exact hmask e (by omega) hle j hje
    have huse : ∀ s ∈ usesG ops.toList o, writes ops.toList s = true → Q s (f s) w := by
      intro s hsu hws
      have := (spec i o ho).2.1 s hsu
      unfold rgUse at this
      rw [hws] at this
      simp only [cond_true] at this
      split at this
      · rename_i j hj
        obtain ⟨b, _, hb, hd⟩ := writerOf_spec _ _ _ _ hj
        rw [Nat.sub_zero, Array.getElem?_toList] at hb
        exact hq j b s hb (hpredT j this) hd
      · cases this
    have hne : i ≠ ops.size - 1 := by
      intro e
      have hc2 := count_ready hi hk
      have : false ∈ (listed.setIfInBounds i true).toList := List.count_pos_iff.1 (by omega)
      rw [Array.mem_toList_iff, Array.mem_iff_getElem] at this
      obtain ⟨j, hj, hjf⟩ := this
      have hj' : j < listed.size := by simpa using hj
      have hjs : j < ops.size := by omega
      by_cases hji : i = j
      · subst hji
        rw [Array.getElem_setIfInBounds_self] at hjf
        simp at hjf
      · rw [Array.getElem_setIfInBounds_ne hj' hji] at hjf
        have := hpredT j (by rw [e]; exact hlast j (by omega))
        rw [Array.getD_eq_getD_getElem?, Array.getElem?_eq_getElem (by omega)] at this
        simp at this
        rw [this] at hjf
        cases hjf
    have key : stepO P ext ops.toList o f w fun v w => anyW P ext ops N (k + 1) (listed.setIfInBounds i true) (f.putO o.dst v) w := by
      have h0 := hop i o (by rw [Array.length_toList]; omega) (by rw [Array.getElem?_toList]; exact ho) f w hI (rgH_mk _ huse)
      rw [full f hf] at h0
      refine stepO_mono (fun v w' h => ?_) h0
      obtain ⟨hS, hQ⟩ := h
      refine ih _ _ w' (hIS _ _ hS hI) (by simpa using hs) (count_ready hi hk) ?_ ?_ ?_ ?_
      · intro m om hom hlm e he
        have hm : m < ops.size := (Array.getElem?_eq_some_iff.1 hom).1
        have hem := edge m om hom e he
        have old : listed.getD e false = true := by
          by_cases hmi : m = i
          · subst hmi
            rw [ho] at hom
            cases hom
            exact hpred e he
          · refine hcl m om hom ?_ e he
            simp only [Array.getD_eq_getD_getElem?] at hlm ⊢
            rwa [Array.getElem?_setIfInBounds_ne (Ne.symm hmi)] at hlm
        simp only [Array.getD_eq_getD_getElem?] at old ⊢
        by_cases hei : i = e
        · subst hei
          rw [Array.getElem?_setIfInBounds_self_of_lt (by omega)]
          rfl
        · rwa [Array.getElem?_setIfInBounds_ne hei]
      · intro s hsw
        have hne := writes_false hsw o (Array.mem_toList_iff.2 (Array.mem_of_getElem? ho))
        have : (f.putO o.dst v) s = f s := put_same (l := [s]) (by
          cases hd : o.dst with
          | none => rfl
          | some d =>
            simp only [notIn, List.all_cons, List.all_nil, Bool.and_true]
            cases hb : Nat.beq d s with
            | false => rfl
            | true => exact absurd (by rw [hd, Nat.eq_of_beq_eq_true hb]) hne) s (by simp)
        rw [this]
        exact hf s hsw
      · intro m om d hom hlm hd
        by_cases hmi : m = i
        · subst hmi
          rw [ho] at hom
          cases hom
          rw [hd] at hQ ⊢
          have : (f.putO (some d) v) d = v := by simp [Fr.putO, Fr.put]
          rw [this]
          exact hQ
        · have hlm' : listed.getD m true = true := by
            simp only [Array.getD_eq_getD_getElem?] at hlm ⊢
            rwa [Array.getElem?_setIfInBounds_ne (Ne.symm hmi)] at hlm
          have hap := apart m i om o d hmi hom ho hd
          have : (f.putO o.dst v) d = f d := put_same (l := [d]) (by
            cases hd' : o.dst with
            | none => rfl
            | some d' =>
              simp only [notIn, List.all_cons, List.all_nil, Bool.and_true]
              cases hb : Nat.beq d' d with
              | false => rfl
              | true => exact absurd (by rw [hd', Nat.eq_of_beq_eq_true hb]) hap) d (by simp)
          rw [this]
          exact hQS _ _ _ _ hS (hq m om d hom hlm' hd)
      · simp only [Array.getD_eq_getD_getElem?] at hlf ⊢
        rwa [Array.getElem?_setIfInBounds_ne hne]
    unfold stepO at key
    exact key
theorem rgL_draw {ops : List Oper} (hc : lastB ops = true) {f : Fr} {w : World} {N : Fr → World → Prop} (I : World → Prop) (S : World → World → Prop) (Q : Nat → Value → World → Prop) (hI : I w.drew) (hIS : ∀ w w', S w w' → I w → I w') (hQS : ∀ s v w w', S w w' → Q s v w → Q s v w')
    (hall : rgAllL P ext ops I S Q f N ops) : drawW P ext ops f w N := by
  have hpos : 1 ≤ ops.length := by
    unfold lastB at hc
    simp only [Bool.and_eq_true, Nat.ble_eq] at hc
    exact hc.2
  unfold drawW
  obtain ⟨m, hm⟩ : ∃ m, ops.toArray.size = m + 1 := ⟨ops.length - 1, by simp; omega⟩
  have := rgL_sound (ops := ops.toArray) (by simpa using hc) hIS hQS (by simpa using hall) m (Array.replicate ops.toArray.size false) f ({ w with drawn := w.drawn + 1 } : World) hI (by simp) (by simp at hm ⊢; omega) ?_ (fun _ _ => rfl) ?_ ?_
  · rw [hm] at this ⊢
    exact this
  · intro m o ho hl
    exfalso
    rw [Array.getD_eq_getD_getElem?] at hl
    have hm : m < ops.toArray.size := (Array.getElem?_eq_some_iff.1 ho).1
    rw [Array.getElem?_replicate, if_pos hm] at hl
    simp at hl
  · intro m o d ho hl
    exfalso
    rw [Array.getD_eq_getD_getElem?] at hl
    have hm : m < ops.toArray.size := (Array.getElem?_eq_some_iff.1 ho).1
    rw [Array.getElem?_replicate, if_pos hm] at hl
    simp at hl
  · rw [Array.getD_eq_getD_getElem?, Array.getElem?_replicate, if_pos (by simp; omega)]
    rfl
theorem W_drawL' {x : Code} {id : Nat} {ops : List Oper} (he : x = .region id ops.toArray true) {Q : Exit → Fr → World → Prop} {f : Fr} {w : World} {N : Fr → World → Prop} (hc : calm P ops = false) (hr : lastB ops = true)
    (h : ∃ (I : World → Prop) (S : World → World → Prop) (q : Nat → Value → World → Prop), I w.drew ∧ (∀ w w', S w w' → I w → I w') ∧ (∀ s v w w', S w w' → q s v w → q s v w') ∧ rgAllL P ext ops I S q f N ops) (hn : ∀ f w, N f w → Q .normal f w) : W P ext x Q f w := by
  subst he
  obtain ⟨I, S, q, h1, h2, h3, h4⟩ := h
  exact W_draw (by simpa using hc) (by simpa using drawW_mono hn (rgL_draw hr I S q h1 h2 h3 h4))
/-! ### what is loaded need not stay as it is behind an operation that goes behind all loads -/
theorem calm_soundG {rd : Bool} {ops : Array Oper} (hc : calmFrom rd P ops.toList (masks ops.toList []) ops.toList 0 = true) {St : StepK} (hsw : Swaps St (commO rd P ops.toList)) {G : Array Bool → World → Prop} (hSt : ∀ i o listed f w K, ops[i]? = some o → listed.size = ops.size → i ∈ Region.ready .any ops listed → (∀ m o, ops[m]? = some o → listed.getD m true = true → ∀ e ∈ edgesOf o, listed.getD e false = true) → G listed w → St o f w K → stepO P ext ops.toList o f w fun v w => G (listed.setIfInBounds i true) w ∧ K v w)
    {K : Fr → World → Prop} : ∀ (k : Nat) (listed : Array Bool) (f : Fr) (w : World), G listed w → listed.size = ops.size → listed.toList.count false = k →
    (∀ m o, ops[m]? = some o → listed.getD m true = true → ∀ e ∈ edgesOf o, listed.getD e false = true) →
    Seq St ((remOf ops.size listed).filterMap fun i => ops[i]?) f w K → anyW P ext ops K k listed f w := by
  have edge : ∀ i o, ops[i]? = some o → ∀ e ∈ edgesOf o, e < i := fun i o ho e he => by
    have := (calmFrom_spec ops.toList 0 i o hc (by rw [Array.getElem?_toList]; exact ho)).1 e he
    omega
  have nil : ∀ listed : Array Bool, listed.size = ops.size → Region.ready .any ops listed = [] → remOf ops.size listed = [] := by
    intro listed hs hr
    cases hrem : remOf ops.size listed with
    | nil => rfl
    | cons i rest =>
      exfalso
      have hi : i ∈ remOf ops.size listed := by rw [hrem]; exact List.mem_cons_self ..
      have hi2 := hi
      unfold remOf at hi2
      rw [List.mem_filter, List.mem_range'_1] at hi2
      have hlt : i < ops.size := by omega
      have ho : ops[i]? = some ops[i] := Array.getElem?_eq_getElem hlt
      have : i ∈ Region.ready .any ops listed := by
        rw [mem_ready ho]
        refine ⟨by simpa using hi2.2, fun e he => ?_⟩
        have hei := edge i _ ho e he
        cases hle : listed.getD e true with
        | true =>
          rw [Array.getD_eq_getD_getElem?, Array.getElem?_eq_getElem (by omega)] at hle ⊢
          exact hle
        | false =>
          exfalso
          obtain ⟨l1, l2, h1, _, h3⟩ := remOf_split (n := ops.size) (i := i) hlt hs (by simpa using hi2.2)
          have hel : e ∈ l1 := by
            have : e ∈ remOf ops.size listed := by unfold remOf; rw [List.mem_filter, List.mem_range'_1]; exact ⟨by omega, by rw [hle]; rfl⟩
            obtain ⟨l1', l2', h1', _, h3'⟩ := remOf_split (n := ops.size) (i := e) (by omega) hs hle
            rw [h1'] at hrem
            cases l1' with
            | nil => simp at hrem; omega
            | cons x l1' => simp at hrem; have := (h3' x (List.mem_cons_self ..)).1; omega
          rw [h1] at hrem
          cases l1 with
          | nil => simp at hel
          | cons x l1 => simp at hrem; have := (h3 x (List.mem_cons_self ..)).1; omega
      rw [hr] at this
      simp at this
  intro k
  induction k with
  | zero =>
    intro listed f w hI hs hk hcl h
    rw [nil listed hs (ready_none hk)] at h
    exact h
  | succ k ih =>
    intro listed f w hI hs hk hcl h
    refine ⟨fun hr => by rw [nil listed hs hr] at h; exact h, fun i hi o ho => ?_⟩
    have hlt : i < ops.size := (Array.getElem?_eq_some_iff.1 ho).1
    obtain ⟨hl, hpred⟩ := (mem_ready ho).1 hi
    obtain ⟨l1, l2, h1, h2, h3⟩ := remOf_split (n := ops.size) hlt hs hl
    have hmask : ∀ m, m < ops.size → listed.getD m true = true → ∀ j, Nat.testBit ((masks ops.toList []).getD m 0) j = true → listed.getD j true = true := by
      intro m
      induction m using Nat.strongRecOn with
      | _ m ihm =>
        intro hm hlm j hj
        have hom : ops[m]? = some ops[m] := Array.getElem?_eq_getElem hm
        obtain ⟨e, he, hje⟩ := masks_spec ops.toList [] m j ops[m] (by rw [Array.getElem?_toList]; exact hom) (by simpa using hj)
        have hem := edge m _ hom e he
        have hle : listed.getD e true = true := by
          have := hcl m _ hom hlm e he
          rw [Array.getD_eq_getD_getElem?, Array.getElem?_eq_getElem (by omega)] at this ⊢
          exact this
        rcases hje with rfl | hje
        · exact hle
        · exact ihm e hem (by omega) hle j hje
    have hcomm : ∀ a ∈ (l1.filterMap fun i => ops[i]?), commO rd P ops.toList a o = true := by
      intro a ha
      rw [List.mem_filterMap] at ha
      obtain ⟨j, hj, haj⟩ := ha
      obtain ⟨hji, hlj⟩ := h3 j hj
      have hat := (calmFrom_spec ops.toList 0 i o hc (by rw [Array.getElem?_toList]; exact ho)).2
      have := calmAt_spec _ 0 j a hat (by rw [List.getElem?_take_of_lt (by omega), Array.getElem?_toList]; exact haj)
      rcases this with hb | hb
      · exfalso
        simp only [Nat.zero_add] at hb
        obtain ⟨e, he, hje⟩ := masks_spec ops.toList [] i j o (by rw [Array.getElem?_toList]; exact ho) (by simpa using hb)
        have hei := edge i _ ho e he
        have hle : listed.getD e true = true := by
          have := hpred e he
          rw [Array.getD_eq_getD_getElem?, Array.getElem?_eq_getElem (by omega)] at this ⊢
          exact this
        rcases hje with rfl | hje
        · rw [hle] at hlj; simp at hlj
        · have := hmask e (by omega) hle j hje
          rw [this] at hlj; simp at hlj
      · exact hb
    rw [h1, List.filterMap_append, List.filterMap_cons_some ho] at h
    have h5 := bubble hsw _ f w hcomm h
    rw [← List.filterMap_append, ← h2] at h5
    have h6 := hSt i o listed f w _ ho hs hi hcl hI h5
    have key : stepO P ext ops.toList o f w fun v w => anyW P ext ops K k (listed.setIfInBounds i true) (f.putO o.dst v) w := by
      refine stepO_mono (fun v w h => ?_) h6
      refine ih _ _ w h.1 (by simpa using hs) (count_ready hi hk) ?_ h.2
      intro m om hom hlm e he
      have hm : m < ops.size := (Array.getElem?_eq_some_iff.1 hom).1
      have hem := edge m om hom e he
      have old : listed.getD e false = true := by
        by_cases hmi : m = i
        · subst hmi
          rw [ho] at hom
          cases hom
          exact hpred e he
        · refine hcl m om hom ?_ e he
          simp only [Array.getD_eq_getD_getElem?] at hlm ⊢
          rwa [Array.getElem?_setIfInBounds_ne (Ne.symm hmi)] at hlm
      simp only [Array.getD_eq_getD_getElem?] at old ⊢
      by_cases hei : i = e
      · subst hei
        rw [Array.getElem?_setIfInBounds_self_of_lt (by omega)]
        rfl
      · rwa [Array.getElem?_setIfInBounds_ne hei]
    unfold stepO at key
    exact key
theorem calm_allG {rd : Bool} {ops : Array Oper} (hc : calmFrom rd P ops.toList (masks ops.toList []) ops.toList 0 = true) {St : StepK} (hsw : Swaps St (commO rd P ops.toList)) {G : Array Bool → World → Prop} (hSt : ∀ i o listed f w K, ops[i]? = some o → listed.size = ops.size → i ∈ Region.ready .any ops listed → (∀ m o, ops[m]? = some o → listed.getD m true = true → ∀ e ∈ edgesOf o, listed.getD e false = true) → G listed w → St o f w K → stepO P ext ops.toList o f w fun v w => G (listed.setIfInBounds i true) w ∧ K v w)
    {f : Fr} {w : World} {K : Fr → World → Prop} (hI : ∀ listed, G listed w.drew) (h : Seq St ops.toList f w.drew K) : drawW P ext ops.toList f w K := by
  unfold drawW
  refine calm_soundG (G := G) (ops := ops.toList.toArray) (by simpa using hc) (by simpa using hsw) (by simpa using hSt) _ _ f _ (hI _) (by simp) (by simp) ?_ ?_
  · intro m o ho hl
    exfalso
    rw [Array.getD_eq_getD_getElem?] at hl
    have hm : m < ops.toList.toArray.size := (Array.getElem?_eq_some_iff.1 ho).1
    rw [Array.getElem?_replicate, if_pos hm] at hl
    simp at hl
  · have e : (remOf ops.toList.toArray.size (Array.replicate ops.toList.toArray.size false)) = List.range' 0 ops.toList.toArray.size := by
      unfold remOf
      rw [List.filter_eq_self]
      intro i hi
      rw [List.mem_range'_1] at hi
      rw [Array.getD_eq_getD_getElem?, Array.getElem?_replicate, if_pos (by omega)]
      rfl
    rw [e]
    have e2 : ((List.range' 0 ops.toList.toArray.size).filterMap fun i => ops.toList.toArray[i]?) = ops.toList := by
      have := range_get ops.toList 0
      simpa using this
    rw [e2]
    exact h
def readsOf (P : Program) (ops : List Oper) : List Nat := (List.range ops.length).filter fun m => match ops[m]? with | some o => Nat.beq (clsOp P o.op) 1 | none => false
def brkO (P : Program) (ops : List Oper) (b : Oper) : Bool := (readsOf P ops).all fun m => Nat.testBit (maskOf (masks ops []) (edgesOf b)) m
def stepB (I : World → Prop) (P : Program) (ext : Nat → Bool) (ops : List Oper) : StepK := fun o f w K =>
  bif Nat.ble (clsOp P o.op) 1 then ∃ v, (∀ w, I w → stepO P ext ops o f w fun u w' => u = v ∧ w' = w) ∧ K v w else bif brkO P ops o then stepO P ext ops o f w K else stepO P ext ops o f w fun v w => I w ∧ K v w
theorem swaps_B {I : World → Prop} {w0 : World} (h0 : I w0) {ops : List Oper} : Swaps (stepB I P ext ops) (commO true P ops) := by
  refine ⟨fun {o f w K K'} hk h => ?_, fun {a o f w K} hc h => ?_⟩
  · unfold stepB at *
    cases hb : Nat.ble (clsOp P o.op) 1 with
    | true => rw [hb, cond_true] at h; rw [cond_true]; obtain ⟨v, h1, h2⟩ := h; exact ⟨v, h1, hk _ _ h2⟩
    | false =>
      rw [hb, cond_false] at h; rw [cond_false]
      cases hq : brkO P ops o with
      | true => rw [hq, cond_true] at h; rw [cond_true]; exact stepO_mono hk h
      | false => rw [hq, cond_false] at h; rw [cond_false]; exact stepO_mono (fun v w h => ⟨h.1, hk _ _ h.2⟩) h
  · simp only [commO, cond_true, Bool.and_eq_true, Bool.or_eq_true] at hc
    obtain ⟨⟨⟨hcl, hap⟩, hao⟩, hoa⟩ := hc
    have eo : ∀ u w K, stepO P ext ops o (f.putO a.dst u) w K = stepO P ext ops o f w K := fun u w K => stepO_congr (put_same hao)
    have ea : ∀ u w K, stepO P ext ops a (f.putO o.dst u) w K = stepO P ext ops a f w K := fun u w K => stepO_congr (put_same hoa)
    have uniq : ∀ {b : Oper} {v v' : Value}, Nat.ble (clsOp P b.op) 1 = true → (∀ w, I w → stepO P ext ops b f w fun u w' => u = v ∧ w' = w) → (∀ w, I w → stepO P ext ops b f w fun u w' => u = v' ∧ w' = w) → v = v' := by
      intro b v v' hb h1 h2
      obtain ⟨rv, hr⟩ := readS (P := P) (ext := ext) (ops := ops) (Nat.le_of_ble_eq_true hb)
      obtain ⟨x, hx, rfl, _⟩ := (hr _ _ _).1 (h1 w0 h0)
      obtain ⟨y, hy, rfl, _⟩ := (hr _ _ _).1 (h2 w0 h0)
      rw [hx] at hy
      exact Option.some.inj hy
    unfold stepB at *
    simp only [eo] at h
    simp only [ea]
    cases hao' : Nat.ble (clsOp P a.op) 1 with
    | true =>
      rw [hao', cond_true] at h
      obtain ⟨u, h1, h2⟩ := h
      cases hoo : Nat.ble (clsOp P o.op) 1 with
      | true =>
        rw [hoo, cond_true] at h2
        obtain ⟨v, h3, h4⟩ := h2
        simp only [cond_true]
        exact ⟨v, h3, u, h1, by rw [put_comm hap] at h4; exact h4⟩
      | false =>
        rw [hoo, cond_false] at h2
        simp only [cond_true, cond_false]
        cases hq : brkO P ops o with
        | true =>
          rw [hq, cond_true] at h2
          rw [cond_true]
          exact stepO_mono (fun v w h => ⟨u, h1, by rw [put_comm hap] at h; exact h⟩) h2
        | false =>
          rw [hq, cond_false] at h2
          rw [cond_false]
          exact stepO_mono (fun v w h => ⟨h.1, u, h1, by have := h.2; rw [put_comm hap] at this; exact this⟩) h2
    | false =>
      rw [hao', cond_false] at h
      have hoo : Nat.ble (clsOp P o.op) 1 = true := by rcases hcl with h | h <;> simp_all
      rw [hoo] at h ⊢
      simp only [cond_true, cond_false] at h ⊢
      cases hq : brkO P ops a with
      | true =>
        rw [hq, cond_true] at h
        simp only [cond_true]
        obtain ⟨u, w1, v, h3, _⟩ := stepO_out h
        refine ⟨v, h3, stepO_mono (fun u w h => ?_) h⟩
        obtain ⟨v', h5, h6⟩ := h
        have := uniq hoo h3 h5
        subst this
        rw [put_comm hap] at h6
        exact h6
      | false =>
        rw [hq, cond_false] at h
        simp only [cond_false]
        obtain ⟨u, w1, _, v, h3, _⟩ := stepO_out h
        refine ⟨v, h3, stepO_mono (fun u w h => ⟨h.1, ?_⟩) h⟩
        obtain ⟨_, v', h5, h6⟩ := h
        have := uniq hoo h3 h5
        subst this
        rw [put_comm hap] at h6
        exact h6
/-- The same, plainer where an operation looks at its operands alone. -/
def stepBJ (I : World → Prop) (P : Program) (ext : Nat → Bool) (ops : List Oper) : StepK := fun o f w K => match clsOp P o.op with
  | 0 => stepO P ext ops o f w K
  | 1 => ∃ v, (∀ w, I w → stepO P ext ops o f w fun u w' => u = v ∧ w' = w) ∧ K v w
  | _ => bif brkO P ops o then stepO P ext ops o f w K else stepO P ext ops o f w fun v w => I w ∧ K v w
theorem stepBJ_B {I : World → Prop} {ops : List Oper} {o : Oper} {f : Fr} {w : World} {K K' : Value → World → Prop} (hk : ∀ v w, K v w → K' v w) (h : stepBJ I P ext ops o f w K) : stepB I P ext ops o f w K' := by
  unfold stepBJ at h
  unfold stepB
  split at h
  · rename_i h0
    obtain ⟨pv, hp⟩ := pureS (P := P) (ext := ext) (ops := ops) h0
    obtain ⟨v, hv, h⟩ := (hp _ _ _).1 h
    rw [h0]
    exact ⟨v, fun w _ => (hp _ _ _).2 ⟨v, hv, rfl, rfl⟩, hk _ _ h⟩
  · rename_i h1
    rw [h1]
    obtain ⟨v, h2, h3⟩ := h
    exact ⟨v, h2, hk _ _ h3⟩
  · rename_i h0 h1
    have hb : Nat.ble (clsOp P o.op) 1 = false := by
      cases hb : Nat.ble (clsOp P o.op) 1 with
      | false => rfl
      | true =>
        have := Nat.le_of_ble_eq_true hb
        exfalso
        rcases Nat.eq_zero_or_pos (clsOp P o.op) with e | e
        · exact h0 e
        · exact h1 (by omega)
    rw [hb, cond_false]
    cases hq : brkO P ops o with
    | true => rw [hq, cond_true] at h; rw [cond_true]; exact stepO_mono hk h
    | false => rw [hq, cond_false] at h; rw [cond_false]; exact stepO_mono (fun v w h => ⟨h.1, hk _ _ h.2⟩) h
theorem Seq_BJ {I : World → Prop} {ops : List Oper} {K : Fr → World → Prop} : ∀ (l : List Oper) (f : Fr) (w : World), Seq (stepBJ I P ext ops) l f w K → Seq (stepB I P ext ops) l f w K
  | [], f, w, h => h
  | _ :: l, _, _, h => stepBJ_B (fun _ _ h => Seq_BJ l _ _ h) h
theorem mem_readsOf {ops : List Oper} {m : Nat} (h : m ∈ readsOf P ops) : ∃ o, ops[m]? = some o ∧ clsOp P o.op = 1 := by
  unfold readsOf at h
  rw [List.mem_filter] at h
  obtain ⟨_, h⟩ := h
  split at h
  · rename_i o ho
    exact ⟨o, ho, Nat.eq_of_beq_eq_true h⟩
  · cases h
theorem calm_drawB (I : World → Prop) {ops : List Oper} (hc : calmI P ops = true) {f : Fr} {w : World} {K : Fr → World → Prop} (hI : I w.drew) (h : Seq (stepB I P ext ops) ops f w.drew K) : drawW P ext ops f w K := by
  have edge : ∀ (i : Nat) o, ops[i]? = some o → ∀ e ∈ edgesOf o, e < i := fun i o ho e he => by
    have := (calmFrom_spec ops 0 i o hc ho).1 e he
    omega
  have := calm_allG (P := P) (ext := ext) (ops := ops.toArray) (rd := true) (St := stepB I P ext ops) (G := fun listed w => I w ∨ ∀ m ∈ readsOf P ops, listed.getD m true = true) (f := f) (w := w) (K := K) (by simpa [calmI] using hc) (by simpa using swaps_B hI) ?_ (fun _ => .inl hI) (by simpa using h)
  · simpa using this
  · intro i o listed f w K ho hs hi hcl hG h
    simp only at h hG ⊢
    have ho' : ops[i]? = some o := by simpa using ho
    have hil : i < ops.length := (List.getElem?_eq_some_iff.1 ho').1
    obtain ⟨hl, hpred⟩ := (mem_ready ho).1 hi
    have keep : ∀ m, listed.getD m true = true → (listed.setIfInBounds i true).getD m true = true := by
      intro m hm
      simp only [Array.getD_eq_getD_getElem?] at hm ⊢
      by_cases him : i = m
      · subst him
        rw [Array.getElem?_setIfInBounds_self_of_lt (by simp at hs; omega)]
        rfl
      · rwa [Array.getElem?_setIfInBounds_ne him]
    unfold stepB at h
    cases hb : Nat.ble (clsOp P o.op) 1 with
    | true =>
      rw [hb, cond_true] at h
      obtain ⟨v, h1, h2⟩ := h
      have step : stepO P ext ops o f w fun u w' => u = v ∧ w' = w := by
        rcases hG with hI' | hall
        · exact h1 w hI'
        · by_cases h0 : clsOp P o.op = 0
          · obtain ⟨pv, hp⟩ := pureS (P := P) (ext := ext) (ops := ops) h0
            obtain ⟨x, hx, rfl, _⟩ := (hp _ _ _).1 (h1 _ hI)
            exact (hp _ _ _).2 ⟨_, hx, rfl, rfl⟩
          · exfalso
            have h1c : clsOp P o.op = 1 := by have := Nat.le_of_ble_eq_true hb; omega
            have hm : i ∈ readsOf P ops := by
              unfold readsOf
              rw [List.mem_filter]
              refine ⟨by simpa using hil, ?_⟩
              rw [ho']
              show Nat.beq (clsOp P o.op) 1 = true
              rw [h1c]
              rfl
            have := hall i hm
            rw [hl] at this
            cases this
      refine stepO_mono (fun u w' h => ?_) step
      obtain ⟨rfl, rfl⟩ := h
      exact ⟨hG.imp id (fun hall m hm => keep m (hall m hm)), h2⟩
    | false =>
      rw [hb, cond_false] at h
      cases hq : brkO P ops o with
      | false =>
        rw [hq, cond_false] at h
        exact stepO_mono (fun v w h => ⟨.inl h.1, h.2⟩) h
      | true =>
        rw [hq, cond_true] at h
        refine stepO_mono (fun v w h => ⟨.inr fun m hm => keep m ?_, h⟩) h
        unfold brkO at hq
        have hbit := List.all_eq_true.1 hq m hm
        have toT : ∀ e, e < ops.length → listed.getD e false = true → listed.getD e true = true := by
          intro e he hh
          rw [Array.getD_eq_getD_getElem?, Array.getElem?_eq_getElem (by simp at hs; omega)] at hh ⊢
          exact hh
        have hmask : ∀ m, m < ops.length → listed.getD m true = true → ∀ j, Nat.testBit ((masks ops []).getD m 0) j = true → listed.getD j true = true := by
          intro m
          induction m using Nat.strongRecOn with
          | _ m ihm =>
            intro hm hlm j hj
            have hom : ops[m]? = some ops[m] := List.getElem?_eq_getElem hm
            obtain ⟨e, he, hje⟩ := masks_spec ops [] m j ops[m] hom (by simpa using hj)
            have hem := edge m _ hom e he
            have hle : listed.getD e true = true := toT e (by omega) (hcl m _ (by simp [hm]) hlm e he)
            rcases hje with rfl | hje
            · exact hle
            · exact ihm e hem (by omega) hle j hje
        unfold maskOf at hbit
        rcases testBit_maskOf _ _ hbit with h0 | ⟨e, he, hje⟩
        · simp at h0
        · have hei := edge i o ho' e he
          have hle : listed.getD e true = true := toT e (by omega) (hpred e he)
          rcases hje with rfl | hje
          · exact hle
          · exact hmask e (by omega) hle m hje
theorem W_drawB' {x : Code} {id : Nat} {ops : List Oper} (he : x = .region id ops.toArray true) {Q : Exit → Fr → World → Prop} {f : Fr} {w : World} {N : Fr → World → Prop} (hc : calm P ops = false) (hi : calmI P ops = true) (h : ∃ I : World → Prop, I w.drew ∧ Seq (stepBJ I P ext ops) ops f w.drew N) (hn : ∀ f w, N f w → Q .normal f w) : W P ext x Q f w := by
  subst he
  obtain ⟨I, hI, h⟩ := h
  exact W_draw (by simpa using hc) (by simpa using drawW_mono hn (calm_drawB I hi hI (Seq_BJ ops f _ h)))
end
end Go.Ev
