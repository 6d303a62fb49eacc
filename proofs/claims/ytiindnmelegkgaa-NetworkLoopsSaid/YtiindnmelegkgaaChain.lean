/- A region that draws its order, at a class of worlds with phases: each operation yields one and the same value in every world of the class, and moves the world on within the class. One walk of the text's order serves every order. -/
import Derived.Still
import Derived.Deep.QuietTactic
import Derived.BigQuiet
import Derived.Below
namespace Go.Proofs.Ytiindnmelegkgaa
open Go.RowKit

section
variable {P : Program} {ops : Array Oper} {md : Region.Mode} {C : (Nat → Bool) → World → Prop}

/-- What an operation must come to: the value v, in a world of D; a call must hand back v in a world of D. -/
def calmUpon (P : Program) (D : World → Prop) (v : Value) : Result Next → Prop
  | .ok (.value u) w' => u = v ∧ D w'
  | .ok .skip w' => v = undef ∧ D w'
  | .ok (.enter f args) w' => Calls P f args w' (fun e w'' => e = .returned v ∧ D w'')
  | _ => False
/-- Operation o, carried out in w. -/
def calmAt (P : Program) (o : Oper) (a : Act) (D : World → Prop) (w : World) (v : Value) : Prop := calmUpon P D v ((execOp a.eval o).run P w)
/-- Operation number i has come up, too. -/
def bump (φ : Nat → Bool) (i : Nat) : Nat → Bool := fun j => j == i || φ j
/-- Operation number i waits for number t, by f steps at most. -/
def waits (md : Region.Mode) (ops : Array Oper) : Nat → Nat → Nat → Bool
  | 0, _, _ => false
  | f + 1, i, t => match ops[i]? with
    | none => false
    | some o => o.after.any fun e => Region.binds md e && (e.on == t || waits md ops f e.on t)
/-- What has come up is closed: all that it waited for has come up. -/
def closedAt (md : Region.Mode) (ops : Array Oper) (φ : Nat → Bool) : Prop := ∀ j u, ops[j]? = some u → φ j = true → ∀ e ∈ u.after, Region.binds md e = true → φ e.on = true
/-- All that operation number i waits for has come up. -/
def calmReady (md : Region.Mode) (ops : Array Oper) (i : Nat) (φ : Nat → Bool) : Prop := ∀ f t, waits md ops f i t = true → φ t = true
theorem calmReady_of {φ : Nat → Bool} (hc : closedAt md ops φ) : ∀ (f i t : Nat), (∀ o, ops[i]? = some o → ∀ e ∈ o.after, Region.binds md e = true → φ e.on = true) → waits md ops f i t = true → φ t = true
  | 0, _, _, _, h => by simp [waits] at h
  | f + 1, i, t, hr, h => by
    unfold waits at h
    cases ho : ops[i]? with
    | none => simp only [ho] at h; cases h
    | some o =>
      simp only [ho] at h
      obtain ⟨e, he, h2⟩ := Array.any_eq_true'.1 h
      simp only [Bool.and_eq_true, Bool.or_eq_true, beq_iff_eq] at h2
      have h3 := hr o ho e he h2.1
      rcases h2.2 with h4 | h4
      · rw [← h4]; exact h3
      · exact calmReady_of hc f e.on t (fun u hu e' he' hb' => hc e.on u hu h3 e' he' hb') h4
/-- One value in every world of the class, whatever has come up before. -/
def calmGood (P : Program) (md : Region.Mode) (ops : Array Oper) (C : (Nat → Bool) → World → Prop) (i : Nat) (o : Oper) (a : Act) (v : Value) : Prop := ∀ φ w, φ i = false → calmReady md ops i φ → C φ w → calmAt P o a (C (bump φ i)) w v
/-- An operation that is passed over. -/
def calmSkip (md : Region.Mode) (ops : Array Oper) (C : (Nat → Bool) → World → Prop) (i : Nat) : Prop := ∀ φ w, φ i = false → calmReady md ops i φ → C φ w → C (bump φ i) w

/-- The walk of the text's order. -/
def calmWalk (P : Program) (md : Region.Mode) (ops : Array Oper) (C : (Nat → Bool) → World → Prop) (K : Act → Prop) : Nat → List Oper → Act → Prop
  | _, [], a => K a
  | i, o :: rest, a => if Region.wanted o (yielded ops a.tmps) then ∃ v, calmGood P md ops C i o a v ∧ calmWalk P md ops C K (i + 1) rest (a.put o.dst v) else calmSkip md ops C i ∧ calmWalk P md ops C K (i + 1) rest (a.put o.dst undef)

/-- Operation number i comes up in state a. -/
def calmOp (P : Program) (md : Region.Mode) (ops : Array Oper) (C : (Nat → Bool) → World → Prop) (i : Nat) (K : Act → Prop) (a : Act) : Prop :=
  match ops[i]? with
  | none => False
  | some o => if Region.wanted o (yielded ops a.tmps) then ∃ v, calmGood P md ops C i o a v ∧ K (a.put o.dst v) else calmSkip md ops C i ∧ K (a.put o.dst undef)

/-- Whatever order is picked from here on; K is told what has come up. -/
def calmAny (P : Program) (md : Region.Mode) (ops : Array Oper) (C : (Nat → Bool) → World → Prop) (K : Array Bool → Act → Prop) : Nat → Array Bool → Act → Prop
  | 0, done, a => Region.ready md ops done = [] ∧ K done a
  | f + 1, done, a => (Region.ready md ops done = [] → K done a) ∧ ∀ i ∈ Region.ready md ops done, calmOp P md ops C i (calmAny P md ops C K f (done.setIfInBounds i true)) a

theorem calmOp_mono {i : Nat} {a : Act} {K K' : Act → Prop} (h : ∀ a, K a → K' a) (hh : calmOp P md ops C i K a) : calmOp P md ops C i K' a := by
  unfold calmOp at *
  cases ho : ops[i]? with
  | none => simp only [ho] at hh
  | some o =>
    simp only [ho] at hh ⊢
    by_cases hw : Region.wanted o (yielded ops a.tmps) = true
    · simp only [hw, if_true] at hh ⊢
      obtain ⟨v, h1, h2⟩ := hh
      exact ⟨v, h1, h _ h2⟩
    · simp only [hw] at hh ⊢
      exact ⟨hh.1, h _ hh.2⟩

def phase (done : Array Bool) : Nat → Bool := fun j => done.getD j false
theorem phase_set {done : Array Bool} {i : Nat} (h : done.getD i true = false) : phase (done.setIfInBounds i true) = bump (phase done) i := by
  have hlt : i < done.size := by
    rcases Nat.lt_or_ge i done.size with h' | h'
    · exact h'
    · simp [Array.getElem?_eq_none h'] at h
  funext j
  unfold phase bump
  rcases Nat.decEq j i with hj | hj
  · rw [getD_set_ne false (Ne.symm hj)]
    simp [hj]
  · subst hj
    simp [hlt]
theorem phase_off {done : Array Bool} {i : Nat} (h : done.getD i true = false) : phase done i = false := by
  unfold phase
  rcases Nat.lt_or_ge i done.size with h' | h'
  · simpa [h'] using h
  · simp [h']

theorem calmOp_sound {Q : Exit → Act → World → Prop} {i : Nat} {a : Act} {w : World} {φ : Nat → Bool} {K : Act → Prop} {K' : Act → World → Prop} (hφ : φ i = false) (hr : calmReady md ops i φ) (hC : C φ w)
    (hK : ∀ a' w', C (bump φ i) w' → K a' → K' a' w') (h : calmOp P md ops C i K a) : wpOp P ops Q i K' a w := by
  unfold calmOp at h
  unfold wpOp
  cases ho : ops[i]? with
  | none => simp only [ho] at h
  | some o =>
    simp only [ho] at h ⊢
    by_cases hw : Region.wanted o (yielded ops a.tmps) = true
    · simp only [hw, if_true] at h ⊢
      obtain ⟨v, h1, h2⟩ := h
      refine .inl ?_
      have h3 := h1 φ w hφ hr hC
      unfold calmAt at h3
      unfold Oper.wp
      generalize (execOp a.eval o).run P w = r at *
      cases r with
      | ok n w' =>
        cases n <;> simp only [calmUpon] at h3 <;> simp only [Oper.upon]
        case value u =>
          obtain ⟨rfl, h4⟩ := h3
          exact hK _ _ h4 h2
        case skip =>
          obtain ⟨rfl, h4⟩ := h3
          exact hK _ _ h4 h2
        case enter f args =>
          exact h3.mono fun e w'' ⟨he, h4⟩ => by subst he; exact hK _ _ h4 h2
      | halt x w' => simp only [calmUpon] at h3
    · simp only [hw] at h ⊢
      exact hK _ _ (h.1 φ w hφ hr hC) h.2

theorem closed_next {done : Array Bool} {i : Nat} (hc : closedAt md ops (phase done)) (hi : i ∈ Region.ready md ops done) : closedAt md ops (phase (done.setIfInBounds i true)) := by
  obtain ⟨hun, oi, hoi, hall⟩ := mem_ready.1 hi
  intro j u hu hj e he hb
  rw [phase_set hun] at hj ⊢
  have key : phase done e.on = true := by
    rcases Nat.decEq j i with hji | hji
    · unfold bump at hj
      have : (j == i) = false := by simpa using hji
      rw [this, Bool.false_or] at hj
      exact hc j u hu hj e he hb
    · subst hji
      have : u = oi := Option.some.inj (hu.symm.trans hoi)
      subst this
      exact hall e he hb
  unfold bump
  rw [key, Bool.or_true]
theorem calmAny_sound {Q : Exit → Act → World → Prop} {K : Array Bool → Act → Prop} (hK : ∀ done a w, C (phase done) w → K done a → Q .normal a w) :
    ∀ (f : Nat) (done : Array Bool) (a : Act) (w : World), closedAt md ops (phase done) → C (phase done) w → calmAny P md ops C K f done a → wpAny P md ops Q f done a w
  | 0, _, _, _, _, hw, h => ⟨h.1, hK _ _ _ hw h.2⟩
  | f + 1, done, a, w, hcl, hw, h => by
    refine ⟨fun h0 => hK _ _ _ hw (h.1 h0), fun i hi => ?_⟩
    obtain ⟨hun, oi, hoi, hall⟩ := mem_ready.1 hi
    refine calmOp_sound (phase_off hun) (fun f t hw => calmReady_of hcl f i t (fun o ho => by rw [hoi] at ho; cases ho; exact hall) hw) hw (fun a' w' hw' h' => calmAny_sound hK f _ a' w' (closed_next hcl hi) ?_ h') (h.2 i hi)
    rw [phase_set hun]
    exact hw'

/-- What the walk shows of one operation. -/
def calmYields (P : Program) (md : Region.Mode) (ops : Array Oper) (C : (Nat → Bool) → World → Prop) (i : Nat) (o : Oper) (v : Value) (a : Act) : Prop :=
  (Region.wanted o (yielded ops a.tmps) = true ∧ calmGood P md ops C i o a v) ∨ (Region.wanted o (yielded ops a.tmps) = false ∧ calmSkip md ops C i ∧ v = undef)

theorem calmYields.op {i : Nat} {o : Oper} {v : Value} {a : Act} (ho : ops[i]? = some o) (hy : calmYields P md ops C i o v a) {K : Act → Prop} (h : K (a.put o.dst v)) : calmOp P md ops C i K a := by
  unfold calmOp
  simp only [ho]
  rcases hy with ⟨hw, hg⟩ | ⟨hw, hs, rfl⟩
  · simp only [hw, if_true]; exact ⟨v, hg, h⟩
  · simp only [hw, Bool.false_eq_true, if_false]; exact ⟨hs, h⟩

theorem calmYields.same {i : Nat} {o : Oper} {v : Value} {a a' : Act} (hy : calmYields P md ops C i o v a) (he : execOp a'.eval o = execOp a.eval o) (hw : Region.wanted o (yielded ops a'.tmps) = Region.wanted o (yielded ops a.tmps)) : calmYields P md ops C i o v a' := by
  unfold calmYields calmGood calmAt at *
  rw [he, hw]
  exact hy

theorem calmOp_put {i j : Nat} {o u : Oper} {v : Value} (hu : ops[j]? = some u) (hap : o.apart ops u = true) (hso : ∀ cs b, o.op ≠ .select cs b) (hsu : ∀ cs b, u.op ≠ .select cs b) {K : Act → Prop} {a : Act}
    (hy : calmYields P md ops C i o v a) (h : calmOp P md ops C j K (a.put o.dst v)) : calmOp P md ops C j (fun a' => calmYields P md ops C i o v a' ∧ K (a'.put o.dst v)) a := by
  obtain ⟨h1, h2, h3⟩ := Oper.apart_spec hap
  have keep : ∀ x, calmYields P md ops C i o v (a.put u.dst x) := fun x => hy.same (execOp_put o hso a u.dst x h3) (wanted_put o a u.dst x h3)
  have e1 := execOp_put u hsu a o.dst v h1
  have e2 := wanted_put u a o.dst v h1
  unfold calmOp at *
  simp only [hu] at *
  rw [e2] at h
  by_cases hw : Region.wanted u (yielded ops a.tmps) = true
  · simp only [hw, if_true] at h ⊢
    obtain ⟨x, hx, hn⟩ := h
    refine ⟨x, ?_, keep x, by rw [← Act.put_comm a v x h2]; exact hn⟩
    unfold calmGood calmAt at *
    rw [e1] at hx
    exact hx
  · simp only [hw] at h ⊢
    exact ⟨h.1, keep undef, by rw [← Act.put_comm a v undef h2]; exact h.2⟩

/-- An operation that may come up now, and is apart from all that need not wait for it, may be taken first. -/
theorem calmAny_first {K : Array Bool → Act → Prop} {i : Nat} {o : Oper} {v : Value} (ho : ops[i]? = some o) (hsel : ∀ (j : Nat) (u : Oper) cs b, ops[j]? = some u → u.op ≠ .select cs b) :
    ∀ (f : Nat) (done : Array Bool) (a : Act),
      (∀ j u, ops[j]? = some u → j ≠ i → done.getD j true = false → (∀ e ∈ u.after, Region.binds md e = true → e.on ≠ i) → o.apart ops u = true) →
      i ∈ Region.ready md ops done → calmYields P md ops C i o v a → calmAny P md ops C K f (done.setIfInBounds i true) (a.put o.dst v) → calmAny P md ops C K (f + 1) done a := by
  intro f
  induction f with
  | zero =>
    intro done a _ hr hy H
    refine ⟨(fun h => by rw [h] at hr; cases hr), fun j hj => ?_⟩
    rcases Nat.decEq j i with hji | hji
    · have h0 := ready_mono hj hji
      rw [H.1] at h0
      cases h0
    · subst hji
      exact hy.op ho H
  | succ f ih =>
    intro done a hfree hr hy H
    refine ⟨(fun h => by rw [h] at hr; cases hr), fun j hj => ?_⟩
    rcases Nat.decEq j i with hji | hji
    · obtain ⟨hjun, u, hu, hall⟩ := mem_ready.1 hj
      have hno : ∀ e ∈ u.after, Region.binds md e = true → e.on ≠ i := fun e he hb heq => by
        have h1 := hall e he hb
        have h2 := phase_off (mem_ready.1 hr).1
        rw [heq] at h1
        unfold phase at h2
        rw [h1] at h2
        cases h2
      refine calmOp_mono (fun a' h3 => ?_) (calmOp_put hu (hfree j u hu hji hjun hno) (fun cs b => hsel i o cs b ho) (fun cs b => hsel j u cs b hu) hy (H.2 j (ready_mono hj hji)))
      refine ih (done.setIfInBounds j true) a' (fun k uk hk hki hun hn' => hfree k uk hk hki ?_ hn') (ready_mono hr (Ne.symm hji)) h3.1 ?_
      · rcases Nat.decEq j k with hjk | hjk
        · rw [getD_set_ne true hjk] at hun; exact hun
        · subst hjk; exact hjun
      · rw [Array.setIfInBounds_comm _ _ hji]; exact h3.2
    · subst hji
      exact hy.op ho H

theorem calmAny_lex {K : Act → Prop} (hs : Region.noSelect ops = true) : ∀ (l : List Oper) (k : Nat) (done : Array Bool) (a : Act), (∀ j, l[j]? = ops[k + j]?) → (∀ j, j < k → done.getD j false = true) → done.size = ops.size →
    Region.lexFrom md ops l.length k done = true → calmWalk P md ops C K k l a → calmAny P md ops C (fun done' a' => (∀ j, j < ops.size → done'.getD j false = true) ∧ done'.size = ops.size ∧ K a') l.length done a
  | [], k, done, a, hl, hd, hz, hB, h => by
    refine ⟨by simpa [Region.lexFrom] using hB, fun j hj => hd j ?_, hz, h⟩
    rcases Nat.lt_or_ge j k with h' | h'
    · exact h'
    · have h0 := hl (j - k)
      rw [show k + (j - k) = j by omega] at h0
      simp [hj] at h0
  | o :: l, k, done, a, hl, hd, hz, hB, h => by
    have ho : ops[k]? = some o := by simpa using (hl 0).symm
    simp only [List.length_cons, Region.lexFrom, Bool.and_eq_true] at hB
    have hr : k ∈ Region.ready md ops done := by simpa using hB.1.1
    have hlt : k < ops.size := (Array.getElem?_eq_some_iff.1 ho).1
    have hnext : ∀ v, calmYields P md ops C k o v a → calmWalk P md ops C K (k + 1) l (a.put o.dst v) → calmAny P md ops C (fun done' a' => (∀ j, j < ops.size → done'.getD j false = true) ∧ done'.size = ops.size ∧ K a') (l.length + 1) done a := fun v hy hK => by
      refine calmAny_first ho (Region.noSelect_spec hs) l.length done a (Region.free_spec ho hB.1.2) hr hy ?_
      refine calmAny_lex hs l (k + 1) _ _ (fun j => by have := hl (j + 1); simpa [Nat.add_assoc, Nat.add_comm 1 j] using this) (fun j hj => ?_) (by simpa using hz) hB.2 hK
      rcases Nat.decEq j k with hjk | hjk
      · exact getD_set_true (hd j (by omega))
      · subst hjk
        simp [hz, hlt]
    unfold calmWalk at h
    by_cases hw : Region.wanted o (yielded ops a.tmps) = true
    · simp only [hw, if_true] at h
      obtain ⟨v, h1, h2⟩ := h
      exact hnext v (.inl ⟨hw, h1⟩) h2
    · simp only [hw] at h
      exact hnext undef (.inr ⟨by simpa using hw, h.1, rfl⟩) h.2

/-- THE LAW. -/
theorem wp_region_calm {id : Nat} {Q : Exit → Act → World → Prop} {a : Act} {w : World} {l : List Oper} (C : (Nat → Bool) → World → Prop) (hm : P.follows .mixedOrders = true) (hB : Region.lexB .any l.toArray = true) (hC : C (fun _ => false) w.drew)
    (h : calmWalk P .any l.toArray C (fun a' => ∀ w', C (fun j => decide (j < l.length)) w' → Q .normal a' w') 0 l a) : (Code.region id l.toArray true).wp P Q a w := by
  simp only [Region.lexB, Bool.and_eq_true] at hB
  refine wp_region_any hm ?_
  have h0 := calmAny_lex (md := .any) hB.1 l 0 (Array.replicate l.toArray.size false) a (by simp) (fun j hj => by omega) (by simp) (by simpa using hB.2) h
  refine calmAny_sound (K := fun done' a' => (∀ j, j < l.toArray.size → done'.getD j false = true) ∧ done'.size = l.toArray.size ∧ ∀ w', C (fun j => decide (j < l.length)) w' → Q .normal a' w') ?_ _ _ _ _ ?_ ?_ (by simpa using h0)
  · intro done a' w' hC' ⟨hd, hz, hQ⟩
    refine hQ w' ?_
    have e : phase done = fun j => decide (j < l.length) := by
      funext j
      unfold phase
      rcases Nat.lt_or_ge j l.length with h' | h'
      · rw [hd j (by simpa using h')]; simp [h']
      · have h'' : ¬ j < l.length := by omega
        simp [h'', hz]
    rw [← e]
    exact hC'
  · intro j u hu hj
    exfalso
    unfold phase at hj
    rcases Nat.lt_or_ge j l.toArray.size with h' | h'
    · simp at h'; simp [h'] at hj
    · simp at h'; simp [h'] at hj
  · have e : phase (Array.replicate l.toArray.size false) = fun _ => false := by
      funext j
      unfold phase
      rcases Nat.lt_or_ge j l.toArray.size with h' | h'
      · simp at h'; simp [h']
      · simp at h'; simp [h']
    rw [e]
    exact hC

/-! ### A chain of writers -/
variable {B : Nat → World → Prop} {cs : List Nat} {dl : List (Nat × Nat)} {K : Act → Prop} {i : Nat} {o : Oper} {rest : List Oper} {a : Act}
/-- The class: k writers have come up, in their order; the loads that a writer waits for came before it. -/
def chainC (B : Nat → World → Prop) (cs : List Nat) (dl : List (Nat × Nat)) : (Nat → Bool) → World → Prop := fun φ w =>
  ∃ k, k ≤ cs.length ∧ (∀ j, j < cs.length → φ (cs.getD j 0) = decide (j < k)) ∧ B k w ∧ (∀ x ∈ dl, x.2 ≤ k → φ x.1 = true)
/-- What the region's edges must show: each writer waits for the one before it, and for the loads whose time ends with it. -/
def chainOk (md : Region.Mode) (ops : Array Oper) (cs : List Nat) (dl : List (Nat × Nat)) : Bool :=
  (List.range cs.length).all (fun j => (decide (j = 0) || waits md ops ops.size (cs.getD j 0) (cs.getD (j - 1) 0)) && dl.all (fun x => decide (x.2 ≠ j + 1) || waits md ops ops.size (cs.getD j 0) x.1)) && dl.all (fun x => decide (0 < x.2))

theorem calmAt_mono {D D' : World → Prop} {w : World} {v : Value} (h : calmAt P o a D w v) (hd : ∀ w', D w' → D' w') : calmAt P o a D' w v := by
  unfold calmAt at *
  generalize (execOp a.eval o).run P w = r at *
  cases r with
  | halt x w' => exact h
  | ok n w' =>
    cases n <;> simp only [calmUpon] at *
    case value u => exact ⟨h.1, hd _ h.2⟩
    case skip => exact ⟨h.1, hd _ h.2⟩
    case enter f args => exact h.mono fun e w'' ⟨he, h4⟩ => ⟨he, hd _ h4⟩
theorem bump_self (φ : Nat → Bool) (i : Nat) : bump φ i i = true := by simp [bump]
theorem bump_true {φ : Nat → Bool} {i j : Nat} (h : φ j = true) : bump φ i j = true := by simp [bump, h]
theorem bump_ne {φ : Nat → Bool} {i j : Nat} (h : j ≠ i) : bump φ i j = φ j := by simp [bump, h]

theorem calm_step {C : (Nat → Bool) → World → Prop} (hw : Region.wanted o (yielded ops a.tmps) = true) (H : ∃ v, (∀ φ w, φ i = false → calmReady md ops i φ → C φ w → calmAt P o a (C (bump φ i)) w v) ∧ calmWalk P md ops C K (i + 1) rest (a.put o.dst v)) :
    calmWalk P md ops C K i (o :: rest) a := by
  obtain ⟨v, h, hk⟩ := H
  unfold calmWalk
  rw [if_pos hw]
  exact ⟨v, h, hk⟩
theorem calm_nil {C : (Nat → Bool) → World → Prop} (h : K a) : calmWalk P md ops C K i [] a := h
theorem getD_mem {l : List Nat} {j : Nat} (h : j < l.length) : l.getD j 0 ∈ l := by
  simp [List.getD, h]
theorem chainC_bump {φ : Nat → Bool} {w : World} {i : Nat} (hi : cs.contains i = false) (h : chainC B cs dl φ w) : chainC B cs dl (bump φ i) w := by
  obtain ⟨k, h1, h2, h3, h4⟩ := h
  refine ⟨k, h1, fun j hj => ?_, h3, fun x hx hk => bump_true (h4 x hx hk)⟩
  rw [bump_ne (fun e => ?_)]
  · exact h2 j hj
  · have hm := getD_mem hj
    rw [e] at hm
    simp [hm] at hi
theorem chain_skip (hw : Region.wanted o (yielded ops a.tmps) = false) (hi : cs.contains i = false) (hk : calmWalk P md ops (chainC B cs dl) K (i + 1) rest (a.put o.dst undef)) :
    calmWalk P md ops (chainC B cs dl) K i (o :: rest) a := by
  unfold calmWalk
  rw [hw, if_neg (by decide)]
  exact ⟨fun φ w _ _ hC => chainC_bump hi hC, hk⟩
theorem chain_pure (hw : Region.wanted o (yielded ops a.tmps) = true) (hi : cs.contains i = false) (H : ∃ v, (∀ w, calmAt P o a (fun w' => w' = w) w v) ∧ calmWalk P md ops (chainC B cs dl) K (i + 1) rest (a.put o.dst v)) :
    calmWalk P md ops (chainC B cs dl) K i (o :: rest) a := by
  obtain ⟨v, h, hk⟩ := H
  exact calm_step hw ⟨v, fun φ w _ _ hC => calmAt_mono (h w) (fun w' e => by subst e; exact chainC_bump hi hC), hk⟩
theorem chain_load (hw : Region.wanted o (yielded ops a.tmps) = true) (hi : cs.contains i = false) (d : Nat) (hd : (i, d) ∈ dl) (H : ∃ v, (∀ k w, k < d → B k w → calmAt P o a (fun w' => w' = w) w v) ∧ calmWalk P md ops (chainC B cs dl) K (i + 1) rest (a.put o.dst v)) :
    calmWalk P md ops (chainC B cs dl) K i (o :: rest) a := by
  obtain ⟨v, h, hk⟩ := H
  refine calm_step hw ⟨v, fun φ w hφ _ hC => ?_, hk⟩
  have hC' := hC
  obtain ⟨k, h1, h2, h3, h4⟩ := hC'
  have hkd : k < d := by
    rcases Nat.lt_or_ge k d with h' | h'
    · exact h'
    · have := h4 _ hd h'
      rw [hφ] at this
      cases this
  exact calmAt_mono (h k w hkd h3) (fun w' e => by subst e; exact chainC_bump hi hC)
/-- A load or a call that changes nothing the class speaks of, at whatever time. -/
theorem chain_any (hw : Region.wanted o (yielded ops a.tmps) = true) (hi : cs.contains i = false) (H : ∃ v, (∀ k w, B k w → calmAt P o a (B k) w v) ∧ calmWalk P md ops (chainC B cs dl) K (i + 1) rest (a.put o.dst v)) :
    calmWalk P md ops (chainC B cs dl) K i (o :: rest) a := by
  obtain ⟨v, h, hk⟩ := H
  refine calm_step hw ⟨v, fun φ w _ _ hC => ?_, hk⟩
  obtain ⟨k, h1, h2, h3, h4⟩ := hC
  refine calmAt_mono (h k w h3) (fun w' hB => ?_)
  have hC : chainC B cs dl φ w' := ⟨k, h1, h2, hB, h4⟩
  exact chainC_bump hi hC
theorem chain_write (hOk : chainOk md ops cs dl = true) (hw : Region.wanted o (yielded ops a.tmps) = true) (j : Nat) (hj : cs[j]? = some i) (hnd : (List.range cs.length).all (fun m => decide (m = j) || cs.getD m 0 != i) = true)
    (H : ∃ v, (∀ w, B j w → calmAt P o a (B (j + 1)) w v) ∧ calmWalk P md ops (chainC B cs dl) K (i + 1) rest (a.put o.dst v)) :
    calmWalk P md ops (chainC B cs dl) K i (o :: rest) a := by
  obtain ⟨v, h, hk⟩ := H
  refine calm_step hw ⟨v, fun φ w hφ hr hC => ?_, hk⟩
  have hjl : j < cs.length := (List.getElem?_eq_some_iff.1 hj).1
  have hjd : cs.getD j 0 = i := by simp [List.getD, hj]
  obtain ⟨k, h1, h2, h3, h4⟩ := hC
  simp only [chainOk, Bool.and_eq_true, List.all_eq_true, List.mem_range, Bool.or_eq_true, decide_eq_true_eq] at hOk
  have hO := hOk.1 j hjl
  have hkj : k = j := by
    have e1 := h2 j hjl
    rw [hjd, hφ] at e1
    have e2 : ¬ j < k := by simpa using e1.symm
    rcases Nat.eq_zero_or_pos j with h0 | h0
    · omega
    · have e3 : φ (cs.getD (j - 1) 0) = true := by
        rcases hO.1 with h5 | h5
        · omega
        · rw [hjd] at h5; exact hr _ _ h5
      rw [h2 (j - 1) (by omega)] at e3
      have e4 : j - 1 < k := by simpa using e3
      omega
  subst hkj
  refine calmAt_mono (h w h3) (fun w' hB => ?_)
  refine ⟨k + 1, hjl, fun m hm => ?_, hB, fun x hx hxk => ?_⟩
  · simp only [List.all_eq_true, List.mem_range, Bool.or_eq_true, decide_eq_true_eq, bne_iff_ne] at hnd
    rcases hnd m hm with hmk | hmk
    · subst hmk
      rw [hjd, bump_self]
      simp
    · rw [bump_ne hmk, h2 m hm]
      have hne : m ≠ k := fun e => hmk (by rw [e, hjd])
      rw [Bool.eq_iff_iff]
      simp only [decide_eq_true_eq]
      omega
  · rcases Nat.lt_or_ge k x.2 with h5 | h5
    · have hx2 : x.2 = k + 1 := by omega
      rcases hO.2 x hx with h6 | h6
      · exact absurd hx2 h6
      · rw [hjd] at h6
        exact bump_true (hr _ _ h6)
    · exact bump_true (h4 x hx h5)
theorem chainC_start {w : World} (h0 : B 0 w) (hOk : chainOk md ops cs dl = true) : chainC B cs dl (fun _ => false) w := by
  simp only [chainOk, Bool.and_eq_true, List.all_eq_true, decide_eq_true_eq] at hOk
  refine ⟨0, Nat.zero_le _, fun j _ => by simp, h0, fun x hx h => ?_⟩
  have := hOk.2 x hx
  omega
theorem chainC_end {w : World} {n : Nat} (hn : cs.all (fun c => decide (c < n)) = true) (h : chainC B cs dl (fun j => decide (j < n)) w) : B cs.length w := by
  obtain ⟨k, h1, h2, h3, _⟩ := h
  rcases Nat.lt_or_ge k cs.length with h' | h'
  · have e : decide (cs.getD k 0 < n) = decide (k < k) := h2 k h'
    have hm := List.all_eq_true.1 hn _ (getD_mem h')
    rw [hm] at e
    simp at e
  · have : k = cs.length := by omega
    rw [this] at h3
    exact h3
/-- THE LAW for a chain of writers. -/
theorem wp_region_chain {id : Nat} {Q : Exit → Act → World → Prop} {w : World} {l : List Oper} (B : Nat → World → Prop) (cs : List Nat) (dl : List (Nat × Nat)) (hm : P.follows .mixedOrders = true) (hB : Region.lexB .any l.toArray = true)
    (hOk : chainOk .any l.toArray cs dl = true) (hn : cs.all (fun c => decide (c < l.length)) = true) (h0 : B 0 w.drew)
    (h : calmWalk P .any l.toArray (chainC B cs dl) (fun a' => ∀ w', B cs.length w' → Q .normal a' w') 0 l a) : (Code.region id l.toArray true).wp P Q a w := by
  refine wp_region_calm (chainC B cs dl) hm hB (chainC_start h0 hOk) ?_
  have mono : ∀ (l' : List Oper) (i : Nat) (a : Act), calmWalk P .any l.toArray (chainC B cs dl) (fun a' => ∀ w', B cs.length w' → Q .normal a' w') i l' a → calmWalk P .any l.toArray (chainC B cs dl) (fun a' => ∀ w', chainC B cs dl (fun j => decide (j < l.length)) w' → Q .normal a' w') i l' a := by
    intro l'
    induction l' with
    | nil => exact fun i a h w' hw => h w' (chainC_end hn hw)
    | cons o rest ih =>
      intro i a h
      unfold calmWalk at h ⊢
      split at h
      · rename_i hw
        rw [if_pos hw]
        obtain ⟨v, h1, h2⟩ := h
        exact ⟨v, h1, ih _ _ h2⟩
      · rename_i hw
        rw [if_neg hw]
        exact ⟨h.1, ih _ _ h.2⟩
  exact mono l 0 a h
end
end Go.Proofs.Ytiindnmelegkgaa
