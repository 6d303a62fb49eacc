/- Regions that draw their order, in which each operation leaves what was there: one walk of the text's order; within a round, too. -/
import Derived.Test.YtiindnmelegkgaaChain
import Derived.OrdersIn
import Derived.RangeFuncCalls
import Derived.TacticsIn
namespace Go.Proofs.Ytiindnmelegkgaa
open Go.RowKit

section
variable {P : Program} {ops : Array Oper} {md : Region.Mode} {C : (Nat → Bool) → World → Prop}

/-- No operation is a defer statement. -/
def noDefer (ops : Array Oper) : Bool := ops.all fun o => match o.op with
  | .defer _ => false
  | _ => true
theorem noDefer_spec (h : noDefer ops = true) {i : Nat} {o : Oper} (ho : ops[i]? = some o) : ∀ c, o.op ≠ .defer c := by
  intro c e
  obtain ⟨hi, rfl⟩ := Array.getElem?_eq_some_iff.1 ho
  have := (Array.all_eq_true.1 h) i hi
  rw [e] at this
  cases this

theorem calmOp_soundIn {l n : Nat} {Q : Exit → Act → World → Prop} {i : Nat} {a : Act} {w : World} {φ : Nat → Bool} {K : Act → Prop} {K' : Act → World → Prop} (hnd : noDefer ops = true) (hφ : φ i = false) (hr : calmReady md ops i φ) (hC : C φ w)
    (hK : ∀ a' w', C (bump φ i) w' → K a' → K' a' w') (h : calmOp P md ops C i K a) : wpOpIn (Fence.wide.inRound l) n P ops Q i K' a w := by
  unfold calmOp at h
  unfold wpOpIn
  cases ho : ops[i]? with
  | none => simp only [ho] at h
  | some o =>
    simp only [ho] at h ⊢
    by_cases hw : Region.wanted o (yielded ops a.tmps) = true
    · simp only [hw, if_true] at h ⊢
      obtain ⟨v, h1, h2⟩ := h
      have h3 := h1 φ w hφ hr hC
      unfold calmAt at h3
      refine ⟨fun _ _ => trivial, ?_⟩
      rw [Fence.inRound_round, Oper.semAt_some l _ _ (noDefer_spec hnd ho)]
      generalize (execOp a.eval o).run P w = r at *
      cases r with
      | ok n w' =>
        cases n <;> simp only [calmUpon] at h3 <;> simp only [Oper.uponIn]
        case value u =>
          obtain ⟨rfl, h4⟩ := h3
          exact hK _ _ h4 h2
        case skip =>
          obtain ⟨rfl, h4⟩ := h3
          exact hK _ _ h4 h2
        case enter f args =>
          refine ⟨fun h => by simp [Fence.inRound, Fence.wide] at h, CallsIn.inRound l (callsIn_wide.2 (h3.mono fun e w'' ⟨he, h4⟩ => ?_))⟩
          subst he
          exact hK _ _ h4 h2
      | halt x w' => simp only [calmUpon] at h3
    · simp only [hw] at h ⊢
      exact ⟨fun _ _ => trivial, hK _ _ (h.1 φ w hφ hr hC) h.2⟩

theorem calmAny_soundIn {l n : Nat} {Q : Exit → Act → World → Prop} {K : Array Bool → Act → Prop} (hnd : noDefer ops = true) (hK : ∀ done a w, C (phase done) w → K done a → Q .normal a w) :
    ∀ (f : Nat) (done : Array Bool) (a : Act) (w : World), closedAt md ops (phase done) → C (phase done) w → calmAny P md ops C K f done a → wpAnyIn (Fence.wide.inRound l) n P md ops Q f done a w
  | 0, _, _, _, _, hw, h => ⟨h.1, hK _ _ _ hw h.2⟩
  | f + 1, done, a, w, hcl, hw, h => by
    refine ⟨fun h0 => hK _ _ _ hw (h.1 h0), fun i hi => ?_⟩
    obtain ⟨hun, oi, hoi, hall⟩ := mem_ready.1 hi
    refine calmOp_soundIn hnd (phase_off hun) (fun f t hw => calmReady_of hcl f i t (fun o ho => by rw [hoi] at ho; cases ho; exact hall) hw) hw (fun a' w' hw' h' => calmAny_soundIn hnd hK f _ a' w' (closed_next hcl hi) ?_ h') (h.2 i hi)
    rw [phase_set hun]
    exact hw'

/-- THE LAW, within a round. -/
theorem wpIn_region_calm {r n : Nat} {id : Nat} {Q : Exit → Act → World → Prop} {a : Act} {w : World} {l : List Oper} (C : (Nat → Bool) → World → Prop) (hm : P.follows .mixedOrders = true) (hB : Region.lexB .any l.toArray = true) (hnd : noDefer l.toArray = true) (hC : C (fun _ => false) w.drew)
    (h : calmWalk P .any l.toArray C (fun a' => ∀ w', C (fun j => decide (j < l.length)) w' → Q .normal a' w') 0 l a) : (Code.region id l.toArray true).wpIn (Fence.wide.inRound r) n P Q a w := by
  simp only [Region.lexB, Bool.and_eq_true] at hB
  refine wpIn_region_any hm ?_
  have h0 := calmAny_lex (md := .any) hB.1 l 0 (Array.replicate l.toArray.size false) a (by simp) (fun j hj => by omega) (by simp) (by simpa using hB.2) h
  refine calmAny_soundIn (K := fun done' a' => (∀ j, j < l.toArray.size → done'.getD j false = true) ∧ done'.size = l.toArray.size ∧ ∀ w', C (fun j => decide (j < l.length)) w' → Q .normal a' w') hnd ?_ _ _ _ _ ?_ ?_ (by simpa using h0)
  · intro done a' w' hC' ⟨hd, hz, hQ⟩
    refine hQ w' ?_
    have e : phase done = fun j => decide (j < l.length) := by
      funext j
      unfold phase
      rcases Nat.lt_or_ge j l.length with h' | h'
      · rw [hd j (by simpa using h')]; simp [h']
      · have h'' : ¬ j < l.length := by omega
        simp [h'', hz]
    rw [← e]
    exact hC'
  · intro j u hu hj
    exfalso
    unfold phase at hj
    rcases Nat.lt_or_ge j l.toArray.size with h' | h'
    · simp at h'; simp [h'] at hj
    · simp at h'; simp [h'] at hj
  · have e : phase (Array.replicate l.toArray.size false) = fun _ => false := by
      funext j
      unfold phase
      rcases Nat.lt_or_ge j l.toArray.size with h' | h'
      · simp at h'; simp [h']
      · simp at h'; simp [h']
    rw [e]
    exact hC

variable {K : Act → Prop} {i : Nat} {o : Oper} {rest : List Oper} {a : Act}
theorem chain_mono {n : Nat} {B : Nat → World → Prop} {cs : List Nat} {dl : List (Nat × Nat)} {Q : Act → World → Prop} (hn : cs.all (fun c => decide (c < n)) = true) : ∀ (l' : List Oper) (i : Nat) (a : Act), calmWalk P md ops (chainC B cs dl) (fun a' => ∀ w', B cs.length w' → Q a' w') i l' a →
    calmWalk P md ops (chainC B cs dl) (fun a' => ∀ w', chainC B cs dl (fun j => decide (j < n)) w' → Q a' w') i l' a := by
  intro l'
  induction l' with
  | nil => exact fun i a h w' hw => h w' (chainC_end hn hw)
  | cons o rest ih =>
    intro i a h
    unfold calmWalk at h ⊢
    split at h
    · rename_i hw
      rw [if_pos hw]
      obtain ⟨v, h1, h2⟩ := h
      exact ⟨v, h1, ih _ _ h2⟩
    · rename_i hw
      rw [if_neg hw]
      exact ⟨h.1, ih _ _ h.2⟩
/-- THE LAW for a chain of writers, within a round. -/
theorem wpIn_region_chain {r n : Nat} {id : Nat} {Q : Exit → Act → World → Prop} {w : World} {l : List Oper} (B : Nat → World → Prop) (cs : List Nat) (dl : List (Nat × Nat)) (hm : P.follows .mixedOrders = true) (hB : Region.lexB .any l.toArray = true) (hnd : noDefer l.toArray = true)
    (hOk : chainOk .any l.toArray cs dl = true) (hn : cs.all (fun c => decide (c < l.length)) = true) (h0 : B 0 w.drew)
    (h : calmWalk P .any l.toArray (chainC B cs dl) (fun a' => ∀ w', B cs.length w' → Q .normal a' w') 0 l a) : (Code.region id l.toArray true).wpIn (Fence.wide.inRound r) n P Q a w :=
  wpIn_region_calm (chainC B cs dl) hm hB hnd (chainC_start h0 hOk) (chain_mono (Q := fun a' w' => Q .normal a' w') hn l 0 a h)

/-- The worlds that have grown out of W. -/
def growC (W : World) : (Nat → Bool) → World → Prop := fun _ w => Below W.heap.size W w
theorem grow_step {W : World} (hw : Region.wanted o (yielded ops a.tmps) = true) (H : ∃ v, (∀ w, Below W.heap.size W w → calmAt P o a (fun w' => Below W.heap.size W w') w v) ∧ calmWalk P md ops (growC W) K (i + 1) rest (a.put o.dst v)) :
    calmWalk P md ops (growC W) K i (o :: rest) a := by
  obtain ⟨v, h1, h2⟩ := H
  exact calm_step hw ⟨v, fun φ w _ _ hC => h1 w hC, h2⟩
theorem grow_skip {W : World} (hw : Region.wanted o (yielded ops a.tmps) = false) (h : calmWalk P md ops (growC W) K (i + 1) rest (a.put o.dst undef)) :
    calmWalk P md ops (growC W) K i (o :: rest) a := by
  unfold calmWalk
  rw [if_neg (by rw [hw]; decide)]
  exact ⟨fun φ w _ _ hC => hC, h⟩
theorem wp_region_grow {id : Nat} {Q : Exit → Act → World → Prop} {w : World} {l : List Oper} (hm : P.follows .mixedOrders = true) (hB : Region.lexB .any l.toArray = true)
    (h : calmWalk P .any l.toArray (growC w) (fun a' => ∀ w', Below w.heap.size w w' → Q .normal a' w') 0 l a) : (Code.region id l.toArray true).wp P Q a w :=
  wp_region_calm (growC w) hm hB ⟨rfl, rfl, rfl, Nat.le_refl _, fun _ _ => rfl⟩ h
theorem wpIn_region_grow {r n : Nat} {id : Nat} {Q : Exit → Act → World → Prop} {w : World} {l : List Oper} (hm : P.follows .mixedOrders = true) (hB : Region.lexB .any l.toArray = true) (hnd : noDefer l.toArray = true)
    (h : calmWalk P .any l.toArray (growC w) (fun a' => ∀ w', Below w.heap.size w w' → Q .normal a' w') 0 l a) : (Code.region id l.toArray true).wpIn (Fence.wide.inRound r) n P Q a w :=
  wpIn_region_calm (growC w) hm hB hnd ⟨rfl, rfl, rfl, Nat.le_refl _, fun _ _ => rfl⟩ h
end
end Go.Proofs.Ytiindnmelegkgaa
