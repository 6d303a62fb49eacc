/- Barriers within the wide fence. -/
import Derived.Test.YtiindnmelegkgaaBar
namespace Go.Proofs.Ytiindnmelegkgaa
open Go.RowKit
set_option linter.unusedSimpArgs false
set_option linter.unusedVariables false

section
variable {P : Program} {ops : Array Oper} {md : Region.Mode} {C : (Nat → Bool) → World → Prop}

theorem calmOp_soundW {n : Nat} {Q : Exit → Act → World → Prop} {i : Nat} {a : Act} {w : World} {φ : Nat → Bool} {K : Act → Prop} {K' : Act → World → Prop} (hnd : noDefer ops = true) (hφ : φ i = false) (hr : calmReady md ops i φ) (hC : C φ w)
    (hK : ∀ a' w', C (bump φ i) w' → K a' → K' a' w') (h : calmOp P md ops C i K a) : wpOpIn Fence.wide n P ops Q i K' a w := by
  unfold calmOp at h
  unfold wpOpIn
  cases ho : ops[i]? with
  | none => simp only [ho] at h
  | some o =>
    simp only [ho] at h ⊢
    by_cases hw : Region.wanted o (yielded ops a.tmps) = true
    · simp only [hw, if_true] at h ⊢
      obtain ⟨v, h1, h2⟩ := h
      have h3 := h1 φ w hφ hr hC
      unfold calmAt at h3
      refine ⟨fun _ _ => trivial, ?_⟩
      rw [show Fence.wide.round = none from rfl, Oper.semAt_none]
      generalize (execOp a.eval o).run P w = r at *
      cases r with
      | ok n w' =>
        cases n <;> simp only [calmUpon] at h3 <;> simp only [Oper.uponIn]
        case value u =>
          obtain ⟨rfl, h4⟩ := h3
          exact hK _ _ h4 h2
        case skip =>
          obtain ⟨rfl, h4⟩ := h3
          exact hK _ _ h4 h2
        case enter f args =>
          refine ⟨fun h => (by simp [Fence.wide] at h), callsIn_wide.2 (h3.mono fun e w'' ⟨he, h4⟩ => ?_)⟩
          subst he
          exact hK _ _ h4 h2
      | halt x w' => simp only [calmUpon] at h3
    · simp only [hw] at h ⊢
      exact ⟨fun _ _ => trivial, hK _ _ (h.1 φ w hφ hr hC) h.2⟩

theorem calmAny_soundW {n : Nat} {Q : Exit → Act → World → Prop} {K : Array Bool → Act → Prop} (hnd : noDefer ops = true) (hK : ∀ done a w, C (phase done) w → K done a → Q .normal a w) :
    ∀ (f : Nat) (done : Array Bool) (a : Act) (w : World), closedAt md ops (phase done) → C (phase done) w → calmAny P md ops C K f done a → wpAnyIn Fence.wide n P md ops Q f done a w
  | 0, _, _, _, _, hw, h => ⟨h.1, hK _ _ _ hw h.2⟩
  | f + 1, done, a, w, hcl, hw, h => by
    refine ⟨fun h0 => hK _ _ _ hw (h.1 h0), fun i hi => ?_⟩
    obtain ⟨hun, oi, hoi, hall⟩ := mem_ready.1 hi
    refine calmOp_soundW hnd (phase_off hun) (fun f t hw => calmReady_of hcl f i t (fun o ho => by rw [hoi] at ho; cases ho; exact hall) hw) hw (fun a' w' hw' h' => calmAny_soundW hnd hK f _ a' w' (closed_next hcl hi) ?_ h') (h.2 i hi)
    rw [phase_set hun]
    exact hw'

theorem calmAnyT_soundW {Q : Exit → Act → World → Prop} {K : Array Bool → Act → Prop} {m n : Nat} (hnd : noDefer ops = true) (hK : ∀ done a w, C (phase done) w → closedAt md ops (phase done) → K done a → wpAnyIn Fence.wide n P md ops Q m done a w) :
    ∀ (f : Nat) (done : Array Bool) (a : Act) (w : World), closedAt md ops (phase done) → C (phase done) w → calmAnyT P md ops C K f done a → wpAnyIn Fence.wide n P md ops Q (f + m) done a w
  | 0, done, a, w, hcl, hw, h => by rw [Nat.zero_add]; exact hK done a w hw hcl h
  | f + 1, done, a, w, hcl, hw, h => by
    rw [show f + 1 + m = (f + m) + 1 by omega]
    refine ⟨fun h0 => absurd h0 h.1, fun i hi => ?_⟩
    obtain ⟨hun, oi, hoi, hall⟩ := mem_ready.1 hi
    refine calmOp_soundW hnd (phase_off hun) (fun f t hw => calmReady_of hcl f i t (fun o ho => by rw [hoi] at ho; cases ho; exact hall) hw) hw (fun a' w' hw' h' => calmAnyT_soundW hnd hK f _ a' w' (closed_next hcl hi) ?_ h') (h.2 i hi)
    rw [phase_set hun]
    exact hw'

/-- THE CALM PART AHEAD OF A BARRIER. -/
theorem wpAnyIn_ahead {Q : Exit → Act → World → Prop} {a : Act} {w : World} {l : List Oper} (hl : LikeList ops l) (n : Nat) (is : List Nat) (c m : Nat) (C : (Nat → Bool) → World → Prop) (hs : Region.noSelect ops = true) (hnd : noDefer ops = true)
    (hin : is.all (fun i => decide (i < l.length)) = true) (hB : ordPre md ops is (Array.replicate ops.size false) = true) (hR : Region.ready md ops (setAll is (Array.replicate ops.size false)) = [c])
    (hwt : is.all (fun i => waits md ops ops.size c i) = true) (hC : C (fun _ => false) w)
    (h : calmWalkO P md ops C (fun a' => ∀ w', C (phase (setAll is (Array.replicate ops.size false))) w' → wpOpIn Fence.wide n P ops Q c (wpAnyIn Fence.wide n P md ops Q m (setAll (is ++ [c]) (Array.replicate ops.size false))) a' w') (pick l is) a) :
    wpAnyIn Fence.wide n P md ops Q (is.length + (m + 1)) (Array.replicate ops.size false) a w := by
  have hcl : closedAt md ops (phase (Array.replicate ops.size false)) := by
    intro j u hu hj
    exfalso
    unfold phase at hj
    rcases Nat.lt_or_ge j ops.size with h' | h'
    · simp [h'] at hj
    · simp [h'] at hj
  have e : phase (Array.replicate ops.size false) = fun _ => false := by
    funext j
    unfold phase
    rcases Nat.lt_or_ge j ops.size with h' | h'
    · simp [h']
    · simp [h']
  have h0 := calmAnyT_ord (md := md) (c := c) hs (pick l is) (Array.replicate ops.size false) a (like_pick hl is) (by simp) hcl (by rw [pick_map hin]; exact hR)
    (fun x hx => ⟨ops.size, by
      have : x.1 ∈ is := by
        have := List.mem_map_of_mem (f := (·.1)) hx
        rwa [pick_map hin] at this
      exact List.all_eq_true.1 hwt _ this⟩) (by rw [pick_map hin]; exact hB) h
  rw [pick_map hin, pick_len hin] at h0
  refine calmAnyT_soundW hnd (K := fun done' a' => done' = setAll is (Array.replicate ops.size false) ∧ _) ?_ _ _ _ _ hcl (by rw [e]; exact hC) h0
  rintro done a' w' hC' hcl' ⟨rfl, hK⟩
  have h1 := hK w' hC'
  refine ⟨fun h0 => (by rw [hR] at h0; cases h0), fun i hi => ?_⟩
  rw [hR] at hi
  have : i = c := by simpa using hi
  subst this
  have e2 : (setAll is (Array.replicate ops.size false)).setIfInBounds i true = setAll (is ++ [i]) (Array.replicate ops.size false) := by
    unfold setAll
    rw [List.foldl_append]
    rfl
  rw [e2]
  exact h1

/-- THE CALM PART BEHIND IT. -/
theorem wpAnyIn_behind {Q : Exit → Act → World → Prop} {a : Act} {w : World} {l : List Oper} (hl : LikeList ops l) (hz : ops.size = l.length) (n : Nat) (pre is : List Nat) (C : (Nat → Bool) → World → Prop) (hs : Region.noSelect ops = true) (hnd : noDefer ops = true)
    (hin : is.all (fun i => decide (i < l.length)) = true) (hpre : pre.all (fun i => decide (i < l.length)) = true) (hB : ordFrom md ops is (setAll pre (Array.replicate ops.size false)) = true) (hall : (List.range l.length).all (fun i => pre.contains i || is.contains i) = true)
    (hcl : ops.size = 0 ∨ (List.range ops.size).all (fun j => !(pre.contains j) || (match ops[j]? with | some u => u.after.all (fun e => !(Region.binds md e) || pre.contains e.on) | none => true)) = true)
    (hC : C (fun j => pre.contains j) w)
    (h : calmWalkO P md ops C (fun a' => ∀ w', C (fun j => decide (j < l.length)) w' → Q .normal a' w') (pick l is) a) :
    wpAnyIn Fence.wide n P md ops Q is.length (setAll pre (Array.replicate ops.size false)) a w := by
  have hph : phase (setAll pre (Array.replicate ops.size false)) = fun j => pre.contains j := by
    funext j
    unfold phase setAll
    rw [foldl_set]
    rcases Nat.lt_or_ge j ops.size with h' | h'
    · simp [h']
    · have hnc : pre.contains j = false := by
        rw [Bool.eq_false_iff]
        intro hc
        have hm : j ∈ pre := by simpa using hc
        have := List.all_eq_true.1 hpre j hm
        simp at this
        omega
      rw [hnc]
      have : ¬ j < ops.size := by omega
      simp [this]
  have h0 := calmAny_ord (md := md) hs (pick l is) (setAll pre (Array.replicate ops.size false)) a (like_pick hl is) (by rw [setAll_size]; simp) (by rw [pick_map hin]; exact hB) h
  rw [pick_map hin, pick_len hin] at h0
  refine calmAny_soundW (md := md) hnd (K := fun done' a' => done' = is.foldl (fun d i => d.setIfInBounds i true) (setAll pre (Array.replicate ops.size false)) ∧ ∀ w', C (fun j => decide (j < l.length)) w' → Q .normal a' w') ?_ _ _ _ _ ?_ (by rw [hph]; exact hC) h0
  · intro done a' w' hC' ⟨hd, hQ⟩
    refine hQ w' ?_
    have e : phase done = fun j => decide (j < l.length) := by
      funext j
      unfold phase
      rw [hd, foldl_set, setAll_size]
      have hp := congrFun hph j
      unfold phase at hp
      rw [hp]
      rcases Nat.lt_or_ge j l.length with h' | h'
      · have h1 := List.all_eq_true.1 hall j (by simpa using h')
        have h2 : j < ops.size := by omega
        rw [Bool.or_eq_true] at h1
        rcases h1 with h1 | h1
        · rw [h1]; simp [h']
        · rw [h1]; simp [h', h2]
      · have hnc : pre.contains j = false := by
          rw [Bool.eq_false_iff]
          intro hc
          have hm : j ∈ pre := by simpa using hc
          have := List.all_eq_true.1 hpre j hm
          simp at this
          omega
        have h2 : ¬ j < ops.size := by omega
        have h3 : ¬ j < l.length := by omega
        rw [hnc]
        simp [h2, h3]
    rw [← e]
    exact hC'
  · rw [hph]
    rcases hcl with hcl | hcl
    · intro j u hu
      exfalso
      have := (Array.getElem?_eq_some_iff.1 hu).1
      omega
    · intro j u hu hj e he hb
      have h1 := List.all_eq_true.1 hcl j (by simpa using (Array.getElem?_eq_some_iff.1 hu).1)
      rw [hu] at h1
      have hj' : pre.contains j = true := hj
      simp only [hj', Bool.not_true, Bool.false_or] at h1
      obtain ⟨i, hi, rfl⟩ := Array.mem_iff_getElem.1 he
      have h2 := (Array.all_eq_true.1 h1) i hi
      simpa [hb] using h2

theorem wpAnyIn_ahead_chain {Q : Exit → Act → World → Prop} {a : Act} {w : World} {l : List Oper} (hl : LikeList ops l) (hz : ops.size = l.length) (n : Nat) (is : List Nat) (c m : Nat) (B : Nat → World → Prop) (cs : List Nat) (dl : List (Nat × Nat)) (hs : Region.noSelect ops = true) (hnd : noDefer ops = true)
    (hin : is.all (fun i => decide (i < l.length)) = true) (hB : ordPre md ops is (Array.replicate ops.size false) = true) (hR : Region.ready md ops (setAll is (Array.replicate ops.size false)) = [c])
    (hwt : is.all (fun i => waits md ops ops.size c i) = true) (hOk : chainOk md ops cs dl = true) (hcs : cs.all (fun x => is.contains x) = true) (h0 : B 0 w)
    (h : calmWalkO P md ops (chainC B cs dl) (fun a' => ∀ w', B cs.length w' → wpOpIn Fence.wide n P ops Q c (wpAnyIn Fence.wide n P md ops Q m (setAll (is ++ [c]) (Array.replicate ops.size false))) a' w') (pick l is) a) :
    wpAnyIn Fence.wide n P md ops Q (is.length + (m + 1)) (Array.replicate ops.size false) a w := by
  refine wpAnyIn_ahead hl n is c m (chainC B cs dl) hs hnd hin hB hR hwt (chainC_start h0 hOk) (ord_weaken (fun a' hK w' hC => hK w' (chainC_all (fun x hx => ?_) hC)) _ _ h)
  have h1 := List.all_eq_true.1 hcs x hx
  have hm : x ∈ is := by simpa using h1
  have h2 := List.all_eq_true.1 hin x hm
  unfold phase setAll
  rw [foldl_set]
  simp at h2
  simp [hm, hz, h2]
theorem wpAnyIn_behind_chain {Q : Exit → Act → World → Prop} {a : Act} {w : World} {l : List Oper} (hl : LikeList ops l) (hz : ops.size = l.length) (n : Nat) (pre is : List Nat) (B : Nat → World → Prop) (cs : List Nat) (dl : List (Nat × Nat)) (hs : Region.noSelect ops = true) (hnd : noDefer ops = true)
    (hin : is.all (fun i => decide (i < l.length)) = true) (hpre : pre.all (fun i => decide (i < l.length)) = true) (hB : ordFrom md ops is (setAll pre (Array.replicate ops.size false)) = true) (hall : (List.range l.length).all (fun i => pre.contains i || is.contains i) = true)
    (hcl : (List.range ops.size).all (fun j => !(pre.contains j) || (match ops[j]? with | some u => u.after.all (fun e => !(Region.binds md e) || pre.contains e.on) | none => true)) = true)
    (hcs : cs.all (fun c => !(pre.contains c)) = true) (hdl : dl.all (fun x => decide (0 < x.2)) = true) (hnn : cs.all (fun c => decide (c < l.length)) = true) (h0 : B 0 w)
    (h : calmWalkO P md ops (chainC B cs dl) (fun a' => ∀ w', B cs.length w' → Q .normal a' w') (pick l is) a) :
    wpAnyIn Fence.wide n P md ops Q is.length (setAll pre (Array.replicate ops.size false)) a w :=
  wpAnyIn_behind hl hz n pre is (chainC B cs dl) hs hnd hin hpre hB hall (.inr hcl) (chainC_from h0 hcs hdl) (ord_mono (Q := fun a' w' => Q .normal a' w') hnn _ _ h)

theorem wpOpIn_at {F : Fence} {n : Nat} {Q : Exit → Act → World → Prop} {c : Nat} {o : Oper} {K : Act → World → Prop} {a : Act} {w : World} (ho : ops[c]? = some o) (hw : Region.wanted o (yielded ops a.tmps) = true) (h : o.wpIn F n P a w K Q) : wpOpIn F n P ops Q c K a w := by
  unfold wpOpIn
  simp only [ho, hw, if_true]
  exact h
theorem wpOpIn_like {F : Fence} {n : Nat} {Q : Exit → Act → World → Prop} {c : Nat} {o : Oper} {K : Act → World → Prop} {a : Act} {w : World} {l : List Oper} (ho : l[c]? = some o) (hw : Region.wanted o (yielded l.toArray a.tmps) = true) (h : o.wpIn F n P a w K Q) : wpOpIn F n P l.toArray Q c K a w :=
  wpOpIn_at (by simpa using ho) hw h
theorem wpIn_region_bar {F : Fence} {n : Nat} {id : Nat} {Q : Exit → Act → World → Prop} {a : Act} {w : World} {l : List Oper} (hm : P.follows .mixedOrders = true) (k : Nat) (hk : k = l.length) (h : wpAnyIn F n P .any l.toArray Q k (Array.replicate l.toArray.size false) a w.drew) : (Code.region id l.toArray true).wpIn F n P Q a w := by
  subst hk
  refine wpIn_region_any hm ?_
  simpa using h
end
end Go.Proofs.Ytiindnmelegkgaa
