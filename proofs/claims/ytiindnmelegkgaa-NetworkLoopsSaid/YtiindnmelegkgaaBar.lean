/- Regions that draw their order, in which all operations but those of two calm parts wait for one call, or it for them: the call is a barrier. -/
import Derived.Test.YtiindnmelegkgaaTie
namespace Go.Proofs.Ytiindnmelegkgaa
open Go.RowKit
set_option linter.unusedSimpArgs false

section
variable {P : Program} {ops : Array Oper} {md : Region.Mode} {C : (Nat → Bool) → World → Prop}

def calmAnyT (P : Program) (md : Region.Mode) (ops : Array Oper) (C : (Nat → Bool) → World → Prop) (K : Array Bool → Act → Prop) : Nat → Array Bool → Act → Prop
  | 0, done, a => K done a
  | f + 1, done, a => Region.ready md ops done ≠ [] ∧ ∀ i ∈ Region.ready md ops done, calmOp P md ops C i (calmAnyT P md ops C K f (done.setIfInBounds i true)) a

theorem calmAnyT_sound {Q : Exit → Act → World → Prop} {K : Array Bool → Act → Prop} {m : Nat} (hK : ∀ done a w, C (phase done) w → closedAt md ops (phase done) → K done a → wpAny P md ops Q m done a w) :
    ∀ (f : Nat) (done : Array Bool) (a : Act) (w : World), closedAt md ops (phase done) → C (phase done) w → calmAnyT P md ops C K f done a → wpAny P md ops Q (f + m) done a w
  | 0, done, a, w, hcl, hw, h => by rw [Nat.zero_add]; exact hK done a w hw hcl h
  | f + 1, done, a, w, hcl, hw, h => by
    rw [show f + 1 + m = (f + m) + 1 by omega]
    refine ⟨fun h0 => absurd h0 h.1, fun i hi => ?_⟩
    obtain ⟨hun, oi, hoi, hall⟩ := mem_ready.1 hi
    refine calmOp_sound (phase_off hun) (fun f t hw => calmReady_of hcl f i t (fun o ho => by rw [hoi] at ho; cases ho; exact hall) hw) hw (fun a' w' hw' h' => calmAnyT_sound hK f _ a' w' (closed_next hcl hi) ?_ h') (h.2 i hi)
    rw [phase_set hun]
    exact hw'

theorem calmAnyT_first {K : Array Bool → Act → Prop} {i c : Nat} {o : Oper} {v : Value} (hterm : ∀ done a, K done a → Region.ready md ops done = [c]) (ho : ops[i]? = some o) (hwt : ∃ g, waits md ops g c i = true) (hsel : ∀ (j : Nat) (u : Oper) cs b, ops[j]? = some u → u.op ≠ .select cs b) :
    ∀ (f : Nat) (done : Array Bool) (a : Act), closedAt md ops (phase done) →
      (∀ j u, ops[j]? = some u → j ≠ i → done.getD j true = false → (∀ e ∈ u.after, Region.binds md e = true → e.on ≠ i) → o.apart ops u = true) →
      i ∈ Region.ready md ops done → calmYields P md ops C i o v a → calmAnyT P md ops C K f (done.setIfInBounds i true) (a.put o.dst v) → calmAnyT P md ops C K (f + 1) done a := by
  intro f
  induction f with
  | zero =>
    intro done a hcl _ hr hy H
    refine ⟨(fun h => by rw [h] at hr; cases hr), fun j hj => ?_⟩
    rcases Nat.decEq j i with hji | hji
    · exfalso
      have h0 := ready_mono hj hji
      rw [hterm _ _ H] at h0
      have hjc : j = c := by simpa using h0
      subst hjc
      obtain ⟨g, hg⟩ := hwt
      obtain ⟨hun, oj, hoj, hall⟩ := mem_ready.1 hj
      have h1 := calmReady_of hcl g j i (fun o ho e he hb => by rw [hoj] at ho; cases ho; exact hall e he hb) hg
      have h2 := phase_off (mem_ready.1 hr).1
      rw [h1] at h2
      cases h2
    · subst hji
      exact hy.op ho H
  | succ f ih =>
    intro done a hcl hfree hr hy H
    refine ⟨(fun h => by rw [h] at hr; cases hr), fun j hj => ?_⟩
    rcases Nat.decEq j i with hji | hji
    · obtain ⟨hjun, u, hu, hall⟩ := mem_ready.1 hj
      have hno : ∀ e ∈ u.after, Region.binds md e = true → e.on ≠ i := fun e he hb heq => by
        have h1 := hall e he hb
        have h2 := phase_off (mem_ready.1 hr).1
        rw [heq] at h1
        unfold phase at h2
        rw [h1] at h2
        cases h2
      refine calmOp_mono (fun a' h3 => ?_) (calmOp_put hu (hfree j u hu hji hjun hno) (fun cs b => hsel i o cs b ho) (fun cs b => hsel j u cs b hu) hy (H.2 j (ready_mono hj hji)))
      refine ih (done.setIfInBounds j true) a' (closed_next hcl hj) (fun k uk hk hki hun hn' => hfree k uk hk hki ?_ hn') (ready_mono hr (Ne.symm hji)) h3.1 ?_
      · rcases Nat.decEq j k with hjk | hjk
        · rw [getD_set_ne true hjk] at hun; exact hun
        · subst hjk; exact hjun
      · rw [Array.setIfInBounds_comm _ _ hji]; exact h3.2
    · subst hji
      exact hy.op ho H

def setAll (is : List Nat) (done : Array Bool) : Array Bool := is.foldl (fun d i => d.setIfInBounds i true) done
def ordPre (md : Region.Mode) (ops : Array Oper) : List Nat → Array Bool → Bool
  | [], _ => true
  | i :: is, done => (Region.ready md ops done).contains i && Region.free md ops done i && ordPre md ops is (done.setIfInBounds i true)

theorem calmAnyT_ord {K : Act → Prop} {c : Nat} (hs : Region.noSelect ops = true) : ∀ (l : List (Nat × Oper)) (done : Array Bool) (a : Act), (∀ x ∈ l, ops[x.1]? = some (tieF 0 x.2) ∨ ops[x.1]? = some x.2 ∨ ∃ j, ops[x.1]? = some (tieF j x.2)) → done.size = ops.size → closedAt md ops (phase done) →
    Region.ready md ops (setAll (l.map (·.1)) done) = [c] → (∀ x ∈ l, ∃ g, waits md ops g c x.1 = true) → ordPre md ops (l.map (·.1)) done = true → calmWalkO P md ops C K l a → calmAnyT P md ops C (fun done' a' => done' = setAll (l.map (·.1)) done ∧ K a') l.length done a
  | [], done, a, _, _, _, _, _, _, h => ⟨rfl, h⟩
  | (k, o) :: l, done, a, hl, hz, hcl, hR, hwt, hB, h => by
    obtain ⟨u, hu, hu1, hu2, hu3, hu4⟩ : ∃ u, ops[k]? = some u ∧ u.dst = o.dst ∧ (∀ y, Region.wanted u y = Region.wanted o y) ∧ (∀ ρ, execOp ρ u = execOp ρ o) ∧ True := by
      rcases hl (k, o) (List.mem_cons_self ..) with h | h | ⟨j, h⟩
      · exact ⟨_, h, rfl, fun _ => rfl, fun _ => rfl, trivial⟩
      · exact ⟨_, h, rfl, fun _ => rfl, fun _ => rfl, trivial⟩
      · exact ⟨_, h, rfl, fun _ => rfl, fun _ => rfl, trivial⟩
    simp only [List.map_cons, ordPre, Bool.and_eq_true] at hB
    have hr : k ∈ Region.ready md ops done := by simpa using hB.1.1
    have hgood : ∀ v, calmGood P md ops C k o a v → calmGood P md ops C k u a v := fun v hv φ w h1 h2 h3 => by
      have := hv φ w h1 h2 h3
      unfold calmAt at *
      rw [hu3]
      exact this
    have hnext : ∀ v, calmYields P md ops C k u v a → calmWalkO P md ops C K l (a.put u.dst v) → calmAnyT P md ops C (fun done' a' => done' = setAll (((k, o) :: l).map (·.1)) done ∧ K a') (l.length + 1) done a := fun v hy hK => by
      refine calmAnyT_first (c := c) (fun d a' h => by rw [h.1]; exact hR) hu (hwt (k, o) (List.mem_cons_self ..)) (Region.noSelect_spec hs) l.length done a hcl (Region.free_spec hu hB.1.2) hr hy ?_
      exact calmAnyT_ord hs l _ _ (fun x hx => hl x (List.mem_cons_of_mem _ hx)) (by simpa using hz) (closed_next hcl hr) hR (fun x hx => hwt x (List.mem_cons_of_mem _ hx)) hB.2 hK
    unfold calmWalkO at h
    by_cases hw : Region.wanted o (yielded ops a.tmps) = true
    · simp only [hw, if_true] at h
      obtain ⟨v, h1, h2⟩ := h
      exact hnext v (.inl ⟨by rw [hu2]; exact hw, hgood v h1⟩) (by rw [hu1]; exact h2)
    · simp only [hw] at h
      exact hnext undef (.inr ⟨by rw [hu2]; simpa using hw, h.1, rfl⟩) (by rw [hu1]; exact h.2)

/-- The operations are those of the list, but for ties. -/
def LikeList (ops : Array Oper) (l : List Oper) : Prop := ∀ (i : Nat) (o : Oper), l[i]? = some o → ops[i]? = some o ∨ ∃ j, ops[i]? = some (tieF j o)
theorem like_self (l : List Oper) : LikeList l.toArray l := fun i o h => .inl (by simpa using h)
theorem like_tie (l : List Oper) (x y : Nat) : LikeList (tie l.toArray x y) l := fun i o h => by
  rw [tie_get]
  by_cases hx : x = i
  · rw [if_pos hx]; right; exact ⟨y, by simp [h]⟩
  · rw [if_neg hx]; left; simpa using h
theorem like_pick {l : List Oper} (h : LikeList ops l) (is : List Nat) : ∀ x ∈ pick l is, ops[x.1]? = some (tieF 0 x.2) ∨ ops[x.1]? = some x.2 ∨ ∃ j, ops[x.1]? = some (tieF j x.2) := by
  intro z hz
  obtain ⟨i, _, hi⟩ := List.mem_filterMap.1 hz
  obtain ⟨o, ho, rfl⟩ := Option.map_eq_some_iff.1 hi
  exact .inr (h i o ho)
theorem pick_map {l : List Oper} : ∀ {is : List Nat}, is.all (fun i => decide (i < l.length)) = true → (pick l is).map (·.1) = is := by
  intro is
  induction is with
  | nil => intro _; rfl
  | cons i is ih =>
    intro hi
    simp only [List.all_cons, Bool.and_eq_true, decide_eq_true_eq] at hi
    unfold pick at ih ⊢
    rw [List.filterMap_cons, List.getElem?_eq_getElem hi.1]
    simp only [Option.map_some, List.map_cons]
    rw [ih hi.2]
theorem pick_len {l : List Oper} {is : List Nat} (h : is.all (fun i => decide (i < l.length)) = true) : (pick l is).length = is.length := by
  have := congrArg List.length (pick_map h)
  simpa using this
theorem setAll_size (is : List Nat) : ∀ done : Array Bool, (setAll is done).size = done.size := by
  induction is with
  | nil => intro done; rfl
  | cons i is ih => intro done; unfold setAll at *; rw [List.foldl_cons, ih]; simp

/-- THE CALM PART AHEAD OF A BARRIER. -/
theorem wpAny_ahead {Q : Exit → Act → World → Prop} {a : Act} {w : World} {l : List Oper} (hl : LikeList ops l) (is : List Nat) (c m : Nat) (C : (Nat → Bool) → World → Prop) (hs : Region.noSelect ops = true)
    (hin : is.all (fun i => decide (i < l.length)) = true) (hB : ordPre md ops is (Array.replicate ops.size false) = true) (hR : Region.ready md ops (setAll is (Array.replicate ops.size false)) = [c])
    (hwt : is.all (fun i => waits md ops ops.size c i) = true) (hC : C (fun _ => false) w)
    (h : calmWalkO P md ops C (fun a' => ∀ w', C (phase (setAll is (Array.replicate ops.size false))) w' → wpOp P ops Q c (wpAny P md ops Q m (setAll (is ++ [c]) (Array.replicate ops.size false))) a' w') (pick l is) a) :
    wpAny P md ops Q (is.length + (m + 1)) (Array.replicate ops.size false) a w := by
  have hcl : closedAt md ops (phase (Array.replicate ops.size false)) := by
    intro j u hu hj
    exfalso
    unfold phase at hj
    rcases Nat.lt_or_ge j ops.size with h' | h'
    · simp [h'] at hj
    · simp [h'] at hj
  have e : phase (Array.replicate ops.size false) = fun _ => false := by
    funext j
    unfold phase
    rcases Nat.lt_or_ge j ops.size with h' | h'
    · simp [h']
    · simp [h']
  have h0 := calmAnyT_ord (md := md) (c := c) hs (pick l is) (Array.replicate ops.size false) a (like_pick hl is) (by simp) hcl (by rw [pick_map hin]; exact hR)
    (fun x hx => ⟨ops.size, by
      have : x.1 ∈ is := by
        have := List.mem_map_of_mem (f := (·.1)) hx
        rwa [pick_map hin] at this
      exact List.all_eq_true.1 hwt _ this⟩) (by rw [pick_map hin]; exact hB) h
  rw [pick_map hin, pick_len hin] at h0
  refine calmAnyT_sound (K := fun done' a' => done' = setAll is (Array.replicate ops.size false) ∧ _) ?_ _ _ _ _ hcl (by rw [e]; exact hC) h0
  rintro done a' w' hC' hcl' ⟨rfl, hK⟩
  have h1 := hK w' hC'
  refine ⟨fun h0 => (by rw [hR] at h0; cases h0), fun i hi => ?_⟩
  rw [hR] at hi
  have : i = c := by simpa using hi
  subst this
  have e2 : (setAll is (Array.replicate ops.size false)).setIfInBounds i true = setAll (is ++ [i]) (Array.replicate ops.size false) := by
    unfold setAll
    rw [List.foldl_append]
    rfl
  rw [e2]
  exact h1

/-- THE CALM PART BEHIND IT. -/
theorem wpAny_behind {Q : Exit → Act → World → Prop} {a : Act} {w : World} {l : List Oper} (hl : LikeList ops l) (hz : ops.size = l.length) (pre is : List Nat) (C : (Nat → Bool) → World → Prop) (hs : Region.noSelect ops = true)
    (hin : is.all (fun i => decide (i < l.length)) = true) (hpre : pre.all (fun i => decide (i < l.length)) = true) (hB : ordFrom md ops is (setAll pre (Array.replicate ops.size false)) = true) (hall : (List.range l.length).all (fun i => pre.contains i || is.contains i) = true)
    (hcl : ops.size = 0 ∨ (List.range ops.size).all (fun j => !(pre.contains j) || (match ops[j]? with | some u => u.after.all (fun e => !(Region.binds md e) || pre.contains e.on) | none => true)) = true)
    (hC : C (fun j => pre.contains j) w)
    (h : calmWalkO P md ops C (fun a' => ∀ w', C (fun j => decide (j < l.length)) w' → Q .normal a' w') (pick l is) a) :
    wpAny P md ops Q is.length (setAll pre (Array.replicate ops.size false)) a w := by
  have hph : phase (setAll pre (Array.replicate ops.size false)) = fun j => pre.contains j := by
    funext j
    unfold phase setAll
    rw [foldl_set]
    rcases Nat.lt_or_ge j ops.size with h' | h'
    · simp [h']
    · have hnc : pre.contains j = false := by
        rw [Bool.eq_false_iff]
        intro hc
        have hm : j ∈ pre := by simpa using hc
        have := List.all_eq_true.1 hpre j hm
        simp at this
        omega
      rw [hnc]
      have : ¬ j < ops.size := by omega
      simp [this]
  have h0 := calmAny_ord (md := md) hs (pick l is) (setAll pre (Array.replicate ops.size false)) a (like_pick hl is) (by rw [setAll_size]; simp) (by rw [pick_map hin]; exact hB) h
  rw [pick_map hin, pick_len hin] at h0
  refine calmAny_sound (md := md) (K := fun done' a' => done' = is.foldl (fun d i => d.setIfInBounds i true) (setAll pre (Array.replicate ops.size false)) ∧ ∀ w', C (fun j => decide (j < l.length)) w' → Q .normal a' w') ?_ _ _ _ _ ?_ (by rw [hph]; exact hC) h0
  · intro done a' w' hC' ⟨hd, hQ⟩
    refine hQ w' ?_
    have e : phase done = fun j => decide (j < l.length) := by
      funext j
      unfold phase
      rw [hd, foldl_set, setAll_size]
      have hp := congrFun hph j
      unfold phase at hp
      rw [hp]
      rcases Nat.lt_or_ge j l.length with h' | h'
      · have h1 := List.all_eq_true.1 hall j (by simpa using h')
        have h2 : j < ops.size := by omega
        rw [Bool.or_eq_true] at h1
        rcases h1 with h1 | h1
        · rw [h1]; simp [h']
        · rw [h1]; simp [h', h2]
      · have hnc : pre.contains j = false := by
          rw [Bool.eq_false_iff]
          intro hc
          have hm : j ∈ pre := by simpa using hc
          have := List.all_eq_true.1 hpre j hm
          simp at this
          omega
        have h2 : ¬ j < ops.size := by omega
        have h3 : ¬ j < l.length := by omega
        rw [hnc]
        simp [h2, h3]
    rw [← e]
    exact hC'
  · rw [hph]
    rcases hcl with hcl | hcl
    · intro j u hu
      exfalso
      have := (Array.getElem?_eq_some_iff.1 hu).1
      omega
    · intro j u hu hj e he hb
      have h1 := List.all_eq_true.1 hcl j (by simpa using (Array.getElem?_eq_some_iff.1 hu).1)
      rw [hu] at h1
      have hj' : pre.contains j = true := hj
      simp only [hj', Bool.not_true, Bool.false_or] at h1
      obtain ⟨i, hi, rfl⟩ := Array.mem_iff_getElem.1 he
      have h2 := (Array.all_eq_true.1 h1) i hi
      simpa [hb] using h2

theorem chainC_from {B : Nat → World → Prop} {cs : List Nat} {dl : List (Nat × Nat)} {pre : List Nat} {w : World} (h0 : B 0 w) (h1 : cs.all (fun c => !(pre.contains c)) = true) (h2 : dl.all (fun x => decide (0 < x.2)) = true) : chainC B cs dl (fun j => pre.contains j) w := by
  refine ⟨0, Nat.zero_le _, fun j hj => ?_, h0, fun x hx h => ?_⟩
  · have := List.all_eq_true.1 h1 _ (getD_mem hj)
    simpa using this
  · have := List.all_eq_true.1 h2 x hx
    simp at this
    omega

theorem chainC_all {B : Nat → World → Prop} {cs : List Nat} {dl : List (Nat × Nat)} {φ : Nat → Bool} {w : World} (hn : ∀ c ∈ cs, φ c = true) (h : chainC B cs dl φ w) : B cs.length w := by
  obtain ⟨k, h1, h2, h3, _⟩ := h
  rcases Nat.lt_or_ge k cs.length with h' | h'
  · have e : φ (cs.getD k 0) = decide (k < k) := h2 k h'
    rw [hn _ (getD_mem h')] at e
    simp at e
  · have : k = cs.length := by omega
    rw [this] at h3
    exact h3
theorem ord_weaken {C : (Nat → Bool) → World → Prop} {K K' : Act → Prop} (hk : ∀ a, K a → K' a) : ∀ (l : List (Nat × Oper)) (a : Act), calmWalkO P md ops C K l a → calmWalkO P md ops C K' l a := by
  intro l
  induction l with
  | nil => exact fun a h => hk a h
  | cons x rest ih =>
    obtain ⟨i, o⟩ := x
    intro a h
    unfold calmWalkO at h ⊢
    split at h
    · rename_i hw
      rw [if_pos hw]
      obtain ⟨v, h1, h2⟩ := h
      exact ⟨v, h1, ih _ h2⟩
    · rename_i hw
      rw [if_neg hw]
      exact ⟨h.1, ih _ h.2⟩
theorem wpAny_ahead_chain {Q : Exit → Act → World → Prop} {a : Act} {w : World} {l : List Oper} (hl : LikeList ops l) (hz : ops.size = l.length) (is : List Nat) (c m : Nat) (B : Nat → World → Prop) (cs : List Nat) (dl : List (Nat × Nat)) (hs : Region.noSelect ops = true)
    (hin : is.all (fun i => decide (i < l.length)) = true) (hB : ordPre md ops is (Array.replicate ops.size false) = true) (hR : Region.ready md ops (setAll is (Array.replicate ops.size false)) = [c])
    (hwt : is.all (fun i => waits md ops ops.size c i) = true) (hOk : chainOk md ops cs dl = true) (hcs : cs.all (fun x => is.contains x) = true) (h0 : B 0 w)
    (h : calmWalkO P md ops (chainC B cs dl) (fun a' => ∀ w', B cs.length w' → wpOp P ops Q c (wpAny P md ops Q m (setAll (is ++ [c]) (Array.replicate ops.size false))) a' w') (pick l is) a) :
    wpAny P md ops Q (is.length + (m + 1)) (Array.replicate ops.size false) a w := by
  refine wpAny_ahead hl is c m (chainC B cs dl) hs hin hB hR hwt (chainC_start h0 hOk) (ord_weaken (fun a' hK w' hC => hK w' (chainC_all (fun x hx => ?_) hC)) _ _ h)
  have h1 := List.all_eq_true.1 hcs x hx
  have hm : x ∈ is := by simpa using h1
  have h2 := List.all_eq_true.1 hin x hm
  unfold phase setAll
  rw [foldl_set]
  simp at h2
  simp [hm, hz, h2]
theorem wpAny_behind_chain {Q : Exit → Act → World → Prop} {a : Act} {w : World} {l : List Oper} (hl : LikeList ops l) (hz : ops.size = l.length) (pre is : List Nat) (B : Nat → World → Prop) (cs : List Nat) (dl : List (Nat × Nat)) (hs : Region.noSelect ops = true)
    (hin : is.all (fun i => decide (i < l.length)) = true) (hpre : pre.all (fun i => decide (i < l.length)) = true) (hB : ordFrom md ops is (setAll pre (Array.replicate ops.size false)) = true) (hall : (List.range l.length).all (fun i => pre.contains i || is.contains i) = true)
    (hcl : (List.range ops.size).all (fun j => !(pre.contains j) || (match ops[j]? with | some u => u.after.all (fun e => !(Region.binds md e) || pre.contains e.on) | none => true)) = true)
    (hcs : cs.all (fun c => !(pre.contains c)) = true) (hdl : dl.all (fun x => decide (0 < x.2)) = true) (hn : cs.all (fun c => decide (c < l.length)) = true) (h0 : B 0 w)
    (h : calmWalkO P md ops (chainC B cs dl) (fun a' => ∀ w', B cs.length w' → Q .normal a' w') (pick l is) a) :
    wpAny P md ops Q is.length (setAll pre (Array.replicate ops.size false)) a w :=
  wpAny_behind hl hz pre is (chainC B cs dl) hs hin hpre hB hall (.inr hcl) (chainC_from h0 hcs hdl) (ord_mono (Q := fun a' w' => Q .normal a' w') hn _ _ h)

/-- The barrier is a call. -/
theorem wpOp_at {Q : Exit → Act → World → Prop} {c : Nat} {o : Oper} {K : Act → World → Prop} {a : Act} {w : World} (ho : ops[c]? = some o) (hw : Region.wanted o (yielded ops a.tmps) = true) (h : o.wp P a w K Q) : wpOp P ops Q c K a w := by
  unfold wpOp
  simp only [ho, hw, if_true]
  exact .inl h
theorem wpOp_like {Q : Exit → Act → World → Prop} {c : Nat} {o : Oper} {K : Act → World → Prop} {a : Act} {w : World} {l : List Oper} (hl : LikeList ops l) (ho : l[c]? = some o) (hw : Region.wanted o (yielded ops a.tmps) = true) (h : o.wp P a w K Q) : wpOp P ops Q c K a w := by
  rcases hl c o ho with h' | ⟨j, h'⟩
  · exact wpOp_at h' hw h
  · exact wpOp_at (o := tieF j o) h' hw h
/-- A region with a barrier, no tie. -/
theorem wp_region_bar {id : Nat} {Q : Exit → Act → World → Prop} {a : Act} {w : World} {l : List Oper} (hm : P.follows .mixedOrders = true) (n : Nat) (hn : n = l.length) (h : wpAny P .any l.toArray Q n (Array.replicate l.toArray.size false) a w.drew) : (Code.region id l.toArray true).wp P Q a w := by
  subst hn
  refine wp_region_any hm ?_
  simpa using h
end
end Go.Proofs.Ytiindnmelegkgaa
