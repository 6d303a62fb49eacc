/- Regions that draw their order, two of whose writers come in either order: one walk for each of the two. -/
import Derived.Test.YtiindnmelegkgaaGrow
namespace Go.Proofs.Ytiindnmelegkgaa
open Go.RowKit
set_option linter.unusedSimpArgs false

section
variable {P : Program} {ops : Array Oper} {md : Region.Mode} {C : (Nat → Bool) → World → Prop}

/-- Operation i waits for operation j, too. -/
def tieF (j : Nat) (o : Oper) : Oper := { o with after := o.after.push ⟨j, .data⟩ }
def tie (ops : Array Oper) (i j : Nat) : Array Oper := ops.modify i (tieF j)
theorem tie_get (i j k : Nat) : (tie ops i j)[k]? = if i = k then (ops[k]?).map (tieF j) else ops[k]? := by
  unfold tie
  rw [Array.getElem?_modify]
theorem tie_size (i j : Nat) : (tie ops i j).size = ops.size := by simp [tie]
theorem tie_yielded (i j : Nat) (t : Array Value) : yielded (tie ops i j) t = yielded ops t := by
  funext k
  unfold yielded
  rw [tie_get]
  by_cases h : i = k
  · rw [if_pos h]; cases ops[k]? <;> rfl
  · rw [if_neg h]
theorem tie_wpOp {Q : Exit → Act → World → Prop} {i j k : Nat} {K : Act → World → Prop} {a : Act} {w : World} : wpOp P (tie ops i j) Q k K a w = wpOp P ops Q k K a w := by
  unfold wpOp
  rw [tie_get, tie_yielded]
  by_cases h : i = k
  · rw [if_pos h]; cases ops[k]? <;> rfl
  · rw [if_neg h]
theorem tie_ready {i j k : Nat} {done : Array Bool} : k ∈ Region.ready md (tie ops i j) done ↔ k ∈ Region.ready md ops done ∧ (k = i → done.getD j false = true) := by
  rw [mem_ready, mem_ready, tie_get]
  constructor
  · rintro ⟨h0, o, ho, hall⟩
    by_cases hik : i = k
    · subst hik
      rw [if_pos rfl] at ho
      obtain ⟨u, hu, rfl⟩ := Option.map_eq_some_iff.1 ho
      exact ⟨⟨h0, u, hu, fun e he hb => hall e (by simp [tieF, he]) hb⟩, fun _ => hall ⟨j, .data⟩ (by simp [tieF]) rfl⟩
    · rw [if_neg hik] at ho
      exact ⟨⟨h0, o, ho, hall⟩, fun h => absurd h.symm hik⟩
  · rintro ⟨⟨h0, o, ho, hall⟩, hj⟩
    refine ⟨h0, ?_⟩
    by_cases hik : i = k
    · subst hik
      rw [if_pos rfl, ho]
      refine ⟨tieF j o, rfl, fun e he hb => ?_⟩
      simp only [tieF, Array.mem_push] at he
      rcases he with he | rfl
      · exact hall e he hb
      · exact hj rfl
    · rw [if_neg hik]
      exact ⟨o, ho, hall⟩

/-- Where j has come up, the tie binds no more. -/
theorem wpAny_untie {Q : Exit → Act → World → Prop} {i j : Nat} : ∀ (f : Nat) (done : Array Bool) (a : Act) (w : World), done.getD j false = true → wpAny P md (tie ops i j) Q f done a w → wpAny P md ops Q f done a w
  | 0, done, a, w, hj, h => by
    refine ⟨?_, h.2⟩
    rw [List.eq_nil_iff_forall_not_mem]
    intro k hk
    have := tie_ready (i := i) (j := j) |>.2 ⟨hk, fun _ => hj⟩
    rw [h.1] at this
    cases this
  | f + 1, done, a, w, hj, h => by
    refine ⟨fun h0 => h.1 ?_, fun k hk => ?_⟩
    · rw [List.eq_nil_iff_forall_not_mem]
      intro k hk
      have := (tie_ready.1 hk).1
      rw [h0] at this
      cases this
    · have h2 := h.2 k (tie_ready.2 ⟨hk, fun _ => hj⟩)
      rw [tie_wpOp] at h2
      exact wpOp_mono (fun a w => wpAny_untie f _ a w (getD_set_true hj)) h2

theorem wpAny_path {Q : Exit → Act → World → Prop} {i j : Nat} (hij : i ≠ j) : ∀ (f t : Nat) (done : Array Bool),
    (∀ a w, wpAny P md (tie ops i j) Q f done a w → wpOps P ops Q (Region.linearise.go md ops f t done []) a w) ∨ (∀ a w, wpAny P md (tie ops j i) Q f done a w → wpOps P ops Q (Region.linearise.go md ops f t done []) a w)
  | 0, t, done => .inl fun a w h => by simpa [Region.linearise.go, wpOps] using h.2
  | f + 1, t, done => by
    have unfold1 : Region.linearise.go md ops (f + 1) t done [] = match (Region.ready md ops done)[t % (Region.ready md ops done).length]? with
      | some k => Region.linearise.go md ops f (t / (Region.ready md ops done).length) (done.setIfInBounds k true) [k]
      | none => [].reverse := by simp only [Region.linearise.go]; rfl
    rw [unfold1]
    cases hi : (Region.ready md ops done)[t % (Region.ready md ops done).length]? with
    | none =>
      refine .inl fun a w h => ?_
      have hnil : Region.ready md ops done = [] := by
        cases hr : Region.ready md ops done with
        | nil => rfl
        | cons x xs =>
          rw [hr] at hi
          have hlt : t % (x :: xs).length < (x :: xs).length := Nat.mod_lt _ (by simp)
          simp at hi
          simp at hlt
          omega
      have : Region.ready md (tie ops i j) done = [] := by
        rw [List.eq_nil_iff_forall_not_mem]
        intro k hk
        have := (tie_ready.1 hk).1
        rw [hnil] at this
        cases this
      simpa [wpOps] using h.1 this
    | some k =>
      have hk := List.mem_of_getElem? hi
      have hkl : done.getD k true = false := (mem_ready.1 hk).1
      have hset : (done.setIfInBounds k true).getD k false = true := by
        have hlt : k < done.size := by
          rcases Nat.lt_or_ge k done.size with h' | h'
          · exact h'
          · simp [Array.getElem?_eq_none h'] at hkl
        simp [hlt]
      simp only []
      rw [linearise_go_acc, List.reverse_singleton, List.singleton_append]
      by_cases h1 : k = i
      · subst h1
        refine .inr fun a w h => ?_
        have h2 := h.2 k (tie_ready.2 ⟨hk, fun e => absurd e hij⟩)
        rw [tie_wpOp] at h2
        rw [wpOps_cons]
        exact wpOp_mono (fun a w h => wpAny_sound _ _ _ a w (wpAny_untie _ _ a w hset h)) h2
      · by_cases h2 : k = j
        · subst h2
          refine .inl fun a w h => ?_
          have h2 := h.2 k (tie_ready.2 ⟨hk, fun e => absurd e (Ne.symm hij)⟩)
          rw [tie_wpOp] at h2
          rw [wpOps_cons]
          exact wpOp_mono (fun a w h => wpAny_sound _ _ _ a w (wpAny_untie _ _ a w hset h)) h2
        · rcases wpAny_path hij f (t / (Region.ready md ops done).length) (done.setIfInBounds k true) with ih | ih
          · refine .inl fun a w h => ?_
            have h3 := h.2 k (tie_ready.2 ⟨hk, fun e => absurd e h1⟩)
            rw [tie_wpOp] at h3
            rw [wpOps_cons]
            exact wpOp_mono (fun a w => ih a w) h3
          · refine .inr fun a w h => ?_
            have h3 := h.2 k (tie_ready.2 ⟨hk, fun e => absurd e h2⟩)
            rw [tie_wpOp] at h3
            rw [wpOps_cons]
            exact wpOp_mono (fun a w => ih a w) h3

/-- EITHER ORDER OF TWO OPERATIONS. -/
theorem wp_region_two {id : Nat} {Q : Exit → Act → World → Prop} {a : Act} {w : World} (i j : Nat) (hij : i ≠ j) (hm : P.follows .mixedOrders = true)
    (h1 : wpAny P .any (tie ops i j) Q ops.size (Array.replicate ops.size false) a w.drew) (h2 : wpAny P .any (tie ops j i) Q ops.size (Array.replicate ops.size false) a w.drew) : (Code.region id ops true).wp P Q a w :=
  wp_region_draw fun t => by
    simp only [Region.schedule, hm, Bool.true_or, if_true]
    rcases wpAny_path (P := P) (md := .any) (ops := ops) (Q := Q) hij ops.size t (Array.replicate ops.size false) with h | h
    · exact h _ _ h1
    · exact h _ _ h2

/-! ### A walk of any order -/
/-- The order is one that the edges allow, and each operation is apart from what need not wait for it. -/
def ordFrom (md : Region.Mode) (ops : Array Oper) : List Nat → Array Bool → Bool
  | [], done => (Region.ready md ops done).isEmpty
  | i :: is, done => (Region.ready md ops done).contains i && Region.free md ops done i && ordFrom md ops is (done.setIfInBounds i true)
def calmWalkO (P : Program) (md : Region.Mode) (ops : Array Oper) (C : (Nat → Bool) → World → Prop) (K : Act → Prop) : List (Nat × Oper) → Act → Prop
  | [], a => K a
  | (i, o) :: rest, a => if Region.wanted o (yielded ops a.tmps) then ∃ v, calmGood P md ops C i o a v ∧ calmWalkO P md ops C K rest (a.put o.dst v) else calmSkip md ops C i ∧ calmWalkO P md ops C K rest (a.put o.dst undef)

theorem calmAny_ord {K : Act → Prop} (hs : Region.noSelect ops = true) : ∀ (l : List (Nat × Oper)) (done : Array Bool) (a : Act), (∀ x ∈ l, ops[x.1]? = some (tieF 0 x.2) ∨ ops[x.1]? = some x.2 ∨ ∃ j, ops[x.1]? = some (tieF j x.2)) → done.size = ops.size →
    ordFrom md ops (l.map (·.1)) done = true → calmWalkO P md ops C K l a → calmAny P md ops C (fun done' a' => done' = (l.map (·.1)).foldl (fun d i => d.setIfInBounds i true) done ∧ K a') l.length done a
  | [], done, a, _, _, hB, h => ⟨by simpa [ordFrom] using hB, rfl, h⟩
  | (k, o) :: l, done, a, hl, hz, hB, h => by
    obtain ⟨u, hu, hu1, hu2, hu3, hu4⟩ : ∃ u, ops[k]? = some u ∧ u.dst = o.dst ∧ (∀ y, Region.wanted u y = Region.wanted o y) ∧ (∀ ρ, execOp ρ u = execOp ρ o) ∧ True := by
      rcases hl (k, o) (List.mem_cons_self ..) with h | h | ⟨j, h⟩
      · exact ⟨_, h, rfl, fun _ => rfl, fun _ => rfl, trivial⟩
      · exact ⟨_, h, rfl, fun _ => rfl, fun _ => rfl, trivial⟩
      · exact ⟨_, h, rfl, fun _ => rfl, fun _ => rfl, trivial⟩
    simp only [List.map_cons, ordFrom, Bool.and_eq_true] at hB
    have hr : k ∈ Region.ready md ops done := by simpa using hB.1.1
    have hgood : ∀ v, calmGood P md ops C k o a v → calmGood P md ops C k u a v := fun v hv φ w h1 h2 h3 => by
      have := hv φ w h1 h2 h3
      unfold calmAt at *
      rw [hu3]
      exact this
    have hnext : ∀ v, calmYields P md ops C k u v a → calmWalkO P md ops C K l (a.put u.dst v) → calmAny P md ops C (fun done' a' => done' = (((k, o) :: l).map (·.1)).foldl (fun d i => d.setIfInBounds i true) done ∧ K a') (l.length + 1) done a := fun v hy hK => by
      refine calmAny_first hu (Region.noSelect_spec hs) l.length done a (Region.free_spec hu hB.1.2) hr hy ?_
      exact calmAny_ord hs l _ _ (fun x hx => hl x (List.mem_cons_of_mem _ hx)) (by simpa using hz) hB.2 hK
    unfold calmWalkO at h
    by_cases hw : Region.wanted o (yielded ops a.tmps) = true
    · simp only [hw, if_true] at h
      obtain ⟨v, h1, h2⟩ := h
      exact hnext v (.inl ⟨by rw [hu2]; exact hw, hgood v h1⟩) (by rw [hu1]; exact h2)
    · simp only [hw] at h
      exact hnext undef (.inr ⟨by rw [hu2]; simpa using hw, h.1, rfl⟩) (by rw [hu1]; exact h.2)

/-- The operations of a list, in an order. -/
def pick (l : List Oper) (is : List Nat) : List (Nat × Oper) := is.filterMap fun i => (l[i]?).map fun o => (i, o)

theorem foldl_set (is : List Nat) : ∀ (done : Array Bool) (x : Nat), (is.foldl (fun d i => d.setIfInBounds i true) done).getD x false = (decide (x < done.size) && is.contains x || done.getD x false) := by
  induction is with
  | nil => intro done x; simp
  | cons i is ih =>
    intro done x
    rw [List.foldl_cons, ih]
    by_cases hx : x < done.size
    · by_cases hix : i = x
      · subst hix
        simp [hx]
      · have hix' : ¬ x = i := fun e => hix e.symm
        simp [hx, hix, hix', Array.getElem?_setIfInBounds]
    · have h1 : (done.setIfInBounds i true)[x]? = none := Array.getElem?_eq_none (by simpa using hx)
      have h2 : done[x]? = none := Array.getElem?_eq_none (by omega)
      simp [hx, h1, h2]

theorem wpAny_calm {Q : Exit → Act → World → Prop} {a : Act} {w : World} {l : List Oper} (x y : Nat) (is : List Nat) (C : (Nat → Bool) → World → Prop) (hs : Region.noSelect (tie l.toArray x y) = true)
    (hB : ordFrom .any (tie l.toArray x y) is (Array.replicate l.length false) = true) (hlen : is.length = l.length) (hall : (List.range l.length).all (fun i => is.contains i) = true) (hin : is.all (fun i => decide (i < l.length)) = true) (hC : C (fun _ => false) w)
    (h : calmWalkO P .any (tie l.toArray x y) C (fun a' => ∀ w', C (fun j => decide (j < l.length)) w' → Q .normal a' w') (pick l is) a) : wpAny P .any (tie l.toArray x y) Q l.toArray.size (Array.replicate l.toArray.size false) a w := by
  have hp : (pick l is).map (·.1) = is := by
    have : ∀ is : List Nat, is.all (fun i => decide (i < l.length)) = true → (pick l is).map (·.1) = is := by
      intro is
      induction is with
      | nil => intro _; rfl
      | cons i is ih =>
        intro hi
        simp only [List.all_cons, Bool.and_eq_true, decide_eq_true_eq] at hi
        unfold pick at ih ⊢
        rw [List.filterMap_cons, List.getElem?_eq_getElem hi.1]
        simp only [Option.map_some, List.map_cons]
        rw [ih hi.2]
    exact this is hin
  have hpl : (pick l is).length = l.length := by
    have := congrArg List.length hp
    simpa [hlen] using this
  have h0 := calmAny_ord (md := .any) hs (pick l is) (Array.replicate l.length false) a (fun z hz => by
    obtain ⟨i, _, hi⟩ := List.mem_filterMap.1 hz
    obtain ⟨o, ho, rfl⟩ := Option.map_eq_some_iff.1 hi
    rw [tie_get]
    split
    · right; right; exact ⟨y, by simp [ho]⟩
    · right; left; simpa using ho) (by simp [tie_size]) (by rw [hp]; exact hB) h
  rw [hp, hpl] at h0
  rw [show l.toArray.size = l.length by simp]
  refine calmAny_sound (md := .any) (K := fun done' a' => done' = is.foldl (fun d i => d.setIfInBounds i true) (Array.replicate l.length false) ∧ ∀ w', C (fun j => decide (j < l.length)) w' → Q .normal a' w') ?_ _ _ _ _ ?_ ?_ h0
  · intro done a' w' hC' ⟨hd, hQ⟩
    refine hQ w' ?_
    have e : phase done = fun j => decide (j < l.length) := by
      funext j
      unfold phase
      rw [hd, foldl_set]
      rcases Nat.lt_or_ge j l.length with h' | h'
      · have := List.all_eq_true.1 hall j (by simpa using h')
        rw [this]
        simp [h']
      · have h'' : ¬ j < l.length := by omega
        simp [h'']
    rw [← e]
    exact hC'
  · intro j u hu hj
    exfalso
    unfold phase at hj
    rcases Nat.lt_or_ge j l.length with h' | h'
    · simp [h'] at hj
    · simp [h'] at hj
  · have e : phase (Array.replicate l.length false) = fun _ => false := by
      funext j
      unfold phase
      rcases Nat.lt_or_ge j l.length with h' | h'
      · simp [h']
      · simp [h']
    rw [e]
    exact hC

/-! ### A chain of writers, in an order -/
variable {B : Nat → World → Prop} {cs : List Nat} {dl : List (Nat × Nat)} {K : Act → Prop} {i : Nat} {o : Oper} {rest : List (Nat × Oper)} {a : Act}
theorem ord_step {C : (Nat → Bool) → World → Prop} (hw : Region.wanted o (yielded ops a.tmps) = true) (H : ∃ v, calmGood P md ops C i o a v ∧ calmWalkO P md ops C K rest (a.put o.dst v)) : calmWalkO P md ops C K ((i, o) :: rest) a := by
  obtain ⟨v, h, hk⟩ := H
  unfold calmWalkO
  rw [if_pos hw]
  exact ⟨v, h, hk⟩
theorem ord_nil {C : (Nat → Bool) → World → Prop} (h : K a) : calmWalkO P md ops C K [] a := h
theorem ord_pure (hw : Region.wanted o (yielded ops a.tmps) = true) (hi : cs.contains i = false) (H : ∃ v, (∀ w, calmAt P o a (fun w' => w' = w) w v) ∧ calmWalkO P md ops (chainC B cs dl) K rest (a.put o.dst v)) :
    calmWalkO P md ops (chainC B cs dl) K ((i, o) :: rest) a := by
  obtain ⟨v, h, hk⟩ := H
  exact ord_step hw ⟨v, fun φ w _ _ hC => calmAt_mono (h w) (fun w' e => by subst e; exact chainC_bump hi hC), hk⟩
theorem ord_load (hw : Region.wanted o (yielded ops a.tmps) = true) (hi : cs.contains i = false) (d : Nat) (hd : (i, d) ∈ dl) (H : ∃ v, (∀ k w, k < d → B k w → calmAt P o a (fun w' => w' = w) w v) ∧ calmWalkO P md ops (chainC B cs dl) K rest (a.put o.dst v)) :
    calmWalkO P md ops (chainC B cs dl) K ((i, o) :: rest) a := by
  obtain ⟨v, h, hk⟩ := H
  refine ord_step hw ⟨v, fun φ w hφ _ hC => ?_, hk⟩
  have hC' := hC
  obtain ⟨k, h1, h2, h3, h4⟩ := hC'
  have hkd : k < d := by
    rcases Nat.lt_or_ge k d with h' | h'
    · exact h'
    · have := h4 _ hd h'
      rw [hφ] at this
      cases this
  exact calmAt_mono (h k w hkd h3) (fun w' e => by subst e; exact chainC_bump hi hC)
theorem ord_write (hOk : chainOk md ops cs dl = true) (hw : Region.wanted o (yielded ops a.tmps) = true) (j : Nat) (hj : cs[j]? = some i) (hnd : (List.range cs.length).all (fun m => decide (m = j) || cs.getD m 0 != i) = true)
    (H : ∃ v, (∀ w, B j w → calmAt P o a (B (j + 1)) w v) ∧ calmWalkO P md ops (chainC B cs dl) K rest (a.put o.dst v)) :
    calmWalkO P md ops (chainC B cs dl) K ((i, o) :: rest) a := by
  obtain ⟨v, h, hk⟩ := H
  refine ord_step hw ⟨v, fun φ w hφ hr hC => ?_, hk⟩
  have hjl : j < cs.length := (List.getElem?_eq_some_iff.1 hj).1
  have hjd : cs.getD j 0 = i := by simp [List.getD, hj]
  obtain ⟨k, g1, g2, g3, g4⟩ := hC
  simp only [chainOk, Bool.and_eq_true, List.all_eq_true, List.mem_range, Bool.or_eq_true, decide_eq_true_eq] at hOk
  have hO := hOk.1 j hjl
  have hkj : k = j := by
    have e1 := g2 j hjl
    rw [hjd, hφ] at e1
    have e2 : ¬ j < k := by simpa using e1.symm
    rcases Nat.eq_zero_or_pos j with h0 | h0
    · omega
    · have e3 : φ (cs.getD (j - 1) 0) = true := by
        rcases hO.1 with h5 | h5
        · omega
        · rw [hjd] at h5; exact hr _ _ h5
      rw [g2 (j - 1) (by omega)] at e3
      have e4 : j - 1 < k := by simpa using e3
      omega
  subst hkj
  refine calmAt_mono (h w g3) (fun w' hB => ?_)
  refine ⟨k + 1, hjl, fun m hm => ?_, hB, fun x hx hxk => ?_⟩
  · simp only [List.all_eq_true, List.mem_range, Bool.or_eq_true, decide_eq_true_eq, bne_iff_ne] at hnd
    rcases hnd m hm with hmk | hmk
    · subst hmk
      rw [hjd, bump_self]
      simp
    · rw [bump_ne hmk, g2 m hm]
      have hne : m ≠ k := fun e => hmk (by rw [e, hjd])
      rw [Bool.eq_iff_iff]
      simp only [decide_eq_true_eq]
      omega
  · rcases Nat.lt_or_ge k x.2 with h5 | h5
    · have hx2 : x.2 = k + 1 := by omega
      rcases hO.2 x hx with h6 | h6
      · exact absurd hx2 h6
      · rw [hjd] at h6
        exact bump_true (hr _ _ h6)
    · exact bump_true (g4 x hx h5)
theorem ord_mono {n : Nat} {Q : Act → World → Prop} (hn : cs.all (fun c => decide (c < n)) = true) : ∀ (l' : List (Nat × Oper)) (a : Act), calmWalkO P md ops (chainC B cs dl) (fun a' => ∀ w', B cs.length w' → Q a' w') l' a →
    calmWalkO P md ops (chainC B cs dl) (fun a' => ∀ w', chainC B cs dl (fun j => decide (j < n)) w' → Q a' w') l' a := by
  intro l'
  induction l' with
  | nil => exact fun a h w' hw => h w' (chainC_end hn hw)
  | cons x rest ih =>
    obtain ⟨i, o⟩ := x
    intro a h
    unfold calmWalkO at h ⊢
    split at h
    · rename_i hw
      rw [if_pos hw]
      obtain ⟨v, h1, h2⟩ := h
      exact ⟨v, h1, ih _ h2⟩
    · rename_i hw
      rw [if_neg hw]
      exact ⟨h.1, ih _ h.2⟩
/-- A chain of writers, x tied to y. -/
theorem wpAny_chain {Q : Exit → Act → World → Prop} {w : World} {l : List Oper} (x y : Nat) (is : List Nat) (B : Nat → World → Prop) (cs : List Nat) (dl : List (Nat × Nat)) (hs : Region.noSelect (tie l.toArray x y) = true)
    (hB : ordFrom .any (tie l.toArray x y) is (Array.replicate l.length false) = true) (hlen : is.length = l.length) (hall : (List.range l.length).all (fun i => is.contains i) = true) (hin : is.all (fun i => decide (i < l.length)) = true)
    (hOk : chainOk .any (tie l.toArray x y) cs dl = true) (hn : cs.all (fun c => decide (c < l.length)) = true) (h0 : B 0 w)
    (h : calmWalkO P .any (tie l.toArray x y) (chainC B cs dl) (fun a' => ∀ w', B cs.length w' → Q .normal a' w') (pick l is) a) : wpAny P .any (tie l.toArray x y) Q l.toArray.size (Array.replicate l.toArray.size false) a w :=
  wpAny_calm x y is (chainC B cs dl) hs hB hlen hall hin (chainC_start h0 hOk) (ord_mono hn (pick l is) a h)
end
end Go.Proofs.Ytiindnmelegkgaa
