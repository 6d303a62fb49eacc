/- The program's network and the reference's, in plain words: they go together. -/
import Derived.Test.YtiindnmelegkgaaC5
import Derived.Test.YtiindnmelegkgaaR21
namespace Go.Proofs.Ytiindnmelegkgaa
open Go.RowKit
set_option linter.unusedSimpArgs false
set_option linter.unusedVariables false

/-- The packets in flight, out of the list of all packets. -/
def live : Nat → List RA → List AFl
  | _, [] => []
  | k, x :: l => if x.gone then live (k + 1) l else ⟨x.frm, x.to, x.bs, k, x.src⟩ :: live (k + 1) l
theorem live_append (x : RA) : ∀ (l : List RA) (k : Nat), live k (l ++ [x]) = live k l ++ if x.gone then [] else [⟨x.frm, x.to, x.bs, k + l.length, x.src⟩]
  | [], k => by
    cases hx : x.gone <;> simp [live, hx]
  | y :: l, k => by
    have ih := live_append x l (k + 1)
    cases hy : y.gone <;> simp [live, hy, ih, Nat.add_assoc, Nat.add_comm, Nat.add_left_comm]
theorem live_length : ∀ (l : List RA) (k : Nat), (live k l).length = (l.filter fun x => !x.gone).length
  | [], k => rfl
  | y :: l, k => by
    have ih := live_length l (k + 1)
    cases hy : y.gone <;> simp [live, hy, ih]
theorem live_ge : ∀ (l : List RA) (k : Nat), ∀ x ∈ live k l, k ≤ x.id ∧ x.id < k + l.length
  | [], k => by simp [live]
  | y :: l, k => by
    intro x hx
    have ih := live_ge l (k + 1)
    unfold live at hx
    split at hx
    · have := ih x hx; simp only [List.length_cons]; omega
    · rcases List.mem_cons.1 hx with rfl | hx
      · simp
      · have := ih x hx; simp only [List.length_cons]; omega
theorem live_mem : ∀ (l : List RA) (k : Nat) (y : AFl), y ∈ live k l → ∃ j x, l[j]? = some x ∧ x.gone = false ∧ y = ⟨x.frm, x.to, x.bs, k + j, x.src⟩
  | [], k, y, h => by simp [live] at h
  | x :: l, k, y, h => by
    unfold live at h
    split at h
    · obtain ⟨j, z, h1, h2, h3⟩ := live_mem l (k + 1) y h
      exact ⟨j + 1, z, h1, h2, by rw [h3, show k + 1 + j = k + (j + 1) by omega]⟩
    · rename_i hg
      rcases List.mem_cons.1 h with rfl | h
      · exact ⟨0, x, rfl, by simpa using hg, rfl⟩
      · obtain ⟨j, z, h1, h2, h3⟩ := live_mem l (k + 1) y h
        exact ⟨j + 1, z, h1, h2, by rw [h3, show k + 1 + j = k + (j + 1) by omega]⟩
/-- A packet that flies, and what becomes of the list where it is changed. -/
theorem live_at : ∀ (l : List RA) (k j : Nat) (x : RA), l[j]? = some x → x.gone = false →
    ∃ i, (live k l)[i]? = some ⟨x.frm, x.to, x.bs, k + j, x.src⟩ ∧ (∀ f : RA → RA, (f x).gone = true → live k (l.modify j f) = (live k l).eraseIdx i) ∧
      (∀ f : RA → RA, (f x).gone = false → live k (l.modify j f) = (live k l).set i ⟨(f x).frm, (f x).to, (f x).bs, k + j, (f x).src⟩)
  | [], k, j, x, h, _ => by simp at h
  | y :: l, k, 0, x, h, hg => by
    obtain rfl : y = x := by simpa using h
    refine ⟨0, by simp [live, hg], fun f hf => by simp [live, hg, hf], fun f hf => by simp [live, hg, hf]⟩
  | y :: l, k, j + 1, x, h, hg => by
    obtain ⟨i, h1, h2, h3⟩ := live_at l (k + 1) j x (by simpa using h) hg
    have e : k + 1 + j = k + (j + 1) := by omega
    rw [e] at h1
    cases hy : y.gone
    · refine ⟨i + 1, by simp [live, hy, h1], fun f hf => by simp [live, hy, h2 f hf], fun f hf => by simp [live, hy, h3 f hf, e]⟩
    · refine ⟨i, by simp [live, hy, h1], fun f hf => by simp [live, hy, h2 f hf], fun f hf => by simp [live, hy, h3 f hf, e]⟩

/-- The two networks say the same. -/
structure Sim (A : Abs) (R : RAbs) : Prop where
  hist : A.hist = R.hist
  evs : A.evs = R.evs
  next : A.next = R.all.length
  bl : ∀ f t, A.bl f t = blockedB R.blk f t
  fl : A.fl = live 0 R.all
def R0 : RAbs := ⟨[], [], [], []⟩
theorem Sim.zero : Sim A0 R0 := ⟨rfl, rfl, rfl, fun _ _ => rfl, rfl⟩
theorem live_pair : ∀ (l : List RA) (k : Nat), (live k l).Pairwise (fun x y => x.id < y.id)
  | [], k => List.Pairwise.nil
  | y :: l, k => by
    unfold live
    split
    · exact live_pair l (k + 1)
    · refine List.Pairwise.cons (fun x hx => ?_) (live_pair l (k + 1))
      have := live_ge l (k + 1) x hx
      show k < x.id
      omega
theorem pair_idx {l : List AFl} (h : l.Pairwise (fun x y => x.id < y.id)) {i j : Nat} {x y : AFl} (hi : l[i]? = some x) (hj : l[j]? = some y) (e : x.id = y.id) : i = j ∧ x = y := by
  obtain ⟨a, b⟩ := List.getElem?_eq_some_iff.1 hi
  obtain ⟨c, d⟩ := List.getElem?_eq_some_iff.1 hj
  have : i = j := by
    rcases Nat.lt_trichotomy i j with h' | h' | h'
    · have := List.pairwise_iff_getElem.1 h i j a c h'
      rw [b, d] at this
      omega
    · exact h'
    · have := List.pairwise_iff_getElem.1 h j i c a h'
      rw [b, d] at this
      omega
  subst this
  rw [hi] at hj
  exact ⟨rfl, Option.some.inj hj⟩
theorem flies_true {R : RAbs} {id : Int} (h : R.flies id = true) : ∃ k : Nat, id = k ∧ R.all[k]? = some (R.at id) ∧ (R.at id).gone = false := by
  unfold RAbs.flies at h
  simp only [Bool.and_eq_true, decide_eq_true_eq] at h
  obtain ⟨k, rfl⟩ : ∃ k : Nat, id = k := ⟨id.toNat, by omega⟩
  refine ⟨k, rfl, ?_⟩
  unfold RAbs.at
  rw [Int.toNat_natCast] at h ⊢
  cases hx : R.all[k]? with
  | none => rw [hx] at h; simp at h
  | some x => rw [hx] at h; exact ⟨rfl, by simpa using h.2⟩
theorem flies_false {R : RAbs} {k : Nat} {x : RA} (h : R.flies (k : Nat) = false) (hx : R.all[k]? = some x) : x.gone = true := by
  unfold RAbs.flies at h
  rw [Int.toNat_natCast, hx] at h
  simpa using h
section
variable {A : Abs} {R : RAbs}
theorem Sim.miss (s : Sim A R) {id : Int} (h : R.flies id = false) : A.find id = none := by
  rcases hf : A.find id with _ | ⟨i, y⟩
  · rfl
  · obtain ⟨h1, h2⟩ := find_some hf
    dsimp only at h1 h2
    have hm := List.mem_of_getElem? h1
    rw [s.fl] at hm
    obtain ⟨j, x, hx, hg, e⟩ := live_mem _ _ _ hm
    have : id = (j : Nat) := by rw [← h2, e]; simp
    subst this
    rw [flies_false h hx] at hg
    cases hg
theorem Sim.hit (s : Sim A R) {id : Int} (h : R.flies id = true) : ∃ (i k : Nat), id = k ∧ R.all[k]? = some (R.at id) ∧ (R.at id).gone = false ∧ A.find id = some (i, ⟨(R.at id).frm, (R.at id).to, (R.at id).bs, k, (R.at id).src⟩) ∧
    (∀ f : RA → RA, (f (R.at id)).gone = true → live 0 (R.all.modify k f) = A.fl.eraseIdx i) ∧
    (∀ f : RA → RA, (f (R.at id)).gone = false → live 0 (R.all.modify k f) = A.fl.set i ⟨(f (R.at id)).frm, (f (R.at id)).to, (f (R.at id)).bs, k, (f (R.at id)).src⟩) := by
  obtain ⟨k, hk, hx, hg⟩ := flies_true h
  obtain ⟨i, h1, h2, h3⟩ := live_at R.all 0 k (R.at id) hx hg
  rw [Nat.zero_add] at h1
  refine ⟨i, k, hk, hx, hg, ?_, fun f hf => by rw [s.fl]; exact h2 f hf, fun f hf => by rw [s.fl]; have := h3 f hf; rwa [Nat.zero_add] at this⟩
  rw [← s.fl] at h1
  have hp : A.fl.Pairwise (fun x y => x.id < y.id) := by rw [s.fl]; exact live_pair _ _
  obtain ⟨i', hi'⟩ := find_id hp (List.mem_of_getElem? h1)
  dsimp only at hi'
  rw [← hk] at hi'
  obtain ⟨h4, h5⟩ := find_some hi'
  dsimp only at h4
  obtain ⟨rfl, -⟩ := pair_idx hp h1 h4 rfl
  exact hi'
theorem Sim.count (s : Sim A R) : A.fl.length = R.count := by rw [s.fl, live_length]; rfl
theorem Sim.put (s : Sim A R) (p : APk) (src kind frm : Int) : Sim (A.put p src kind frm) (R.put p src kind frm) where
  hist := s.hist
  evs := by show A.evs ++ _ = R.evs ++ _; rw [s.evs, s.next]
  next := by show A.next + 1 = (R.all ++ _).length; rw [s.next]; simp
  bl := s.bl
  fl := by
    show A.fl ++ _ = live 0 (R.all ++ _)
    rw [live_append, s.fl, s.next]
    simp
theorem Sim.send (s : Sim A R) (p : APk) : (A.send p).2 = (R.send p).2 ∧ Sim (A.send p).1 (R.send p).1 := by
  unfold Abs.send RAbs.send
  rw [s.count, s.hist]
  split
  · exact ⟨rfl, s⟩
  · split
    · exact ⟨rfl, s⟩
    · refine ⟨by rw [s.next], ?_⟩
      exact Sim.put (A := { A with hist := R.hist ++ [p] }) (R := ⟨R.all, R.hist ++ [p], R.evs, R.blk⟩) ⟨rfl, s.evs, s.next, s.bl, s.fl⟩ _ _ _ _
theorem Sim.inject (s : Sim A R) (p : APk) : (A.inject p).2 = (R.inject p).2 ∧ Sim (A.inject p).1 (R.inject p).1 := by
  unfold Abs.inject RAbs.inject
  rw [s.count]
  split
  · exact ⟨rfl, s⟩
  · split
    · exact ⟨rfl, s⟩
    · exact ⟨by rw [s.next], s.put _ _ _ _⟩
theorem Sim.replay (s : Sim A R) (id : Int) : (A.replay id).2 = (R.replay id).2 ∧ Sim (A.replay id).1 (R.replay id).1 := by
  unfold Abs.replay RAbs.replay
  rw [s.count, s.hist]
  split
  · exact ⟨rfl, s⟩
  · split
    · exact ⟨rfl, s⟩
    · exact ⟨by rw [s.next], s.put _ _ _ _⟩
theorem Sim.dup (s : Sim A R) (id : Int) : (A.dup id).2 = (R.dup id).2 ∧ Sim (A.dup id).1 (R.dup id).1 := by
  unfold Abs.dup RAbs.dup
  by_cases h : R.flies id = false
  · rw [s.miss h, if_pos h]
    exact ⟨rfl, s⟩
  · obtain ⟨i, k, hk, hx, hg, hf, -, -⟩ := s.hit (by simpa using h)
    rw [hf, if_neg h, s.count]
    dsimp only
    split
    · exact ⟨rfl, s⟩
    · exact ⟨by rw [s.next], s.put _ _ _ _⟩
theorem Sim.gone (s : Sim A R) {id : Int} (kind : Int) {i k : Nat} (hk : id = k) (h : live 0 (R.all.modify k fun x => { x with gone := true }) = A.fl.eraseIdx i) : Sim (A.note (A.fl.eraseIdx i) kind id) (R.setAt id (fun x => { x with gone := true }) kind) where
  hist := s.hist
  evs := by show A.evs ++ _ = R.evs ++ _; rw [s.evs]
  next := by show A.next = (R.all.modify _ _).length; rw [s.next]; simp
  bl := s.bl
  fl := by
    show A.fl.eraseIdx i = live 0 (R.all.modify id.toNat _)
    subst hk
    rw [Int.toNat_natCast]
    exact h.symm
theorem Sim.deliver (s : Sim A R) (id : Int) : (A.deliver id).2 = (R.deliver id).2 ∧ Sim (A.deliver id).1 (R.deliver id).1 := by
  unfold Abs.deliver RAbs.deliver
  by_cases h : R.flies id = false
  · rw [s.miss h, if_pos h]
    exact ⟨rfl, s⟩
  · obtain ⟨i, k, hk, hx, hg, hf, h1, -⟩ := s.hit (by simpa using h)
    rw [hf, if_neg h]
    dsimp only
    rw [s.bl]
    split
    · exact ⟨rfl, s⟩
    · refine ⟨rfl, ?_⟩
      rw [show ((k : Nat) : Int) = id from hk.symm]
      exact s.gone 2 hk (h1 (fun x => { x with gone := true }) rfl)
theorem Sim.drop (s : Sim A R) (id : Int) : (A.drop id).2 = (R.drop id).2 ∧ Sim (A.drop id).1 (R.drop id).1 := by
  unfold Abs.drop RAbs.drop
  by_cases h : R.flies id = false
  · rw [s.miss h, if_pos h]
    exact ⟨rfl, s⟩
  · obtain ⟨i, k, hk, hx, hg, hf, h1, -⟩ := s.hit (by simpa using h)
    rw [hf, if_neg h]
    dsimp only
    refine ⟨rfl, ?_⟩
    rw [show ((k : Nat) : Int) = id from hk.symm]
    exact s.gone 3 hk (h1 (fun x => { x with gone := true }) rfl)
theorem Sim.set (s : Sim A R) {id : Int} (kind : Int) {i k : Nat} (hk : id = k) (f : RA → RA) (y : AFl) (h : live 0 (R.all.modify k f) = A.fl.set i y) : Sim (A.note (A.fl.set i y) kind id) (R.setAt id f kind) where
  hist := s.hist
  evs := by show A.evs ++ _ = R.evs ++ _; rw [s.evs]
  next := by show A.next = (R.all.modify _ _).length; rw [s.next]; simp
  bl := s.bl
  fl := by
    show A.fl.set i y = live 0 (R.all.modify id.toNat _)
    subst hk
    rw [Int.toNat_natCast]
    exact h.symm
theorem Sim.alter (s : Sim A R) (id off m : Int) : (A.alter id off m).2 = (R.alter id off m).2 ∧ Sim (A.alter id off m).1 (R.alter id off m).1 := by
  unfold Abs.alter RAbs.alter
  by_cases hm : m = 0
  · rw [if_pos hm, if_pos (by simp [hm])]
    exact ⟨rfl, s⟩
  rw [if_neg hm, if_neg (by simp [hm])]
  by_cases h : R.flies id = false
  · rw [s.miss h, if_pos h]
    exact ⟨rfl, s⟩
  · obtain ⟨i, k, hk, hx, hg, hf, -, h2⟩ := s.hit (by simpa using h)
    rw [hf, if_neg h]
    dsimp only
    split
    · exact ⟨rfl, s⟩
    · exact ⟨rfl, s.set 5 hk _ _ (h2 (fun x => { x with bs := x.bs.modify off.toNat (fun y => bits .xor .u8 y m) }) hg)⟩
theorem Sim.redirect (s : Sim A R) (id : Int) (to : ByteArray) : (A.redirect id to).2 = (R.redirect id to).2 ∧ Sim (A.redirect id to).1 (R.redirect id to).1 := by
  unfold Abs.redirect RAbs.redirect
  by_cases hm : hostB to = false
  · rw [if_pos hm, if_pos hm]
    exact ⟨rfl, s⟩
  rw [if_neg hm, if_neg hm]
  by_cases h : R.flies id = false
  · rw [s.miss h, if_pos h]
    exact ⟨rfl, s⟩
  · obtain ⟨i, k, hk, hx, hg, hf, -, h2⟩ := s.hit (by simpa using h)
    rw [hf, if_neg h]
    exact ⟨rfl, s.set 6 hk _ _ (h2 (fun x => { x with to := to }) hg)⟩
theorem pairB_dec (a b c d : ByteArray) : pairB a b c d = decide (a = c ∧ b = d) := by
  unfold pairB
  rw [Bool.eq_iff_iff]
  simp only [Bool.and_eq_true, beq_iff_eq, decide_eq_true_eq]
  exact ⟨fun ⟨h1, h2⟩ => ⟨toList_inj h1, toList_inj h2⟩, fun ⟨h1, h2⟩ => by rw [h1, h2]; exact ⟨rfl, rfl⟩⟩
theorem blocked_keep (l : List (ByteArray × ByteArray)) (f t a b : ByteArray) : blockedB (keepP f t l) a b = (!decide (a = f ∧ b = t) && blockedB l a b) := by
  rw [Bool.eq_iff_iff]
  simp only [blockedB, keepP, List.any_eq_true, List.mem_filter, pairB_dec, Bool.and_eq_true, Bool.not_eq_true', decide_eq_true_eq, decide_eq_false_iff_not]
  constructor
  · rintro ⟨x, ⟨hx, h1⟩, h2, h3⟩
    exact ⟨by rw [← h2, ← h3]; exact h1, x, hx, h2, h3⟩
  · rintro ⟨h1, x, hx, h2, h3⟩
    exact ⟨x, ⟨hx, by rw [h2, h3]; exact h1⟩, h2, h3⟩
theorem Sim.block (s : Sim A R) (f t : ByteArray) : (A.block f t).2 = (R.block f t false).2 ∧ Sim (A.block f t).1 (R.block f t false).1 := by
  unfold Abs.block RAbs.block
  split
  · exact ⟨rfl, s⟩
  · refine ⟨rfl, s.hist, s.evs, s.next, fun a b => ?_, s.fl⟩
    show (decide (a = f ∧ b = t) || A.bl a b) = blockedB (keepP f t R.blk ++ tailP false f t) a b
    rw [s.bl]
    have : blockedB (keepP f t R.blk ++ tailP false f t) a b = (blockedB (keepP f t R.blk) a b || pairB f t a b) := by simp [blockedB, tailP]
    rw [this, blocked_keep, pairB_dec]
    by_cases h : a = f ∧ b = t
    · simp [h]
    · have h' : ¬ (f = a ∧ t = b) := fun ⟨x, y⟩ => h ⟨x.symm, y.symm⟩
      simp [h, h']
theorem Sim.unblock (s : Sim A R) (f t : ByteArray) : (A.unblock f t).2 = (R.block f t true).2 ∧ Sim (A.unblock f t).1 (R.block f t true).1 := by
  unfold Abs.unblock RAbs.block
  split
  · exact ⟨rfl, s⟩
  · refine ⟨rfl, s.hist, s.evs, s.next, fun a b => ?_, s.fl⟩
    show (!decide (a = f ∧ b = t) && A.bl a b) = blockedB (keepP f t R.blk ++ tailP true f t) a b
    rw [s.bl, show keepP f t R.blk ++ tailP true f t = keepP f t R.blk by simp [tailP], blocked_keep]
end
end Go.Proofs.Ytiindnmelegkgaa
