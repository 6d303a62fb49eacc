/- What every act keeps: the balance of the events, the sources, and that packets are genuine. -/
import Derived.Test.YtiindnmelegkgaaU1
namespace Go.Proofs.Ytiindnmelegkgaa
open Go.RowKit Go.Shelf
set_option linter.unusedSimpArgs false
set_option linter.unusedVariables false

def wt (k : Int) : Int := if k = 1 ∨ k = 8 ∨ k = 7 ∨ k = 4 then 1 else if k = 2 ∨ k = 3 then -1 else 0
def bal : List Ev → Int
  | [] => 0
  | e :: l => wt e.kind + bal l
theorem bal_append (l l' : List Ev) : bal (l ++ l') = bal l + bal l' := by
  induction l with
  | nil => simp [bal]
  | cons e l ih => simp [bal, ih]; omega
theorem bal_one (e : Ev) : bal [e] = wt e.kind := by simp [bal]

structure Cons (honest : Bool) (A : Abs) (i : Nat) : Prop where
  bal : bal A.evs = (A.fl.length : Int)
  src : ∀ x ∈ A.fl, x.src < (A.hist.length : Int)
  hon : honest = true → ∀ x ∈ A.fl, A.genu x = true
  next : A.next ≤ i
  evs : A.evs.length ≤ i
  fl : A.fl.length ≤ i
  hist : A.hist.length ≤ i
  cnt : A.cnt ≤ i
theorem Cons.zero : Cons true A0 0 := ⟨rfl, by simp [A0], by simp [A0], by simp [A0], by simp [A0], by simp [A0], by simp [A0], by simp [A0]⟩
theorem Cons.mono {h h' : Bool} {A : Abs} {i j : Nat} (c : Cons h A i) (hh : h' = true → h = true) (hij : i ≤ j) : Cons h' A j :=
  ⟨c.bal, c.src, fun e => c.hon (hh e), Nat.le_trans c.next hij, Nat.le_trans c.evs hij, Nat.le_trans c.fl hij, Nat.le_trans c.hist hij, Nat.le_trans c.cnt hij⟩
theorem Cons.tiny {h : Bool} {A : Abs} {i : Nat} (c : Cons h A i) (hi : i ≤ 1000000) : Tiny A := ⟨Nat.le_trans c.next hi, Nat.le_trans c.evs hi, Nat.le_trans c.fl hi, Nat.le_trans c.hist hi, Nat.le_trans c.cnt hi⟩
theorem Cons.put {h : Bool} {A : Abs} {i : Nat} (c : Cons h A i) (p : APk) (src kind frm : Int) (hk : wt kind = 1) (hs : src < (A.hist.length : Int)) (hg : h = true → A.genu ⟨p.frm, p.to, p.bs, A.next, src⟩ = true) : Cons h (A.put p src kind frm) (i + 1) := by
  refine ⟨?_, ?_, ?_, ?_, ?_, ?_, ?_, ?_⟩
  · show Go.Proofs.Ytiindnmelegkgaa.bal (A.evs ++ [_]) = _
    rw [bal_append, bal_one, c.bal, hk]
    simp [Abs.put]
  · intro x hx
    rcases List.mem_append.1 hx with hx | hx
    · exact c.src x hx
    · simp at hx; subst hx; exact hs
  · intro e x hx
    rcases List.mem_append.1 hx with hx | hx
    · exact c.hon e x hx
    · simp at hx; subst hx; exact hg e
  · have := c.next; simp [Abs.put]; omega
  · have := c.evs; simp [Abs.put]; omega
  · have := c.fl; simp [Abs.put]; omega
  · have := c.hist; simp [Abs.put]; omega
  · have := c.cnt; simp [Abs.put]; omega
theorem sameA_self (x : AFl) (q : APk) (h1 : x.frm = q.frm) (h2 : x.to = q.to) (h3 : x.bs = q.bs) : sameA x q = true := by simp [sameA, h1, h2, h3]
theorem getD_append {l : List APk} {p : APk} {k : Nat} (h : k < l.length) : (l ++ [p]).getD k zeroA = l.getD k zeroA := by simp [List.getD, List.getElem?_append_left h]
theorem genu_append {A : Abs} {p : APk} {x : AFl} (h : x.src < (A.hist.length : Int)) : ({ A with hist := A.hist ++ [p] } : Abs).genu x = A.genu x := by
  unfold Abs.genu
  by_cases h0 : 0 ≤ x.src
  · show (decide (0 ≤ x.src) && sameA x ((A.hist ++ [p]).getD x.src.toNat zeroA)) = _
    rw [getD_append (by omega)]
  · simp [h0]
theorem Cons.said {h : Bool} {A : Abs} {i : Nat} (c : Cons h A i) (p : APk) : Cons h ({ A with hist := A.hist ++ [p] } : Abs) (i + 1) :=
  ⟨c.bal, fun x hx => by have := c.src x hx; simp; omega, fun e x hx => by rw [genu_append (c.src x hx)]; exact c.hon e x hx, by have := c.next; simp; omega, by have := c.evs; simp; omega, by have := c.fl; simp; omega, by have := c.hist; simp; omega, by have := c.cnt; simp; omega⟩
theorem Cons.gone {h : Bool} {A : Abs} {i : Nat} (c : Cons h A i) (k : Nat) (hk : k < A.fl.length) (kind id : Int) (hw : wt kind = -1) : Cons h (A.note (A.fl.eraseIdx k) kind id) (i + 1) := by
  have hl : (A.fl.eraseIdx k).length = A.fl.length - 1 := by simp [List.length_eraseIdx, hk]
  refine ⟨?_, fun x hx => c.src x (List.mem_of_mem_eraseIdx hx), fun e x hx => c.hon e x (List.mem_of_mem_eraseIdx hx), ?_, ?_, ?_, ?_, ?_⟩
  · show Go.Proofs.Ytiindnmelegkgaa.bal (A.evs ++ [_]) = ((A.fl.eraseIdx k).length : Int)
    rw [bal_append, bal_one, c.bal, hw, hl]
    omega
  · have := c.next; simp [Abs.note]; omega
  · have := c.evs; simp [Abs.note]; omega
  · have := c.fl; show (A.fl.eraseIdx k).length ≤ _; omega
  · have := c.hist; simp [Abs.note]; omega
  · have := c.cnt; simp [Abs.note]; omega
theorem Cons.set {h : Bool} {A : Abs} {i : Nat} (c : Cons h A i) (k : Nat) (x y : AFl) (hx : A.fl[k]? = some x) (hy : y.src = x.src) (kind id : Int) (hw : wt kind = 0) : Cons false (A.note (A.fl.set k y) kind id) (i + 1) := by
  refine ⟨?_, ?_, (fun e => by cases e), ?_, ?_, ?_, ?_, ?_⟩
  · show Go.Proofs.Ytiindnmelegkgaa.bal (A.evs ++ [_]) = ((A.fl.set k y).length : Int)
    rw [bal_append, bal_one, c.bal, hw]
    simp
  · intro z hz
    rcases List.mem_or_eq_of_mem_set hz with hz | rfl
    · exact c.src z hz
    · rw [hy]; exact c.src x (List.mem_of_getElem? hx)
  · have := c.next; simp [Abs.note]; omega
  · have := c.evs; simp [Abs.note]; omega
  · have := c.fl; simp [Abs.note]; omega
  · have := c.hist; simp [Abs.note]; omega
  · have := c.cnt; simp [Abs.note]; omega

section
variable {h : Bool} {A : Abs} {i : Nat}
theorem Cons.send (c : Cons h A i) (p : APk) : Cons h (A.send p).1 (i + 2) := by
  unfold Abs.send
  split
  · exact c.mono id (by omega)
  · split
    · exact c.mono id (by omega)
    · refine (c.said p).put p _ 1 (-1) rfl (by simp; omega) fun _ => ?_
      unfold Abs.genu
      have : (A.hist ++ [p]).getD ((A.hist.length : Int)).toNat zeroA = p := by simp [List.getD]
      show (decide ((0 : Int) ≤ (A.hist.length : Nat)) && sameA _ ((A.hist ++ [p]).getD ((A.hist.length : Int)).toNat zeroA)) = true
      rw [this, sameA_self _ p rfl rfl rfl]
      simp
theorem Cons.inject (c : Cons h A i) (p : APk) : Cons false (A.inject p).1 (i + 2) := by
  unfold Abs.inject
  split
  · exact c.mono (by simp) (by omega)
  · split
    · exact c.mono (by simp) (by omega)
    · exact ((c.mono (h' := false) (by simp) (Nat.le_succ i)).put p (-1) 8 (-1) rfl (by omega) (by simp))
theorem Cons.replay (c : Cons h A i) (id : Int) : Cons h (A.replay id).1 (i + 2) := by
  unfold Abs.replay
  split
  · exact c.mono (fun e => e) (by omega)
  · split
    · exact c.mono (fun e => e) (by omega)
    · refine (c.mono (fun e => e) (Nat.le_succ i)).put _ id 7 id rfl (by omega) fun _ => ?_
      unfold Abs.genu
      rw [sameA_self _ _ rfl rfl rfl]
      simp; omega
theorem Cons.dup (c : Cons h A i) (id : Int) : Cons h (A.dup id).1 (i + 2) := by
  unfold Abs.dup
  rcases hf : A.find id with _ | ⟨k, x⟩
  · exact c.mono (fun e => e) (by omega)
  · have hx := List.mem_of_getElem? (find_some hf).1
    dsimp only
    split
    · exact c.mono (fun e => e) (by omega)
    · exact (c.mono (fun e => e) (Nat.le_succ i)).put _ x.src 4 id rfl (c.src x hx) fun e => c.hon e x hx
theorem Cons.deliver (c : Cons h A i) (id : Int) : Cons h (A.deliver id).1 (i + 2) := by
  unfold Abs.deliver
  rcases hf : A.find id with _ | ⟨k, x⟩
  · exact c.mono (fun e => e) (by omega)
  · have hk := (List.getElem?_eq_some_iff.1 (find_some hf).1).1
    dsimp only
    split
    · exact c.mono (fun e => e) (by omega)
    · exact (c.mono (fun e => e) (Nat.le_succ i)).gone k hk 2 x.id rfl
theorem Cons.drop (c : Cons h A i) (id : Int) : Cons h (A.drop id).1 (i + 2) := by
  unfold Abs.drop
  rcases hf : A.find id with _ | ⟨k, x⟩
  · exact c.mono (fun e => e) (by omega)
  · have hk := (List.getElem?_eq_some_iff.1 (find_some hf).1).1
    exact (c.mono (fun e => e) (Nat.le_succ i)).gone k hk 3 x.id rfl
theorem Cons.alter (c : Cons h A i) (id off m : Int) : Cons false (A.alter id off m).1 (i + 2) := by
  unfold Abs.alter
  split
  · exact c.mono (by simp) (by omega)
  · rcases hf : A.find id with _ | ⟨k, x⟩
    · exact c.mono (by simp) (by omega)
    · dsimp only
      split
      · exact c.mono (by simp) (by omega)
      · exact (c.mono (fun e => e) (Nat.le_succ i)).set k x { x with bs := x.bs.modify off.toNat (fun y => bits .xor .u8 y m) } (find_some hf).1 rfl 5 id rfl
theorem Cons.redirect (c : Cons h A i) (id : Int) (to : ByteArray) : Cons false (A.redirect id to).1 (i + 2) := by
  unfold Abs.redirect
  split
  · exact c.mono (by simp) (by omega)
  · rcases hf : A.find id with _ | ⟨k, x⟩
    · exact c.mono (by simp) (by omega)
    · exact (c.mono (fun e => e) (Nat.le_succ i)).set k x { x with to := to } (find_some hf).1 rfl 6 id rfl
theorem Cons.block (c : Cons h A i) (f t : ByteArray) : Cons h (A.block f t).1 (i + 2) := by
  unfold Abs.block
  split
  · exact c.mono (fun e => e) (by omega)
  · exact ⟨c.bal, c.src, c.hon, by have := c.next; simp; omega, by have := c.evs; simp; omega, by have := c.fl; simp; omega, by have := c.hist; simp; omega, by have := c.cnt; simp; omega⟩
end
/-- The delivered packet was genuine: it lies in the history. -/
theorem genu_hist {A : Abs} {x : AFl} (h : A.genu x = true) (hs : x.src < (A.hist.length : Int)) : ∃ q ∈ A.hist, sameA x q = true := by
  unfold Abs.genu at h
  simp only [Bool.and_eq_true, decide_eq_true_eq] at h
  have hl : x.src.toNat < A.hist.length := by omega
  refine ⟨A.hist[x.src.toNat], List.getElem_mem hl, ?_⟩
  have : A.hist.getD x.src.toNat zeroA = A.hist[x.src.toNat] := by simp [List.getD, List.getElem?_eq_getElem hl]
  rw [← this]
  exact h.2
end Go.Proofs.Ytiindnmelegkgaa
