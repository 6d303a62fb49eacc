/- What a pair of networks keeps, the program's and the reference's: they say the same, their bytes are bytes, they are small. -/
import Derived.Test.YtiindnmelegkgaaS1
namespace Go.Proofs.Ytiindnmelegkgaa
open Go.RowKit
set_option linter.unusedSimpArgs false
set_option linter.unusedVariables false

def ByteL (l : List Int) : Prop := ∀ b ∈ l, 0 ≤ b ∧ b ≤ 255
theorem ByteL.nil : ByteL [] := fun b h => by simp at h
theorem xor_byte (x y : Int) : 0 ≤ bits .xor .u8 x y ∧ bits .xor .u8 x y ≤ 255 := by
  have e : ∀ n : Int, IntKind.u8.wrap n = n % 256 := fun n => by simp [IntKind.wrap, IntKind.bits, IntKind.signed]
  unfold bits
  dsimp only
  rw [e]
  omega
theorem ByteL.modify {l : List Int} (h : ByteL l) (k : Nat) (m : Int) : ByteL (l.modify k fun y => bits .xor .u8 y m) := by
  intro b hb
  obtain ⟨i, hi⟩ := List.mem_iff_getElem?.1 hb
  rw [List.getElem?_modify] at hi
  cases hx : l[i]? with
  | none => rw [hx] at hi; simp at hi
  | some y =>
    rw [hx] at hi
    have hy := h y (List.mem_of_getElem? hx)
    simp at hi
    split at hi
    · rw [← hi]; exact xor_byte _ _
    · rw [← hi]; exact hy
theorem byte_ofNat_inj {x y : Int} (hx : 0 ≤ x ∧ x ≤ 255) (hy : 0 ≤ y ∧ y ≤ 255) (h : UInt8.ofNat x.toNat = UInt8.ofNat y.toNat) : x = y := by
  have := congrArg UInt8.toNat h
  simp at this
  omega
theorem map_byte_inj : ∀ {a b : List Int}, ByteL a → ByteL b → a.map (fun n => UInt8.ofNat n.toNat) = b.map (fun n => UInt8.ofNat n.toNat) → a = b
  | [], [], _, _, _ => rfl
  | [], y :: b, _, _, h => by simp at h
  | x :: a, [], _, _, h => by simp at h
  | x :: a, y :: b, ha, hb, h => by
    simp only [List.map_cons, List.cons.injEq] at h
    rw [byte_ofNat_inj (ha x (by simp)) (hb y (by simp)) h.1, map_byte_inj (fun z hz => ha z (by simp [hz])) (fun z hz => hb z (by simp [hz])) h.2]
theorem str_inj {a b : List Int} (ha : ByteL a) (hb : ByteL b) (h : (strOfNums a).toList = (strOfNums b).toList) : a = b := by
  rw [ByteArray.toList_eq, ByteArray.toList_eq] at h
  exact map_byte_inj ha hb h
theorem str_beq {a b : List Int} (ha : ByteL a) (hb : ByteL b) : ((strOfNums a).toList == (strOfNums b).toList) = decide (a = b) := by
  rw [Bool.eq_iff_iff]
  simp only [beq_iff_eq, decide_eq_true_eq]
  exact ⟨str_inj ha hb, fun h => by rw [h]⟩

structure Byt (A : Abs) : Prop where
  fl : ∀ x ∈ A.fl, ByteL x.bs
  hist : ∀ q ∈ A.hist, ByteL q.bs
theorem Byt.zero : Byt A0 := ⟨by simp [A0], by simp [A0]⟩
section
variable {A : Abs}
theorem Byt.put (b : Byt A) (p : APk) (hp : ByteL p.bs) (src kind frm : Int) : Byt (A.put p src kind frm) := by
  refine ⟨fun x hx => ?_, b.hist⟩
  rcases List.mem_append.1 hx with hx | hx
  · exact b.fl x hx
  · simp at hx; subst hx; exact hp
theorem Byt.gone (b : Byt A) (k : Nat) (kind id : Int) : Byt (A.note (A.fl.eraseIdx k) kind id) := ⟨fun x hx => b.fl x (List.mem_of_mem_eraseIdx hx), b.hist⟩
theorem Byt.set (b : Byt A) (k : Nat) (y : AFl) (hy : ByteL y.bs) (kind id : Int) : Byt (A.note (A.fl.set k y) kind id) := by
  refine ⟨fun x hx => ?_, b.hist⟩
  rcases List.mem_or_eq_of_mem_set hx with hx | rfl
  · exact b.fl x hx
  · exact hy
theorem Byt.send (b : Byt A) (p : APk) (hp : ByteL p.bs) : Byt (A.send p).1 := by
  unfold Abs.send
  split
  · exact b
  · split
    · exact b
    · refine Byt.put (A := { A with hist := A.hist ++ [p] }) ⟨b.fl, fun q hq => ?_⟩ p hp _ _ _
      rcases List.mem_append.1 hq with hq | hq
      · exact b.hist q hq
      · simp at hq; subst hq; exact hp
theorem Byt.inject (b : Byt A) (p : APk) (hp : ByteL p.bs) : Byt (A.inject p).1 := by
  unfold Abs.inject
  split
  · exact b
  · split
    · exact b
    · exact b.put p hp _ _ _
theorem Byt.getD (b : Byt A) (k : Nat) : ByteL (A.hist.getD k zeroA).bs := by
  rcases Nat.lt_or_ge k A.hist.length with h | h
  · rw [List.getD, List.getElem?_eq_getElem h]; exact b.hist _ (List.getElem_mem h)
  · rw [List.getD, List.getElem?_eq_none h]; exact ByteL.nil
theorem Byt.replay (b : Byt A) (id : Int) : Byt (A.replay id).1 := by
  unfold Abs.replay
  split
  · exact b
  · split
    · exact b
    · exact b.put _ (b.getD _) _ _ _
theorem Byt.dup (b : Byt A) (id : Int) : Byt (A.dup id).1 := by
  unfold Abs.dup
  rcases hf : A.find id with _ | ⟨k, x⟩
  · exact b
  · dsimp only
    split
    · exact b
    · exact b.put _ (b.fl x (List.mem_of_getElem? (find_some hf).1)) _ _ _
theorem Byt.deliver (b : Byt A) (id : Int) : Byt (A.deliver id).1 := by
  unfold Abs.deliver
  rcases hf : A.find id with _ | ⟨k, x⟩
  · exact b
  · dsimp only
    split
    · exact b
    · exact b.gone _ _ _
theorem Byt.drop (b : Byt A) (id : Int) : Byt (A.drop id).1 := by
  unfold Abs.drop
  rcases hf : A.find id with _ | ⟨k, x⟩
  · exact b
  · exact b.gone _ _ _
theorem Byt.alter (b : Byt A) (id off m : Int) : Byt (A.alter id off m).1 := by
  unfold Abs.alter
  split
  · exact b
  · rcases hf : A.find id with _ | ⟨k, x⟩
    · exact b
    · dsimp only
      split
      · exact b
      · exact b.set _ _ ((b.fl x (List.mem_of_getElem? (find_some hf).1)).modify _ _) _ _
theorem Byt.redirect (b : Byt A) (id : Int) (to : ByteArray) : Byt (A.redirect id to).1 := by
  unfold Abs.redirect
  split
  · exact b
  · rcases hf : A.find id with _ | ⟨k, x⟩
    · exact b
    · exact b.set k { x with to := to } (b.fl x (List.mem_of_getElem? (find_some hf).1)) _ _
theorem Byt.block (b : Byt A) (f t : ByteArray) : Byt (A.block f t).1 := by
  unfold Abs.block
  split
  · exact b
  · exact ⟨b.fl, b.hist⟩
theorem Byt.unblock (b : Byt A) (f t : ByteArray) : Byt (A.unblock f t).1 := by
  unfold Abs.unblock
  split
  · exact b
  · exact ⟨b.fl, b.hist⟩
theorem Cons.unblock {h : Bool} {i : Nat} (c : Cons h A i) (f t : ByteArray) : Cons h (A.unblock f t).1 (i + 2) := by
  unfold Abs.unblock
  split
  · exact c.mono (fun e => e) (by omega)
  · have c' := c.mono (fun e => e) (Nat.le_add_right i 2)
    exact ⟨c'.bal, c'.src, c'.hon, c'.next, c'.evs, c'.fl, c'.hist, c'.cnt⟩
end

structure Pair (A : Abs) (R : RAbs) (i : Nat) : Prop where
  sim : Sim A R
  cons : Cons false A i
  byt : Byt A
  blk : R.blk.length ≤ i
theorem Pair.zero : Pair A0 R0 0 := ⟨Sim.zero, Cons.zero.mono (fun e => by cases e) (Nat.le_refl _), Byt.zero, Nat.le_refl _⟩
theorem Pair.mono {A : Abs} {R : RAbs} {i j : Nat} (p : Pair A R i) (h : i ≤ j) : Pair A R j := ⟨p.sim, p.cons.mono (fun e => e) h, p.byt, Nat.le_trans p.blk h⟩
theorem blk_send (R : RAbs) (p : APk) : (R.send p).1.blk = R.blk := by
  unfold RAbs.send; split; · rfl
  split <;> rfl
theorem blk_inject (R : RAbs) (p : APk) : (R.inject p).1.blk = R.blk := by
  unfold RAbs.inject; split; · rfl
  split <;> rfl
theorem blk_replay (R : RAbs) (id : Int) : (R.replay id).1.blk = R.blk := by
  unfold RAbs.replay; split; · rfl
  split <;> rfl
theorem blk_dup (R : RAbs) (id : Int) : (R.dup id).1.blk = R.blk := by
  unfold RAbs.dup; split; · rfl
  split <;> rfl
theorem blk_deliver (R : RAbs) (id : Int) : (R.deliver id).1.blk = R.blk := by
  unfold RAbs.deliver; split; · rfl
  split <;> rfl
theorem blk_drop (R : RAbs) (id : Int) : (R.drop id).1.blk = R.blk := by
  unfold RAbs.drop; split <;> rfl
theorem blk_alter (R : RAbs) (id off m : Int) : (R.alter id off m).1.blk = R.blk := by
  unfold RAbs.alter; split; · rfl
  split; · rfl
  split <;> rfl
theorem blk_redirect (R : RAbs) (id : Int) (to : ByteArray) : (R.redirect id to).1.blk = R.blk := by
  unfold RAbs.redirect; split; · rfl
  split <;> rfl
theorem blk_block (R : RAbs) (f t : ByteArray) (off : Bool) : (R.block f t off).1.blk.length ≤ R.blk.length + 1 := by
  unfold RAbs.block
  split
  · exact Nat.le_succ _
  · have h1 := keepP_len f t R.blk
    have h2 : (tailP off f t).length ≤ 1 := by unfold tailP; split <;> simp
    show (keepP f t R.blk ++ tailP off f t).length ≤ _
    rw [List.length_append]
    omega
section
variable {A : Abs} {R : RAbs} {i : Nat}
theorem Pair.send (h : Pair A R i) (p : APk) (hp : ByteL p.bs) : (A.send p).2 = (R.send p).2 ∧ Pair (A.send p).1 (R.send p).1 (i + 2) :=
  ⟨(h.sim.send p).1, (h.sim.send p).2, (h.cons.send p), h.byt.send p hp, by rw [blk_send]; have := h.blk; omega⟩
theorem Pair.inject (h : Pair A R i) (p : APk) (hp : ByteL p.bs) : (A.inject p).2 = (R.inject p).2 ∧ Pair (A.inject p).1 (R.inject p).1 (i + 2) :=
  ⟨(h.sim.inject p).1, (h.sim.inject p).2, (h.cons.inject p), h.byt.inject p hp, by rw [blk_inject]; have := h.blk; omega⟩
theorem Pair.replay (h : Pair A R i) (id : Int) : (A.replay id).2 = (R.replay id).2 ∧ Pair (A.replay id).1 (R.replay id).1 (i + 2) :=
  ⟨(h.sim.replay id).1, (h.sim.replay id).2, (h.cons.replay id), h.byt.replay id, by rw [blk_replay]; have := h.blk; omega⟩
theorem Pair.dup (h : Pair A R i) (id : Int) : (A.dup id).2 = (R.dup id).2 ∧ Pair (A.dup id).1 (R.dup id).1 (i + 2) :=
  ⟨(h.sim.dup id).1, (h.sim.dup id).2, (h.cons.dup id), h.byt.dup id, by rw [blk_dup]; have := h.blk; omega⟩
theorem Pair.deliver (h : Pair A R i) (id : Int) : (A.deliver id).2 = (R.deliver id).2 ∧ Pair (A.deliver id).1 (R.deliver id).1 (i + 2) :=
  ⟨(h.sim.deliver id).1, (h.sim.deliver id).2, (h.cons.deliver id), h.byt.deliver id, by rw [blk_deliver]; have := h.blk; omega⟩
theorem Pair.drop (h : Pair A R i) (id : Int) : (A.drop id).2 = (R.drop id).2 ∧ Pair (A.drop id).1 (R.drop id).1 (i + 2) :=
  ⟨(h.sim.drop id).1, (h.sim.drop id).2, (h.cons.drop id), h.byt.drop id, by rw [blk_drop]; have := h.blk; omega⟩
theorem Pair.alter (h : Pair A R i) (id off m : Int) : (A.alter id off m).2 = (R.alter id off m).2 ∧ Pair (A.alter id off m).1 (R.alter id off m).1 (i + 2) :=
  ⟨(h.sim.alter id off m).1, (h.sim.alter id off m).2, (h.cons.alter id off m), h.byt.alter id off m, by rw [blk_alter]; have := h.blk; omega⟩
theorem Pair.redirect (h : Pair A R i) (id : Int) (to : ByteArray) : (A.redirect id to).2 = (R.redirect id to).2 ∧ Pair (A.redirect id to).1 (R.redirect id to).1 (i + 2) :=
  ⟨(h.sim.redirect id to).1, (h.sim.redirect id to).2, (h.cons.redirect id to), h.byt.redirect id to, by rw [blk_redirect]; have := h.blk; omega⟩
theorem Pair.block (h : Pair A R i) (f t : ByteArray) : (A.block f t).2 = (R.block f t false).2 ∧ Pair (A.block f t).1 (R.block f t false).1 (i + 2) :=
  ⟨(h.sim.block f t).1, (h.sim.block f t).2, (h.cons.block f t), h.byt.block f t, by have := blk_block R f t false; have := h.blk; omega⟩
theorem Pair.unblock (h : Pair A R i) (f t : ByteArray) : (A.unblock f t).2 = (R.block f t true).2 ∧ Pair (A.unblock f t).1 (R.block f t true).1 (i + 2) :=
  ⟨(h.sim.unblock f t).1, (h.sim.unblock f t).2, (h.cons.unblock f t), h.byt.unblock f t, by have := blk_block R f t true; have := h.blk; omega⟩
theorem Pair.rsmall {N : RNet} (h : Pair A N.abs i) (hi : i ≤ 1000000) : RSmall N := by
  have h1 : N.abs.all.length = A.next := h.sim.next.symm
  have h2 : N.abs.hist.length = A.hist.length := by rw [h.sim.hist]
  have h3 : N.evs.length = A.evs.length := (congrArg List.length h.sim.evs).symm
  have h4 : N.blk.length ≤ i := h.blk
  have c := h.cons
  have c1 := c.next
  have c2 := c.hist
  have c3 := c.evs
  simp only [RNet.abs, List.length_map] at h1 h2
  exact ⟨by omega, by omega, by omega, by omega⟩
theorem Pair.genu {N : RNet} (h : Pair A N.abs i) {k : Nat} {x : RFl} (hx : N.all[k]? = some x) (hg : x.gone = false) : x.src < N.hist.length ∧ A.genu ⟨x.p.frm, x.p.to, x.p.bs, k, x.src⟩ = genuR N x := by
  have hm : (⟨x.p.frm, x.p.to, x.p.bs, k, x.src⟩ : AFl) ∈ A.fl := by
    rw [h.sim.fl]
    obtain ⟨i', h1, -, -⟩ := live_at N.abs.all 0 k x.abs (by simp [RNet.abs, hx]) hg
    rw [Nat.zero_add] at h1
    exact List.mem_of_getElem? h1
  have hs := h.cons.src _ hm
  have hh : A.hist = N.hist.map Pk.abs := h.sim.hist
  rw [hh, List.length_map] at hs
  refine ⟨hs, ?_⟩
  unfold Abs.genu genuR
  dsimp only at hs ⊢
  by_cases h0 : 0 ≤ x.src
  · obtain ⟨j, hj⟩ : ∃ j : Nat, x.src = j := ⟨x.src.toNat, by omega⟩
    rw [hj] at hs ⊢
    have hjl : j < N.hist.length := by omega
    have e1 := List.getElem?_eq_getElem hjl
    rw [Int.toNat_natCast, e1, hh]
    have e2 : (N.hist.map Pk.abs).getD j zeroA = N.hist[j].abs := by simp [List.getD, e1]
    rw [e2]
    have b1 := h.byt.fl _ hm
    have b2 : ByteL N.hist[j].bs := h.byt.hist N.hist[j].abs (by rw [hh]; exact List.mem_map_of_mem (List.getElem_mem hjl))
    dsimp only at b1
    show (_ && (_ && _ && decide (x.p.bs = N.hist[j].bs))) = (_ && (_ && _ && ((strOfNums x.p.bs).toList == (strOfNums N.hist[j].bs).toList)))
    rw [str_beq b1 b2]
    rfl
  · simp [h0]
end
end Go.Proofs.Ytiindnmelegkgaa
