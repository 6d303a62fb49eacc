/- A network and its copy. -/
import Derived.Test.YtiindnmelegkgaaD2
import Derived.Test.YtiindnmelegkgaaY3
namespace Go.Proofs.Ytiindnmelegkgaa
open Go.RowKit Go.Shelf
set_option linter.unusedSimpArgs false
set_option linter.unusedVariables false

/-- The network at p and its copy at C; the copy reads as A, with the reference beside it. -/
def PC (H : Hold) (w0 : World) (p C : Nat) (A : Abs) (RN : RNet) (kept : List (Nat × Obj)) (j : Nat) (w : World) : Prop :=
  ∃ ρ N ρc Nc, Rep ρ w p N ∧ Rep ρc w C Nc ∧ Nc.abs = A ∧ Nc.hist <+: N.hist ∧ (∀ b, ρc b ≠ 0 → ρ b = 0 ∨ ∃ q ∈ Nc.hist, q.bv.ownBlock = some b) ∧ (∀ x ∈ kept, w.heap[x.1]? = some x.2 ∧ (ρ x.1 = 0 ∧ ρc x.1 = 0) ∧ ¬ RB RN x.1 ∧ ¬ H.G x.1) ∧
    (∀ b, b < w0.heap.size → ρ b = 0 ∧ ρc b = 0) ∧ Below w0.heap.size w0 w ∧ ROk w RN ∧ (∀ b, RB RN b → ρ b = 0 ∧ ρc b = 0) ∧ Cons false N.abs j ∧ (HoldOk H ρ N w ∧ HoldOk H ρc Nc w)
section
variable {w0 w w' : World} {p C : Nat} {A : Abs} {RN : RNet} {kept : List (Nat × Obj)} {i j : Nat} {H : Hold}
theorem PC.ps (h : PC H w0 p C A RN kept j w) : PS H w0 C A RN kept w := by
  obtain ⟨ρ, N, ρc, Nc, R, Rc, hA, hp, hρ, hk, h0, hb, h1, h2, hj, hH⟩ := h
  exact ⟨ρc, Nc, Rc, hA, fun x hx => ⟨(hk x hx).1, (hk x hx).2.1.2, (hk x hx).2.2⟩, fun b hb => (h0 b hb).2, hb, h1, fun b hb => (h2 b hb).2, hH.2⟩
theorem PS.copied (h : PS H w0 p A RN kept w) (c : Cons false A j) (hj : j ≤ 1000000) : Calls Try.prog 32 #[.pointer (some ⟨p, 0, none⟩)] w fun e w' => ∃ C, e = .returned (.pointer (some ⟨C, 0, none⟩)) ∧ PC H w0 p C A RN kept j w' := by
  obtain ⟨ρ, N, R, rfl, hk, h0, hb0, h1, h2, hH⟩ := h
  refine (copy_any R (c.tiny hj).small).mono ?_
  rintro e w' ⟨C, rfl, ρc, fl, vf, vh, ve, vm, Rc, ha, hl, hρ, hb, hC⟩
  have z : ∀ b, b < w.heap.size → ρ b = 0 → ρc b = 0 := fun b hlt h => by
    rcases Nat.eq_zero_or_pos (ρc b) with h' | h'
    · exact h'
    · rcases hρ b (by omega) with h3 | ⟨q, hq, hqb⟩
      · omega
      · have := R.rhb q hq b hqb
        omega
  refine ⟨C, rfl, ρ, N, ρc, _, R.below hb, Rc, ?_, List.prefix_rfl, fun b hb' => ?_, fun x hx => ?_, fun b hb' => ?_, hb0.trans (hb.mono hb0.size), h1.below hb, fun b hb' => ⟨h2 b hb', z b (h1.lt hb') (h2 b hb')⟩, c, hH.below hb, hH.1, fun b hg => ⟨z b (hH.2 b hg).2.1 (hH.2 b hg).1, ((hH.below hb).2 b hg).2⟩⟩
  · rw [List.take_of_length_le (Nat.le_refl _)] at ha
    simp [Net.abs, ha]
  · rcases hρ b hb' with h | h
    · exact .inl (R.far b h)
    · exact .inr h
  · have hlt := (Array.getElem?_eq_some_iff.1 (hk x hx).1).1
    exact ⟨(hb.block _ hlt).trans (hk x hx).1, ⟨(hk x hx).2.1, z _ hlt (hk x hx).2.1⟩, (hk x hx).2.2⟩
  · exact ⟨h0 b hb', z b (Nat.lt_of_lt_of_le hb' hb0.size) (h0 b hb')⟩
/-- The first network takes a step. -/
theorem PC.use (h : PC H w0 p C A RN kept j w) : ∃ ρ N, Rep ρ w p N ∧ Cons false N.abs j ∧ (∀ b, b < w0.heap.size → ρ b = 0) ∧ (∀ x ∈ kept, ρ x.1 = 0) ∧ (∀ A' j' w', NNext ρ w p N A' w' → Cons false A' j' → PC H w0 p C A RN kept j' w') := by
  obtain ⟨ρ, N, ρc, Nc, R, Rc, hA, hp, hρ, hk, h0, hb, h1, h2, hj, hH⟩ := h
  refine ⟨ρ, N, R, hj, fun b h => (h0 b h).1, fun x hx => (hk x hx).2.1.1, fun A' j' w' hn hc => ?_⟩
  obtain ⟨ρ', N', R', hA', hpre, S⟩ := hn
  have old : ∀ b, ρc b ≠ 0 → ρ b = 0 → w'.heap[b]? = w.heap[b]? := fun b hb h => S.block b (Rc.lt hb) h
  have hhb : ∀ q ∈ Nc.hist, ownB w' q.bv q.bs := fun q hq => R'.hb q (hpre.subset (hp.subset hq))
  have same : ∀ b, ρc b ≠ 0 → (∀ q ∈ Nc.hist, q.bv.ownBlock ≠ some b) → w'.heap[b]? = w.heap[b]? := fun b hb hn => by
    rcases hρ b hb with h | ⟨q, hq, hqb⟩
    · exact old b hb h
    · exact absurd hqb (hn q hq)
  have nh : ∀ b, ρc b ≠ 6 → ∀ q ∈ Nc.hist, q.bv.ownBlock ≠ some b := fun b hb q hq e => hb (Rc.rhb q hq b e)
  have Rc' : Rep ρc w' C Nc := {
    net := (same C (by rw [Rc.rp]; decide) (nh _ (by rw [Rc.rp]; decide))).trans Rc.net
    f := row_stays Rc.f fun b hb => same b (by rw [Rc.rf b hb]; decide) (nh _ (by rw [Rc.rf b hb]; decide))
    h := row_stays Rc.h fun b hb => same b (by rw [Rc.rh b hb]; decide) (nh _ (by rw [Rc.rh b hb]; decide))
    e := row_stays Rc.e fun b hb => same b (by rw [Rc.re b hb]; decide) (nh _ (by rw [Rc.re b hb]; decide))
    m := mapOk_stays Rc.m fun b hb => same b (by rw [Rc.rm b hb]; decide) (nh _ (by rw [Rc.rm b hb]; decide))
    fb := fun x hx => row_stays (Rc.fb x hx) fun b hb => same b (by rw [Rc.rfb x hx b hb]; omega) (nh _ (by rw [Rc.rfb x hx b hb]; omega))
    hb := hhb
    rp := Rc.rp
    rf := Rc.rf
    rh := Rc.rh
    re := Rc.re
    rm := Rc.rm
    rfb := Rc.rfb
    rhb := Rc.rhb
    far := fun b hb => Rc.far b (Nat.le_trans S.size hb)
    ids := Rc.ids
    idn := Rc.idn
    fok := Rc.fok
    hok := Rc.hok }
  refine ⟨ρ', N', ρc, Nc, R', Rc', hA, hp.trans hpre, fun b hb' => ?_, fun x hx => ?_, fun b hb' => ⟨S.role b (Nat.lt_of_lt_of_le hb' hb.size) (h0 b hb').1, (h0 b hb').2⟩, hb.trans (S.below hb.size fun b hb' => (h0 b hb').1), h1.stays fun b hb' => S.block b (h1.lt hb') (h2 b hb').1, fun b hb' => ⟨S.role b (h1.lt hb') (h2 b hb').1, (h2 b hb').2⟩, by rw [hA']; exact hc, hH.1.step S hpre, hH.2.1, fun b hg => ⟨(hH.2.2 b hg).1, Nat.lt_of_lt_of_le (hH.2.2 b hg).2.1 S.size, (S.block b (hH.1.2 b hg).2.1 (hH.1.2 b hg).1).trans (hH.2.2 b hg).2.2⟩⟩
  · rcases hρ b hb' with h | h
    · exact .inl (S.role b (Rc.lt hb') h)
    · exact .inr h
  · have hlt := (Array.getElem?_eq_some_iff.1 (hk x hx).1).1
    exact ⟨(S.block _ hlt (hk x hx).2.1.1).trans (hk x hx).1, ⟨S.role _ hlt (hk x hx).2.1.1, (hk x hx).2.1.2⟩, (hk x hx).2.2⟩
theorem PC.box (h : PC H w0 p C A RN kept j w) (o : Obj) : PC H w0 p C A RN ((w.heap.size, o) :: kept) j (w.alloc o) := by
  have hb : Below w.heap.size w (w.alloc o) := (Below.refl _ _).alloc (Nat.le_refl _) o
  obtain ⟨ρ, N, ρc, Nc, R, Rc, hA, hp, hρ, hk, h0, hb0, h1, h2, hj, hH⟩ := h
  refine ⟨ρ, N, ρc, Nc, R.below hb, Rc.below hb, hA, hp, hρ, fun x hx => ?_, h0, hb0.trans (hb.mono hb0.size), h1.below hb, h2, hj, hH.1.below hb, hH.2.below hb⟩
  rcases List.mem_cons.1 hx with rfl | hx
  · exact ⟨new_at rfl, ⟨R.far _ (Nat.le_refl _), Rc.far _ (Nat.le_refl _)⟩, fun h => Nat.lt_irrefl _ (h1.lt h), fun h => Nat.lt_irrefl _ (hH.1.2 _ h).2.1⟩
  · exact ⟨(hb.block _ (Array.getElem?_eq_some_iff.1 (hk x hx).1).1).trans (hk x hx).1, (hk x hx).2⟩
theorem PC.sub {kept' : List (Nat × Obj)} (h : PC H w0 p C A RN kept j w) (hs : ∀ x ∈ kept', x ∈ kept) : PC H w0 p C A RN kept' j w := by
  obtain ⟨ρ, N, ρc, Nc, R, Rc, hA, hp, hρ, hk, h⟩ := h
  exact ⟨ρ, N, ρc, Nc, R, Rc, hA, hp, hρ, fun x hx => hk x (hs x hx), h⟩
theorem PC.at_ (h : PC H w0 p C A RN kept j w) {x : Nat × Obj} (hx : x ∈ kept) : w.heap[x.1]? = some x.2 := h.ps.at_ hx
def COut1 (H : Hold) (w0 : World) (p C : Nat) (A : Abs) (RN : RNet) (kept : List (Nat × Obj)) (j : Nat) (e : Ending) (w' : World) : Prop := ∃ a b : Int, e = .returned (.tuple #[.int .i64 a, .int .i64 b]) ∧ PC H w0 p C A RN kept j w'
def COut0 (H : Hold) (w0 : World) (p C : Nat) (A : Abs) (RN : RNet) (kept : List (Nat × Obj)) (j : Nat) (e : Ending) (w' : World) : Prop := ∃ a : Int, e = .returned (.int .i64 a) ∧ PC H w0 p C A RN kept j w'
theorem PC.inject (h : PC H w0 p C A RN kept j w) (hj : j ≤ 1000000) (q : Pk) (hr : rdB w q.bv q.bs) (ho : Held w0 kept q) : Calls Try.prog 13 #[.pointer (some ⟨p, 0, none⟩), q.val] w (COut1 H w0 p C A RN kept (j + 2)) := by
  obtain ⟨ρ, N, R, c, h0, hk, hn⟩ := h.use
  exact (inject_all R (c.tiny hj).small q hr fun hne b hb => by
    rcases ho hne b hb with h | ⟨x, hx, rfl⟩
    · exact h0 b h
    · exact hk x hx).mono fun e w' ⟨he, h'⟩ => ⟨_, _, he, hn _ _ _ h' (c.inject _)⟩
theorem PC.alter (h : PC H w0 p C A RN kept j w) (hj : j ≤ 1000000) (id off m : Int) (hi : -9223372036854775808 ≤ id ∧ id ≤ 9223372036854775807) : Calls Try.prog 19 #[.pointer (some ⟨p, 0, none⟩), .int .i64 id, .int .i64 off, .int .u8 m] w (COut0 H w0 p C A RN kept (j + 2)) := by
  obtain ⟨ρ, N, R, c, h0, hk, hn⟩ := h.use
  exact (alter_all R (c.tiny hj).small id off m hi.1 hi.2).mono fun e w' ⟨he, h'⟩ => ⟨_, he, hn _ _ _ h' (c.alter _ _ _)⟩
theorem PC.block (h : PC H w0 p C A RN kept j w) (hj : j ≤ 1000000) (f t : ByteArray) : Calls Try.prog 21 #[.pointer (some ⟨p, 0, none⟩), .string f, .string t] w (COut0 H w0 p C A RN kept (j + 2)) := by
  obtain ⟨ρ, N, R, c, h0, hk, hn⟩ := h.use
  exact (block_all R (c.tiny hj).small f t).mono fun e w' ⟨he, h'⟩ => ⟨_, he, hn _ _ _ h' (c.block _ _)⟩
theorem PC.drop (h : PC H w0 p C A RN kept j w) (hj : j ≤ 1000000) (id : Int) (hi : -9223372036854775808 ≤ id ∧ id ≤ 9223372036854775807) : Calls Try.prog 18 #[.pointer (some ⟨p, 0, none⟩), .int .i64 id] w (COut0 H w0 p C A RN kept (j + 2)) := by
  obtain ⟨ρ, N, R, c, h0, hk, hn⟩ := h.use
  exact (drop_all R (c.tiny hj).small id hi.1 hi.2).mono fun e w' ⟨he, h'⟩ => ⟨_, he, hn _ _ _ h' (c.drop _)⟩
end
end Go.Proofs.Ytiindnmelegkgaa
