/- The methods over a network in plain words, and what is kept beside it. -/
import Derived.Test.YtiindnmelegkgaaC2
namespace Go.Proofs.Ytiindnmelegkgaa
open Go.RowKit Go.Shelf
set_option linter.unusedSimpArgs false
set_option linter.unusedVariables false

def KOut1 (w0 : World) (p : Nat) (kept : List (Nat × Obj)) (r : Abs × Int × Int) (e : Ending) (w' : World) : Prop := e = .returned (.tuple #[.int .i64 r.2.1, .int .i64 r.2.2]) ∧ KS w0 p r.1 kept w'
def KOut0 (w0 : World) (p : Nat) (kept : List (Nat × Obj)) (r : Abs × Int) (e : Ending) (w' : World) : Prop := e = .returned (.int .i64 r.2) ∧ KS w0 p r.1 kept w'
def KOutP (w0 : World) (p : Nat) (kept : List (Nat × Obj)) (r : Abs × APk × Int) (e : Ending) (w' : World) : Prop := ∃ q : Pk, e = .returned (.tuple #[q.val, .int .i64 r.2.2]) ∧ q.abs = r.2.1 ∧ q.bs.length ≤ 65536 ∧ KSq w0 p r.1 kept q w'
section
variable {w0 w : World} {p : Nat} {A : Abs} {kept : List (Nat × Obj)}
theorem KS.drop_box {x : Nat × Obj} (h : KS w0 p A (x :: kept) w) : KS w0 p A kept w := by
  obtain ⟨ρ, N, R, hA, hk, h0, hb⟩ := h
  exact ⟨ρ, N, R, hA, fun y hy => hk y (List.mem_cons_of_mem _ hy), h0, hb⟩
/-- What is used of KS: the network in memory; and how the next state is told. -/
theorem KS.use (h : KS w0 p A kept w) : ∃ ρ N, Rep ρ w p N ∧ N.abs = A ∧ (∀ b, b < w0.heap.size → ρ b = 0) ∧ (∀ A' w', NNext ρ w p N A' w' → KS w0 p A' kept w') ∧ (∀ x ∈ kept, ρ x.1 = 0) := by
  obtain ⟨ρ, N, R, hA, hk, h0, hb⟩ := h
  refine ⟨ρ, N, R, hA, h0, fun A' w' hn => ?_, fun x hx => (hk x hx).2⟩
  obtain ⟨ρ', N', R', hA', _, S'⟩ := hn
  exact KS.next hk h0 hb R' hA' S'
theorem KS.sendA (h : KS w0 p A kept w) (T : Tiny A) (q : Pk) (hr : rdB w q.bv q.bs) (ho : q.bs ≠ [] → ∀ b, q.bv.ownBlock = some b → b < w0.heap.size) : Calls Try.prog 10 #[.pointer (some ⟨p, 0, none⟩), q.val] w (KOut1 w0 p kept (A.send q.abs)) := by
  obtain ⟨ρ, N, R, rfl, h0, hn, _⟩ := h.use
  exact (send_all R T.small q hr fun hne b hb => h0 b (ho hne b hb)).mono fun e w' ⟨he, h'⟩ => ⟨he, hn _ _ h'⟩
theorem KS.injectA (h : KS w0 p A kept w) (T : Tiny A) (q : Pk) (hr : rdB w q.bv q.bs) (ho : q.bs ≠ [] → ∀ b, q.bv.ownBlock = some b → b < w0.heap.size) : Calls Try.prog 13 #[.pointer (some ⟨p, 0, none⟩), q.val] w (KOut1 w0 p kept (A.inject q.abs)) := by
  obtain ⟨ρ, N, R, rfl, h0, hn, _⟩ := h.use
  exact (inject_all R T.small q hr fun hne b hb => h0 b (ho hne b hb)).mono fun e w' ⟨he, h'⟩ => ⟨he, hn _ _ h'⟩
theorem KS.replayA (h : KS w0 p A kept w) (T : Tiny A) (id : Int) : Calls Try.prog 14 #[.pointer (some ⟨p, 0, none⟩), .int .i64 id] w (KOut1 w0 p kept (A.replay id)) := by
  obtain ⟨ρ, N, R, rfl, h0, hn, _⟩ := h.use
  exact (replay_all R T.small id).mono fun e w' ⟨he, h'⟩ => ⟨he, hn _ _ h'⟩
theorem KS.dupA (h : KS w0 p A kept w) (T : Tiny A) (id : Int) (hi : -9223372036854775808 ≤ id ∧ id ≤ 9223372036854775807) : Calls Try.prog 15 #[.pointer (some ⟨p, 0, none⟩), .int .i64 id] w (KOut1 w0 p kept (A.dup id)) := by
  obtain ⟨ρ, N, R, rfl, h0, hn, _⟩ := h.use
  exact (dup_all R T.small id hi.1 hi.2).mono fun e w' ⟨he, h'⟩ => ⟨he, hn _ _ h'⟩
theorem KS.deliverA (h : KS w0 p A kept w) (T : Tiny A) (id : Int) (hi : -9223372036854775808 ≤ id ∧ id ≤ 9223372036854775807) : Calls Try.prog 11 #[.pointer (some ⟨p, 0, none⟩), .int .i64 id] w (KOutP w0 p kept (A.deliver id)) := by
  obtain ⟨ρ, N, R, hA, hk, h0, hb⟩ := h
  subst hA
  refine (deliver_all R T.small id hi.1 hi.2).mono ?_
  rintro e w' ⟨ρ', N', q, rfl, R', hA', _, S', hq, ho, hf, hl⟩
  refine ⟨q, rfl, hq, hl, ?_⟩
  obtain ⟨ρ2, N2, R2, hA2, hk2, h02, hb2⟩ : KS w0 p _ kept w' := KS.next hk h0 hb R' hA' S'
  exact ⟨ρ', N', R', hA', fun x hx => ⟨(S'.block x.1 (Array.getElem?_eq_some_iff.1 (hk x hx).1).1 (hk x hx).2).trans (hk x hx).1, S'.role x.1 (Array.getElem?_eq_some_iff.1 (hk x hx).1).1 (hk x hx).2⟩,
    fun b h => S'.role b (Nat.lt_of_lt_of_le h hb.size) (h0 b h), hb2, ho, hf⟩
theorem KS.dropA (h : KS w0 p A kept w) (T : Tiny A) (id : Int) (hi : -9223372036854775808 ≤ id ∧ id ≤ 9223372036854775807) : Calls Try.prog 18 #[.pointer (some ⟨p, 0, none⟩), .int .i64 id] w (KOut0 w0 p kept (A.drop id)) := by
  obtain ⟨ρ, N, R, rfl, h0, hn, _⟩ := h.use
  exact (drop_all R T.small id hi.1 hi.2).mono fun e w' ⟨he, h'⟩ => ⟨he, hn _ _ h'⟩
theorem KS.alterA (h : KS w0 p A kept w) (T : Tiny A) (id off m : Int) (hi : -9223372036854775808 ≤ id ∧ id ≤ 9223372036854775807) : Calls Try.prog 19 #[.pointer (some ⟨p, 0, none⟩), .int .i64 id, .int .i64 off, .int .u8 m] w (KOut0 w0 p kept (A.alter id off m)) := by
  obtain ⟨ρ, N, R, rfl, h0, hn, _⟩ := h.use
  exact (alter_all R T.small id off m hi.1 hi.2).mono fun e w' ⟨he, h'⟩ => ⟨he, hn _ _ h'⟩
theorem KS.redirectA (h : KS w0 p A kept w) (T : Tiny A) (id : Int) (to : ByteArray) (hi : -9223372036854775808 ≤ id ∧ id ≤ 9223372036854775807) : Calls Try.prog 20 #[.pointer (some ⟨p, 0, none⟩), .int .i64 id, .string to] w (KOut0 w0 p kept (A.redirect id to)) := by
  obtain ⟨ρ, N, R, rfl, h0, hn, _⟩ := h.use
  exact (redirect_all R T.small id to hi.1 hi.2).mono fun e w' ⟨he, h'⟩ => ⟨he, hn _ _ h'⟩
theorem KS.blockA (h : KS w0 p A kept w) (T : Tiny A) (f t : ByteArray) : Calls Try.prog 21 #[.pointer (some ⟨p, 0, none⟩), .string f, .string t] w (KOut0 w0 p kept (A.block f t)) := by
  obtain ⟨ρ, N, R, rfl, h0, hn, _⟩ := h.use
  exact (block_all R T.small f t).mono fun e w' ⟨he, h'⟩ => ⟨he, hn _ _ h'⟩
theorem KS.genuineA (h : KS w0 p A kept w) (T : Tiny A) (hs : ∀ x ∈ A.fl, x.src < (A.hist.length : Int)) (id : Int) (hi : -9223372036854775808 ≤ id ∧ id ≤ 9223372036854775807) : Calls Try.prog 16 #[.pointer (some ⟨p, 0, none⟩), .int .i64 id] w fun e w' => e = .returned (.tuple #[.bool (A.genuine id).1, .int .i64 (A.genuine id).2]) ∧ KS w0 p A kept w' ∧ Below w.heap.size w w' := by
  obtain ⟨ρ, N, R, hA, h0, hn, _⟩ := h.use
  subst hA
  refine (genuine_all R T.small id (fun x hx => ?_) hi.1 hi.2).mono fun e w' ⟨he, h'⟩ => ⟨he, h.stays h', h'⟩
  have := hs x.abs (List.mem_map_of_mem hx)
  rw [abs_hist] at this
  exact this
/-- The numbers of the packets in flight differ. -/
theorem KS.ids (h : KS w0 p A kept w) : A.fl.Pairwise (fun x y => x.id < y.id) := by
  obtain ⟨ρ, N, R, rfl, _⟩ := h
  exact List.Pairwise.map _ (fun _ _ h => h) R.ids
end
theorem find_id {A : Abs} (h : A.fl.Pairwise (fun x y => x.id < y.id)) {x : AFl} (hx : x ∈ A.fl) : ∃ i, A.find (x.id : Nat) = some (i, x) := by
  rcases hf : A.find (x.id : Nat) with _ | ⟨i, y⟩
  · exact absurd rfl (find_none hf x hx)
  · obtain ⟨h1, h2⟩ := find_some hf
    dsimp only at h1 h2
    obtain ⟨j, hj⟩ := List.mem_iff_getElem?.1 hx
    have : i = j := by
      rcases Nat.lt_trichotomy i j with h' | h' | h'
      · obtain ⟨a, b⟩ := List.getElem?_eq_some_iff.1 h1
        obtain ⟨c, d⟩ := List.getElem?_eq_some_iff.1 hj
        have := List.pairwise_iff_getElem.1 h i j a c h'
        rw [b, d] at this
        omega
      · exact h'
      · obtain ⟨a, b⟩ := List.getElem?_eq_some_iff.1 h1
        obtain ⟨c, d⟩ := List.getElem?_eq_some_iff.1 hj
        have := List.pairwise_iff_getElem.1 h j i c a h'
        rw [b, d] at this
        omega
    subst this
    rw [h1] at hj
    cases hj
    exact ⟨i, rfl⟩
end Go.Proofs.Ytiindnmelegkgaa
