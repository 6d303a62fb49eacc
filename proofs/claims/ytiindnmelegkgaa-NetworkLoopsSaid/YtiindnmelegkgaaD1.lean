/- The reference's functions, each in one word; a pair of networks in memory. -/
import Derived.Test.YtiindnmelegkgaaF4
namespace Go.Proofs.Ytiindnmelegkgaa
open Go.RowKit
set_option linter.unusedSimpArgs false
set_option linter.unusedVariables false

section
variable {N : RNet} {w : World}
theorem count_iff (N : RNet) : N.abs.count = countL N.all := count_abs N
theorem rsend_all (R : ROk w N) (S : RSmall N) (p : Pk) (hr : rdB w p.bv p.bs) (hlt : N.all.length < 1000000) :
    Calls Try.prog 66 #[N.val, p.val] w (ROut1 w N (N.abs.send p.abs).1 (N.abs.send p.abs).2.1 (N.abs.send p.abs).2.2) := by
  unfold RAbs.send
  rw [validA_abs, count_abs, hist_len]
  by_cases hv : validB p = false
  · rw [if_pos hv]
    exact rsend_no N w R S p hr 2 (.inl ⟨hv, rfl⟩)
  · rw [if_neg hv]
    have hv' : validB p = true := by simpa using hv
    by_cases hf : 64 ≤ countL N.all ∨ 1024 ≤ N.hist.length
    · rw [if_pos hf]
      exact rsend_no N w R S p hr 7 (.inr ⟨hv', hf, rfl⟩)
    · rw [if_neg hf]
      have := rsend_ok N w R S p hr hv' (fun h => hf (.inl h)) (fun h => hf (.inr h)) hlt
      rw [abs_len]
      exact this
theorem rreplay_all (R : ROk w N) (S : RSmall N) (id : Int) (hlt : N.all.length < 1000000) :
    Calls Try.prog 64 #[N.val, .int .i64 id] w (ROut1 w N (N.abs.replay id).1 (N.abs.replay id).2.1 (N.abs.replay id).2.2) := by
  unfold RAbs.replay
  rw [count_abs, hist_len]
  by_cases hv : id < 0 ∨ (N.hist.length : Int) ≤ id
  · rw [if_pos hv]
    exact rreplay_bad N w R S id hv
  · rw [if_neg hv]
    obtain ⟨k, rfl⟩ : ∃ k : Nat, id = k := ⟨id.toNat, by omega⟩
    have hk : k < N.hist.length := by omega
    by_cases hf : 64 ≤ countL N.all
    · rw [if_pos hf]
      exact rreplay_full N w R S k hk hf
    · rw [if_neg hf]
      have hq := List.getElem?_eq_getElem hk
      rw [abs_len, hat_abs hq]
      exact rreplay_ok N w R S k _ hq hf hlt
theorem rdup_all (R : ROk w N) (S : RSmall N) (id : Int) (hlt : N.all.length < 1000000) :
    Calls Try.prog 65 #[N.val, .int .i64 id] w (ROut1 w N (N.abs.dup id).1 (N.abs.dup id).2.1 (N.abs.dup id).2.2) := by
  unfold RAbs.dup
  rw [count_abs, flies_abs]
  by_cases hv : fliesB N.all id = false
  · rw [if_pos hv]
    exact rdup_miss N w R S id hv
  · rw [if_neg hv]
    have hv' : fliesB N.all id = true := by simpa using hv
    by_cases hf : 64 ≤ countL N.all
    · rw [if_pos hf]
      exact rdup_full N w R S id hv' hf
    · rw [if_neg hf]
      obtain ⟨k, rfl, x, hx, hg⟩ := flies_get hv'
      rw [abs_len, at_abs hx]
      exact rdup_ok N w R S k x hx hg hf hlt
theorem rdeliver_all (R : ROk w N) (S : RSmall N) (id : Int) :
    Calls Try.prog 47 #[N.val, .int .i64 id] w (ROutP w N (N.abs.deliver id).1 (N.abs.deliver id).2.1 (N.abs.deliver id).2.2) := by
  unfold RAbs.deliver
  rw [flies_abs]
  by_cases hv : fliesB N.all id = false
  · rw [if_pos hv]
    exact rdeliver_miss N w R S id hv
  · rw [if_neg hv]
    obtain ⟨k, rfl, x, hx, hg⟩ := flies_get (by simpa using hv)
    rw [at_abs hx]
    by_cases hb : blockedB N.blk x.p.frm x.p.to = true
    · rw [if_pos (show blockedB N.abs.blk x.abs.frm x.abs.to = true from hb)]
      exact rdeliver_stuck N w R S k x hx hg hb
    · rw [if_neg (show ¬ blockedB N.abs.blk x.abs.frm x.abs.to = true from hb)]
      exact rdeliver_ok N w R S k x hx hg (by simpa using hb)
theorem ralter_all (R : ROk w N) (S : RSmall N) (id off m : Int) :
    Calls Try.prog 49 #[N.val, .int .i64 id, .int .i64 off, .int .u8 m] w (ROut0 w N (N.abs.alter id off m).1 (N.abs.alter id off m).2) := by
  unfold RAbs.alter
  rw [flies_abs]
  by_cases hm : (m == 0) = true
  · rw [if_pos hm]
    exact ralter_zero N w R S id off m hm
  · rw [if_neg hm]
    have hm' : (m == 0) = false := by simpa using hm
    by_cases hv : fliesB N.all id = false
    · rw [if_pos hv]
      exact ralter_miss N w R S id off m hm' hv
    · rw [if_neg hv]
      obtain ⟨k, rfl, x, hx, hg⟩ := flies_get (by simpa using hv)
      rw [at_abs hx]
      by_cases ho : off < 0 ∨ (x.p.bs.length : Int) ≤ off
      · rw [if_pos (show off < 0 ∨ (x.abs.bs.length : Int) ≤ off from ho)]
        exact ralter_range N w R S k x hx hg off m hm' ho
      · rw [if_neg (show ¬ (off < 0 ∨ (x.abs.bs.length : Int) ≤ off) from ho)]
        obtain ⟨j, rfl⟩ : ∃ j : Nat, off = j := ⟨off.toNat, by omega⟩
        exact ralter_ok N w R S k x hx hg j m hm' (by omega)
theorem rblock_all (R : ROk w N) (S : RSmall N) (f t : ByteArray) (off : Bool) :
    Calls Try.prog 51 #[N.val, .string f, .string t, .bool off] w (ROut0 w N (N.abs.block f t off).1 (N.abs.block f t off).2) := by
  unfold RAbs.block
  by_cases h : (hostB f && hostB t) = false
  · rw [if_pos h]
    exact rblock_bad N w R S f t off h
  · rw [if_neg h]
    have h' : hostB f = true ∧ hostB t = true := by simpa using h
    exact rblock_ok N w R S f t off h'.1 h'.2
end

/-- What is held on to beside the networks: a part of the history, and blocks that lie as they lay in a world that has been. -/
structure Hold where
  hist : List Pk
  wS : World
  G : Nat → Prop
def HoldOk (H : Hold) (ρ : Nat → Nat) (N : Net) (w : World) : Prop := H.hist <+: N.hist ∧ ∀ b, H.G b → ρ b = 0 ∧ b < w.heap.size ∧ w.heap[b]? = H.wS.heap[b]?
theorem HoldOk.stays {H : Hold} {ρ : Nat → Nat} {N : Net} {w w' : World} (h : HoldOk H ρ N w) (hs : w.heap.size ≤ w'.heap.size) (he : ∀ b, H.G b → w'.heap[b]? = w.heap[b]?) : HoldOk H ρ N w' :=
  ⟨h.1, fun b hb => ⟨(h.2 b hb).1, Nat.lt_of_lt_of_le (h.2 b hb).2.1 hs, (he b hb).trans (h.2 b hb).2.2⟩⟩
theorem HoldOk.below {H : Hold} {ρ : Nat → Nat} {N : Net} {w w' : World} (h : HoldOk H ρ N w) (hb : Below w.heap.size w w') : HoldOk H ρ N w' := h.stays hb.size fun b hg => hb.block b (h.2 b hg).2.1
theorem HoldOk.step {H : Hold} {ρ ρ' : Nat → Nat} {N N' : Net} {w w' : World} (h : HoldOk H ρ N w) (S : Step ρ ρ' w w') (hp : N.hist <+: N'.hist) : HoldOk H ρ' N' w' :=
  ⟨h.1.trans hp, fun b hb => ⟨S.role b (h.2 b hb).2.1 (h.2 b hb).1, Nat.lt_of_lt_of_le (h.2 b hb).2.1 S.size, (S.block b (h.2 b hb).2.1 (h.2 b hb).1).trans (h.2 b hb).2.2⟩⟩
/-- The two networks in memory, and boxes that are kept. -/
def PS (H : Hold) (w0 : World) (p : Nat) (A : Abs) (RN : RNet) (kept : List (Nat × Obj)) (w : World) : Prop :=
  ∃ ρ N, Rep ρ w p N ∧ N.abs = A ∧ (∀ x ∈ kept, w.heap[x.1]? = some x.2 ∧ ρ x.1 = 0 ∧ ¬ RB RN x.1 ∧ ¬ H.G x.1) ∧ (∀ b, b < w0.heap.size → ρ b = 0) ∧ Below w0.heap.size w0 w ∧ ROk w RN ∧ (∀ b, RB RN b → ρ b = 0) ∧ HoldOk H ρ N w
section
variable {w0 w w' : World} {p : Nat} {A : Abs} {RN : RNet} {kept : List (Nat × Obj)} {H : Hold}
theorem PS.ks (h : PS H w0 p A RN kept w) : KS w0 p A kept w := by
  obtain ⟨ρ, N, R, hA, hk, h0, hb, _⟩ := h
  exact ⟨ρ, N, R, hA, fun x hx => ⟨(hk x hx).1, (hk x hx).2.1⟩, h0, hb⟩
theorem PS.rok (h : PS H w0 p A RN kept w) : ROk w RN := by obtain ⟨ρ, N, R, hA, hk, h0, hb, h, _⟩ := h; exact h
theorem PS.lower (h : PS H w0 p A RN kept w) : Below w0.heap.size w0 w := by obtain ⟨ρ, N, R, hA, hk, h0, hb, _⟩ := h; exact hb
theorem PS.at_ (h : PS H w0 p A RN kept w) {x : Nat × Obj} (hx : x ∈ kept) : w.heap[x.1]? = some x.2 := by obtain ⟨ρ, N, R, hA, hk, _⟩ := h; exact (hk x hx).1
theorem PS.below (h : PS H w0 p A RN kept w) (hb : Below w.heap.size w w') : PS H w0 p A RN kept w' := by
  obtain ⟨ρ, N, R, hA, hk, h0, hb0, h1, h2, hH⟩ := h
  exact ⟨ρ, N, R.below hb, hA, fun x hx => ⟨(hb.block _ (Array.getElem?_eq_some_iff.1 (hk x hx).1).1).trans (hk x hx).1, (hk x hx).2⟩, h0, hb0.trans (hb.mono hb0.size), h1.below hb, h2, hH.below hb⟩
theorem PS.box (h : PS H w0 p A RN kept w) (o : Obj) : PS H w0 p A RN ((w.heap.size, o) :: kept) (w.alloc o) := by
  have hb : Below w.heap.size w (w.alloc o) := (Below.refl _ _).alloc (Nat.le_refl _) o
  obtain ⟨ρ', N', R', hA', hk', h0', hb0', h1', h2', hH⟩ := h
  refine ⟨ρ', N', R'.below hb, hA', fun x hx => ?_, h0', hb0'.trans (hb.mono hb0'.size), h1'.below hb, h2', hH.below hb⟩
  rcases List.mem_cons.1 hx with rfl | hx
  · exact ⟨new_at rfl, R'.far _ (Nat.le_refl _), fun h => Nat.lt_irrefl _ (h1'.lt h), fun h => Nat.lt_irrefl _ (hH.2 _ h).2.1⟩
  · exact ⟨(hb.block _ (Array.getElem?_eq_some_iff.1 (hk' x hx).1).1).trans (hk' x hx).1, (hk' x hx).2⟩
theorem PS.sub {kept' : List (Nat × Obj)} (h : PS H w0 p A RN kept w) (hs : ∀ x ∈ kept', x ∈ kept) : PS H w0 p A RN kept' w := by
  obtain ⟨ρ, N, R, hA, hk, h⟩ := h
  exact ⟨ρ, N, R, hA, fun x hx => hk x (hs x hx), h⟩
theorem PS.put {B : Nat} {cs : Array Value} {t : TypeId} (h : PS H w0 p A RN ((B, .cells cs t (0, 0)) :: kept) w) (hB : w0.heap.size ≤ B) (hn : ∀ x ∈ kept, x.1 ≠ B) (i : Nat) (v : Value) :
    PS H w0 p A RN ((B, .cells (cs.setIfInBounds i v) t (0, 0)) :: kept) (w.setCell ⟨B, i, none⟩ v) := by
  obtain ⟨ρ, N, R, hA, hk, h0, hb0, h1, h2, hH⟩ := h
  have hkB := hk (B, .cells cs t (0, 0)) (List.mem_cons_self ..)
  refine ⟨ρ, N, R.stays (by rw [set_size]; exact Nat.le_refl _) (fun b hb => set_other (fun e => hb (by rw [e]; exact hkB.2.1))), hA, fun x hx => ?_, h0, hb0.setCell (p := ⟨B, i, none⟩) hB v, h1.stays fun b hb => set_other (fun e => hkB.2.2.1 (by rw [← show b = B from e]; exact hb)), h2, hH.stays (by rw [set_size]; exact Nat.le_refl _) fun b hb => set_other (fun e => hkB.2.2.2 (by rw [← show b = B from e]; exact hb))⟩
  rcases List.mem_cons.1 hx with rfl | hx
  · exact ⟨set_at hkB.1, hkB.2⟩
  · exact ⟨(set_other (hn x hx)).trans (hk x (List.mem_cons_of_mem _ hx)).1, (hk x (List.mem_cons_of_mem _ hx)).2⟩
/-- The program's network takes a step. -/
theorem PS.use (h : PS H w0 p A RN kept w) : ∃ ρ N, Rep ρ w p N ∧ N.abs = A ∧ (∀ b, b < w0.heap.size → ρ b = 0) ∧ (∀ A' w', NNext ρ w p N A' w' → PS H w0 p A' RN kept w') ∧ (∀ x ∈ kept, ρ x.1 = 0) ∧ (∀ b, RB RN b → ρ b = 0) := by
  obtain ⟨ρ, N, R, hA, hk, h0, hb0, h1, h2, hH⟩ := h
  refine ⟨ρ, N, R, hA, h0, fun A' w' hn => ?_, fun x hx => (hk x hx).2.1, h2⟩
  obtain ⟨ρ', N', R', hA', hpre, S'⟩ := hn
  exact ⟨ρ', N', R', hA', fun x hx => ⟨(S'.block x.1 (Array.getElem?_eq_some_iff.1 (hk x hx).1).1 (hk x hx).2.1).trans (hk x hx).1, S'.role x.1 (Array.getElem?_eq_some_iff.1 (hk x hx).1).1 (hk x hx).2.1, (hk x hx).2.2⟩,
    fun b h => S'.role b (Nat.lt_of_lt_of_le h hb0.size) (h0 b h), hb0.trans (S'.below hb0.size h0), h1.stays fun b hb => S'.block b (h1.lt hb) (h2 b hb), fun b hb => S'.role b (h1.lt hb) (h2 b hb), hH.step S' hpre⟩
/-- The reference takes a step. -/
theorem PS.ref {RN' : RNet} (h : PS H w0 p A RN kept w) (hn : RNext w w' RN RN') : PS H w0 p A RN' kept w' := by
  obtain ⟨ρ, N, R, hA, hk, h0, hb0, h1, h2, hH⟩ := h
  refine ⟨ρ, N, R.below hn.below, hA, fun x hx => ⟨(hn.below.block _ (Array.getElem?_eq_some_iff.1 (hk x hx).1).1).trans (hk x hx).1, (hk x hx).2.1, fun hr => ?_, (hk x hx).2.2.2⟩, h0, hb0.trans (hn.below.mono hb0.size), hn.ok, fun b hb => ?_, hH.below hn.below⟩
  · rcases hn.blocks _ hr with h | h
    · exact (hk x hx).2.2.1 h
    · have := (Array.getElem?_eq_some_iff.1 (hk x hx).1).1
      omega
  · rcases hn.blocks _ hb with h | h
    · exact h2 b h
    · exact R.far b h
theorem PS.seen {i : Nat} (h : PS H w0 p A RN kept w) (P : Pair A RN.abs i) (hi : i ≤ 1000000) : Seen (.pointer (some ⟨p, 0, none⟩)) A w := h.ks.seen (P.cons.tiny hi) P.cons.src

theorem PS.held (h : PS H w0 p A RN kept w) : (∀ q ∈ H.hist, ownB w q.bv q.bs ∧ validB q = true) ∧ ∀ b, H.G b → w.heap[b]? = H.wS.heap[b]? := by
  obtain ⟨ρ, N, R, hA, hk, h0, hb0, h1, h2, hH⟩ := h
  exact ⟨fun q hq => ⟨R.hb q (hH.1.subset hq), R.hok q (hH.1.subset hq)⟩, fun b hb => (hH.2 b hb).2.2⟩
/-- The history, and blocks, may be held on to from now on. -/
theorem PS.hold (h : PS H w0 p A RN kept w) : ∃ ρ N, Rep ρ w p N ∧ N.abs = A ∧ ∀ (w1 : World) (G : Nat → Prop), Below w.heap.size w w1 → (∀ b, G b → b < w1.heap.size ∧ (w.heap.size ≤ b ∨ b < w0.heap.size ∨ RB RN b ∨ ∃ x ∈ kept, x.1 = b)) →
    ∀ kept' : List (Nat × Obj), (∀ x ∈ kept', x ∈ kept ∧ ¬ G x.1) → PS ⟨N.hist, w1, G⟩ w0 p A RN kept' w1 := by
  obtain ⟨ρ, N, R, hA, hk, h0, hb0, h1, h2, hH⟩ := h
  refine ⟨ρ, N, R, hA, fun w1 G hb hG kept' hk' => ⟨ρ, N, R.below hb, hA, fun x hx => ?_, h0, hb0.trans (hb.mono hb0.size), h1.below hb, h2, List.prefix_rfl, fun b hbG => ⟨?_, (hG b hbG).1, rfl⟩⟩⟩
  · obtain ⟨hx1, hx2⟩ := hk' x hx
    exact ⟨(hb.block _ (Array.getElem?_eq_some_iff.1 (hk x hx1).1).1).trans (hk x hx1).1, (hk x hx1).2.1, (hk x hx1).2.2.1, hx2⟩
  · rcases (hG b hbG).2 with h | h | h | ⟨x, hx, rfl⟩
    · exact R.far b h
    · exact h0 b h
    · exact h2 b h
    · exact (hk x hx).2.1

/-! ### The program's methods over a pair -/
def POut1 (H : Hold) (w0 : World) (p : Nat) (RN : RNet) (kept : List (Nat × Obj)) (r : Abs × Int × Int) (e : Ending) (w' : World) : Prop := e = .returned (.tuple #[.int .i64 r.2.1, .int .i64 r.2.2]) ∧ PS H w0 p r.1 RN kept w'
def POut0 (H : Hold) (w0 : World) (p : Nat) (RN : RNet) (kept : List (Nat × Obj)) (r : Abs × Int) (e : Ending) (w' : World) : Prop := e = .returned (.int .i64 r.2) ∧ PS H w0 p r.1 RN kept w'
/-- The bytes of a packet that is handed over lie in a kept box, or below. -/
def Held (w0 : World) (kept : List (Nat × Obj)) (q : Pk) : Prop := q.bs ≠ [] → ∀ b, q.bv.ownBlock = some b → b < w0.heap.size ∨ ∃ x ∈ kept, x.1 = b
theorem PS.send (h : PS H w0 p A RN kept w) (T : Tiny A) (q : Pk) (hr : rdB w q.bv q.bs) (ho : Held w0 kept q) : Calls Try.prog 10 #[.pointer (some ⟨p, 0, none⟩), q.val] w (POut1 H w0 p RN kept (A.send q.abs)) := by
  obtain ⟨ρ, N, R, rfl, h0, hn, hk, _⟩ := h.use
  exact (send_all R T.small q hr fun hne b hb => by
    rcases ho hne b hb with h | ⟨x, hx, rfl⟩
    · exact h0 b h
    · exact hk x hx).mono fun e w' ⟨he, h'⟩ => ⟨he, hn _ _ h'⟩
theorem PS.inject (h : PS H w0 p A RN kept w) (T : Tiny A) (q : Pk) (hr : rdB w q.bv q.bs) (ho : Held w0 kept q) : Calls Try.prog 13 #[.pointer (some ⟨p, 0, none⟩), q.val] w (POut1 H w0 p RN kept (A.inject q.abs)) := by
  obtain ⟨ρ, N, R, rfl, h0, hn, hk, _⟩ := h.use
  exact (inject_all R T.small q hr fun hne b hb => by
    rcases ho hne b hb with h | ⟨x, hx, rfl⟩
    · exact h0 b h
    · exact hk x hx).mono fun e w' ⟨he, h'⟩ => ⟨he, hn _ _ h'⟩
theorem PS.replay (h : PS H w0 p A RN kept w) (T : Tiny A) (id : Int) : Calls Try.prog 14 #[.pointer (some ⟨p, 0, none⟩), .int .i64 id] w (POut1 H w0 p RN kept (A.replay id)) := by
  obtain ⟨ρ, N, R, rfl, h0, hn, _⟩ := h.use
  exact (replay_all R T.small id).mono fun e w' ⟨he, h'⟩ => ⟨he, hn _ _ h'⟩
theorem PS.dup (h : PS H w0 p A RN kept w) (T : Tiny A) (id : Int) (hi : -9223372036854775808 ≤ id ∧ id ≤ 9223372036854775807) : Calls Try.prog 15 #[.pointer (some ⟨p, 0, none⟩), .int .i64 id] w (POut1 H w0 p RN kept (A.dup id)) := by
  obtain ⟨ρ, N, R, rfl, h0, hn, _⟩ := h.use
  exact (dup_all R T.small id hi.1 hi.2).mono fun e w' ⟨he, h'⟩ => ⟨he, hn _ _ h'⟩
theorem PS.drop (h : PS H w0 p A RN kept w) (T : Tiny A) (id : Int) (hi : -9223372036854775808 ≤ id ∧ id ≤ 9223372036854775807) : Calls Try.prog 18 #[.pointer (some ⟨p, 0, none⟩), .int .i64 id] w (POut0 H w0 p RN kept (A.drop id)) := by
  obtain ⟨ρ, N, R, rfl, h0, hn, _⟩ := h.use
  exact (drop_all R T.small id hi.1 hi.2).mono fun e w' ⟨he, h'⟩ => ⟨he, hn _ _ h'⟩
theorem PS.alter (h : PS H w0 p A RN kept w) (T : Tiny A) (id off m : Int) (hi : -9223372036854775808 ≤ id ∧ id ≤ 9223372036854775807) : Calls Try.prog 19 #[.pointer (some ⟨p, 0, none⟩), .int .i64 id, .int .i64 off, .int .u8 m] w (POut0 H w0 p RN kept (A.alter id off m)) := by
  obtain ⟨ρ, N, R, rfl, h0, hn, _⟩ := h.use
  exact (alter_all R T.small id off m hi.1 hi.2).mono fun e w' ⟨he, h'⟩ => ⟨he, hn _ _ h'⟩
theorem PS.redirect (h : PS H w0 p A RN kept w) (T : Tiny A) (id : Int) (tw : ByteArray) (hi : -9223372036854775808 ≤ id ∧ id ≤ 9223372036854775807) : Calls Try.prog 20 #[.pointer (some ⟨p, 0, none⟩), .int .i64 id, .string tw] w (POut0 H w0 p RN kept (A.redirect id tw)) := by
  obtain ⟨ρ, N, R, rfl, h0, hn, _⟩ := h.use
  exact (redirect_all R T.small id tw hi.1 hi.2).mono fun e w' ⟨he, h'⟩ => ⟨he, hn _ _ h'⟩
theorem PS.block (h : PS H w0 p A RN kept w) (T : Tiny A) (f t : ByteArray) : Calls Try.prog 21 #[.pointer (some ⟨p, 0, none⟩), .string f, .string t] w (POut0 H w0 p RN kept (A.block f t)) := by
  obtain ⟨ρ, N, R, rfl, h0, hn, _⟩ := h.use
  exact (block_all R T.small f t).mono fun e w' ⟨he, h'⟩ => ⟨he, hn _ _ h'⟩
theorem PS.unblock (h : PS H w0 p A RN kept w) (T : Tiny A) (f t : ByteArray) : Calls Try.prog 31 #[.pointer (some ⟨p, 0, none⟩), .string f, .string t] w (POut0 H w0 p RN kept (A.unblock f t)) := by
  obtain ⟨ρ, N, R, rfl, h0, hn, _⟩ := h.use
  exact (unblock_all R T.small f t).mono fun e w' ⟨he, h'⟩ => ⟨he, hn _ _ h'⟩
/-- Deliver hands back a packet whose bytes nobody else holds. -/
def PSq (H : Hold) (w0 : World) (p : Nat) (A : Abs) (RN : RNet) (kept : List (Nat × Obj)) (q : Pk) (w : World) : Prop := PS H w0 p A RN kept w ∧ ownB w q.bv q.bs ∧ q.bs.length ≤ 65536
def POutP (H : Hold) (w0 : World) (p : Nat) (RN : RNet) (kept : List (Nat × Obj)) (r : Abs × APk × Int) (e : Ending) (w' : World) : Prop := ∃ q : Pk, e = .returned (.tuple #[q.val, .int .i64 r.2.2]) ∧ q.abs = r.2.1 ∧ PSq H w0 p r.1 RN kept q w'
theorem PS.deliver (h : PS H w0 p A RN kept w) (T : Tiny A) (id : Int) (hi : -9223372036854775808 ≤ id ∧ id ≤ 9223372036854775807) : Calls Try.prog 11 #[.pointer (some ⟨p, 0, none⟩), .int .i64 id] w (POutP H w0 p RN kept (A.deliver id)) := by
  obtain ⟨ρ, N, R, rfl, h0, hn, _⟩ := h.use
  refine (deliver_all R T.small id hi.1 hi.2).mono ?_
  rintro e w' ⟨ρ', N', q, rfl, R', hA', hpre, S', hq, ho, hf, hl⟩
  exact ⟨q, rfl, hq, hn _ _ ⟨ρ', N', R', hA', hpre, S'⟩, ho, hl⟩
end
end Go.Proofs.Ytiindnmelegkgaa
