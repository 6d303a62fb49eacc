/- A loop over an iterator that hands out what it has just laid: the body may lean on a word about what it is handed, in the world in which it is handed. -/
import Derived.RangeFuncNested
import Derived.RangeFuncCalls
import Derived.RangeFuncLeaves
namespace Go.Proofs.Ytiindnmelegkgaa
open Go.RowKit

section
variable {F : Fence} {n : Nat} {P : Program}

/-- The iterator's word: as SeqStopsK, but each round may lean on Px of what it is handed. -/
def SeqPx {α : Type} (F : Fence) (n : Nat) (P : Program) (g : Nat) (lb : Array Value) (encs : α → Array Value) (Px : List α → α → World → Prop) (Kp : World → World → Prop) (S Sp : List α → Prop) (N : Nat) (w : World) : Prop :=
  ∀ (l : Nat) (J Jx : List α → World → Prop) (W : World), Below w.heap.size w W → AbidesFrom W.heap.size J → AbidesFrom W.heap.size Jx →
    (∀ pre x W1, J pre W1 → Px pre x W1 → pre.length < N → YieldAt F (n - 1) P l (encs x) W1 fun e W' =>
      (e = .returned (.bool true) ∧ J (pre ++ [x]) W' ∧ Kp W1 W') ∨ (e = .returned (.bool false) ∧ Jx (pre ++ [x]) W')) →
    J [] W →
    CallsIn F n P g (#[.func (.yield l) #[] #[]] ++ lb) W fun e W' => (∃ v, e = .returned v) ∧ ((∃ xs, S xs ∧ J xs W') ∨ (∃ pre, Sp pre ∧ Jx pre W'))

/-- What the record and the block for deferred calls hold. -/
structure Book (W : World) (D : Nat) (r : Loop) : Prop where
  loop : W.heap[D + 1]? = some (.loop r)
  defs : W.heap[D]? = some (.deferred (some []))
theorem Book.grown {W W' : World} {D : Nat} {r : Loop} {row : Option Nat} (h : Book W D r) (hg : W.grownBy W' row) (hr : ∀ k, row = some k → ∃ o : Obj, W.heap[k]? = some o ∧ o.isWalk = true) : Book W' D r :=
  ⟨(grownBy_keeps hg hr h.loop rfl).trans h.loop, (grownBy_keeps hg hr h.defs rfl).trans h.defs⟩

/-- THE LAW. -/
theorem wpIn_range_px {α : Type} {g : Operand} {ps : Array Tmp} {assign body : Code} {Q : Exit → Act → World → Prop} {a : Act} {w : World}
    (hro : F.round = none) (h1 : 1 ≤ n) {gf : Nat} {lb : Array Value} (hg : a.eval g = .func (.func gf) #[] lb) (hFg : F.fn gf) (eg : ∀ args w, (callFunc gf args).run P w = .ok (.enter gf args) w)
    {encs : α → Array Value} {Px : List α → α → World → Prop} {Kp : World → World → Prop} {S Sp : List α → Prop} {N : Nat} {w0 : World} (hseq : SeqPx F (n - 1) P gf lb encs Px Kp S Sp N w0)
    (hKt : ∀ {A B C : World}, Kp A B → Kp B C → Kp A C) (hKb : ∀ (W : World) (l : Nat) (o o' : Obj), w.heap.size ≤ l → W.heap[l]? = some o → o.isCells = false → o.isWalk = false → Kp W (W.putObj l o')) (hb0 : Below w0.heap.size w0 w) (hps : ∀ x, (encs x).size = ps.size)
    (I : List α → World → Prop) (Ix : Code → List α → World → Prop) (hI : OwnFrom w.heap.size I) (hIx : ∀ c, OwnFrom w.heap.size (Ix c)) (h0 : I [] w) (Ax : List α → α → Act → World → Prop) (hAx : ∀ pre x a', OwnFrom w.heap.size (fun (_ : Unit) W => Ax pre x a' W))
    (hassign : ∀ (l : Nat) (pre : List α) (x : α) (W : World) (K : Act → World → Prop), I pre W → Px pre x W → (∀ a' W', KeepsFrom w.heap.size W W' → Kp W W' → I pre W' → Ax pre x a' W' → K a' W') →
      assign.wpIn (F.inRound l) (n - 1 - 1) P (Exit.then K (fun _ _ _ => False)) { tmps := (ps.zip (encs x)).foldl (fun t (p, v) => t.setIfInBounds p v) a.tmps, defers := [] } W)
    (hbody : ∀ (l : Nat) (pre : List α) (x : α) (a' : Act) (W : World), I pre W → Ax pre x a' W → pre.length < N → body.wpIn (F.inRound l) (n - 1 - 1) P (ownPostG w.heap.size Kp I Ix (pre ++ [x]) W) a' W)
    (hdone : ∀ (D : Nat) (xs : List α) (W : World), w.heap.size ≤ D → S xs → I xs W → W.heap[D]? = some (.deferred (some [])) → Q .normal { a with defers := { target := .collected D, args := #[] } :: a.defers } W)
    (hstop : ∀ (D : Nat) (c : Code) (pre : List α) (W : World), w.heap.size ≤ D → Sp pre → Ix c pre W → W.heap[D]? = some (.deferred (some [])) → c.wpIn F n P Q { a with defers := { target := .collected D, args := #[] } :: a.defers } W) :
    (Code.rangeFunc g ps assign body).wpIn F n P Q a w := by
  refine wpIn_rangeFunc fun fn hfn => ?_
  rw [hro]
  obtain ⟨rec, hrec⟩ : ∃ rec : LoopState → Option Code → Loop, rec = fun st pe => { state := st, pending := pe, fn, tmps := a.tmps, params := ps, assign, body, defers := w.heap.size } := ⟨_, rfl⟩
  obtain ⟨V, hV⟩ : ∃ V, (w.alloc (.deferred (some []))).alloc (.loop (rec .ready none)) = V := ⟨_, rfl⟩
  have zV : V.heap.size = w.heap.size + 2 := by rw [← hV]; simp
  have bV : Book V w.heap.size (rec .ready none) := by
    rw [← hV]
    refine ⟨?_, (Below.heap_alloc _ _ _ (by simp)).trans (World.alloc_heap_new w _)⟩
    have := World.alloc_heap_new (w.alloc (.deferred (some []))) (.loop (rec .ready none))
    rwa [World.size_alloc] at this
  have iV : I [] V := by rw [← hV]; exact hI.alloc _ (hI.alloc _ h0)
  have kV : Below w0.heap.size w0 V := by rw [← hV]; exact hb0.trans ((((Below.refl _ w).alloc (Nat.le_refl _) _).alloc (by simp) _).mono hb0.size)
  have walk : ∀ {A B : World} {row : Option Nat}, (∀ r, row = some r → V.heap.size ≤ r ∧ ∃ o : Obj, A.heap[r]? = some o ∧ o.isWalk = true) → ∀ r, row = some r → w.heap.size ≤ r ∧ ∃ o : Obj, A.heap[r]? = some o ∧ o.isCells = false := fun h r e => by
    obtain ⟨h1, o, h2, h3⟩ := h r e
    exact ⟨by omega, o, h2, Obj.not_cells_of_walk h3⟩
  refine ⟨w.heap.size + 1, [{ target := .collected w.heap.size, args := #[] }], V, { target := .fn (.func gf) lb, args := #[.func (.yield (w.heap.size + 1)) #[] #[]] }, V, gf, #[.func (.yield (w.heap.size + 1)) #[] #[]] ++ lb, V, ?_, ?_, ?_, ?_, fun _ => h1, ?_⟩
  · rw [← hV, hrec]
    exact run_enterLoop_outer _ _ _ _ _
  · simp only [resolve, hg]
    simp [go_sem]
  · intro f' hf'
    simp [Target.leads] at hf'
    rw [← hf']
    exact hFg
  · simp [invoke, go_sem, eg]
  refine (hseq (w.heap.size + 1) (fun pre W => I pre W ∧ Book W w.heap.size (rec .ready none)) (fun pre W => ∃ c, Ix c pre W ∧ Book W w.heap.size (rec .done (some c))) V kV
    (fun s A B row hs hg' hr => ⟨hI s A B row hs.1 hg' (walk (B := B) hr), hs.2.grown hg' (fun r e => (hr r e).2)⟩)
    (fun s A B row ⟨c, hc, hb⟩ hg' hr => ⟨c, hIx c s A B row hc hg' (walk (B := B) hr), hb.grown hg' (fun r e => (hr r e).2)⟩) ?_ ⟨iV, bV⟩).mono ?_
  · rintro pre x W ⟨hi, hb⟩ hx hlen
    have hy := run_yield (P := P) (args := encs x) hb.loop (by rw [hrec]; exact hps x)
    rw [hrec] at hy
    refine ⟨fn, _, assign, body, hy, roundIn_of_wpIn hfn (hassign _ pre x W _ hi hx fun a' W1 k1 p1 i1 x1 => ?_)⟩
    have b1 : Book W1 w.heap.size (rec .ready none) := ⟨k1.same _ _ (by omega) hb.loop rfl, k1.same _ _ (Nat.le_refl _) hb.defs rfl⟩
    have hl1 := (Array.getElem?_eq_some_iff.1 b1.loop).1
    obtain ⟨W2, hW2⟩ : ∃ W2, W2 = W1.putObj (w.heap.size + 1) (.loop { rec .ready none with state := .busy }) := ⟨_, rfl⟩
    have b2 : Book W2 w.heap.size { rec .ready none with state := .busy } := by
      rw [hW2]
      exact ⟨World.putObj_heap_same hl1, (World.putObj_heap_other (by omega)).trans b1.defs⟩
    have p2 : Kp W1 W2 := by rw [hW2]; exact hKb _ _ _ _ (by omega) b1.loop rfl rfl
    have i2 : I pre W2 := by rw [hW2]; exact hI.putObj _ i1 (by omega) b1.loop rfl
    have x2 : Ax pre x a' W2 := by rw [hW2]; exact (hAx pre x a').putObj (s := ()) _ x1 (by omega) b1.loop rfl
    refine ⟨W2, by rw [hW2]; exact run_beginRound b1.loop (by rw [hrec]), wpIn_mono (hbody _ pre x a' W2 i2 x2 hlen) ?_⟩
    have fin : ∀ (jump : Option Code) (W3 : World), KeepsFrom w.heap.size W2 W3 → ∃ W4, W4 = W3.putObj (w.heap.size + 1) (.loop (rec (if jump.isNone then .ready else .done) jump)) ∧ (Instr.endRound (w.heap.size + 1) jump).run P W3 = .ok (.bool jump.isNone) W4 ∧
        Book W4 w.heap.size (rec (if jump.isNone then .ready else .done) jump) ∧ W3.heap[w.heap.size + 1]? = some (.loop { rec .ready none with state := .busy }) := fun jump W3 k3 => by
      have l3 := k3.same _ _ (by omega) b2.loop rfl
      have run := run_endRound (P := P) jump l3
      rw [hrec] at run l3 ⊢
      exact ⟨_, rfl, run, ⟨World.putObj_heap_same (Array.getElem?_eq_some_iff.1 l3).1, (World.putObj_heap_other (by omega)).trans (k3.same _ _ (Nat.le_refl _) b2.defs rfl)⟩, l3⟩
    rintro e a3 W3 hp
    cases e with
    | normal =>
      obtain ⟨k3, p3, i3⟩ := hp
      obtain ⟨W4, h4, run, b4, l3⟩ := fin none W3 k3
      refine ⟨_, W4, run, .inl ⟨rfl, ⟨?_, b4⟩, ?_⟩⟩
      · rw [h4]; exact hI.putObj _ i3 (by omega) l3 rfl
      · rw [h4]; exact hKt p1 (hKt (hKt p2 p3) (hKb _ _ _ _ (by omega) l3 rfl rfl))
    | ret =>
      obtain ⟨k3, i3⟩ := hp
      obtain ⟨W4, h4, run, b4, l3⟩ := fin (some .ret) W3 k3
      exact ⟨_, W4, run, .inr ⟨rfl, .ret, by rw [h4]; exact (hIx _).putObj _ i3 (by omega) l3 rfl, b4⟩⟩
    | exit id =>
      obtain ⟨k3, i3⟩ := hp
      obtain ⟨W4, h4, run, b4, l3⟩ := fin (some (.exit id)) W3 k3
      exact ⟨_, W4, run, .inr ⟨rfl, .exit id, by rw [h4]; exact (hIx _).putObj _ i3 (by omega) l3 rfl, b4⟩⟩
    | goto t =>
      obtain ⟨k3, i3⟩ := hp
      obtain ⟨W4, h4, run, b4, l3⟩ := fin (some (.goto t)) W3 k3
      exact ⟨_, W4, run, .inr ⟨rfl, .goto t, by rw [h4]; exact (hIx _).putObj _ i3 (by omega) l3 rfl, b4⟩⟩
    | panic ch => exact hp.elim
    | outgrown => exact hp.elim
  · rintro e W2 ⟨⟨v, rfl⟩, h2⟩
    rcases h2 with ⟨xs, hS, hi, hb⟩ | ⟨pre, hSp, c, hi, hb⟩
    · have run := run_endLoop (P := P) hb.loop (by rw [hrec]; simp)
      rw [hrec] at run
      exact ⟨none, _, run, hdone _ xs _ (Nat.le_refl _) hS (hI.putObj _ hi (by omega) hb.loop rfl) ((World.putObj_heap_other (by omega)).trans hb.defs)⟩
    · have run := run_endLoop (P := P) hb.loop (by rw [hrec]; simp)
      rw [hrec] at run
      exact ⟨some c, _, run, hstop _ c pre _ (Nat.le_refl _) hSp ((hIx c).putObj _ hi (by omega) hb.loop rfl) ((World.putObj_heap_other (by omega)).trans hb.defs)⟩
end
end Go.Proofs.Ytiindnmelegkgaa
