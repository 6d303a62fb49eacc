/- Copy: one packet is laid into the copy. -/
import Derived.Test.YtiindnmelegkgaaY1
import Derived.Test.YtiindnmelegkgaaC3
namespace Go.Proofs.Ytiindnmelegkgaa
open Go.RowKit Go.Shelf
set_option linter.unusedSimpArgs false
set_option linter.unusedVariables false

/-- The worlds in which a packet is laid into the copy. -/
structure Pushed (wr : World) (C : Nat) (ρ : Nat → Nat) (N : Net) (x : Fl) (bv : Value) (X2 : World) (g c : Nat) (X4 X5 : World) : Prop where
  call : Calls Try.prog 35 #[x.p.val] (wr.alloc (.cells x.cells.toArray 81)).drew fun e w'' => e = .returned (Pk.val { x.p with bv := bv }) ∧ X2 = w''
  run : (Builtin.append_ #[24, 24] 24 #[N.vf, .slice (some ⟨X2.heap.size, 0, none⟩) 1 1]).run Try.prog (X2.alloc (.cells (Fl.cells ⟨{ x.p with bv := bv }, x.id, x.src⟩).toArray 81)) = .ok (.slice (some ⟨g, 0, none⟩) (N.fl.length + 1) c) X4
  x5 : X5 = X4.setCell ⟨C, 0, none⟩ (.slice (some ⟨g, 0, none⟩) (N.fl.length + 1) c)
  n1 : (wr.alloc (.cells x.cells.toArray 81)).drew.heap[C]? = some (.cells #[N.vf, N.vh, N.ve, N.vm, .int .i64 N.next] 29 (0, 0))
  n2 : X2.heap[C]? = some (.cells #[N.vf, N.vh, N.ve, N.vm, .int .i64 N.next] 29 (0, 0))
  n3 : (X2.alloc (.cells (Fl.cells ⟨{ x.p with bv := bv }, x.id, x.src⟩).toArray 81)).heap[C]? = some (.cells #[N.vf, N.vh, N.ve, N.vm, .int .i64 N.next] 29 (0, 0))
  n4 : X4.heap[C]? = some (.cells #[N.vf, N.vh, N.ve, N.vm, .int .i64 N.next] 29 (0, 0))
  b1 : (wr.alloc (.cells x.cells.toArray 81)).drew.heap[wr.heap.size]? = some (.cells x.cells.toArray 81 (0, 0))
  b2 : X2.heap[wr.heap.size]? = some (.cells x.cells.toArray 81 (0, 0))
  sl : ∃ a cc, bv = .slice a x.p.bs.length cc
  rep : ∃ ρ', Rep ρ' X5 C { N with fl := N.fl ++ [⟨{ x.p with bv := bv }, x.id, x.src⟩], vf := .slice (some ⟨g, 0, none⟩) (N.fl.length + 1) c } ∧ (∀ b, ρ' b ≠ 0 → ρ b ≠ 0 ∨ wr.heap.size ≤ b)
  os : X5.os = wr.os
  tape : X5.tape = wr.tape
  output : X5.output = wr.output
  size : wr.heap.size ≤ X5.heap.size
  same : ∀ b, b < wr.heap.size → b ≠ C → ρ b ≠ 2 → X5.heap[b]? = wr.heap[b]?

set_option maxHeartbeats 1000000 in
theorem push_worlds {ρ : Nat → Nat} {wr : World} {C : Nat} {N : Net} (R : Rep ρ wr C N) (x : Fl) (hr : rdB wr x.p.bv x.p.bs) (hq : validB x.p = true) (hid : ∀ y ∈ N.fl, y.id < x.id) (hidn : x.id < N.next) (hf : N.fl.length ≤ 1000000) :
    ∃ bv X2 g c X4 X5, Pushed wr C ρ N x bv X2 g c X4 X5 := by
  have hpl : C < wr.heap.size := R.lt (by rw [R.rp]; decide)
  have hfp : ∀ b, N.vf.ownBlock = some b → b ≠ C := fun b hb e => by have := R.rf b hb; rw [e, R.rp] at this; cases this
  have hfl : ∀ b, N.vf.ownBlock = some b → b < wr.heap.size := fun b hb => R.lt (by rw [R.rf b hb]; decide)
  obtain ⟨X1, hX1⟩ : ∃ X1, X1 = (wr.alloc (.cells x.cells.toArray 81)).drew := ⟨_, rfl⟩
  have b1 : Below wr.heap.size wr X1 := by rw [hX1]; exact ((Below.refl _ _).alloc (Nat.le_refl _) _).drew
  have z1 : X1.heap.size = wr.heap.size + 1 := by rw [hX1]; simp
  have n1 : X1.heap[C]? = _ := (b1.block C hpl).trans R.net
  have x1 : X1.heap[wr.heap.size]? = some (.cells x.cells.toArray 81 (0, 0)) := by rw [hX1]; exact new_at rfl
  have r1 : rdB X1 x.p.bv x.p.bs := hr.below b1
  have f1 : X1.ownsRow 0 81 5 N.vf N.fl.length (N.fl.flatMap Fl.cells) := row_stays R.f fun b hb => b1.block b (hfl b hb)
  obtain ⟨bv, X2, o2, a2, b2, call2⟩ := own_any x.p X1 r1
  have z2 := b2.size
  have n2 : X2.heap[C]? = some (.cells #[N.vf, N.vh, N.ve, N.vm, .int .i64 N.next] 29 (0, 0)) := (b2.block C (by omega)).trans n1
  have x2 : X2.heap[wr.heap.size]? = some (.cells x.cells.toArray 81 (0, 0)) := (b2.block _ (by omega)).trans x1
  have f2 : X2.ownsRow 0 81 5 N.vf N.fl.length (N.fl.flatMap Fl.cells) := row_stays f1 fun b hb => b2.block b (by have := hfl b hb; omega)
  obtain ⟨g1, c1, X4, run4, f4, gr4, l4, s4⟩ := append_one X2 24 81 _ 5 72 u24 info81 rfl (by decide) (by decide) N.vf N.fl.length _ f2 (Fl.cells ⟨{ x.p with bv := bv }, x.id, x.src⟩) rfl (fl_one _ (ownB_one o2)) (by omega)
  obtain ⟨X3, hX3⟩ : ∃ X3, X3 = X2.alloc (.cells (Fl.cells ⟨{ x.p with bv := bv }, x.id, x.src⟩).toArray 81) := ⟨_, rfl⟩
  have run4' := run4
  rw [← hX3] at run4 gr4
  have z3 : X3.heap.size = X2.heap.size + 1 := by rw [hX3]; simp
  have n3 : X3.heap[C]? = some (.cells #[N.vf, N.vh, N.ve, N.vm, .int .i64 N.next] 29 (0, 0)) := by rw [hX3, old_at (by omega)]; exact n2
  have z4 := gr4.size
  have n4 : X4.heap[C]? = some (.cells #[N.vf, N.vh, N.ve, N.vm, .int .i64 N.next] 29 (0, 0)) := (gr4.block C (by omega) (fun e => hfp C e.symm rfl)).trans n3
  obtain ⟨X5, hX5⟩ : ∃ X5, X5 = X4.setCell ⟨C, 0, none⟩ (.slice (some ⟨g1, 0, none⟩) (N.fl.length + 1) c1) := ⟨_, rfl⟩
  have z5 : X5.heap.size = X4.heap.size := by rw [hX5]; simp
  have n5 : X5.heap[C]? = some (.cells #[.slice (some ⟨g1, 0, none⟩) (N.fl.length + 1) c1, N.vh, N.ve, N.vm, .int .i64 N.next] 29 (0, 0)) := by rw [hX5]; exact set_at n4
  have k5 : ∀ b, b ≠ C → X5.heap[b]? = X4.heap[b]? := fun b hb => by rw [hX5]; exact set_other hb
  have g1C : g1 ≠ C := by
    rcases l4 with h | h
    · exact hfp _ h
    · omega
  have back : ∀ b, b < wr.heap.size → b ≠ C → ρ b ≠ 2 → X5.heap[b]? = wr.heap[b]? := fun b hb h1 h2 => by
    rw [k5 b h1, gr4.block b (by omega) (fun e => h2 (R.rf b e.symm)), hX3, old_at (by omega), b2.block b (by omega), b1.block b hb]
  have o2lt : ∀ b, bv.ownBlock = some b → b < X2.heap.size := fun b hb => (o2.lt b hb).2
  have q5 : ownB X5 bv x.p.bs := row_stays o2 fun b hb => by
    have h1 := a2 b hb
    have h2 := o2lt b hb
    rw [k5 b (by omega), gr4.block b (by omega) (fun e => by have := hfl b e.symm; omega), hX3, old_at (by omega)]
  have f5 : X5.ownsRow 0 81 5 (.slice (some ⟨g1, 0, none⟩) (N.fl.length + 1) c1) (N.fl.length + 1) (N.fl.flatMap Fl.cells ++ Fl.cells ⟨{ x.p with bv := bv }, x.id, x.src⟩) := row_stays f4 fun b hb => by
    obtain rfl : b = g1 := by simpa [Value.ownBlock] using hb.symm
    exact k5 b g1C
  refine ⟨bv, X2, g1, c1, X4, X5, ?_⟩
  refine ⟨by rw [← hX1]; exact call2, run4', hX5, by rw [← hX1]; exact n1, n2, by rw [← hX3]; exact n3, n4, by rw [← hX1]; exact x1, x2, ownB_slice o2, ?_, ?_, ?_, ?_, by omega, back⟩
  · exact R.pushed (by omega) { x.p with bv := bv } x.id x.src _ hq hid hidn n5 f5 q5 back g1 rfl (by
      rcases l4 with h | h
      · exact .inl (R.rf _ h)
      · right; omega) (by omega) (fun b hb => ⟨by have := a2 b hb; omega, by have := o2lt b hb; omega, fun e => by
      rcases l4 with h | h
      · have := hfl _ h; have := a2 b hb; omega
      · have := o2lt b hb; omega⟩)
  · rw [hX5]; exact gr4.os.trans (by rw [hX3]; exact b2.os.trans b1.os)
  · rw [hX5]; exact gr4.tape.trans (by rw [hX3]; exact b2.tape.trans b1.tape)
  · rw [hX5]; exact gr4.output.trans (by rw [hX3]; exact b2.output.trans b1.output)

/-- The copy so far: k packets in flight are laid. -/
def CLoop (w : World) (N : Net) (C k : Nat) (wr : World) : Prop :=
  ∃ ρ fl vf vh ve vm, Rep ρ wr C ⟨fl, N.hist, N.evs, N.bl, N.cnt, N.next, vf, vh, ve, vm⟩ ∧ fl.map Fl.abs = (N.fl.take k).map Fl.abs ∧ fl.length = k ∧ (∀ b, ρ b ≠ 0 → w.heap.size ≤ b ∨ ∃ q ∈ N.hist, q.bv.ownBlock = some b) ∧ Below w.heap.size w wr ∧ w.heap.size ≤ C
theorem CLoop.next {w wr : World} {N : Net} {C k : Nat} {ρ : Nat → Nat} {fl : List Fl} {vf vh ve vm : Value} (R : Rep ρ wr C ⟨fl, N.hist, N.evs, N.bl, N.cnt, N.next, vf, vh, ve, vm⟩) (ha : fl.map Fl.abs = (N.fl.take k).map Fl.abs) (hl : fl.length = k)
    (hρ : ∀ b, ρ b ≠ 0 → w.heap.size ≤ b ∨ ∃ q ∈ N.hist, q.bv.ownBlock = some b) (hb : Below w.heap.size w wr) (hC : w.heap.size ≤ C) {x : Fl} (hx : N.fl[k]? = some x) {bv : Value} {X2 X4 X5 : World} {g c : Nat} (h : Pushed wr C ρ ⟨fl, N.hist, N.evs, N.bl, N.cnt, N.next, vf, vh, ve, vm⟩ x bv X2 g c X4 X5) : CLoop w N C (k + 1) X5 := by
  obtain ⟨ρ', R', h'⟩ := h.rep
  refine ⟨ρ', _, _, vh, ve, vm, R', ?_, by simp [hl], fun b hb' => ?_, ⟨h.os.trans hb.os, h.tape.trans hb.tape, h.output.trans hb.output, Nat.le_trans hb.size h.size, fun b hb' => ?_⟩, hC⟩
  · rw [List.map_append, ha, List.take_add_one, hx]
    simp [Fl.abs]
  · rcases h' b hb' with h1 | h1
    · exact hρ b h1
    · left; exact Nat.le_trans hb.size h1
  · rw [h.same b (Nat.lt_of_lt_of_le hb' hb.size) (by omega) (fun e => ?_)]
    · exact hb.block b hb'
    · rcases hρ b (by rw [e]; decide) with h1 | ⟨q, hq, hqb⟩
      · omega
      · have := R.rhb q hq b hqb
        omega
end Go.Proofs.Ytiindnmelegkgaa
