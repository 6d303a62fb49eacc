/- The reference's noted, own. -/
import Derived.Test.YtiindnmelegkgaaR4
import Derived.Laws.MakeOwn
namespace Go.Proofs.Ytiindnmelegkgaa
open Go.RowKit
set_option linter.unusedSimpArgs false
set_option linter.unusedVariables false

theorem rows_ne {w : World} {base base' : Nat} {e e' : TypeId} {size size' n n' : Nat} {v v' : Value} {xs xs' : List Value} (h : w.ownsRow base e size v n xs) (h' : w.ownsRow base' e' size' v' n' xs') (hne : e ≠ e') {b : Nat} (hb : v.ownBlock = some b) : v'.ownBlock ≠ some b := by
  intro hb'
  rcases h.2 with ⟨rfl, _⟩ | ⟨g, cap, cur, rfl, _, hh, _⟩
  · simp [Value.ownBlock] at hb
  · rcases h'.2 with ⟨rfl, _⟩ | ⟨g', cap', cur', rfl, _, hh', _⟩
    · simp [Value.ownBlock] at hb'
    · obtain rfl : g = b := by simpa [Value.ownBlock] using hb
      obtain rfl : g' = g := by simpa [Value.ownBlock] using hb'
      rw [hh] at hh'
      injection hh' with hh'
      injection hh' with _ ht
      exact hne ht

theorem ROk.forms {w : World} {N : RNet} (R : ROk w N) : (∃ a n c, N.va = .slice a n c) ∧ (∃ a n c, N.vh = .slice a n c) ∧ (∃ a n c, N.ve = .slice a n c) ∧ ∃ a n c, N.vb = .slice a n c := by
  obtain ⟨a1, c1, h1⟩ := row_slice R.a
  obtain ⟨a2, c2, h2⟩ := row_slice R.h
  obtain ⟨a3, c3, h3⟩ := row_slice R.e
  obtain ⟨a4, c4, h4⟩ := row_slice R.b
  exact ⟨⟨_, _, _, h1⟩, ⟨_, _, _, h2⟩, ⟨_, _, _, h3⟩, ⟨_, _, _, h4⟩⟩

structure RA where
  frm : ByteArray
  to : ByteArray
  bs : List Int
  src : Int
  gone : Bool
def RFl.abs (x : RFl) : RA := ⟨x.p.frm, x.p.to, x.p.bs, x.src, x.gone⟩

/-- An event has been noted. -/
def RNoted (w w' : World) (N : RNet) (ev : Ev) (N' : RNet) : Prop :=
  ROk w' N' ∧ N'.all = N.all ∧ N'.hist = N.hist ∧ N'.evs = N.evs ++ [ev] ∧ N'.blk = N.blk ∧ N'.va = N.va ∧ N'.vh = N.vh ∧ N'.vb = N.vb ∧ (∀ b, N'.ve.ownBlock = some b → N.ve.ownBlock = some b ∨ w.heap.size ≤ b) ∧ w.grownBy w' N.ve.ownBlock

set_option maxHeartbeats 1000000 in
set_option maxRecDepth 100000 in
theorem rnoted_run (N : RNet) (w : World) (R : ROk w N) (S : RSmall N) (kind id frm : Int) :
    ∃ N' w', RNoted w w' N ⟨kind, id, frm⟩ N' ∧ Calls Try.prog 69 #[N.val, .int .i64 kind, .int .i64 id, .int .i64 frm] w fun e w'' => e = .returned N'.val ∧ w' = w'' := by
  obtain ⟨W0, hW0⟩ : ∃ W0, W0 = (w.alloc (.cells #[N.va, N.vh, N.ve, N.vb] 64)).alloc (.cells #[.slice none 0 0, .slice none 0 0, .slice none 0 0, .slice none 0 0] 64) := ⟨_, rfl⟩
  have b0 : Below w.heap.size w W0 := by rw [hW0]; exact ((Below.refl _ _).alloc (Nat.le_refl _) _).alloc (by simp) _
  have z0 : W0.heap.size = w.heap.size + 2 := by rw [hW0]; simp
  have x0 : W0.heap[w.heap.size]? = some (.cells #[N.va, N.vh, N.ve, N.vb] 64 (0, 0)) := by rw [hW0, old_at (by simp)]; exact new_at rfl
  have x1 : W0.heap[w.heap.size + 1]? = some (.cells #[.slice none 0 0, .slice none 0 0, .slice none 0 0, .slice none 0 0] 64 (0, 0)) := by rw [hW0]; exact new_at (by simp)
  have R0 := R.below b0
  obtain ⟨ge, gc, W2, run2, f2, gr2, l2, s2⟩ := append_one W0 26 59 _ 3 24 u26 info59 rfl (by decide) (by decide) N.ve N.evs.length _ R0.e (Ev.cells ⟨kind, id, frm⟩) rfl (ev_one _) (by have := S.evs; omega)
  have hel : ∀ b, N.ve.ownBlock = some b → b < w.heap.size := fun b hb => R.lt (.inr (.inr (.inl hb)))
  have z1 : (W0.alloc (.cells (Ev.cells ⟨kind, id, frm⟩).toArray 59)).heap.size = w.heap.size + 3 := by simp [z0]
  have z2 := gr2.size
  have y0 : W2.heap[w.heap.size]? = some (.cells #[N.va, N.vh, N.ve, N.vb] 64 (0, 0)) := by
    rw [gr2.block _ (by omega) (fun e => by have := hel _ e.symm; omega), old_at (by omega)]; exact x0
  have y1 : W2.heap[w.heap.size + 1]? = some (.cells #[.slice none 0 0, .slice none 0 0, .slice none 0 0, .slice none 0 0] 64 (0, 0)) := by
    rw [gr2.block _ (by omega) (fun e => by have := hel _ e.symm; omega), old_at (by omega)]; exact x1
  obtain ⟨W3, hW3⟩ : ∃ W3, W3 = ((((W2.setCell ⟨w.heap.size, 2, none⟩ (.slice (some ⟨ge, 0, none⟩) (N.evs.length + 1) gc)).setCell ⟨w.heap.size + 1, 0, none⟩ N.va).setCell ⟨w.heap.size + 1, 1, none⟩ N.vh).setCell ⟨w.heap.size + 1, 2, none⟩ (.slice (some ⟨ge, 0, none⟩) (N.evs.length + 1) gc)).setCell ⟨w.heap.size + 1, 3, none⟩ N.vb := ⟨_, rfl⟩
  have k3 : ∀ b, b ≠ w.heap.size → b ≠ w.heap.size + 1 → W3.heap[b]? = W2.heap[b]? := fun b h h' => by
    rw [hW3, set_other h', set_other h', set_other h', set_other h', set_other h]
  have z3 : W3.heap.size = W2.heap.size := by rw [hW3]; simp
  have old3 : ∀ b, b < w.heap.size → some b ≠ N.ve.ownBlock → W3.heap[b]? = w.heap[b]? := fun b hb hne => by
    rw [k3 b (by omega) (by omega), gr2.block b (by omega) hne, old_at (by omega), b0.block b hb]
  have hge : ∀ b, Value.ownBlock (.slice (some ⟨ge, 0, none⟩) (N.evs.length + 1) gc) = some b → N.ve.ownBlock = some b ∨ w.heap.size ≤ b := fun b hb => by
    obtain rfl : ge = b := by simpa [Value.ownBlock] using hb
    rcases l2 with h | h
    · exact .inl h
    · right; omega
  have END : Hid (RNoted w W3 N ⟨kind, id, frm⟩ { N with evs := N.evs ++ [⟨kind, id, frm⟩], ve := .slice (some ⟨ge, 0, none⟩) (N.evs.length + 1) gc }) := Lib.hid ⟨by
    have ne : ∀ {v : Value} {e : TypeId} {size n : Nat} {xs : List Value}, w.ownsRow 0 e size v n xs → e ≠ 59 → W3.ownsRow 0 e size v n xs := fun h hne => row_stays h fun b hb => old3 b (h.lt b hb).2 (fun e => rows_ne h R.e hne hb e.symm)
    exact {
      a := ne R.a (by decide)
      h := ne R.h (by decide)
      e := by
        have : W3.ownsRow 0 59 3 (.slice (some ⟨ge, 0, none⟩) (N.evs.length + 1) gc) (N.evs.length + 1) (N.evs.flatMap Ev.cells ++ Ev.cells ⟨kind, id, frm⟩) := row_stays f2 fun b hb => by
          rcases hge b hb with h | h
          · have := hel b h; exact k3 b (by omega) (by omega)
          · obtain rfl : ge = b := by simpa [Value.ownBlock] using hb
            rcases l2 with h' | h'
            · have := hel _ h'; omega
            · exact k3 ge (by omega) (by omega)
        simpa using this
      b := ne R.b (by decide)
      ab := fun x hx => ne (R.ab x hx) (by decide)
      hb := fun x hx => ne (R.hb x hx) (by decide)
      aok := R.aok
      hok := R.hok }, rfl, rfl, rfl, rfl, rfl, rfl, rfl, hge, ⟨by rw [hW3]; exact gr2.os.trans b0.os, by rw [hW3]; exact gr2.tape.trans b0.tape, by rw [hW3]; exact gr2.output.trans b0.output, by omega, fun b hb hne => old3 b hb hne⟩⟩
  refine ⟨_, W3, END.out, ?_⟩
  clear END
  have hfm := R.forms
  have HR2 := Lib.hid run2
  have HW3 := Lib.hid hW3
  have HW0 := Lib.hid hW0
  clear R R0 S b0 z0 x0 x1 f2 gr2 l2 s2 hel z1 z2 k3 z3 old3 hge hW3 run2 hW0
  obtain ⟨all0, hist0, evs0, blk0, va0, vh0, ve0, vb0⟩ := N
  dsimp only at *
  obtain ⟨⟨a1, n1, k1, rfl⟩, ⟨a2, n2, k2, rfl⟩, ⟨a3, n3, k3, rfl⟩, ⟨a4, n4, k4, rfl⟩⟩ := hfm
  have c0 := cell_of_row W2 _ 0 _ _ _ y0
  have c1 := cell_of_row W2 _ 1 _ _ _ y0
  have c2 := cell_of_row W2 _ 2 _ _ _ y0
  have c3 := cell_of_row W2 _ 3 _ _ _ y0
  have d0 := cell_of_row W2 _ 0 _ _ _ y1
  have d1 := cell_of_row W2 _ 1 _ _ _ y1
  have d2 := cell_of_row W2 _ 2 _ _ _ y1
  have d3 := cell_of_row W2 _ 3 _ _ _ y1
  have f2 := frozen_blk y0 2
  have g0 := frozen_blk y1 0
  have g1 := frozen_blk y1 1
  have g2 := frozen_blk y1 2
  have g3 := frozen_blk y1 3
  simp at c0 c1 c2 c3 d0 d1 d2 d3
  generalize evs0.length + 1 = en at *
  have run2 := HR2.out
  rw [HW0.out] at run2
  simp only [World.size_alloc, Ev.cells] at run2
  have HR3 := Lib.hid run2
  clear run2 HR2 y0 y1
  unfold RNet.val
  go_enter Try.func69, Try.ntmps69
  go_wp2_with (at_builtin; refine wpList_append_run rfl _ _ 26 rfl _ _ rfl rfl HR3.out ?_)
  exact bodyPost_ret (v := .agg #[.slice a1 n1 k1, .slice a2 n2 k2, .slice (some ⟨ge, 0, none⟩) en gc, .slice a4 n4 k4]) (by simp [results, Try.results69, go_sem, d0, d1, d2, d3]) rfl ⟨rfl, HW3.out⟩
theorem rnoted_any (N : RNet) (w : World) (R : ROk w N) (S : RSmall N) (kind id frm : Int) :
    Calls Try.prog 69 #[N.val, .int .i64 kind, .int .i64 id, .int .i64 frm] w fun e w' => ∃ N', e = .returned N'.val ∧ RNoted w w' N ⟨kind, id, frm⟩ N' := by
  obtain ⟨N', w', h1, h2⟩ := rnoted_run N w R S kind id frm
  refine h2.mono ?_
  rintro e w'' ⟨rfl, rfl⟩
  exact ⟨N', rfl, h1⟩
end Go.Proofs.Ytiindnmelegkgaa
