/- Send. -/
import Derived.Test.YtiindnmelegkgaaIdx
import Derived.ScopeJumps
import Derived.WalkMore
namespace Go.Proofs.Ytiindnmelegkgaa
open Go.RowKit
set_option linter.unusedSimpArgs false
set_option linter.unusedVariables false

/-- A packet is recorded in the history. -/
theorem Rep.recorded {ρ : Nat → Nat} {w w' : World} {p : Nat} {N : Net} (R : Rep ρ w p N) (os : w'.os = w.os) (tape : w'.tape = w.tape) (out : w'.output = w.output) (hs : w.heap.size ≤ w'.heap.size)
    (q : Pk) (vh : Value) (hq : validB q = true)
    (hp : w'.heap[p]? = some (.cells #[N.vf, vh, N.ve, N.vm, .int .i64 N.next] 29 (0, 0)))
    (hf : w'.ownsRow 0 35 3 vh (N.hist.length + 1) (N.hist.flatMap Pk.cells ++ q.cells))
    (hb : ownB w' q.bv q.bs)
    (hblk : ∀ b, b < w.heap.size → b ≠ p → ρ b ≠ 3 → w'.heap[b]? = w.heap[b]?)
    (gf : Nat) (hgf : vh.ownBlock = some gf) (hgf1 : ρ gf = 3 ∨ w.heap.size ≤ gf) (hgf2 : gf < w'.heap.size)
    (hgb : ∀ b, q.bv.ownBlock = some b → w.heap.size ≤ b ∧ b < w'.heap.size ∧ b ≠ gf) :
    ∃ ρ', Rep ρ' w' p { N with hist := N.hist ++ [q], vh := vh } ∧ Step ρ ρ' w w' ∧ (∀ b, b < w.heap.size → ρ' b = ρ b) := by
  have hpl : p < w.heap.size := R.lt (by rw [R.rp]; decide)
  refine ⟨fun b => if b < w.heap.size then ρ b else if b = gf then 3 else if some b = q.bv.ownBlock then 6 else 0, ?_, ⟨os, tape, out, hs, fun b hb h0 => ?_, fun b hb h0 => ?_⟩, fun b hb => if_pos hb⟩
  · have stay : ∀ b, ρ b ≠ 0 → ρ b ≠ 1 → ρ b ≠ 3 → w'.heap[b]? = w.heap[b]? := fun b h0 h1 h3 => hblk b (R.lt h0) (fun e => h1 (by rw [e, R.rp])) h3
    have old : ∀ b, ρ b ≠ 0 → (if b < w.heap.size then ρ b else if b = gf then 3 else if some b = q.bv.ownBlock then 6 else 0) = ρ b := fun b hb => if_pos (R.lt hb)
    constructor
    · exact hp
    · exact row_stays R.f fun b hb => stay b (by rw [R.rf b hb]; decide) (by rw [R.rf b hb]; decide) (by rw [R.rf b hb]; decide)
    · simpa using hf
    · exact row_stays R.e fun b hb => stay b (by rw [R.re b hb]; decide) (by rw [R.re b hb]; decide) (by rw [R.re b hb]; decide)
    · exact mapOk_stays R.m fun b hb => stay b (by rw [R.rm b hb]; decide) (by rw [R.rm b hb]; decide) (by rw [R.rm b hb]; decide)
    · exact fun x hx => row_stays (R.fb x hx) fun b hb => stay b (by rw [R.rfb x hx b hb]; omega) (by rw [R.rfb x hx b hb]; omega) (by rw [R.rfb x hx b hb]; omega)
    · intro x hx
      rcases List.mem_append.1 hx with hx | hx
      · exact row_stays (R.hb x hx) fun b hb => stay b (by rw [R.rhb x hx b hb]; decide) (by rw [R.rhb x hx b hb]; decide) (by rw [R.rhb x hx b hb]; decide)
      · simp at hx; subst hx; exact hb
    · exact (old p (by rw [R.rp]; decide)).trans R.rp
    · exact fun b hb => (old b (by rw [R.rf b hb]; decide)).trans (R.rf b hb)
    · intro b hb'
      have hb'' : vh.ownBlock = some b := hb'
      rw [hgf] at hb''
      cases hb''
      rcases hgf1 with h | h
      · exact (old gf (by rw [h]; decide)).trans h
      · show (if gf < w.heap.size then _ else _) = 3
        rw [if_neg (by omega), if_pos rfl]
    · exact fun b hb => (old b (by rw [R.re b hb]; decide)).trans (R.re b hb)
    · exact fun b hb => (old b (by rw [R.rm b hb]; decide)).trans (R.rm b hb)
    · exact fun x hx b hb => (old b (by rw [R.rfb x hx b hb]; omega)).trans (R.rfb x hx b hb)
    · intro x hx b hb'
      rcases List.mem_append.1 hx with hx | hx
      · exact (old b (by rw [R.rhb x hx b hb']; decide)).trans (R.rhb x hx b hb')
      · simp at hx
        subst hx
        obtain ⟨h1, h2, h3⟩ := hgb b hb'
        show (if b < w.heap.size then _ else _) = 6
        rw [if_neg (by omega), if_neg h3, if_pos hb'.symm]
    · intro b hb'
      show (if b < w.heap.size then _ else _) = 0
      rw [if_neg (by omega), if_neg (by omega), if_neg (fun e => by have := (hgb b e.symm).2.1; omega)]
    · exact R.ids
    · exact R.idn
    · exact R.fok
    · intro x hx
      rcases List.mem_append.1 hx with hx | hx
      · exact R.hok x hx
      · simp at hx; subst hx; exact hq
  · exact hblk b hb (fun e => by rw [e, R.rp] at h0; cases h0) (by omega)
  · show (if b < w.heap.size then _ else _) = 0
    rw [if_pos hb, h0]

/-- A scope out of whose body the run may jump ahead to one label. -/
theorem wp_scope_ahead {P : Program} {a : Act} {w : World} {Q : Exit → Act → World → Prop} {c rest : Code} (l : Nat) (hf : findLabel c l = some rest) (h : c.wp P (Exit.jump l (fun a w => rest.wp P (Exit.noGoto Q) a w) Q) a w) : (Code.scope c).wp P Q a w := by
  refine wp_scope_jumps l (fun a w => rest.wp P (Exit.noGoto Q) a w) (fun _ _ => 0) hf h fun a w hJ => wp_mono hJ fun e a' w' hq => ?_
  cases e with
  | goto l' => exact hq.elim
  | normal => exact hq
  | exit id => exact hq
  | ret => exact hq
  | panic ch => exact hq
  | outgrown => exact hq

theorem jump_ret {l : Nat} {J : Act → World → Prop} {Q : Exit → Act → World → Prop} {a : Act} {w : World} : Exit.jump l J Q .ret a w = Q .ret a w := rfl

theorem send_nil (q : Pk) (w : World) : Calls Try.prog 10 #[.pointer none, q.val] w fun e w' => e = .returned (.tuple #[.int .i64 0, .int .i64 1]) ∧ Below w.heap.size w w' := by
  unfold Pk.val
  go_enter Try.func10, Try.ntmps10
  go_wp2
  refine wp_scope_ahead 0 rfl ?_
  go_wp2
  refine wp_goto ⟨rfl, ?_⟩
  go_wp2
  rw [Exit.noGoto_ret]
  go_ret2
  exact ⟨rfl, (Below.refl _ _).alloc (Nat.le_refl _) _⟩

theorem send_bad (q : Pk) (p : Nat) (w : World) (hr : rdB w q.bv q.bs) (hq : validB q = false) : Calls Try.prog 10 #[.pointer (some ⟨p, 0, none⟩), q.val] w fun e w' => e = .returned (.tuple #[.int .i64 0, .int .i64 2]) ∧ Below w.heap.size w w' := by
  have b0 : Below w.heap.size w (w.alloc (.cells #[.string q.frm, .string q.to, q.bv] 35)) := (Below.refl _ _).alloc (Nat.le_refl _) _
  obtain ⟨w2, b2, call⟩ := valid_any q _ (hr.below b0)
  rw [hq] at call
  have HC := Lib.hid call
  clear call hr hq
  unfold Pk.val at HC ⊢
  go_enter Try.func10, Try.ntmps10
  go_wp2
  refine wp_scope_ahead 0 rfl ?_
  go_wp2_with fail
  refine HC.out.mono ?_
  rintro e w1 ⟨rfl, rfl⟩
  go_wp2_with fail
  refine wp_goto ⟨rfl, ?_⟩
  go_wp2
  rw [Exit.noGoto_ret]
  go_ret2
  exact ⟨rfl, b0.trans (b2.mono (by simp))⟩

theorem row_slice {w : World} {base : Nat} {e : TypeId} {size : Nat} {v : Value} {n : Nat} {xs : List Value} (h : w.ownsRow base e size v n xs) : ∃ a c, v = .slice a n c := by
  rcases h.2 with ⟨h, h0⟩ | ⟨g, cap, cur, h, _⟩
  · exact ⟨none, 0, by rw [h, h0]⟩
  · exact ⟨_, _, h⟩

set_option maxRecDepth 100000 in
theorem send_full {ρ : Nat → Nat} {w : World} {p : Nat} {N : Net} (R : Rep ρ w p N) (S : Small N) (q : Pk) (hr : rdB w q.bv q.bs) (hq : validB q = true) (hf : 64 ≤ N.fl.length ∨ 1024 ≤ N.hist.length) :
    Calls Try.prog 10 #[.pointer (some ⟨p, 0, none⟩), q.val] w fun e w' => e = .returned (.tuple #[.int .i64 0, .int .i64 7]) ∧ Below w.heap.size w w' := by
  have b0 : Below w.heap.size w (w.alloc (.cells #[.string q.frm, .string q.to, q.bv] 35)) := (Below.refl _ _).alloc (Nat.le_refl _) _
  obtain ⟨w2, b2, call⟩ := valid_any q _ (hr.below b0)
  have R2 := (R.below b0).below b2
  rw [hq] at call
  have HC := Lib.hid call
  obtain ⟨c0, c1, c2, c3, c4, fr⟩ := net_cells R2
  obtain ⟨fa, fc, hv1⟩ := row_slice R.f
  obtain ⟨ha, hc, hv2⟩ := row_slice R.h
  rw [hv1] at c0
  rw [hv2] at c1
  generalize N.fl.length = n1 at *
  generalize N.hist.length = n2 at *
  clear call hr hq R R2 c2 c3 c4 S hv1 hv2
  unfold Pk.val at HC ⊢
  by_cases h1 : 64 ≤ n1
  · go_enter Try.func10, Try.ntmps10
    go_wp2
    refine wp_scope_ahead 0 rfl ?_
    go_wp2_with fail
    refine HC.out.mono ?_
    rintro e w1 ⟨rfl, rfl⟩
    go_wp2_with fail
    refine wp_goto ⟨rfl, ?_⟩
    go_wp2
    rw [Exit.noGoto_ret]
    go_ret2
    exact ⟨rfl, b0.trans (b2.mono (by simp))⟩
  · have h2 : 1024 ≤ n2 := by omega
    go_enter Try.func10, Try.ntmps10
    go_wp2
    refine wp_scope_ahead 0 rfl ?_
    go_wp2_with fail
    refine HC.out.mono ?_
    rintro e w1 ⟨rfl, rfl⟩
    go_wp2_with fail
    refine wp_goto ⟨rfl, ?_⟩
    go_wp2
    rw [Exit.noGoto_ret]
    go_ret2
    exact ⟨rfl, b0.trans (b2.mono (by simp))⟩

set_option maxHeartbeats 1000000 in
set_option maxRecDepth 100000 in
theorem send_ok {ρ : Nat → Nat} {w : World} {p : Nat} {N : Net} (R : Rep ρ w p N) (S : Small N) (q : Pk) (hr : rdB w q.bv q.bs) (hq0 : q.bs ≠ [] → ∀ b, q.bv.ownBlock = some b → ρ b = 0) (hq : validB q = true) (hf : N.fl.length < 64) (hh : N.hist.length < 1024) :
    ∃ b1 b2 vh' vf' ve' ρ' w', Rep ρ' w' p { N with fl := N.fl ++ [⟨{ q with bv := b2 }, N.next, N.hist.length⟩], hist := N.hist ++ [{ q with bv := b1 }], evs := N.evs ++ [⟨1, N.next, -1⟩], next := N.next + 1, vf := vf', vh := vh', ve := ve' } ∧ Step ρ ρ' w w' ∧
      Calls Try.prog 10 #[.pointer (some ⟨p, 0, none⟩), q.val] w fun e w'' => e = .returned (.tuple #[.int .i64 N.next, .int .i64 0]) ∧ w' = w'' := by
  have b0 : Below w.heap.size w (w.alloc (.cells #[.string q.frm, .string q.to, q.bv] 35)) := (Below.refl _ _).alloc (Nat.le_refl _) _
  obtain ⟨w2, b2, call⟩ := valid_any q _ (hr.below b0)
  have b02 : Below w.heap.size w w2 := b0.trans (b2.mono (by simp))
  have R2 := R.below b02
  have r2 := hr.below b02
  rw [hq] at call
  have hpl : p < w2.heap.size := R2.lt (by rw [R2.rp]; decide)
  have hsz : w.heap.size + 1 ≤ w2.heap.size := by have := b2.size; simp at this; omega
  have x2 : w2.heap[w.heap.size]? = some (.cells #[.string q.frm, .string q.to, q.bv] 35 (0, 0)) := (b2.block _ (by simp)).trans (new_at rfl)
  have hhp : ∀ b, N.vh.ownBlock = some b → b ≠ p := fun b hb e => by have := R2.rh b hb; rw [e, R2.rp] at this; cases this
  have hhl : ∀ b, N.vh.ownBlock = some b → b < w2.heap.size := fun b hb => R2.lt (by rw [R2.rh b hb]; decide)
  have hhH : ∀ b, N.vh.ownBlock = some b → b ≠ w.heap.size := fun b hb e => by have := R.lt (b := b) (by rw [R.rh b hb]; decide); omega
  have hpH : p ≠ w.heap.size := fun e => by have := R.lt (b := p) (by rw [R.rp]; decide); omega
  -- own
  obtain ⟨bv, W4, o4, a4, b4, call4⟩ := own_any q w2.drew (rdB_stays r2 (Nat.le_refl _) fun _ _ _ => rfl)
  have b4' : Below w2.heap.size w2 W4 := ⟨b4.os, b4.tape, b4.output, b4.size, b4.block⟩
  obtain ⟨ba, bc, hbv⟩ := ownB_slice o4
  have z4 := b4'.size
  have R4 := R2.below b4'
  have x4 := (b4'.block w.heap.size (by omega)).trans x2
  obtain ⟨g1, gc, W6, run6, f6, gr6, l6, s6⟩ := append_one W4 25 35 _ 3 56 u25 info35 rfl (by decide) (by decide) N.vh N.hist.length _ R4.h (Pk.cells { q with bv := bv }) rfl (pk_one _ (ownB_one o4)) (by omega)
  obtain ⟨W5, hW5⟩ : ∃ W5, W5 = W4.alloc (.cells (Pk.cells { q with bv := bv }).toArray 35) := ⟨_, rfl⟩
  rw [← hW5] at run6 gr6
  have z5 : W5.heap.size = W4.heap.size + 1 := by rw [hW5]; simp
  have n5 : W5.heap[p]? = some (.cells #[N.vf, N.vh, N.ve, N.vm, .int .i64 N.next] 29 (0, 0)) := by rw [hW5, old_at (by omega)]; exact R4.net
  have z6 := gr6.size
  have n6 := (gr6.block p (by omega) (fun e => hhp p e.symm rfl)).trans n5
  have x6 : W6.heap[w.heap.size]? = some (.cells #[.string q.frm, .string q.to, q.bv] 35 (0, 0)) := by
    rw [gr6.block _ (by omega) (fun e => hhH _ e.symm rfl), hW5, old_at (by omega)]; exact x4
  obtain ⟨W7, hW7⟩ : ∃ W7, W7 = W6.setCell ⟨p, 1, none⟩ (.slice (some ⟨g1, 0, none⟩) (N.hist.length + 1) gc) := ⟨_, rfl⟩
  have hqp : q.bs ≠ [] → q.bv.ownBlock ≠ some p := fun hne e => by have := hq0 hne p e; rw [R.rp] at this; cases this
  have z7 : W7.heap.size = W6.heap.size := by rw [hW7]; simp
  have n7 : W7.heap[p]? = some (.cells #[N.vf, .slice (some ⟨g1, 0, none⟩) (N.hist.length + 1) gc, N.ve, N.vm, .int .i64 N.next] 29 (0, 0)) := by rw [hW7]; exact set_at n6
  have k7 : ∀ b, b ≠ p → W7.heap[b]? = W6.heap[b]? := fun b hb => by rw [hW7]; exact set_other hb
  have x7 := (k7 _ (Ne.symm hpH)).trans x6
  have g1p : g1 ≠ p := by
    rcases l6 with h | h
    · exact hhp _ h
    · omega
  have back : ∀ b, b < w2.heap.size → b ≠ p → ρ b ≠ 3 → W7.heap[b]? = w2.heap[b]? := fun b hb h1 h3 => by
    rw [k7 b h1, gr6.block b (by omega) (fun e => h3 (R2.rh b e.symm)), hW5, old_at (by omega), b4'.block b hb]
  have o4lt : ∀ b, bv.ownBlock = some b → b < W4.heap.size := fun b hb => (o4.lt b hb).2
  have a4' : ∀ b, bv.ownBlock = some b → w2.heap.size ≤ b := a4
  have o7 : ownB W7 bv q.bs := row_stays o4 fun b hb => by
    have := o4lt b hb
    have := a4' b hb
    rw [k7 b (by omega), gr6.block b (by omega) (fun e => by have := hhl b e.symm; omega), hW5, old_at (by omega)]
  have f7 : W7.ownsRow 0 35 3 (.slice (some ⟨g1, 0, none⟩) (N.hist.length + 1) gc) (N.hist.length + 1) (N.hist.flatMap Pk.cells ++ Pk.cells { q with bv := bv }) := row_stays f6 fun b hb => by
    obtain rfl : b = g1 := by simpa [Value.ownBlock] using hb.symm
    exact k7 b g1p
  obtain ⟨ρ7, R7, S7, same7⟩ := R2.recorded (w' := W7) (by rw [hW7]; exact gr6.os.trans (by rw [hW5]; exact b4'.os)) (by rw [hW7]; exact gr6.tape.trans (by rw [hW5]; exact b4'.tape)) (by rw [hW7]; exact gr6.output.trans (by rw [hW5]; exact b4'.output)) (by omega)
    { q with bv := bv } _ hq n7 f7 o7 back g1 rfl (by
      rcases l6 with h | h
      · exact .inl (R2.rh _ h)
      · right; omega) (by omega) (fun b hb => ⟨a4' b hb, by have := o4lt b hb; omega, fun e => by
      rcases l6 with h | h
      · have := hhl _ h; have := a4' b hb; omega
      · have := o4lt b hb; omega⟩)
  have r7 : rdB W7.drew q.bv q.bs := rdB_stays r2 (by show _ ≤ W7.heap.size; omega) fun hne b hb => back b (by have := rdB_lt hr hne b hb; have := b02.size; omega) (fun e => hqp hne (by rw [hb, e])) (by rw [hq0 hne b hb]; decide)
  have R7' : Rep ρ7 W7.drew p _ := R7.stays (Nat.le_refl _) fun _ _ => rfl
  obtain ⟨bv2, vf', ve', ρ9, W9, R9, S9, call9⟩ := launch_any ρ7 W7.drew p _ R7' 1 q (N.hist.length : Int) (-1) r7 hq (by have := S.next; exact Nat.le_trans this (by decide)) (by have := S.evs; exact Nat.le_trans this (by decide)) (by exact Nat.le_trans (Nat.le_of_lt hf) (by decide)) hqp
  have ST : Step ρ ρ9 w W9 := (Below.step b02).trans (S7.trans ((⟨rfl, rfl, rfl, Nat.le_refl _, fun _ _ _ => rfl, fun _ _ h => h⟩ : Step ρ7 ρ7 W7 W7.drew).trans S9))
  refine ⟨bv, bv2, _, vf', ve', ρ9, W9, R9, ST, ?_⟩
  have hvf0 := row_slice R.f
  have hvh0 := row_slice R.h
  have n2' := R2.net
  have n4' := R4.net
  clear ST S9 R9 S7 R7 R7' r7 same7 f7 o7 a4' o4lt back k7 g1p hqp gr6 l6 s6 f6 R4 b4' b4 a4 o4 hhH hhl hhp b02 r2 R2 hr R hq0 z4 z5 z6 z7
  obtain ⟨frm0, to0, bv0, bs0⟩ := q
  obtain ⟨fl0, hist0, evs0, bl0, cnt0, next0, vf0, vh0, ve0, vm0⟩ := N
  dsimp only at *
  obtain ⟨fa, fc, hvf⟩ : ∃ a c, vf0 = .slice a fl0.length c := hvf0
  obtain ⟨ha, hc, hvh⟩ : ∃ a c, vh0 = .slice a hist0.length c := hvh0
  generalize hist0.length = n2 at *
  generalize fl0.length = n1 at *
  subst hvf
  subst hvh
  generalize bs0.length = bn at hbv
  subst hbv
  have c0 : w2.cell? ⟨p, 0, none⟩ = some (.slice fa n1 fc) := by rw [cell_of_row _ _ _ _ _ _ n2']; rfl
  have c1 : w2.cell? ⟨p, 1, none⟩ = some (.slice ha n2 hc) := by rw [cell_of_row _ _ _ _ _ _ n2']; rfl
  have d1 : W7.cell? ⟨p, 1, none⟩ = some (.slice (some ⟨g1, 0, none⟩) (n2 + 1) gc) := by rw [cell_of_row _ _ _ _ _ _ n7]; rfl
  have hN2 : W4.heap[p]? = some (.cells #[.slice fa n1 fc, .slice ha n2 hc, ve0, vm0, .int .i64 next0] 29 (0, 0)) := n4'
  have HW5 := Lib.hid hW5
  have HW7 := Lib.hid hW7
  have HR6 := Lib.hid run6
  have HC := Lib.hid call
  have HC4 := Lib.hid call4
  have HC9 := Lib.hid call9
  clear hW5 hW7 run6 call call4 call9
  unfold Pk.val at HC HC4 HC9 ⊢
  unfold Pk.cells at HW5
  dsimp only at HC HC4 HC9 HW5 ⊢
  go_enter Try.func10, Try.ntmps10
  go_wp2
  refine wp_scope_ahead 0 rfl ?_
  go_wp2_with fail
  refine HC.out.mono ?_
  rintro e w1 ⟨rfl, rfl⟩
  go_wp2_with fail
  refine wp_region_chain (wsq [w2.drew, W4, W5, W6, W7]) [6, 7, 8, 11] [(4, 3), (5, 1)] (by kernel_rfl) (by kernel_rfl) (by kernel_rfl) (by kernel_rfl) wsq_0 ?_
  iterate 4 (refine chain_pure rfl rfl ?_; apply Exists.intro; refine ⟨fun ww => ?_, ?_⟩; (focus (unfold calmAt calmUpon; go_simp; rfl)); (simp only [Act.put, List.setIfInBounds_toArray, List.set_cons_succ, List.set_cons_zero]))
  refine chain_load rfl rfl 3 (by simp) ?_
  apply Exists.intro
  refine ⟨fun k ww hk hww => ?_, ?_⟩
  focus
    have m : ww.cell? ⟨p, 1, none⟩ = some (.slice ha n2 hc) := by
      rcases wsq_lt3 hk hww with rfl | rfl | rfl
      · exact c1
      · rw [cell_of_row _ _ _ _ _ _ hN2]; rfl
      · rw [cell_of_row _ _ _ _ _ _ n5]; rfl
    unfold calmAt calmUpon
    go_simp
    rfl
  (simp only [Act.put, List.setIfInBounds_toArray, List.set_cons_succ, List.set_cons_zero])
  -- the box
  refine chain_load rfl rfl 1 (by simp) ?_
  apply Exists.intro
  refine ⟨fun k ww hk hww => ?_, ?_⟩
  focus
    have e := wsq_lt1 hk hww
    subst e
    have m0 : w2.cell? ⟨w.heap.size, 0, none⟩ = some (.string frm0) := by rw [cell_of_row _ _ _ _ _ _ x2]; rfl
    have m1 : w2.cell? ⟨w.heap.size, 1, none⟩ = some (.string to0) := by rw [cell_of_row _ _ _ _ _ _ x2]; rfl
    have m2 : w2.cell? ⟨w.heap.size, 2, none⟩ = some bv0 := by rw [cell_of_row _ _ _ _ _ _ x2]; rfl
    unfold calmAt calmUpon
    go_simp
    rfl
  (simp only [Act.put, List.setIfInBounds_toArray, List.set_cons_succ, List.set_cons_zero])
  -- own
  refine chain_write (by kernel_rfl) rfl 0 rfl (by rfl) ?_
  apply Exists.intro
  refine ⟨fun ww hww => ?_, ?_⟩
  focus
    have e := wsq_lt1 (Nat.zero_lt_one) hww
    subst e
    unfold calmAt calmUpon
    go_simp
    refine HC4.out.mono ?_
    rintro e w1 ⟨rfl, rfl⟩
    exact ⟨rfl, rfl⟩
  (simp only [Act.put, List.setIfInBounds_toArray, List.set_cons_succ, List.set_cons_zero])
  -- the new row's block
  refine chain_write (by kernel_rfl) rfl 1 rfl (by rfl) ?_
  apply Exists.intro
  refine ⟨fun ww hww => ?_, ?_⟩
  focus
    have e : W4 = ww := by simpa [wsq] using hww
    subst e
    unfold calmAt calmUpon
    go_simp
    refine ⟨rfl, ?_⟩
    rw [HW5.out]
    rfl
  (simp only [Act.put, List.setIfInBounds_toArray, List.set_cons_succ, List.set_cons_zero])
  -- append
  refine chain_write (by kernel_rfl) rfl 2 rfl (by rfl) ?_
  apply Exists.intro
  refine ⟨fun ww hww => ?_, ?_⟩
  focus
    have e : W5 = ww := by simpa [wsq] using hww
    subst e
    exact calmAt_append (.tmp 29) (.tmp 32) 25 rfl _ _ rfl rfl HR6.out rfl
  (simp only [Act.put, List.setIfInBounds_toArray, List.set_cons_succ, List.set_cons_zero])
  iterate 2 (refine chain_pure rfl rfl ?_; apply Exists.intro; refine ⟨fun ww => ?_, ?_⟩; (focus (unfold calmAt calmUpon; go_simp; rfl)); (simp only [Act.put, List.setIfInBounds_toArray, List.set_cons_succ, List.set_cons_zero]))
  -- the store
  refine chain_write (by kernel_rfl) rfl 3 rfl (by rfl) ?_
  apply Exists.intro
  refine ⟨fun ww hww => ?_, ?_⟩
  focus
    have e : W6 = ww := by simpa [wsq] using hww
    subst e
    have m0 : W6.cell? ⟨p, 1, none⟩ = some (.slice ha n2 hc) := by rw [cell_of_row _ _ _ _ _ _ n6]; rfl
    have g0 := frozen_blk n6 1
    unfold calmAt calmUpon
    go_simp
    refine ⟨rfl, ?_⟩
    rw [HW7.out]
    rfl
  (simp only [Act.put, List.setIfInBounds_toArray, List.set_cons_succ, List.set_cons_zero])
  refine calm_nil ?_
  intro ww hww
  have e : W7 = ww := by simpa [wsq] using hww
  subst e
  clear hww
  go_wp2_with fail
  refine wp_region_chain (wsq [W7.drew, W9]) [8] [(1, 1), (5, 1)] (by kernel_rfl) (by kernel_rfl) (by kernel_rfl) (by kernel_rfl) wsq_0 ?_
  iterate 1 (refine chain_pure rfl rfl ?_; apply Exists.intro; refine ⟨fun ww => ?_, ?_⟩; (focus (unfold calmAt calmUpon; go_simp; rfl)); (simp only [Act.put, List.setIfInBounds_toArray, List.set_cons_succ, List.set_cons_zero]))
  refine chain_load rfl rfl 1 (by simp) ?_
  apply Exists.intro
  refine ⟨fun k ww hk hww => ?_, ?_⟩
  focus
    have e := wsq_lt1 hk hww
    subst e
    have m0 : W7.cell? ⟨w.heap.size, 0, none⟩ = some (.string frm0) := by rw [cell_of_row _ _ _ _ _ _ x7]; rfl
    have m1 : W7.cell? ⟨w.heap.size, 1, none⟩ = some (.string to0) := by rw [cell_of_row _ _ _ _ _ _ x7]; rfl
    have m2 : W7.cell? ⟨w.heap.size, 2, none⟩ = some bv0 := by rw [cell_of_row _ _ _ _ _ _ x7]; rfl
    unfold calmAt calmUpon
    go_simp
    rfl
  (simp only [Act.put, List.setIfInBounds_toArray, List.set_cons_succ, List.set_cons_zero])
  iterate 3 (refine chain_pure rfl rfl ?_; apply Exists.intro; refine ⟨fun ww => ?_, ?_⟩; (focus (unfold calmAt calmUpon; go_simp; rfl)); (simp only [Act.put, List.setIfInBounds_toArray, List.set_cons_succ, List.set_cons_zero]))
  refine chain_load rfl rfl 1 (by simp) ?_
  apply Exists.intro
  refine ⟨fun k ww hk hww => ?_, ?_⟩
  focus
    have e := wsq_lt1 hk hww
    subst e
    unfold calmAt calmUpon
    go_simp
    rfl
  (simp only [Act.put, List.setIfInBounds_toArray, List.set_cons_succ, List.set_cons_zero])
  iterate 2 (refine chain_pure rfl rfl ?_; apply Exists.intro; refine ⟨fun ww => ?_, ?_⟩; (focus (unfold calmAt calmUpon; go_simp; rfl)); (simp only [Act.put, List.setIfInBounds_toArray, List.set_cons_succ, List.set_cons_zero]))
  rw [show IntKind.i64.wrap (n2 : Int) = (n2 : Int) from (IntWalk.i64_left _).trans (IntWalk.wrap64_in _ (by omega))]
  refine chain_write (by kernel_rfl) rfl 0 rfl (by rfl) ?_
  apply Exists.intro
  refine ⟨fun ww hww => ?_, ?_⟩
  focus
    have e := wsq_lt1 (Nat.zero_lt_one) hww
    subst e
    unfold calmAt calmUpon
    go_simp
    refine HC9.out.mono ?_
    rintro e w1 ⟨rfl, rfl⟩
    exact ⟨rfl, rfl⟩
  (simp only [Act.put, List.setIfInBounds_toArray, List.set_cons_succ, List.set_cons_zero])
  iterate 2 (refine chain_pure rfl rfl ?_; apply Exists.intro; refine ⟨fun ww => ?_, ?_⟩; (focus (unfold calmAt calmUpon; go_simp; rfl)); (simp only [Act.put, List.setIfInBounds_toArray, List.set_cons_succ, List.set_cons_zero]))
  refine calm_nil ?_
  intro ww hww
  have e : W9 = ww := by simpa [wsq] using hww
  subst e
  clear hww
  go_wp2
  rw [jump_ret]
  go_ret2
  exact ⟨rfl, rfl⟩
end Go.Proofs.Ytiindnmelegkgaa
