/- launch. -/
import Derived.Test.YtiindnmelegkgaaRep
namespace Go.Proofs.Ytiindnmelegkgaa
open Go.RowKit
set_option linter.unusedSimpArgs false

/-- One element is appended to a row of one's own, out of a block that was laid for it. -/
theorem append_one (w : World) (t e : TypeId) (z : Value) (size bytes : Nat) (ht : Try.prog.underlying t = some (.slice e)) (hinfo : (Try.prog.info? e).map (fun i => (i.zero, i.size, i.bytes)) = some (some z, size, bytes)) (hzs : z.cells.size = size) (hsz : 0 < size) (hby : bytes ≤ 100)
    (v : Value) (n : Nat) (xs : List Value) (hown : w.ownsRow 0 e size v n xs) (news : List Value) (hl : news.length = size) (h1 : ∀ u ∈ news, u.oneCell' = true) (hn : n ≤ 1073741824) :
    ∃ g cap w', (Builtin.append_ #[t, t] t #[v, .slice (some ⟨w.heap.size, 0, none⟩) 1 1]).run Try.prog (w.alloc (.cells news.toArray e)) = .ok (.slice (some ⟨g, 0, none⟩) (n + 1) cap) w' ∧
      w'.ownsRow 0 e size (.slice (some ⟨g, 0, none⟩) (n + 1) cap) (n + 1) (xs ++ news) ∧ (w.alloc (.cells news.toArray e)).grownBy w' v.ownBlock ∧ (v.ownBlock = some g ∨ g = w.heap.size + 1) ∧ g < w'.heap.size := by
  obtain ⟨i0, hi, hz0, hz1, hz2⟩ := info_parts hinfo
  refine run_append_lies (P := Try.prog) (w.alloc (.cells news.toArray e)) t t 0 e i0 z size bytes ht hi hz0 hz1 hz2 hzs hsz v n xs (hown.alloc _) ⟨w.heap.size, 0, none⟩ 1 1 news (by simp [hl]) ?_ h1 (by decide) (by simp [maxLen]; omega) ?_ (Nat.zero_le _) _ (by simp)
  · intro j u hu
    exact World.news_of_block (w := w.alloc (.cells news.toArray e)) (new_at rfl) j u (by simpa using hu)
  · have : (n + 1) * bytes ≤ (1073741824 + 1) * 100 := Nat.mul_le_mul (by omega) hby
    omega

theorem fl_one (x : Fl) (h : x.p.bv.oneCell' = true) : ∀ u ∈ x.cells, u.oneCell' = true := by
  intro u hu
  simp [Fl.cells] at hu
  rcases hu with rfl | rfl | rfl | rfl | rfl <;> first | rfl | exact h
theorem ev_one (x : Ev) : ∀ u ∈ x.cells, u.oneCell' = true := by
  intro u hu
  simp [Ev.cells] at hu
  rcases hu with rfl | rfl | rfl <;> rfl
theorem pk_one (x : Pk) (h : x.bv.oneCell' = true) : ∀ u ∈ x.cells, u.oneCell' = true := by
  intro u hu
  simp [Pk.cells] at hu
  rcases hu with rfl | rfl | rfl <;> first | rfl | exact h
theorem ownB_one {w : World} {v : Value} {bs : List Int} (h : ownB w v bs) : v.oneCell' = true := by
  obtain ⟨a, c, rfl⟩ := ownB_slice h
  rfl
theorem set_size {w : World} {p : Addr} {v : Value} : (w.setCell p v).heap.size = w.heap.size := by simp

theorem set_at {w : World} {p i : Nat} {v : Value} {cs : Array Value} {t : TypeId} {fr : Nat × Nat} (h : w.heap[p]? = some (.cells cs t fr)) : (w.setCell ⟨p, i, none⟩ v).heap[p]? = some (.cells (cs.setIfInBounds i v) t fr) := by
  simp [World.setCell, Array.getElem?_modify, h]
theorem rdB_stays {w w' : World} {v : Value} {bs : List Int} (h : rdB w v bs) (hs : w.heap.size ≤ w'.heap.size) (he : bs ≠ [] → ∀ b, v.ownBlock = some b → w'.heap[b]? = w.heap[b]?) : rdB w' v bs := by
  refine ⟨h.1, ?_⟩
  rcases h.2 with h | ⟨b, off, c, h, hlt, hc⟩ | h
  · exact .inl h
  · exact .inr (.inl ⟨b, off, c, h, Nat.lt_of_lt_of_le hlt hs, fun j u hu => by rw [World.cell?_of_block (w := w) (he (fun e => by rw [e] at hu; simp at hu) b (by rw [h]; rfl))]; exact hc j u hu⟩)
  · exact .inr (.inr h)
theorem rdB_lt {w : World} {v : Value} {bs : List Int} (h : rdB w v bs) (hne : bs ≠ []) : ∀ b, v.ownBlock = some b → b < w.heap.size := by
  intro b hb
  rcases h.2 with ⟨h, _⟩ | ⟨b', off, c, h, hlt, hc⟩ | ⟨h, _⟩
  · rw [h] at hb; cases hb
  · rw [h] at hb; cases hb; exact hlt
  · exact absurd h hne
theorem setCell_alloc_comm (w : World) (o : Obj) (a : Addr) (v : Value) (h : a.block < w.heap.size) : (w.alloc o).setCell a v = (w.setCell a v).alloc o := by
  unfold World.setCell World.alloc
  congr 1
  apply Array.ext_getElem?
  intro i
  simp only [Array.getElem?_modify, Array.getElem?_push, Array.size_modify]
  by_cases hi : i = w.heap.size
  · rw [if_neg (by omega)]; simp [hi]
  · simp [hi]
/-- The worlds of a chain, by name. -/
def wsq (l : List World) (k : Nat) (w : World) : Prop := l[k]? = some w
theorem wsq_0 {a : World} {l : List World} : wsq (a :: l) 0 a := rfl
theorem wsq_lt1 {a : World} {l : List World} {k : Nat} {w : World} (h : k < 1) (hw : wsq (a :: l) k w) : w = a := by
  obtain rfl : k = 0 := by omega
  simpa [wsq] using hw.symm
theorem wsq_lt2 {a b : World} {l : List World} {k : Nat} {w : World} (h : k < 2) (hw : wsq (a :: b :: l) k w) : w = a ∨ w = b := by
  match k, h with
  | 0, _ => exact .inl (by simpa [wsq] using hw.symm)
  | 1, _ => exact .inr (by simpa [wsq] using hw.symm)
theorem wsq_lt3 {a b c : World} {l : List World} {k : Nat} {w : World} (h : k < 3) (hw : wsq (a :: b :: c :: l) k w) : w = a ∨ w = b ∨ w = c := by
  match k, h with
  | 0, _ => exact .inl (by simpa [wsq] using hw.symm)
  | 1, _ => exact .inr (.inl (by simpa [wsq] using hw.symm))
  | 2, _ => exact .inr (.inr (by simpa [wsq] using hw.symm))

theorem calmAt_append {P : Program} {o : Oper} {a : Act} {D : World → Prop} {w : World} (s x : Operand) (t : TypeId) (ho : o.op = .call { callee := .builtin .append, args := #[s, x], argTypes := #[t, t] }) (v u : Value) (hs : a.eval s = v) (hx : a.eval x = u)
    {v' : Value} {w' : World} (hr : (Builtin.append_ #[t, t] o.type #[v, u]).run P w = .ok v' w') (h : D w') : calmAt P o a D w v' := by
  unfold calmAt execOp
  simp only [ho, resolve, invoke, builtin, Sem.run_bind, Sem.run_pure, Result.andThen_ok, List.map_toArray, List.map_cons, List.map_nil, hs, hx, hr, calmUpon]
  exact ⟨trivial, h⟩

set_option maxHeartbeats 1000000 in
set_option maxRecDepth 100000 in
theorem launch_any (ρ : Nat → Nat) (w : World) (p : Nat) (N : Net) (R : Rep ρ w p N) (kind : Int) (q : Pk) (src frm : Int) (hr : rdB w q.bv q.bs) (hq : validB q = true) (hn : N.next ≤ 1073741824) (he : N.evs.length ≤ 1073741824) (hf : N.fl.length ≤ 1073741824) (hqp : q.bs ≠ [] → q.bv.ownBlock ≠ some p) :
    ∃ bv' vf' ve' ρ' w', Rep ρ' w' p { N with fl := N.fl ++ [⟨{ q with bv := bv' }, N.next, src⟩], evs := N.evs ++ [⟨kind, N.next, frm⟩], next := N.next + 1, vf := vf', ve := ve' } ∧ Step ρ ρ' w w' ∧
      Calls Try.prog 36 #[.pointer (some ⟨p, 0, none⟩), .int .i64 kind, q.val, .int .i64 src, .int .i64 frm] w fun e w'' => e = .returned (.int .i64 N.next) ∧ w' = w'' := by
  have hpl : p < w.heap.size := R.lt (by rw [R.rp]; decide)
  have hfp : ∀ b, N.vf.ownBlock = some b → b ≠ p := fun b hb e => by have := R.rf b hb; rw [e, R.rp] at this; cases this
  have hep : ∀ b, N.ve.ownBlock = some b → b ≠ p := fun b hb e => by have := R.re b hb; rw [e, R.rp] at this; cases this
  have hfl : ∀ b, N.vf.ownBlock = some b → b < w.heap.size := fun b hb => R.lt (by rw [R.rf b hb]; decide)
  have hel : ∀ b, N.ve.ownBlock = some b → b < w.heap.size := fun b hb => R.lt (by rw [R.re b hb]; decide)
  have hfe : ∀ b, N.vf.ownBlock = some b → N.ve.ownBlock ≠ some b := fun b hb e => by have := R.rf b hb; rw [R.re b e] at this; cases this
  -- the worlds
  obtain ⟨W0, hW0⟩ : ∃ W0, W0 = w.alloc (.cells #[.string q.frm, .string q.to, q.bv] 35) := ⟨_, rfl⟩
  have b0 : Below w.heap.size w W0 := by rw [hW0]; exact (Below.refl _ _).alloc (Nat.le_refl _) _
  have z0 : W0.heap.size = w.heap.size + 1 := by rw [hW0]; simp
  have n0 : W0.heap[p]? = _ := (b0.block p hpl).trans R.net
  have x0 : W0.heap[w.heap.size]? = some (.cells #[.string q.frm, .string q.to, q.bv] 35 (0, 0)) := by rw [hW0]; exact new_at rfl
  obtain ⟨W1, hW1⟩ : ∃ W1, W1 = (W0.setCell ⟨p, 4, none⟩ (.int .i64 (N.next + 1))).drew := ⟨_, rfl⟩
  have z1 : W1.heap.size = w.heap.size + 1 := by rw [hW1, ← z0]; simp
  have k1 : ∀ b, b ≠ p → W1.heap[b]? = W0.heap[b]? := fun b hb => by rw [hW1]; exact set_other hb
  have n1 : W1.heap[p]? = some (.cells #[N.vf, N.vh, N.ve, N.vm, .int .i64 ((N.next : Int) + 1)] 29 (0, 0)) := by rw [hW1]; exact set_at n0
  have x1 : W1.heap[w.heap.size]? = some (.cells #[.string q.frm, .string q.to, q.bv] 35 (0, 0)) := (k1 _ (by omega)).trans x0
  have r1 : rdB W1 q.bv q.bs := rdB_stays hr (by omega) fun hne b hb => (k1 b (fun e => hqp hne (by rw [hb, e]))).trans (b0.block b (rdB_lt hr hne b hb))
  have f1 : W1.ownsRow 0 81 5 N.vf N.fl.length (N.fl.flatMap Fl.cells) := row_stays R.f fun b hb => (k1 b (hfp b hb)).trans (b0.block b (hfl b hb))
  obtain ⟨bv, W2, o2, a2, b2, call2⟩ := own_any q W1 r1
  obtain ⟨ba, bc, hbv⟩ := ownB_slice o2
  generalize hbn : q.bs.length = bn at hbv
  have z2 := b2.size
  have n2 : W2.heap[p]? = some (.cells #[N.vf, N.vh, N.ve, N.vm, .int .i64 ((N.next : Int) + 1)] 29 (0, 0)) := (b2.block p (by omega)).trans n1
  have x2 : W2.heap[w.heap.size]? = some (.cells #[.string q.frm, .string q.to, q.bv] 35 (0, 0)) := (b2.block _ (by omega)).trans x1
  have f2 : W2.ownsRow 0 81 5 N.vf N.fl.length (N.fl.flatMap Fl.cells) := row_stays f1 fun b hb => b2.block b (by have := hfl b hb; omega)
  obtain ⟨g1, c1, W4, run4, f4, gr4, l4, s4⟩ := append_one W2 24 81 _ 5 72 u24 info81 rfl (by decide) (by decide) N.vf N.fl.length _ f2 (Fl.cells ⟨{ q with bv := bv }, N.next, src⟩) rfl (fl_one _ (ownB_one o2)) hf
  obtain ⟨W3, hW3⟩ : ∃ W3, W3 = W2.alloc (.cells (Fl.cells ⟨{ q with bv := bv }, N.next, src⟩).toArray 81) := ⟨_, rfl⟩
  rw [← hW3] at run4 gr4
  have z3 : W3.heap.size = W2.heap.size + 1 := by rw [hW3]; simp
  have n3 : W3.heap[p]? = some (.cells #[N.vf, N.vh, N.ve, N.vm, .int .i64 ((N.next : Int) + 1)] 29 (0, 0)) := by rw [hW3, old_at (by omega)]; exact n2
  have x3 : W3.heap[w.heap.size]? = some (.cells #[.string q.frm, .string q.to, q.bv] 35 (0, 0)) := by rw [hW3, old_at (by omega)]; exact x2
  have z4 := gr4.size
  have n4 : W4.heap[p]? = some (.cells #[N.vf, N.vh, N.ve, N.vm, .int .i64 ((N.next : Int) + 1)] 29 (0, 0)) := (gr4.block p (by omega) (fun e => hfp p e.symm rfl)).trans n3
  obtain ⟨W5, hW5⟩ : ∃ W5, W5 = W4.setCell ⟨p, 0, none⟩ (.slice (some ⟨g1, 0, none⟩) (N.fl.length + 1) c1) := ⟨_, rfl⟩
  have z5 : W5.heap.size = W4.heap.size := by rw [hW5]; simp
  have n5 : W5.heap[p]? = some (.cells #[.slice (some ⟨g1, 0, none⟩) (N.fl.length + 1) c1, N.vh, N.ve, N.vm, .int .i64 ((N.next : Int) + 1)] 29 (0, 0)) := by rw [hW5]; exact set_at n4
  have k5 : ∀ b, b ≠ p → W5.heap[b]? = W4.heap[b]? := fun b hb => by rw [hW5]; exact set_other hb
  have e5 : W5.ownsRow 0 59 3 N.ve N.evs.length (N.evs.flatMap Ev.cells) := row_stays R.e fun b hb => by
    have := hel b hb
    have := hep b hb
    rw [k5 b this, gr4.block b (by omega) (fun e => hfe b e.symm hb), hW3, old_at (by omega), b2.block b (by omega), k1 b this, b0.block b (by omega)]
  obtain ⟨g2, c2, W7, run7, f7, gr7, l7, s7⟩ := append_one W5 26 59 _ 3 24 u26 info59 rfl (by decide) (by decide) N.ve N.evs.length _ e5 (Ev.cells ⟨kind, N.next, frm⟩) rfl (ev_one _) he
  obtain ⟨W6, hW6⟩ : ∃ W6, W6 = W5.alloc (.cells (Ev.cells ⟨kind, N.next, frm⟩).toArray 59) := ⟨_, rfl⟩
  rw [← hW6] at run7 gr7
  have z6 : W6.heap.size = W5.heap.size + 1 := by rw [hW6]; simp
  have n6 : W6.heap[p]? = some (.cells #[.slice (some ⟨g1, 0, none⟩) (N.fl.length + 1) c1, N.vh, N.ve, N.vm, .int .i64 ((N.next : Int) + 1)] 29 (0, 0)) := by rw [hW6, old_at (by omega)]; exact n5
  have z7 := gr7.size
  have n7 : W7.heap[p]? = some (.cells #[.slice (some ⟨g1, 0, none⟩) (N.fl.length + 1) c1, N.vh, N.ve, N.vm, .int .i64 ((N.next : Int) + 1)] 29 (0, 0)) := (gr7.block p (by omega) (fun e => hep p e.symm rfl)).trans n6
  obtain ⟨W8, hW8⟩ : ∃ W8, W8 = W7.setCell ⟨p, 2, none⟩ (.slice (some ⟨g2, 0, none⟩) (N.evs.length + 1) c2) := ⟨_, rfl⟩
  have z8 : W8.heap.size = W7.heap.size := by rw [hW8]; simp
  have n8 : W8.heap[p]? = some (.cells #[.slice (some ⟨g1, 0, none⟩) (N.fl.length + 1) c1, N.vh, .slice (some ⟨g2, 0, none⟩) (N.evs.length + 1) c2, N.vm, .int .i64 ((N.next : Int) + 1)] 29 (0, 0)) := by rw [hW8]; exact set_at n7
  have k8 : ∀ b, b ≠ p → W8.heap[b]? = W7.heap[b]? := fun b hb => by rw [hW8]; exact set_other hb
  have g1p : g1 ≠ p := by
    rcases l4 with h | h
    · exact hfp _ h
    · omega
  have g2p : g2 ≠ p := by
    rcases l7 with h | h
    · exact hep _ h
    · omega
  have g12 : g1 ≠ g2 := by
    intro e
    rcases l7 with h | h
    · rcases l4 with h' | h'
      · exact hfe _ h' (by rw [e]; exact h)
      · have := hel _ h; omega
    · rcases l4 with h' | h'
      · have := hfl _ h'; omega
      · omega
  have o8 : W8.os = w.os := by rw [hW8]; exact gr7.os.trans (by rw [hW6, hW5]; exact gr4.os.trans (by rw [hW3]; exact b2.os.trans (by rw [hW1]; exact b0.os)))
  have t8 : W8.tape = w.tape := by rw [hW8]; exact gr7.tape.trans (by rw [hW6, hW5]; exact gr4.tape.trans (by rw [hW3]; exact b2.tape.trans (by rw [hW1]; exact b0.tape)))
  have u8 : W8.output = w.output := by rw [hW8]; exact gr7.output.trans (by rw [hW6, hW5]; exact gr4.output.trans (by rw [hW3]; exact b2.output.trans (by rw [hW1]; exact b0.output)))
  have back : ∀ b, b < w.heap.size → b ≠ p → ρ b ≠ 2 → ρ b ≠ 4 → W8.heap[b]? = w.heap[b]? := fun b hb h1 h2 h4 => by
    rw [k8 b h1, gr7.block b (by omega) (fun e => h4 (R.re b e.symm)), hW6, old_at (by omega), k5 b h1, gr4.block b (by omega) (fun e => h2 (R.rf b e.symm)), hW3, old_at (by omega), b2.block b (by omega), k1 b h1, b0.block b hb]
  have late : ∀ b, W1.heap.size ≤ b → b < W2.heap.size → W8.heap[b]? = W2.heap[b]? := fun b h1 h2 => by
    rw [k8 b (by omega), gr7.block b (by omega) (fun e => by have := hel b e.symm; omega), hW6, old_at (by omega), k5 b (by omega), gr4.block b (by omega) (fun e => by have := hfl b e.symm; omega), hW3, old_at (by omega)]
  have f8 : W8.ownsRow 0 81 5 (.slice (some ⟨g1, 0, none⟩) (N.fl.length + 1) c1) (N.fl.length + 1) (N.fl.flatMap Fl.cells ++ Fl.cells ⟨{ q with bv := bv }, N.next, src⟩) := row_stays f4 fun b hb => by
    obtain rfl : b = g1 := by simpa [Value.ownBlock] using hb.symm
    rw [k8 b g1p, gr7.block b (by omega) (fun e => by
      rcases l4 with h' | h'
      · exact hfe _ h' e.symm
      · have := hel _ e.symm; omega), hW6, old_at (by omega), k5 b g1p]
  have e8 : W8.ownsRow 0 59 3 (.slice (some ⟨g2, 0, none⟩) (N.evs.length + 1) c2) (N.evs.length + 1) (N.evs.flatMap Ev.cells ++ Ev.cells ⟨kind, N.next, frm⟩) := row_stays f7 fun b hb => by
    obtain rfl : b = g2 := by simpa [Value.ownBlock] using hb.symm
    rw [k8 b g2p]
  have o2lt : ∀ b, bv.ownBlock = some b → b < W2.heap.size := fun b hb => (o2.lt b hb).2
  have q8 : ownB W8 bv q.bs := row_stays o2 fun b hb => late b (a2 b hb) (o2lt b hb)
  obtain ⟨ρ', R', S'⟩ := R.launched (w' := W8) o8 t8 u8 (by omega) { q with bv := bv } src ⟨kind, N.next, frm⟩ _ _ hq (by rw [n8]; simp) f8 e8 q8 back
    g1 rfl (by rcases l4 with h | h; · exact .inl (R.rf _ h)
               · right; omega) (by omega) g2 rfl (by rcases l7 with h | h; · exact .inl (R.re _ h)
                                                     · right; omega) (by omega)
    (fun b hb => ⟨by have := a2 b hb; omega, by have := o2lt b hb; omega, fun e => by
      rcases l4 with h | h
      · have := hfl _ h; have := a2 b hb; omega
      · have := o2lt b hb; omega, fun e => by
      rcases l7 with h | h
      · have := hel _ h; have := a2 b hb; omega
      · have := o2lt b hb; omega⟩) g12
  refine ⟨bv, _, _, ρ', W8, R', S', ?_⟩
  clear hbn z0 z1 z2 z3 z4 z5 z6 z7 R' S' q8 o2lt e8 f8 late back u8 t8 o8 g12 g2p g1p k8 n8 z8 l7 s7 f7 e5 l4 s4 f4 f2 f1 r1 a2 o2 hfe hel hfl hep hfp R hr gr4 gr7 b2 b0 k1 k5
  obtain ⟨frm0, to0, bv0, bs0⟩ := q
  obtain ⟨fl0, hist0, evs0, bl0, cnt0, next0, vf0, vh0, ve0, vm0⟩ := N
  dsimp only at *
  have c0 : W0.cell? ⟨p, 4, none⟩ = some (.int .i64 next0) := by rw [cell_of_row _ _ _ _ _ _ n0]; rfl
  have g0 : W0.frozen? ⟨p, 4, none⟩ = false := frozen_blk n0 _
  rw [hW0] at c0 g0
  have HN := Lib.hid hn
  have HW0 := Lib.hid hW0
  have HW1 := Lib.hid hW1
  have HW3 := Lib.hid hW3
  have HW5 := Lib.hid hW5
  have HW6 := Lib.hid hW6
  have HW8 := Lib.hid hW8
  have HR4 := Lib.hid run4
  have HR7 := Lib.hid run7
  have HC := Lib.hid call2
  clear hn hW0 hW1 hW3 hW5 hW6 hW8 run4 run7 call2
  have hb1 : -9223372036854775808 ≤ (next0 : Int) + 1 := by omega
  have hb2 : (next0 : Int) + 1 ≤ 9223372036854775807 := by have := HN.out; omega
  subst hbv
  unfold Pk.val at HC ⊢
  unfold Fl.cells at HW3
  unfold Ev.cells at HW6
  dsimp only at HC HW3 HW6 ⊢
  go_enter Try.func36, Try.ntmps36
  go_wp2_with fail
  refine wp_region_chain (wsq [W1, W2, W3, W4, W5]) [6, 10, 11, 14] [(4, 3), (5, 1)] (by kernel_rfl) (by kernel_rfl) (by kernel_rfl) (by kernel_rfl) (by rw [HW1.out, HW0.out, setCell_alloc_comm _ _ _ _ hpl]; exact wsq_0) ?_
  iterate 4 (refine chain_pure rfl rfl ?_; apply Exists.intro; refine ⟨fun ww => ?_, ?_⟩; (focus (unfold calmAt calmUpon; go_simp; rfl)); (simp only [Act.put, List.setIfInBounds_toArray, List.set_cons_succ, List.set_cons_zero]))
  refine chain_load rfl rfl 3 (by simp) ?_
  apply Exists.intro
  refine ⟨fun k ww hk hww => ?_, ?_⟩
  focus
    have m : ww.cell? ⟨p, 0, none⟩ = some vf0 := by
      rcases wsq_lt3 hk hww with rfl | rfl | rfl
      · rw [cell_of_row _ _ _ _ _ _ n1]; rfl
      · rw [cell_of_row _ _ _ _ _ _ n2]; rfl
      · rw [cell_of_row _ _ _ _ _ _ n3]; rfl
    unfold calmAt calmUpon
    go_simp
    try rfl
  (simp only [Act.put, List.setIfInBounds_toArray, List.set_cons_succ, List.set_cons_zero])
  -- the box
  refine chain_load rfl rfl 1 (by simp) ?_
  apply Exists.intro
  refine ⟨fun k ww hk hww => ?_, ?_⟩
  focus
    have e := wsq_lt1 hk hww
    subst e
    have m0 : ww.cell? ⟨w.heap.size, 0, none⟩ = some (.string frm0) := by rw [cell_of_row _ _ _ _ _ _ x1]; rfl
    have m1 : ww.cell? ⟨w.heap.size, 1, none⟩ = some (.string to0) := by rw [cell_of_row _ _ _ _ _ _ x1]; rfl
    have m2 : ww.cell? ⟨w.heap.size, 2, none⟩ = some bv0 := by rw [cell_of_row _ _ _ _ _ _ x1]; rfl
    unfold calmAt calmUpon
    go_simp
    rfl
  (simp only [Act.put, List.setIfInBounds_toArray, List.set_cons_succ, List.set_cons_zero])
  -- own
  refine chain_write (by kernel_rfl) rfl 0 rfl (by rfl) ?_
  apply Exists.intro
  refine ⟨fun ww hww => ?_, ?_⟩
  focus
    have e := wsq_lt1 (Nat.zero_lt_one) hww
    subst e
    unfold calmAt calmUpon
    go_simp
    refine HC.out.mono ?_
    rintro e w1 ⟨rfl, rfl⟩
    exact ⟨rfl, rfl⟩
  (simp only [Act.put, List.setIfInBounds_toArray, List.set_cons_succ, List.set_cons_zero])
  iterate 3 (refine chain_pure rfl rfl ?_; apply Exists.intro; refine ⟨fun ww => ?_, ?_⟩; (focus (unfold calmAt calmUpon; go_simp; rfl)); (simp only [Act.put, List.setIfInBounds_toArray, List.set_cons_succ, List.set_cons_zero]))
  -- the new row's block
  refine chain_write (by kernel_rfl) rfl 1 rfl (by rfl) ?_
  apply Exists.intro
  refine ⟨fun ww hww => ?_, ?_⟩
  focus
    have e : W2 = ww := by simpa [wsq] using hww
    subst e
    unfold calmAt calmUpon
    go_simp
    refine ⟨rfl, ?_⟩
    rw [HW3.out]
    rfl
  (simp only [Act.put, List.setIfInBounds_toArray, List.set_cons_succ, List.set_cons_zero])
  -- append
  refine chain_write (by kernel_rfl) rfl 2 rfl (by rfl) ?_
  apply Exists.intro
  refine ⟨fun ww hww => ?_, ?_⟩
  focus
    have e : W3 = ww := by simpa [wsq] using hww
    subst e
    exact calmAt_append (.tmp 27) (.tmp 33) 24 rfl _ _ rfl rfl HR4.out rfl
  (simp only [Act.put, List.setIfInBounds_toArray, List.set_cons_succ, List.set_cons_zero])
  iterate 2 (refine chain_pure rfl rfl ?_; apply Exists.intro; refine ⟨fun ww => ?_, ?_⟩; (focus (unfold calmAt calmUpon; go_simp; rfl)); (simp only [Act.put, List.setIfInBounds_toArray, List.set_cons_succ, List.set_cons_zero]))
  -- the store
  refine chain_write (by kernel_rfl) rfl 3 rfl (by rfl) ?_
  apply Exists.intro
  refine ⟨fun ww hww => ?_, ?_⟩
  focus
    have e : W4 = ww := by simpa [wsq] using hww
    subst e
    have m0 : W4.cell? ⟨p, 0, none⟩ = some vf0 := by rw [cell_of_row _ _ _ _ _ _ n4]; rfl
    have g0 := frozen_blk n4 0
    unfold calmAt calmUpon
    go_simp
    refine ⟨rfl, ?_⟩
    rw [HW5.out]
    rfl
  (simp only [Act.put, List.setIfInBounds_toArray, List.set_cons_succ, List.set_cons_zero])
  refine calm_nil ?_
  intro ww hww
  have e : W5 = ww := by simpa [wsq] using hww
  subst e
  have m0 : W5.cell? ⟨p, 2, none⟩ = some ve0 := by rw [cell_of_row _ _ _ _ _ _ n5]; rfl
  have hr7 := HR7.out
  rw [HW6.out] at hr7
  have HR8 := Lib.hid hr7
  clear hr7
  have m1 : W7.cell? ⟨p, 2, none⟩ = some ve0 := by rw [cell_of_row _ _ _ _ _ _ n7]; rfl
  have g1 := frozen_blk n7 2
  clear hww
  go_wp2_with (at_builtin; refine wpList_append_run rfl (.tmp 41) (.tmp 46) 26 rfl _ _ rfl rfl HR8.out ?_)
  go_wp2
  go_ret
  exact ⟨rfl, HW8.out⟩
end Go.Proofs.Ytiindnmelegkgaa
