/- Alter, Redirect. -/
import Derived.Test.YtiindnmelegkgaaMeth
namespace Go.Proofs.Ytiindnmelegkgaa
open Go.RowKit
set_option linter.unusedSimpArgs false
set_option linter.unusedVariables false

theorem set_mem {fl : List Fl} (hs : fl.Pairwise (fun x y => x.id < y.id)) {i : Nat} {x x' y : Fl} (hx : fl[i]? = some x) (hy : y ∈ fl.set i x') : y = x' ∨ (y ∈ fl ∧ y.id ≠ x.id) := by
  obtain ⟨k, hk⟩ := List.mem_iff_getElem?.1 hy
  by_cases hki : i = k
  · subst hki
    rw [List.getElem?_set_self (List.getElem?_eq_some_iff.1 hx).1] at hk
    exact .inl (Option.some.inj hk).symm
  · rw [List.getElem?_set_ne hki] at hk
    refine .inr ⟨List.mem_of_getElem? hk, ?_⟩
    rcases Nat.lt_or_ge i k with h | h
    · have := pw_lt hs h hx hk; omega
    · have := pw_lt hs (show k < i by omega) hk hx; omega
theorem set_ids {fl : List Fl} (hs : fl.Pairwise (fun x y => x.id < y.id)) {i : Nat} {x x' : Fl} (hx : fl[i]? = some x) (hid : x'.id = x.id) : (fl.set i x').Pairwise (fun x y => x.id < y.id) := by
  have h1 : (fl.map Fl.id).Pairwise (· < ·) := List.pairwise_map.2 hs
  have h2 : (fl.set i x').map Fl.id = fl.map Fl.id := by
    rw [List.map_set, hid]
    apply List.ext_getElem?
    intro k
    by_cases hki : i = k
    · subst hki
      rw [List.getElem?_set_self (by simpa using (List.getElem?_eq_some_iff.1 hx).1), List.getElem?_map, hx]
      rfl
    · rw [List.getElem?_set_ne hki]
  have h3 : ((fl.set i x').map Fl.id).Pairwise (· < ·) := by rw [h2]; exact h1
  exact List.pairwise_map.1 h3

/-- A packet in flight is changed. -/
theorem Rep.changed {ρ : Nat → Nat} {w w' : World} {p : Nat} {N : Net} (R : Rep ρ w p N) (os : w'.os = w.os) (tape : w'.tape = w.tape) (out : w'.output = w.output) (hs : w.heap.size ≤ w'.heap.size)
    (i : Nat) (x x' : Fl) (hx : N.fl[i]? = some x) (hid : x'.id = x.id) (hbv : x'.p.bv = x.p.bv) (hv : validB x'.p = true) (ev : Ev) (ve : Value)
    (hp : w'.heap[p]? = some (.cells #[N.vf, N.vh, ve, N.vm, .int .i64 N.next] 29 (0, 0)))
    (hf : w'.ownsRow 0 81 5 N.vf N.fl.length ((N.fl.set i x').flatMap Fl.cells)) (hb : ownB w' x'.p.bv x'.p.bs)
    (he : w'.ownsRow 0 59 3 ve (N.evs.length + 1) (N.evs.flatMap Ev.cells ++ ev.cells))
    (hblk : ∀ b, b < w.heap.size → b ≠ p → ρ b ≠ 2 → ρ b ≠ 4 → ρ b ≠ 7 + x.id → w'.heap[b]? = w.heap[b]?)
    (ge : Nat) (hge : ve.ownBlock = some ge) (hge1 : ρ ge = 4 ∨ w.heap.size ≤ ge) (hge2 : ge < w'.heap.size) :
    ∃ ρ', Rep ρ' w' p { N with fl := N.fl.set i x', evs := N.evs ++ [ev], ve := ve } ∧ Step ρ ρ' w w' := by
  have hxm := List.mem_of_getElem? hx
  have stay : ∀ b, ρ b ≠ 0 → ρ b ≠ 1 → ρ b ≠ 2 → ρ b ≠ 4 → ρ b ≠ 7 + x.id → w'.heap[b]? = w.heap[b]? := fun b h0 h1 h2 h4 h7 => hblk b (R.lt h0) (fun e => h1 (by rw [e, R.rp])) h2 h4 h7
  refine ⟨fun b => if b < w.heap.size then ρ b else if b = ge then 4 else 0, ?_, ⟨os, tape, out, hs, fun b hb h0 => ?_, fun b hb h0 => (if_pos hb).trans h0⟩⟩
  · have old : ∀ b, ρ b ≠ 0 → (if b < w.heap.size then ρ b else if b = ge then 4 else 0) = ρ b := fun b h0 => if_pos (R.lt h0)
    constructor
    · exact hp
    · simpa using hf
    · exact row_stays R.h fun b hb => stay b (by rw [R.rh b hb]; decide) (by rw [R.rh b hb]; decide) (by rw [R.rh b hb]; decide) (by rw [R.rh b hb]; decide) (by rw [R.rh b hb]; omega)
    · simpa using he
    · exact mapOk_stays R.m fun b hb => stay b (by rw [R.rm b hb]; decide) (by rw [R.rm b hb]; decide) (by rw [R.rm b hb]; decide) (by rw [R.rm b hb]; decide) (by rw [R.rm b hb]; omega)
    · intro y hy
      rcases set_mem R.ids hx hy with rfl | ⟨hy', hne⟩
      · exact hb
      · exact row_stays (R.fb y hy') fun b hb => stay b (by rw [R.rfb y hy' b hb]; omega) (by rw [R.rfb y hy' b hb]; omega) (by rw [R.rfb y hy' b hb]; omega) (by rw [R.rfb y hy' b hb]; omega) (by rw [R.rfb y hy' b hb]; omega)
    · exact fun y hy => row_stays (R.hb y hy) fun b hb => stay b (by rw [R.rhb y hy b hb]; decide) (by rw [R.rhb y hy b hb]; decide) (by rw [R.rhb y hy b hb]; decide) (by rw [R.rhb y hy b hb]; decide) (by rw [R.rhb y hy b hb]; omega)
    · exact (old p (by rw [R.rp]; decide)).trans R.rp
    · exact fun b hb => (old b (by rw [R.rf b hb]; decide)).trans (R.rf b hb)
    · exact fun b hb => (old b (by rw [R.rh b hb]; decide)).trans (R.rh b hb)
    · intro b hb'
      have hb'' : ve.ownBlock = some b := hb'
      rw [hge] at hb''
      cases hb''
      rcases hge1 with h | h
      · exact (old ge (by rw [h]; decide)).trans h
      · show (if ge < w.heap.size then _ else _) = 4
        rw [if_neg (by omega), if_pos rfl]
    · exact fun b hb => (old b (by rw [R.rm b hb]; decide)).trans (R.rm b hb)
    · intro y hy b hbb
      rcases set_mem R.ids hx hy with rfl | ⟨hy', hne⟩
      · have := R.rfb x hxm b (hbv ▸ hbb)
        rw [hid]
        exact (old b (by omega)).trans this
      · have := R.rfb y hy' b hbb
        exact (old b (by omega)).trans this
    · exact fun y hy b hb => (old b (by rw [R.rhb y hy b hb]; decide)).trans (R.rhb y hy b hb)
    · intro b hb'
      show (if b < w.heap.size then _ else _) = 0
      rw [if_neg (by omega), if_neg (by omega)]
    · exact set_ids R.ids hx hid
    · intro y hy
      rcases set_mem R.ids hx hy with rfl | ⟨hy', hne⟩
      · rw [hid]; exact R.idn x hxm
      · exact R.idn y hy'
    · intro y hy
      rcases set_mem R.ids hx hy with rfl | ⟨hy', hne⟩
      · exact hv
      · exact R.fok y hy'
    · exact R.hok
  · exact hblk b hb (fun e => by rw [e, R.rp] at h0; cases h0) (by omega) (by omega) (by omega)

/-- A cell of a row is set. -/
theorem row_set {w : World} {base : Nat} {e : TypeId} {size g n cap : Nat} {xs : List Value} (h : w.ownsRow base e size (.slice (some ⟨g, 0, none⟩) n cap) n xs) (j : Nat) (v : Value) (hj : j < n * size) :
    (w.setCell ⟨g, j, none⟩ v).ownsRow base e size (.slice (some ⟨g, 0, none⟩) n cap) n (xs.set j v) := by
  refine ⟨by simpa using h.1, ?_⟩
  rcases h.2 with ⟨h, _⟩ | ⟨g', cap', cur, hv, h1, h2, h3, h4, h5, h6⟩
  · cases h
  · cases hv
    refine .inr ⟨g, cap, cur.setIfInBounds j v, rfl, h1, set_at h2, h3, h4, by simpa using h5, ?_⟩
    rw [← h6, Array.toList_setIfInBounds, List.take_set]
theorem flat_set (f : Fl → List Value) (hf : ∀ x, (f x).length = 5) : ∀ (fl : List Fl) (i : Nat) (x' : Fl) (j : Nat) (v : Value) (x : Fl), fl[i]? = some x → j < 5 → f x' = (f x).set j v → (fl.set i x').flatMap f = (fl.flatMap f).set (i * 5 + j) v
  | [], i, x', j, v, x, h, _, _ => by simp at h
  | y :: l, 0, x', j, v, x, h, hj, e => by
    simp at h
    subst h
    simp only [List.set_cons_zero, List.flatMap_cons, Nat.zero_mul, Nat.zero_add]
    rw [List.set_append_left _ _ (by rw [hf]; exact hj), e]
  | y :: l, i + 1, x', j, v, x, h, hj, e => by
    simp at h
    simp only [List.set_cons_succ, List.flatMap_cons]
    rw [flat_set f hf l i x' j v x h hj e, List.set_append_right _ _ (by rw [hf]; omega), hf, show (i + 1) * 5 + j - 5 = i * 5 + j by omega]

/-- The worlds behind the noting of an event. -/
structure Note (W : World) (p : Nat) (vf vh ve vm : Value) (next : Int) (evs : List Ev) (ev : Ev) (ge gc : Nat) (W4 W5 : World) : Prop where
  run : (Builtin.append_ #[26, 26] 26 #[ve, .slice (some ⟨W.heap.size, 0, none⟩) 1 1]).run Try.prog (W.alloc (.cells #[.int .i64 ev.kind, .int .i64 ev.id, .int .i64 ev.frm] 59)) = .ok (.slice (some ⟨ge, 0, none⟩) (evs.length + 1) gc) W4
  w5 : W5 = W4.setCell ⟨p, 2, none⟩ (.slice (some ⟨ge, 0, none⟩) (evs.length + 1) gc)
  c4 : W4.cell? ⟨p, 2, none⟩ = some ve
  k4 : W4.frozen? ⟨p, 2, none⟩ = false
  n5 : W5.heap[p]? = some (.cells #[vf, vh, .slice (some ⟨ge, 0, none⟩) (evs.length + 1) gc, vm, .int .i64 next] 29 (0, 0))
  e5 : W5.ownsRow 0 59 3 (.slice (some ⟨ge, 0, none⟩) (evs.length + 1) gc) (evs.length + 1) (evs.flatMap Ev.cells ++ ev.cells)
  back : ∀ b, b < W.heap.size → b ≠ p → ve.ownBlock ≠ some b → W5.heap[b]? = W.heap[b]?
  os : W5.os = W.os
  tape : W5.tape = W.tape
  output : W5.output = W.output
  size : W.heap.size ≤ W5.heap.size
  ge1 : ve.ownBlock = some ge ∨ W.heap.size ≤ ge
  ge2 : ge < W5.heap.size
theorem note_worlds (W : World) (p : Nat) (vf vh ve vm : Value) (next : Int) (evs : List Ev) (ev : Ev) (n : W.heap[p]? = some (.cells #[vf, vh, ve, vm, .int .i64 next] 29 (0, 0)))
    (e : W.ownsRow 0 59 3 ve evs.length (evs.flatMap Ev.cells)) (hep : ve.ownBlock ≠ some p) (hl : evs.length ≤ 1000000) : ∃ ge gc W4 W5, Note W p vf vh ve vm next evs ev ge gc W4 W5 := by
  have hpl : p < W.heap.size := (Array.getElem?_eq_some_iff.1 n).1
  obtain ⟨ge, gc, W4, run4, f4, gr4, l4, s4⟩ := append_one W 26 59 _ 3 24 u26 info59 rfl (by decide) (by decide) ve evs.length _ e ev.cells rfl (ev_one _) (by omega)
  have z4 := gr4.size
  have z3 : (W.alloc (.cells ev.cells.toArray 59)).heap.size = W.heap.size + 1 := by simp
  have n4 := (gr4.block p (by omega) (fun e => hep e.symm)).trans ((old_at hpl).trans n)
  have gep : ge ≠ p := by
    rcases l4 with h | h
    · exact fun e => hep (e ▸ h)
    · omega
  have s5 : ∀ b, b ≠ p → (W4.setCell ⟨p, 2, none⟩ (.slice (some ⟨ge, 0, none⟩) (evs.length + 1) gc)).heap[b]? = W4.heap[b]? := fun b hb => set_other hb
  refine ⟨ge, gc, W4, _, run4, rfl, by rw [cell_of_row _ _ _ _ _ _ n4]; rfl, frozen_blk n4 2, by rw [set_at n4]; rfl, row_stays f4 fun b hb => s5 b (by obtain rfl : b = ge := (by simpa [Value.ownBlock] using hb.symm); exact gep),
    fun b hb h1 h2 => (s5 b h1).trans ((gr4.block b (by omega) (fun e => h2 e.symm)).trans (old_at hb)), gr4.os, gr4.tape, gr4.output, by rw [set_size]; omega, ?_, by rw [set_size]; exact s4⟩
  rcases l4 with h | h
  · exact .inl h
  · right; omega

/-- A packet in flight has been changed. -/
def Changed (ρ : Nat → Nat) (w w' : World) (p : Nat) (N : Net) (i : Nat) (x' : Fl) (kind id : Int) : Prop :=
  ∃ ρ' ve', Rep ρ' w' p { N with fl := N.fl.set i x', evs := N.evs ++ [⟨kind, id, -1⟩], ve := ve' } ∧ Step ρ ρ' w w'

set_option maxHeartbeats 1000000 in
set_option maxRecDepth 100000 in
theorem redirect_ok {ρ : Nat → Nat} {w : World} {p : Nat} {N : Net} (R : Rep ρ w p N) (S : Small N) {id : Int} {i : Nat} {x : Fl} (h : Hits N.fl id i x) (to : ByteArray) (ht : hostB to = true) :
    Calls Try.prog 20 #[.pointer (some ⟨p, 0, none⟩), .int .i64 id, .string to] w fun e w' => e = .returned (.int .i64 0) ∧ Changed ρ w w' p N i { x with p := { x.p with to := to } } 6 id := by
  have HC := Lib.hid (index_hit R S h)
  have HR := Lib.hid R
  have HX := Lib.hid h.1
  have HS := Lib.hid S
  have HT := Lib.hid ht
  have hil : i < N.fl.length := (List.getElem?_eq_some_iff.1 h.1).1
  obtain ⟨g, cap, cur, hvf, _⟩ := row_addr R.f (by omega)
  obtain ⟨n, hn⟩ : ∃ n, N.fl.length = n := ⟨_, rfl⟩
  rw [hn] at hvf hil
  clear R S h
  go_enter Try.func20, Try.ntmps20
  go_wp2_with fail
  refine (host_any _ _).mono ?_
  rintro e w0 ⟨rfl, rfl⟩
  rw [HT.out]
  go_wp2_with fail
  refine HC.out.mono ?_
  rintro e w1 ⟨rfl, hb⟩
  have R1 := HR.out.below hb
  obtain ⟨c0, c1, c2, c3, c4, fr⟩ := net_cells R1
  rw [hvf] at c0
  have rf1 := R1.f
  rw [hvf, hn] at rf1
  have m1 := fl_at rf1 HX.out hn 1 (by decide)
  simp [Fl.cells] at m1
  have k1 := rf1.frozenAt (i * 5 + 1)
  clear c1 c3 c4 fr
  have hrg : ρ g = 2 := R1.rf g (by rw [hvf]; rfl)
  have hgp : g ≠ p := fun e => by rw [e, R1.rp] at hrg; cases hrg
  -- the worlds
  obtain ⟨W2, hW2⟩ : ∃ W2, W2 = w1.setCell ⟨g, i * 5 + 1, none⟩ (.string to) := ⟨_, rfl⟩
  have s2 : ∀ b, b ≠ g → W2.heap[b]? = w1.heap[b]? := fun b hb => by rw [hW2]; exact set_other hb
  have z2 : W2.heap.size = w1.heap.size := by rw [hW2]; simp
  have n2 : W2.heap[p]? = _ := (s2 p (Ne.symm hgp)).trans R1.net
  have f2 := row_set rf1 (i * 5 + 1) (.string to) (by omega)
  rw [← flat_set Fl.cells (fun _ => rfl) N.fl i { x with p := { x.p with to := to } } 1 (.string to) x HX.out (by decide) rfl, ← hW2] at f2
  have hel : ∀ b, N.ve.ownBlock = some b → b < w1.heap.size := fun b hb => R1.lt (by rw [R1.re b hb]; decide)
  have hep : ∀ b, N.ve.ownBlock = some b → b ≠ p := fun b hb e => by have := R1.re b hb; rw [e, R1.rp] at this; cases this
  have heg : ∀ b, N.ve.ownBlock = some b → b ≠ g := fun b hb e => by have := R1.re b hb; rw [e, hrg] at this; cases this
  have e2 : W2.ownsRow 0 59 3 N.ve N.evs.length (N.evs.flatMap Ev.cells) := row_stays R1.e fun b hb => s2 b (heg b hb)
  obtain ⟨ge, gc, W4, W5, T⟩ := note_worlds W2 p N.vf N.vh N.ve N.vm N.next N.evs ⟨6, id, -1⟩ n2 e2 (fun e => hep p e rfl) HS.out.evs
  have hv1 := R1.fok x (List.mem_of_getElem? HX.out)
  have hv2 : validB { x.p with to := to } = true := by
    simp only [validB, Bool.and_eq_true] at hv1 ⊢
    exact ⟨⟨hv1.1.1, HT.out⟩, hv1.2⟩
  have hxb : ∀ b, x.p.bv.ownBlock = some b → ρ b = 7 + x.id := R1.rfb x (List.mem_of_getElem? HX.out)
  have hxl : ∀ b, x.p.bv.ownBlock = some b → b < w1.heap.size := fun b hb => R1.lt (by rw [hxb b hb]; omega)
  have b5 : ownB W5 x.p.bv x.p.bs := row_stays (R1.fb x (List.mem_of_getElem? HX.out)) fun b hb => by
    have h1 := hxb b hb
    rw [T.back b (by rw [z2]; exact hxl b hb) (fun e => by rw [e, R1.rp] at h1; omega) (fun e => by have := R1.re b e; omega), s2 b (fun e => by rw [e, hrg] at h1; omega)]
  have f5 : W5.ownsRow 0 81 5 N.vf N.fl.length ((N.fl.set i { x with p := { x.p with to := to } }).flatMap Fl.cells) := by
    rw [hvf, hn]
    refine row_stays f2 fun b hb => ?_
    obtain rfl : b = g := by simpa [Value.ownBlock] using hb.symm
    exact T.back b (by rw [z2]; exact R1.lt (by rw [hrg]; decide)) hgp (fun e => heg b e rfl)
  have idx := HC
  obtain ⟨ρ', R', S'⟩ := R1.changed (w' := W5) (T.os.trans (by rw [hW2]; rfl)) (T.tape.trans (by rw [hW2]; rfl)) (T.output.trans (by rw [hW2]; rfl)) (by have := T.size; omega) i x { x with p := { x.p with to := to } } HX.out rfl rfl hv2 ⟨6, id, -1⟩ _ T.n5 f5 b5 T.e5
    (fun b hb h1 h2 h4 h7 => (T.back b (by omega) h1 (fun e => h4 (R1.re b e))).trans (s2 b (fun e => h2 (by rw [e]; exact hrg)))) ge rfl (by
      rcases T.ge1 with h | h
      · exact .inl (R1.re _ h)
      · right; omega) T.ge2
  have END : Hid (Changed ρ w W5 p N i { x with p := { x.p with to := to } } 6 id) := Lib.hid ⟨ρ', _, R', (Below.step hb).trans S'⟩
  have HT5 := Lib.hid T.w5
  have HR4 := Lib.hid T.run
  have d2 : W2.cell? ⟨p, 2, none⟩ = some N.ve := by rw [cell_of_row _ _ _ _ _ _ n2]; rfl
  have d4 := T.c4
  have k4 := T.k4
  have HW2 := Lib.hid hW2
  clear R' S' f5 b5 hxl hxb hv1 hv2 T e2 heg hep hel f2 n2 z2 s2 hW2 R1 rf1 hb idx
  have run := HR4.out
  rw [HW2.out, set_size] at run
  rw [HW2.out] at d2
  have HRN := Lib.hid run
  clear run
  go_wp2_with (at_builtin; refine wpList_append_run rfl (.tmp 37) (.tmp 40) 26 rfl _ _ rfl rfl HRN.out ?_)
  go_ret
  exact ⟨rfl, HT5.out ▸ END.out⟩
end Go.Proofs.Ytiindnmelegkgaa
