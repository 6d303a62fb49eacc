/- Alter, Redirect. -/
import Derived.Test.YtiindnmelegkgaaMeth
section
namespace Go.Proofs.Ytiindnmelegkgaa
open Go.RowKit
set_option linter.unusedSimpArgs false
set_option linter.unusedVariables false

theorem set_mem {fl : List Fl} (hs : fl.Pairwise (fun x y => x.id < y.id)) {i : Nat} {x x' y : Fl} (hx : fl[i]? = some x) (hy : y ∈ fl.set i x') : y = x' ∨ (y ∈ fl ∧ y.id ≠ x.id) := by
  obtain ⟨k, hk⟩ := List.mem_iff_getElem?.1 hy
  by_cases hki : i = k
  · subst hki
    rw [List.getElem?_set_self (List.getElem?_eq_some_iff.1 hx).1] at hk
    exact .inl (Option.some.inj hk).symm
  · rw [List.getElem?_set_ne hki] at hk
    refine .inr ⟨List.mem_of_getElem? hk, ?_⟩
    rcases Nat.lt_or_ge i k with h | h
    · have := pw_lt hs h hx hk; omega
    · have := pw_lt hs (show k < i by omega) hk hx; omega
theorem set_ids {fl : List Fl} (hs : fl.Pairwise (fun x y => x.id < y.id)) {i : Nat} {x x' : Fl} (hx : fl[i]? = some x) (hid : x'.id = x.id) : (fl.set i x').Pairwise (fun x y => x.id < y.id) := by
  have h1 : (fl.map Fl.id).Pairwise (· < ·) := List.pairwise_map.2 hs
  have h2 : (fl.set i x').map Fl.id = fl.map Fl.id := by
    rw [List.map_set, hid]
    apply List.ext_getElem?
    intro k
    by_cases hki : i = k
    · subst hki
      rw [List.getElem?_set_self (by simpa using (List.getElem?_eq_some_iff.1 hx).1), List.getElem?_map, hx]
      rfl
    · rw [List.getElem?_set_ne hki]
  have h3 : ((fl.set i x').map Fl.id).Pairwise (· < ·) := by rw [h2]; exact h1
  exact List.pairwise_map.1 h3

/-- A packet in flight is changed. -/
theorem Rep.changed {ρ : Nat → Nat} {w w' : World} {p : Nat} {N : Net} (R : Rep ρ w p N) (os : w'.os = w.os) (tape : w'.tape = w.tape) (out : w'.output = w.output) (hs : w.heap.size ≤ w'.heap.size)
    (i : Nat) (x x' : Fl) (hx : N.fl[i]? = some x) (hid : x'.id = x.id) (hbv : x'.p.bv = x.p.bv) (hv : validB x'.p = true) (ev : Ev) (ve : Value)
    (hp : w'.heap[p]? = some (.cells #[N.vf, N.vh, ve, N.vm, .int .i64 N.next] 29 (0, 0)))
    (hf : w'.ownsRow 0 81 5 N.vf N.fl.length ((N.fl.set i x').flatMap Fl.cells)) (hb : ownB w' x'.p.bv x'.p.bs)
    (he : w'.ownsRow 0 59 3 ve (N.evs.length + 1) (N.evs.flatMap Ev.cells ++ ev.cells))
    (hblk : ∀ b, b < w.heap.size → b ≠ p → ρ b ≠ 2 → ρ b ≠ 4 → ρ b ≠ 7 + x.id → w'.heap[b]? = w.heap[b]?)
    (ge : Nat) (hge : ve.ownBlock = some ge) (hge1 : ρ ge = 4 ∨ w.heap.size ≤ ge) (hge2 : ge < w'.heap.size) :
    ∃ ρ', Rep ρ' w' p { N with fl := N.fl.set i x', evs := N.evs ++ [ev], ve := ve } ∧ Step ρ ρ' w w' := by
  have hxm := List.mem_of_getElem? hx
  have stay : ∀ b, ρ b ≠ 0 → ρ b ≠ 1 → ρ b ≠ 2 → ρ b ≠ 4 → ρ b ≠ 7 + x.id → w'.heap[b]? = w.heap[b]? := fun b h0 h1 h2 h4 h7 => hblk b (R.lt h0) (fun e => h1 (by rw [e, R.rp])) h2 h4 h7
  refine ⟨fun b => if b < w.heap.size then ρ b else if b = ge then 4 else 0, ?_, ⟨os, tape, out, hs, fun b hb h0 => ?_, fun b hb h0 => (if_pos hb).trans h0⟩⟩
  · have old : ∀ b, ρ b ≠ 0 → (if b < w.heap.size then ρ b else if b = ge then 4 else 0) = ρ b := fun b h0 => if_pos (R.lt h0)
    constructor
    · exact hp
    · simpa using hf
    · exact row_stays R.h fun b hb => stay b (by rw [R.rh b hb]; decide) (by rw [R.rh b hb]; decide) (by rw [R.rh b hb]; decide) (by rw [R.rh b hb]; decide) (by rw [R.rh b hb]; omega)
    · simpa using he
    · exact mapOk_stays R.m fun b hb => stay b (by rw [R.rm b hb]; decide) (by rw [R.rm b hb]; decide) (by rw [R.rm b hb]; decide) (by rw [R.rm b hb]; decide) (by rw [R.rm b hb]; omega)
    · intro y hy
      rcases set_mem R.ids hx hy with rfl | ⟨hy', hne⟩
      · exact hb
      · exact row_stays (R.fb y hy') fun b hb => stay b (by rw [R.rfb y hy' b hb]; omega) (by rw [R.rfb y hy' b hb]; omega) (by rw [R.rfb y hy' b hb]; omega) (by rw [R.rfb y hy' b hb]; omega) (by rw [R.rfb y hy' b hb]; omega)
    · exact fun y hy => row_stays (R.hb y hy) fun b hb => stay b (by rw [R.rhb y hy b hb]; decide) (by rw [R.rhb y hy b hb]; decide) (by rw [R.rhb y hy b hb]; decide) (by rw [R.rhb y hy b hb]; decide) (by rw [R.rhb y hy b hb]; omega)
    · exact (old p (by rw [R.rp]; decide)).trans R.rp
    · exact fun b hb => (old b (by rw [R.rf b hb]; decide)).trans (R.rf b hb)
    · exact fun b hb => (old b (by rw [R.rh b hb]; decide)).trans (R.rh b hb)
    · intro b hb'
      have hb'' : ve.ownBlock = some b := hb'
      rw [hge] at hb''
      cases hb''
      rcases hge1 with h | h
      · exact (old ge (by rw [h]; decide)).trans h
      · show (if ge < w.heap.size then _ else _) = 4
        rw [if_neg (by omega), if_pos rfl]
    · exact fun b hb => (old b (by rw [R.rm b hb]; decide)).trans (R.rm b hb)
    · intro y hy b hbb
      rcases set_mem R.ids hx hy with rfl | ⟨hy', hne⟩
      · have := R.rfb x hxm b (hbv ▸ hbb)
        rw [hid]
        exact (old b (by omega)).trans this
      · have := R.rfb y hy' b hbb
        exact (old b (by omega)).trans this
    · exact fun y hy b hb => (old b (by rw [R.rhb y hy b hb]; decide)).trans (R.rhb y hy b hb)
    · intro b hb'
      show (if b < w.heap.size then _ else _) = 0
      rw [if_neg (by omega), if_neg (by omega)]
    · exact set_ids R.ids hx hid
    · intro y hy
      rcases set_mem R.ids hx hy with rfl | ⟨hy', hne⟩
      · rw [hid]; exact R.idn x hxm
      · exact R.idn y hy'
    · intro y hy
      rcases set_mem R.ids hx hy with rfl | ⟨hy', hne⟩
      · exact hv
      · exact R.fok y hy'
    · exact R.hok
  · exact hblk b hb (fun e => by rw [e, R.rp] at h0; cases h0) (by omega) (by omega) (by omega)

/-- A cell of a row is set. -/
theorem row_set {w : World} {base : Nat} {e : TypeId} {size g n cap : Nat} {xs : List Value} (h : w.ownsRow base e size (.slice (some ⟨g, 0, none⟩) n cap) n xs) (j : Nat) (v : Value) (hj : j < n * size) :
    (w.setCell ⟨g, j, none⟩ v).ownsRow base e size (.slice (some ⟨g, 0, none⟩) n cap) n (xs.set j v) := by
  refine ⟨by simpa using h.1, ?_⟩
  rcases h.2 with ⟨h, _⟩ | ⟨g', cap', cur, hv, h1, h2, h3, h4, h5, h6⟩
  · cases h
  · cases hv
    refine .inr ⟨g, cap, cur.setIfInBounds j v, rfl, h1, set_at h2, h3, h4, by simpa using h5, ?_⟩
    rw [← h6, Array.toList_setIfInBounds, List.take_set]
theorem flat_set (f : Fl → List Value) (hf : ∀ x, (f x).length = 5) : ∀ (fl : List Fl) (i : Nat) (x' : Fl) (j : Nat) (v : Value) (x : Fl), fl[i]? = some x → j < 5 → f x' = (f x).set j v → (fl.set i x').flatMap f = (fl.flatMap f).set (i * 5 + j) v
  | [], i, x', j, v, x, h, _, _ => by simp at h
  | y :: l, 0, x', j, v, x, h, hj, e => by
    simp at h
    subst h
    simp only [List.set_cons_zero, List.flatMap_cons, Nat.zero_mul, Nat.zero_add]
    rw [List.set_append_left _ _ (by rw [hf]; exact hj), e]
  | y :: l, i + 1, x', j, v, x, h, hj, e => by
    simp at h
    simp only [List.set_cons_succ, List.flatMap_cons]
    rw [flat_set f hf l i x' j v x h hj e, List.set_append_right _ _ (by rw [hf]; omega), hf, show (i + 1) * 5 + j - 5 = i * 5 + j by omega]

/-- The worlds behind the noting of an event. -/
structure Note (W : World) (p : Nat) (vf vh ve vm : Value) (next : Int) (evs : List Ev) (ev : Ev) (ge gc : Nat) (W4 W5 : World) : Prop where
  run : (Builtin.append_ #[26, 26] 26 #[ve, .slice (some ⟨W.heap.size, 0, none⟩) 1 1]).run Try.prog (W.alloc (.cells #[.int .i64 ev.kind, .int .i64 ev.id, .int .i64 ev.frm] 59)) = .ok (.slice (some ⟨ge, 0, none⟩) (evs.length + 1) gc) W4
  w5 : W5 = W4.setCell ⟨p, 2, none⟩ (.slice (some ⟨ge, 0, none⟩) (evs.length + 1) gc)
  c4 : W4.cell? ⟨p, 2, none⟩ = some ve
  k4 : W4.frozen? ⟨p, 2, none⟩ = false
  n5 : W5.heap[p]? = some (.cells #[vf, vh, .slice (some ⟨ge, 0, none⟩) (evs.length + 1) gc, vm, .int .i64 next] 29 (0, 0))
  e5 : W5.ownsRow 0 59 3 (.slice (some ⟨ge, 0, none⟩) (evs.length + 1) gc) (evs.length + 1) (evs.flatMap Ev.cells ++ ev.cells)
  back : ∀ b, b < W.heap.size → b ≠ p → ve.ownBlock ≠ some b → W5.heap[b]? = W.heap[b]?
  os : W5.os = W.os
  tape : W5.tape = W.tape
  output : W5.output = W.output
  size : W.heap.size ≤ W5.heap.size
  ge1 : ve.ownBlock = some ge ∨ W.heap.size ≤ ge
  ge2 : ge < W5.heap.size
theorem note_worlds (W : World) (p : Nat) (vf vh ve vm : Value) (next : Int) (evs : List Ev) (ev : Ev) (n : W.heap[p]? = some (.cells #[vf, vh, ve, vm, .int .i64 next] 29 (0, 0)))
    (e : W.ownsRow 0 59 3 ve evs.length (evs.flatMap Ev.cells)) (hep : ve.ownBlock ≠ some p) (hl : evs.length ≤ 1000000) : ∃ ge gc W4 W5, Note W p vf vh ve vm next evs ev ge gc W4 W5 := by
  have hpl : p < W.heap.size := (Array.getElem?_eq_some_iff.1 n).1
  obtain ⟨ge, gc, W4, run4, f4, gr4, l4, s4⟩ := append_one W 26 59 _ 3 24 u26 info59 rfl (by decide) (by decide) ve evs.length _ e ev.cells rfl (ev_one _) (by omega)
  have z4 := gr4.size
  have z3 : (W.alloc (.cells ev.cells.toArray 59)).heap.size = W.heap.size + 1 := by simp
  have n4 := (gr4.block p (by omega) (fun e => hep e.symm)).trans ((old_at hpl).trans n)
  have gep : ge ≠ p := by
    rcases l4 with h | h
    · exact fun e => hep (e ▸ h)
    · omega
  have s5 : ∀ b, b ≠ p → (W4.setCell ⟨p, 2, none⟩ (.slice (some ⟨ge, 0, none⟩) (evs.length + 1) gc)).heap[b]? = W4.heap[b]? := fun b hb => set_other hb
  refine ⟨ge, gc, W4, _, run4, rfl, by rw [cell_of_row _ _ _ _ _ _ n4]; rfl, frozen_blk n4 2, by rw [set_at n4]; rfl, row_stays f4 fun b hb => s5 b (by obtain rfl : b = ge := (by simpa [Value.ownBlock] using hb.symm); exact gep),
    fun b hb h1 h2 => (s5 b h1).trans ((gr4.block b (by omega) (fun e => h2 e.symm)).trans (old_at hb)), gr4.os, gr4.tape, gr4.output, by rw [set_size]; omega, ?_, by rw [set_size]; exact s4⟩
  rcases l4 with h | h
  · exact .inl h
  · right; omega

/-- A packet in flight has been changed. -/
def Changed (ρ : Nat → Nat) (w w' : World) (p : Nat) (N : Net) (i : Nat) (x' : Fl) (kind id : Int) : Prop :=
  ∃ ρ' ve', Rep ρ' w' p { N with fl := N.fl.set i x', evs := N.evs ++ [⟨kind, id, -1⟩], ve := ve' } ∧ Step ρ ρ' w w'

set_option maxHeartbeats 1000000 in
set_option maxRecDepth 100000 in
theorem redirect_ok {ρ : Nat → Nat} {w : World} {p : Nat} {N : Net} (R : Rep ρ w p N) (S : Small N) {id : Int} {i : Nat} {x : Fl} (h : Hits N.fl id i x) (to : ByteArray) (ht : hostB to = true) :
    Calls Try.prog 20 #[.pointer (some ⟨p, 0, none⟩), .int .i64 id, .string to] w fun e w' => e = .returned (.int .i64 0) ∧ Changed ρ w w' p N i { x with p := { x.p with to := to } } 6 id := by
  have HC := Lib.hid (index_hit R S h)
  have HR := Lib.hid R
  have HX := Lib.hid h.1
  have HS := Lib.hid S
  have HT := Lib.hid ht
  have hil : i < N.fl.length := (List.getElem?_eq_some_iff.1 h.1).1
  obtain ⟨g, cap, cur, hvf, _⟩ := row_addr R.f (by omega)
  obtain ⟨n, hn⟩ : ∃ n, N.fl.length = n := ⟨_, rfl⟩
  rw [hn] at hvf hil
  clear R S h
  go_enter Try.func20, Try.ntmps20
  go_wp2_with fail
  refine (host_any _ _).mono ?_
  rintro e w0 ⟨rfl, rfl⟩
  rw [HT.out]
  go_wp2_with fail
  refine HC.out.mono ?_
  rintro e w1 ⟨rfl, hb⟩
  have R1 := HR.out.below hb
  obtain ⟨c0, c1, c2, c3, c4, fr⟩ := net_cells R1
  rw [hvf] at c0
  have rf1 := R1.f
  rw [hvf, hn] at rf1
  have m1 := fl_at rf1 HX.out hn 1 (by decide)
  simp [Fl.cells] at m1
  have k1 := rf1.frozenAt (i * 5 + 1)
  clear c1 c3 c4 fr
  have hrg : ρ g = 2 := R1.rf g (by rw [hvf]; rfl)
  have hgp : g ≠ p := fun e => by rw [e, R1.rp] at hrg; cases hrg
  -- the worlds
  obtain ⟨W2, hW2⟩ : ∃ W2, W2 = w1.setCell ⟨g, i * 5 + 1, none⟩ (.string to) := ⟨_, rfl⟩
  have s2 : ∀ b, b ≠ g → W2.heap[b]? = w1.heap[b]? := fun b hb => by rw [hW2]; exact set_other hb
  have z2 : W2.heap.size = w1.heap.size := by rw [hW2]; simp
  have n2 : W2.heap[p]? = _ := (s2 p (Ne.symm hgp)).trans R1.net
  have f2 := row_set rf1 (i * 5 + 1) (.string to) (by omega)
  rw [← flat_set Fl.cells (fun _ => rfl) N.fl i { x with p := { x.p with to := to } } 1 (.string to) x HX.out (by decide) rfl, ← hW2] at f2
  have hel : ∀ b, N.ve.ownBlock = some b → b < w1.heap.size := fun b hb => R1.lt (by rw [R1.re b hb]; decide)
  have hep : ∀ b, N.ve.ownBlock = some b → b ≠ p := fun b hb e => by have := R1.re b hb; rw [e, R1.rp] at this; cases this
  have heg : ∀ b, N.ve.ownBlock = some b → b ≠ g := fun b hb e => by have := R1.re b hb; rw [e, hrg] at this; cases this
  have e2 : W2.ownsRow 0 59 3 N.ve N.evs.length (N.evs.flatMap Ev.cells) := row_stays R1.e fun b hb => s2 b (heg b hb)
  obtain ⟨ge, gc, W4, W5, T⟩ := note_worlds W2 p N.vf N.vh N.ve N.vm N.next N.evs ⟨6, id, -1⟩ n2 e2 (fun e => hep p e rfl) HS.out.evs
  have hv1 := R1.fok x (List.mem_of_getElem? HX.out)
  have hv2 : validB { x.p with to := to } = true := by
    simp only [validB, Bool.and_eq_true] at hv1 ⊢
    exact ⟨⟨hv1.1.1, HT.out⟩, hv1.2⟩
  have hxb : ∀ b, x.p.bv.ownBlock = some b → ρ b = 7 + x.id := R1.rfb x (List.mem_of_getElem? HX.out)
  have hxl : ∀ b, x.p.bv.ownBlock = some b → b < w1.heap.size := fun b hb => R1.lt (by rw [hxb b hb]; omega)
  have b5 : ownB W5 x.p.bv x.p.bs := row_stays (R1.fb x (List.mem_of_getElem? HX.out)) fun b hb => by
    have h1 := hxb b hb
    rw [T.back b (by rw [z2]; exact hxl b hb) (fun e => by rw [e, R1.rp] at h1; omega) (fun e => by have := R1.re b e; omega), s2 b (fun e => by rw [e, hrg] at h1; omega)]
  have f5 : W5.ownsRow 0 81 5 N.vf N.fl.length ((N.fl.set i { x with p := { x.p with to := to } }).flatMap Fl.cells) := by
    rw [hvf, hn]
    refine row_stays f2 fun b hb => ?_
    obtain rfl : b = g := by simpa [Value.ownBlock] using hb.symm
    exact T.back b (by rw [z2]; exact R1.lt (by rw [hrg]; decide)) hgp (fun e => heg b e rfl)
  have idx := HC
  obtain ⟨ρ', R', S'⟩ := R1.changed (w' := W5) (T.os.trans (by rw [hW2]; rfl)) (T.tape.trans (by rw [hW2]; rfl)) (T.output.trans (by rw [hW2]; rfl)) (by have := T.size; omega) i x { x with p := { x.p with to := to } } HX.out rfl rfl hv2 ⟨6, id, -1⟩ _ T.n5 f5 b5 T.e5
    (fun b hb h1 h2 h4 h7 => (T.back b (by omega) h1 (fun e => h4 (R1.re b e))).trans (s2 b (fun e => h2 (by rw [e]; exact hrg)))) ge rfl (by
      rcases T.ge1 with h | h
      · exact .inl (R1.re _ h)
      · right; omega) T.ge2
  have END : Hid (Changed ρ w W5 p N i { x with p := { x.p with to := to } } 6 id) := Lib.hid ⟨ρ', _, R', (Below.step hb).trans S'⟩
  have HT5 := Lib.hid T.w5
  have HR4 := Lib.hid T.run
  have d2 : W2.cell? ⟨p, 2, none⟩ = some N.ve := by rw [cell_of_row _ _ _ _ _ _ n2]; rfl
  have d4 := T.c4
  have k4 := T.k4
  have HW2 := Lib.hid hW2
  clear R' S' f5 b5 hxl hxb hv1 hv2 T e2 heg hep hel f2 n2 z2 s2 hW2 R1 rf1 hb idx
  have run := HR4.out
  rw [HW2.out, set_size] at run
  rw [HW2.out] at d2
  have HRN := Lib.hid run
  clear run
  go_wp2_with (at_builtin; refine wpList_append_run rfl (.tmp 37) (.tmp 40) 26 rfl _ _ rfl rfl HRN.out ?_)
  go_ret
  exact ⟨rfl, HT5.out ▸ END.out⟩
end Go.Proofs.Ytiindnmelegkgaa
end
/- Alter. -/
section
namespace Go.Proofs.Ytiindnmelegkgaa
open Go.RowKit
set_option linter.unusedSimpArgs false
set_option linter.unusedVariables false

theorem flat_same (f : Fl → List Value) : ∀ (fl : List Fl) (i : Nat) (x x' : Fl), fl[i]? = some x → f x' = f x → (fl.set i x').flatMap f = fl.flatMap f
  | [], i, x, x', h, _ => by simp at h
  | y :: l, 0, x, x', h, e => by
    simp at h
    subst h
    simp [e]
  | y :: l, i + 1, x, x', h, e => by
    simp at h
    simp [flat_same f l i x x' h e]

theorem alter_zero (p : Nat) (id off : Int) (w : World) : Calls Try.prog 19 #[.pointer (some ⟨p, 0, none⟩), .int .i64 id, .int .i64 off, .int .u8 0] w fun e w' => e = .returned (.int .i64 2) ∧ w = w' := by
  go_enter Try.func19, Try.ntmps19
  go_wp2
  go_ret
  exact ⟨rfl, rfl⟩

theorem alter_range {ρ : Nat → Nat} {w : World} {p : Nat} {N : Net} (R : Rep ρ w p N) (S : Small N) {id : Int} {i : Nat} {x : Fl} (h : Hits N.fl id i x) (off m : Int) (hm : (m == 0) = false) (ho : off < 0 ∨ (x.p.bs.length : Int) ≤ off) :
    Calls Try.prog 19 #[.pointer (some ⟨p, 0, none⟩), .int .i64 id, .int .i64 off, .int .u8 m] w fun e w' => e = .returned (.int .i64 3) ∧ Below w.heap.size w w' := by
  have HC := Lib.hid (index_hit R S h)
  have HR := Lib.hid R
  have HX := Lib.hid h.1
  have hil : i < N.fl.length := (List.getElem?_eq_some_iff.1 h.1).1
  obtain ⟨g, cap, cur, hvf, _⟩ := row_addr R.f (by omega)
  obtain ⟨n, hn⟩ : ∃ n, N.fl.length = n := ⟨_, rfl⟩
  obtain ⟨ba, bc, hbv⟩ := ownB_slice (R.fb x (List.mem_of_getElem? h.1))
  rw [hn] at hvf hil
  obtain ⟨l, hl⟩ : ∃ l, x.p.bs.length = l := ⟨_, rfl⟩
  rw [hl] at hbv ho
  clear R S h
  by_cases h0 : off < 0
  · go_enter Try.func19, Try.ntmps19
    go_wp2_with fail
    refine HC.out.mono ?_
    rintro e w1 ⟨rfl, hb⟩
    go_wp2
    go_ret
    exact ⟨rfl, hb⟩
  · have h1 : (l : Int) ≤ off := by omega
    go_enter Try.func19, Try.ntmps19
    go_wp2_with fail
    refine HC.out.mono ?_
    rintro e w1 ⟨rfl, hb⟩
    have R1 := HR.out.below hb
    obtain ⟨c0, c1, c2, c3, c4, fr⟩ := net_cells R1
    rw [hvf] at c0
    have rf1 := R1.f
    rw [hvf, hn] at rf1
    have m2 := fl_at rf1 HX.out hn 2 (by decide)
    simp [Fl.cells, hbv] at m2
    clear c1 c2 c3 c4 fr R1 rf1
    go_wp2
    go_ret
    exact ⟨rfl, hb⟩

set_option maxHeartbeats 1000000 in
set_option maxRecDepth 100000 in
theorem alter_ok {ρ : Nat → Nat} {w : World} {p : Nat} {N : Net} (R : Rep ρ w p N) (S : Small N) {id : Int} {i : Nat} {x : Fl} (h : Hits N.fl id i x) (off : Nat) (m y : Int) (hm : (m == 0) = false) (hy : x.p.bs[off]? = some y) :
    Calls Try.prog 19 #[.pointer (some ⟨p, 0, none⟩), .int .i64 id, .int .i64 off, .int .u8 m] w fun e w' => e = .returned (.int .i64 0) ∧ Changed ρ w w' p N i { x with p := { x.p with bs := x.p.bs.set off (bits .xor .u8 y m) } } 5 id := by
  have HC := Lib.hid (index_hit R S h)
  have HR := Lib.hid R
  have HX := Lib.hid h.1
  have HS := Lib.hid S
  have HY := Lib.hid hy
  have hil : i < N.fl.length := (List.getElem?_eq_some_iff.1 h.1).1
  obtain ⟨g, cap, cur, hvf, _⟩ := row_addr R.f (by omega)
  obtain ⟨n, hn⟩ : ∃ n, N.fl.length = n := ⟨_, rfl⟩
  have hol : off < x.p.bs.length := (List.getElem?_eq_some_iff.1 hy).1
  obtain ⟨gb, bc, bcur, hbv, _⟩ := row_addr (R.fb x (List.mem_of_getElem? h.1)) (by omega)
  obtain ⟨l, hl⟩ : ∃ l, x.p.bs.length = l := ⟨_, rfl⟩
  rw [hl] at hbv hol
  rw [hn] at hvf hil
  clear R S h hy
  go_enter Try.func19, Try.ntmps19
  go_wp2_with fail
  refine HC.out.mono ?_
  rintro e w1 ⟨rfl, hb⟩
  have R1 := HR.out.below hb
  obtain ⟨c0, c1, c2, c3, c4, fr⟩ := net_cells R1
  rw [hvf] at c0
  have rf1 := R1.f
  rw [hvf, hn] at rf1
  have m2 := fl_at rf1 HX.out hn 2 (by decide)
  simp [Fl.cells, hbv] at m2
  have rb1 : w1.ownsRow 0 5 1 (.slice (some ⟨gb, 0, none⟩) l bc) l (x.p.bs.map (Value.int .u8)) := by
    have := R1.fb x (List.mem_of_getElem? HX.out)
    unfold ownB at this
    rw [hbv, hl] at this
    exact this
  have m5 : w1.cell? ⟨gb, off, none⟩ = some (.int .u8 y) := by
    rw [rb1.cellAt off (by omega)]
    simp [HY.out]
  have k5 := rb1.frozenAt off
  clear c1 c3 c4 fr
  have hxm := List.mem_of_getElem? HX.out
  have hrg : ρ gb = 7 + x.id := R1.rfb x hxm gb (by rw [hbv]; rfl)
  have hgp : gb ≠ p := fun e => by rw [e, R1.rp] at hrg; omega
  have hpg : p ≠ gb := Ne.symm hgp
  -- the worlds
  obtain ⟨W2, hW2⟩ : ∃ W2, W2 = w1.setCell ⟨gb, off, none⟩ (.int .u8 (bits .xor .u8 y m)) := ⟨_, rfl⟩
  have s2 : ∀ b, b ≠ gb → W2.heap[b]? = w1.heap[b]? := fun b hb => by rw [hW2]; exact set_other hb
  have z2 : W2.heap.size = w1.heap.size := by rw [hW2]; simp
  have n2 : W2.heap[p]? = _ := (s2 p (Ne.symm hgp)).trans R1.net
  have b2 := row_set rb1 off (.int .u8 (bits .xor .u8 y m)) (by omega)
  rw [← List.map_set, ← hW2] at b2
  have hep : ∀ b, N.ve.ownBlock = some b → b ≠ p := fun b hb e => by have := R1.re b hb; rw [e, R1.rp] at this; cases this
  have heg : ∀ b, N.ve.ownBlock = some b → b ≠ gb := fun b hb e => by have := R1.re b hb; rw [e, hrg] at this; omega
  have e2 : W2.ownsRow 0 59 3 N.ve N.evs.length (N.evs.flatMap Ev.cells) := row_stays R1.e fun b hb => s2 b (heg b hb)
  obtain ⟨ge, gc, W4, W5, T⟩ := note_worlds W2 p N.vf N.vh N.ve N.vm N.next N.evs ⟨5, id, -1⟩ n2 e2 (fun e => hep p e rfl) HS.out.evs
  have hv1 := R1.fok x hxm
  have hv2 : validB { x.p with bs := x.p.bs.set off (bits .xor .u8 y m) } = true := by
    simp only [validB, Bool.and_eq_true] at hv1 ⊢
    exact ⟨hv1.1, by simpa using hv1.2⟩
  have b5 : ownB W5 x.p.bv (x.p.bs.set off (bits .xor .u8 y m)) := by
    unfold ownB
    rw [hbv, List.length_set, hl]
    refine row_stays b2 fun b hb => ?_
    obtain rfl : b = gb := (by simpa [Value.ownBlock] using hb.symm)
    exact T.back b (by rw [z2]; exact R1.lt (by omega)) hgp (fun e => heg b e rfl)
  have hxf : ∀ b, N.vf.ownBlock = some b → b ≠ gb := fun b hb e => by have := R1.rf b hb; rw [e, hrg] at this; omega
  have f5 : W5.ownsRow 0 81 5 N.vf N.fl.length ((N.fl.set i { x with p := { x.p with bs := x.p.bs.set off (bits .xor .u8 y m) } }).flatMap Fl.cells) := by
    rw [flat_same Fl.cells N.fl i x { x with p := { x.p with bs := x.p.bs.set off (bits .xor .u8 y m) } } HX.out rfl]
    refine row_stays R1.f fun b hb => ?_
    have h1 := R1.rf b hb
    exact (T.back b (by rw [z2]; exact R1.lt (by omega)) (fun e => by rw [e, R1.rp] at h1; omega) (fun e => by have := R1.re b e; omega)).trans (s2 b (hxf b hb))
  obtain ⟨ρ', R', S'⟩ := R1.changed (w' := W5) (T.os.trans (by rw [hW2]; rfl)) (T.tape.trans (by rw [hW2]; rfl)) (T.output.trans (by rw [hW2]; rfl)) (by have := T.size; omega) i x { x with p := { x.p with bs := x.p.bs.set off (bits .xor .u8 y m) } } HX.out rfl rfl hv2 ⟨5, id, -1⟩ _ T.n5 f5 b5 T.e5
    (fun b hb h1 h2 h4 h7 => (T.back b (by omega) h1 (fun e => h4 (R1.re b e))).trans (s2 b (fun e => h7 (by rw [e]; exact hrg)))) ge rfl (by
      rcases T.ge1 with h | h
      · exact .inl (R1.re _ h)
      · right; omega) T.ge2
  have END : Hid (Changed ρ w W5 p N i { x with p := { x.p with bs := x.p.bs.set off (bits .xor .u8 y m) } } 5 id) := Lib.hid ⟨ρ', _, R', (Below.step hb).trans S'⟩
  have HT5 := Lib.hid T.w5
  have HR4 := Lib.hid T.run
  have d2 : W2.cell? ⟨p, 2, none⟩ = some N.ve := by rw [cell_of_row _ _ _ _ _ _ n2]; rfl
  have d4 := T.c4
  have k4 := T.k4
  have HW2 := Lib.hid hW2
  clear R' S' f5 b5 hv1 hv2 T e2 heg hep hxf b2 n2 z2 s2 hW2 R1 rf1 hb rb1 hxm hbv
  have run := HR4.out
  rw [HW2.out, set_size] at run
  rw [HW2.out] at d2
  have HRN := Lib.hid run
  clear run
  go_wp2_with (at_builtin; refine wpList_append_run rfl (.tmp 63) (.tmp 66) 26 rfl _ _ rfl rfl HRN.out ?_)
  go_ret
  exact ⟨rfl, HT5.out ▸ END.out⟩
end Go.Proofs.Ytiindnmelegkgaa
end
/- Equal, same, Genuine, ref.Same. -/
section
namespace Go.Proofs.Ytiindnmelegkgaa
open Go.RowKit
set_option linter.unusedSimpArgs false
set_option linter.unusedVariables false

theorem rdB_at {w : World} {v : Value} {bs : List Int} (h : rdB w v bs) (hn : 0 < bs.length) : ∃ b off c, v = .slice (some ⟨b, off, none⟩) bs.length c ∧ b < w.heap.size ∧ ∀ j u, bs[j]? = some u → w.cell? ⟨b, off + j, none⟩ = some (.int .u8 u) := by
  rcases h.2 with ⟨_, h0⟩ | ⟨b, off, c, h1, h2, h3⟩ | ⟨h0, _⟩
  rotate_right
  · rw [h0] at hn; simp at hn
  · rw [h0] at hn; simp at hn
  · exact ⟨b, off, c, h1, h2, fun j u hu => h3 j _ (by simp [hu])⟩

set_option maxHeartbeats 1000000 in
set_option maxRecDepth 100000 in
theorem equal_any (v1 v2 : Value) (xs ys : List Int) (w : World) (h1 : rdB w v1 xs) (h2 : rdB w v2 ys) : Calls Try.prog 60 #[v1, v2] w fun e w' => e = .returned (.bool (decide (xs = ys))) ∧ Below w.heap.size w w' := by
  have hl1 := h1.1
  have hl2 := h2.1
  obtain ⟨n1, e1⟩ : ∃ n, xs.length = n := ⟨_, rfl⟩
  obtain ⟨n2, e2⟩ : ∃ n, ys.length = n := ⟨_, rfl⟩
  by_cases hne : n1 = n2
  · subst hne
    rcases Nat.eq_zero_or_pos n1 with h0 | h0
    · obtain ⟨a1, m1, c1, hv1, hm1⟩ := h1.lt
      obtain ⟨a2, m2, c2, hv2, hm2⟩ := h2.lt
      have hx : xs = [] := List.length_eq_zero_iff.1 (by omega)
      have hy : ys = [] := List.length_eq_zero_iff.1 (by omega)
      subst hx
      subst hy
      simp at hm1 hm2
      subst hm1
      subst hm2
      subst hv1
      subst hv2
      clear h1 h2 hl1 hl2 e1 e2 h0
      go_enter Try.func60, Try.ntmps60
      go_wp2
      go_loopw [13] (fun q wr => q = .int .i64 0 ∧ Below w.heap.size w wr) (fun _ _ => 0)
      case atStart => exact ⟨rfl, Below.refl _ _⟩
      case round =>
        obtain ⟨rfl, hb⟩ := hrel
        go_wp2
        go_ret
        exact ⟨rfl, hb⟩
    · obtain ⟨b1, o1, c1, hv1, hb1, hc1⟩ := rdB_at h1 (by omega)
      obtain ⟨b2, o2, c2, hv2, hb2, hc2⟩ := rdB_at h2 (by omega)
      rw [e1] at hv1 hl1
      rw [e2] at hv2
      subst hv1
      subst hv2
      have H1 := Lib.hid hc1
      have H2 := Lib.hid hc2
      have E1 := Lib.hid e1
      have E2 := Lib.hid e2
      clear h1 h2 hc1 hc2 e1 e2 hl2
      go_enter Try.func60, Try.ntmps60
      go_wp2
      go_loopw [13] (fun q wr => ∃ k : Nat, q = .int .i64 k ∧ k ≤ n1 ∧ (∀ j, j < k → xs[j]? = ys[j]?) ∧ Below w.heap.size w wr) (fun q _ => n1 - (intOf q).toNat)
      case atStart => exact ⟨0, rfl, by omega, fun j h => by omega, Below.refl _ _⟩
      case round =>
        obtain ⟨k, rfl, hk, hI, hb⟩ := hrel
        have HI := Lib.hid hI
        clear hI
        by_cases hkn : k < n1
        · obtain ⟨x, hx⟩ : ∃ x, xs[k]? = some x := ⟨xs[k]'(by rw [E1.out]; exact hkn), List.getElem?_eq_getElem _⟩
          obtain ⟨y, hy⟩ : ∃ y, ys[k]? = some y := ⟨ys[k]'(by rw [E2.out]; exact hkn), List.getElem?_eq_getElem _⟩
          have m1 : wr.cell? ⟨b1, o1 + k, none⟩ = some (.int .u8 x) := (hb.cell (p := ⟨b1, o1 + k, none⟩) hb1).trans (H1.out k x hx)
          have m2 : wr.cell? ⟨b2, o2 + k, none⟩ = some (.int .u8 y) := (hb.cell (p := ⟨b2, o2 + k, none⟩) hb2).trans (H2.out k y hy)
          have HX := Lib.hid hx
          have HY := Lib.hid hy
          clear hx hy
          by_cases hxy : x = y
          · subst hxy
            go_wp2
            refine wp_region_still (by kernel_rfl) (by kernel_rfl) ?_
            iterate 9 (refine still_step rfl ?_; apply Exists.intro; refine ⟨?_, ?_⟩; (focus (unfold calmAt calmUpon; go_simp; rfl)); (simp only [Act.put, List.setIfInBounds_toArray, List.set_cons_succ, List.set_cons_zero]))
            refine calm_nil ?_
            go_wp2
            go_roundw
            case rel => exact ⟨k + 1, by simp, by omega, fun j hj => by
              rcases Nat.lt_or_ge j k with h | h
              · exact HI.out j h
              · obtain rfl : j = k := by omega
                rw [HX.out, HY.out], hb.drew⟩
            case measure => simp [intOf]; omega
          · have hd : xs ≠ ys := fun e => by
              have := HX.out
              rw [e, HY.out] at this
              exact hxy (Option.some.inj this).symm
            have hxb : (x == y) = false := by simpa using hxy
            go_wp2
            refine wp_region_still (by kernel_rfl) (by kernel_rfl) ?_
            iterate 9 (refine still_step rfl ?_; apply Exists.intro; refine ⟨?_, ?_⟩; (focus (unfold calmAt calmUpon; go_simp; rfl)); (simp only [Act.put, List.setIfInBounds_toArray, List.set_cons_succ, List.set_cons_zero]))
            refine calm_nil ?_
            go_wp2
            go_ret
            exact ⟨by simp [hd], hb.drew⟩
        · have hkn' : k = n1 := by omega
          subst hkn'
          have hd : xs = ys := by
            apply List.ext_getElem?
            intro j
            rcases Nat.lt_or_ge j k with h | h
            · exact HI.out j h
            · rw [List.getElem?_eq_none (by rw [E1.out]; exact h), List.getElem?_eq_none (by rw [E2.out]; exact h)]
          go_wp2
          go_ret
          exact ⟨by simp [hd], hb⟩
  · obtain ⟨a1, m1, c1, hv1, hm1⟩ := h1.lt
    obtain ⟨a2, m2, c2, hv2, hm2⟩ := h2.lt
    have hd : xs ≠ ys := fun e => hne (by rw [← e1, ← e2, e])
    rw [e1] at hm1
    rw [e2] at hm2
    subst hm1
    subst hm2
    subst hv1
    subst hv2
    have hd' : decide (xs = ys) = false := by simpa using hd
    rw [hd']
    clear h1 h2 hl1 hl2 e1 e2 hd hd'
    go_enter Try.func60, Try.ntmps60
    go_wp2
    go_ret
    exact ⟨rfl, Below.refl _ _⟩
end Go.Proofs.Ytiindnmelegkgaa
end
/- same, Genuine. -/
section
namespace Go.Proofs.Ytiindnmelegkgaa
open Go.RowKit
set_option linter.unusedSimpArgs false
set_option linter.unusedVariables false

/-- Two packets are equal. -/
def sameB (a b : Pk) : Bool := (a.frm.toList == b.frm.toList) && (a.to.toList == b.to.toList) && decide (a.bs = b.bs)

set_option maxRecDepth 100000 in
theorem same_any (a b : Pk) (w : World) (ha : rdB w a.bv a.bs) (hb : rdB w b.bv b.bs) : Calls Try.prog 39 #[a.val, b.val] w fun e w' => e = .returned (.bool (sameB a b)) ∧ Below w.heap.size w w' := by
  obtain ⟨W, hW⟩ : ∃ W, W = (w.alloc (.cells #[.string a.frm, .string a.to, a.bv] 35)).alloc (.cells #[.string b.frm, .string b.to, b.bv] 35) := ⟨_, rfl⟩
  have b0 : Below w.heap.size w W := by rw [hW]; exact ((Below.refl _ _).alloc (Nat.le_refl _) _).alloc (by simp) _
  have hz : w.heap.size ≤ W.heap.size := b0.size
  have HC := Lib.hid (equal_any a.bv b.bv a.bs b.bs W (ha.below b0) (hb.below b0))
  obtain ⟨a1, n1, c1, hv1, -⟩ := ha.lt
  obtain ⟨a2, n2, c2, hv2, -⟩ := hb.lt
  have HB := Lib.hid b0
  have HW := Lib.hid hW
  clear ha hb b0 hW
  obtain ⟨af, at_, av, abs⟩ := a
  obtain ⟨bf, bt, bv, bbs⟩ := b
  dsimp only at *
  subst hv1
  subst hv2
  unfold Pk.val sameB
  dsimp only
  cases h1 : (af.toList == bf.toList)
  · go_enter Try.func39, Try.ntmps39
    go_wp2
    go_ret
    refine ⟨by simp, ?_⟩
    rw [← HW.out]
    exact HB.out
  · cases h2 : (at_.toList == bt.toList)
    · go_enter Try.func39, Try.ntmps39
      go_wp2
      go_ret
      refine ⟨by simp, ?_⟩
      rw [← HW.out]
      exact HB.out
    · go_enter Try.func39, Try.ntmps39
      go_wp2_with fail
      rw [← HW.out]
      refine HC.out.mono ?_
      rintro e w1 ⟨rfl, hb⟩
      go_wp2
      go_ret
      exact ⟨by simp, HB.out.trans (hb.mono hz)⟩

/-- One call that leaves all that was. -/
def callC (W : World) (k : Nat) (w' : World) : Prop := if k = 0 then w' = W.drew else Below W.heap.size W w'
theorem callC_0 {W : World} : callC W 0 W.drew := by simp [callC]
theorem callC_lt1 {W : World} {k : Nat} {w : World} (h : k < 1) (hw : callC W k w) : w = W.drew := by
  obtain rfl : k = 0 := by omega
  simpa [callC] using hw
theorem callC_1 {W w' : World} (h : Below W.heap.size W w') : callC W 1 w' := by simpa [callC] using h
theorem callC_1' {W w' : World} (h : callC W 1 w') : Below W.heap.size W w' := by simpa [callC] using h

theorem rd_len {p : Pk} (hv : validB p = true) : p.bs.length ≤ 1099511627776 := by
  simp only [validB, Bool.and_eq_true, decide_eq_true_eq] at hv; omega

set_option maxHeartbeats 1000000 in
set_option maxRecDepth 100000 in
/-- A packet in flight with a source. -/
theorem genuine_src {ρ : Nat → Nat} {w : World} {p : Nat} {N : Net} (R : Rep ρ w p N) (S : Small N) {id : Int} {i : Nat} {x : Fl} (h : Hits N.fl id i x) (k : Nat) (hk : x.src = k) (q : Pk) (hq : N.hist[k]? = some q) :
    Calls Try.prog 16 #[.pointer (some ⟨p, 0, none⟩), .int .i64 id] w fun e w' => e = .returned (.tuple #[.bool (sameB x.p q), .int .i64 0]) ∧ Below w.heap.size w w' := by
  have HC := Lib.hid (index_hit R S h)
  have HR := Lib.hid R
  have HX := Lib.hid h.1
  have HQ := Lib.hid hq
  have hil : i < N.fl.length := (List.getElem?_eq_some_iff.1 h.1).1
  have hkl : k < N.hist.length := (List.getElem?_eq_some_iff.1 hq).1
  obtain ⟨g, cap, cur, hvf, -⟩ := row_addr R.f (by omega)
  obtain ⟨gh, hcap, hcur, hvh, -⟩ := row_addr R.h (by omega)
  obtain ⟨n, hn⟩ : ∃ n, N.fl.length = n := ⟨_, rfl⟩
  obtain ⟨nh, hnh⟩ : ∃ n, N.hist.length = n := ⟨_, rfl⟩
  obtain ⟨ba, bc, hbv⟩ := ownB_slice (R.fb x (List.mem_of_getElem? h.1))
  obtain ⟨l, hl⟩ : ∃ l, x.p.bs.length = l := ⟨_, rfl⟩
  rw [hl] at hbv
  rw [hn] at hvf hil
  rw [hnh] at hvh hkl
  clear R S h hq
  go_enter Try.func16, Try.ntmps16
  go_wp2_with fail
  refine HC.out.mono ?_
  rintro e w1 ⟨rfl, hb⟩
  have R1 := HR.out.below hb
  obtain ⟨c0, c1, c2, c3, c4, fr⟩ := net_cells R1
  rw [hvf] at c0
  rw [hvh] at c1
  have rf1 := R1.f
  rw [hvf, hn] at rf1
  have rh1 := R1.h
  rw [hvh, hnh] at rh1
  have m0 := fl_at rf1 HX.out hn 0 (by decide)
  have m1 := fl_at rf1 HX.out hn 1 (by decide)
  have m2 := fl_at rf1 HX.out hn 2 (by decide)
  have m3 := fl_at rf1 HX.out hn 3 (by decide)
  have m4 := fl_at rf1 HX.out hn 4 (by decide)
  simp [Fl.cells, hk, hbv] at m0 m1 m2 m3 m4
  clear c2 c3 c4 fr
  go_wp2_with fail
  have hg0 := (R1.lt (b := g) (by rw [R1.rf g (by rw [hvf]; rfl)]; decide))
  have hp0 := (R1.lt (b := p) (by rw [R1.rp]; decide))
  have hh0 := (R1.lt (b := gh) (by rw [R1.rh gh (by rw [hvh]; rfl)]; decide))
  have hxm := List.mem_of_getElem? HX.out
  have hqm := List.mem_of_getElem? HQ.out
  obtain ⟨W2, hW2⟩ : ∃ W2, W2 = w1.alloc (.cells #[.string x.p.frm, .string x.p.to, .slice ba l bc, .int .i64 x.id, .int .i64 k] 81) := ⟨_, rfl⟩
  have b2 : Below w1.heap.size w1 W2 := by rw [hW2]; exact (Below.refl _ _).alloc (Nat.le_refl _) _
  have x2 : W2.heap[w1.heap.size]? = some (.cells #[.string x.p.frm, .string x.p.to, .slice ba l bc, .int .i64 x.id, .int .i64 k] 81 (0, 0)) := by rw [hW2]; exact new_at rfl
  have R2 := R1.below b2
  have rq : rdB W2.drew x.p.bv x.p.bs := ownB_rd (R2.fb x hxm) (rd_len (R2.fok x hxm))
  have rh : rdB W2.drew q.bv q.bs := ownB_rd (R2.hb q hqm) (rd_len (R2.hok q hqm))
  have HS := Lib.hid (same_any x.p q W2.drew rq rh)
  obtain ⟨d0, d1, d2, d3, d4, fr⟩ := net_cells R2
  rw [hvh] at d1
  have rh2 := R2.h
  rw [hvh, hnh] at rh2
  have j0 := hist_at rh2 HQ.out hnh 0 (by decide)
  have j1 := hist_at rh2 HQ.out hnh 1 (by decide)
  have j2 := hist_at rh2 HQ.out hnh 2 (by decide)
  simp [Pk.cells] at j0 j1 j2
  have y0 := cell_of_row W2 _ 0 _ _ _ x2
  have y1 := cell_of_row W2 _ 1 _ _ _ x2
  have y2 := cell_of_row W2 _ 2 _ _ _ x2
  have y4 := cell_of_row W2 _ 4 _ _ _ x2
  simp at y0 y1 y2 y4
  have HB := Lib.hid (b2.mono hb.size |> hb.trans)
  have hs2 : w.heap.size ≤ W2.heap.size := by have := hb.size; have := b2.size; omega
  rw [← hW2]
  clear rq rh d0 d2 d3 d4 fr rh2 R2 R1 b2 x2 hW2 m0 m1 m2 m3 m4 rf1 rh1 c0 c1 hb hg0 hp0 hh0
  refine wp_region_chain (callC W2) [14] [(1, 1), (5, 1), (9, 1), (11, 1), (13, 1)] (by kernel_rfl) (by kernel_rfl) (by kernel_rfl) (by kernel_rfl) callC_0 ?_
  (refine chain_pure rfl rfl ?_; apply Exists.intro; refine ⟨fun ww => ?_, ?_⟩; (focus (unfold calmAt calmUpon; go_simp; rfl)); (simp only [Act.put, List.setIfInBounds_toArray, List.set_cons_succ, List.set_cons_zero]))
  (refine chain_load rfl rfl 1 (by simp) ?_; apply Exists.intro; refine ⟨fun k ww hk hww => ?_, ?_⟩; (focus (have e := callC_lt1 hk hww; subst e; unfold calmAt calmUpon; go_simp; rfl)); (simp only [Act.put, List.setIfInBounds_toArray, List.set_cons_succ, List.set_cons_zero]))
  (refine chain_pure rfl rfl ?_; apply Exists.intro; refine ⟨fun ww => ?_, ?_⟩; (focus (unfold calmAt calmUpon; go_simp; rfl)); (simp only [Act.put, List.setIfInBounds_toArray, List.set_cons_succ, List.set_cons_zero]))
  (refine chain_pure rfl rfl ?_; apply Exists.intro; refine ⟨fun ww => ?_, ?_⟩; (focus (unfold calmAt calmUpon; go_simp; rfl)); (simp only [Act.put, List.setIfInBounds_toArray, List.set_cons_succ, List.set_cons_zero]))
  (refine chain_pure rfl rfl ?_; apply Exists.intro; refine ⟨fun ww => ?_, ?_⟩; (focus (unfold calmAt calmUpon; go_simp; rfl)); (simp only [Act.put, List.setIfInBounds_toArray, List.set_cons_succ, List.set_cons_zero]))
  (refine chain_load rfl rfl 1 (by simp) ?_; apply Exists.intro; refine ⟨fun k ww hk hww => ?_, ?_⟩; (focus (have e := callC_lt1 hk hww; subst e; unfold calmAt calmUpon; go_simp; rfl)); (simp only [Act.put, List.setIfInBounds_toArray, List.set_cons_succ, List.set_cons_zero]))
  iterate 3 (refine chain_pure rfl rfl ?_; apply Exists.intro; refine ⟨fun ww => ?_, ?_⟩; (focus (unfold calmAt calmUpon; go_simp; rfl)); (simp only [Act.put, List.setIfInBounds_toArray, List.set_cons_succ, List.set_cons_zero]))
  (refine chain_load rfl rfl 1 (by simp) ?_; apply Exists.intro; refine ⟨fun k ww hk hww => ?_, ?_⟩; (focus (have e := callC_lt1 hk hww; subst e; unfold calmAt calmUpon; go_simp; rfl)); (simp only [Act.put, List.setIfInBounds_toArray, List.set_cons_succ, List.set_cons_zero]))
  (refine chain_pure rfl rfl ?_; apply Exists.intro; refine ⟨fun ww => ?_, ?_⟩; (focus (unfold calmAt calmUpon; go_simp; rfl)); (simp only [Act.put, List.setIfInBounds_toArray, List.set_cons_succ, List.set_cons_zero]))
  (refine chain_load rfl rfl 1 (by simp) ?_; apply Exists.intro; refine ⟨fun k ww hk hww => ?_, ?_⟩; (focus (have e := callC_lt1 hk hww; subst e; unfold calmAt calmUpon; go_simp; rfl)); (simp only [Act.put, List.setIfInBounds_toArray, List.set_cons_succ, List.set_cons_zero]))
  (refine chain_pure rfl rfl ?_; apply Exists.intro; refine ⟨fun ww => ?_, ?_⟩; (focus (unfold calmAt calmUpon; go_simp; rfl)); (simp only [Act.put, List.setIfInBounds_toArray, List.set_cons_succ, List.set_cons_zero]))
  (refine chain_load rfl rfl 1 (by simp) ?_; apply Exists.intro; refine ⟨fun k ww hk hww => ?_, ?_⟩; (focus (have e := callC_lt1 hk hww; subst e; unfold calmAt calmUpon; go_simp; rfl)); (simp only [Act.put, List.setIfInBounds_toArray, List.set_cons_succ, List.set_cons_zero]))
  refine chain_write (by kernel_rfl) rfl 0 rfl (by rfl) ?_
  apply Exists.intro
  refine ⟨fun ww hww => ?_, ?_⟩
  focus
    have e := callC_lt1 (Nat.zero_lt_one) hww
    subst e
    unfold calmAt calmUpon
    go_simp
    have hs := HS.out
    unfold Pk.val at hs
    rw [hbv] at hs
    refine hs.mono ?_
    rintro e w1 ⟨rfl, hb1⟩
    exact ⟨rfl, callC_1 ⟨hb1.os, hb1.tape, hb1.output, hb1.size, hb1.block⟩⟩
  (simp only [Act.put, List.setIfInBounds_toArray, List.set_cons_succ, List.set_cons_zero])
  iterate 3 (refine chain_pure rfl rfl ?_; apply Exists.intro; refine ⟨fun ww => ?_, ?_⟩; (focus (unfold calmAt calmUpon; go_simp; rfl)); (simp only [Act.put, List.setIfInBounds_toArray, List.set_cons_succ, List.set_cons_zero]))
  refine calm_nil ?_
  intro ww hww
  have hbw := callC_1' hww
  clear hww
  go_wp2
  go_ret2
  exact ⟨by simp, HB.out.trans (hbw.mono hs2)⟩
end Go.Proofs.Ytiindnmelegkgaa
end
/- pair, Block. -/
section
namespace Go.Proofs.Ytiindnmelegkgaa
open Go.RowKit
set_option linter.unusedSimpArgs false
set_option linter.unusedVariables false

theorem pair_ok (p : Nat) (f t : ByteArray) (hf : hostB f = true) (ht : hostB t = true) (w : World) : Calls Try.prog 41 #[.pointer (some ⟨p, 0, none⟩), .string f, .string t] w fun e w' => e = .returned (.int .i64 0) ∧ w = w' := by
  go_enter Try.func41, Try.ntmps41
  go_wp2_with fail
  refine (host_any _ _).mono ?_
  rintro e w1 ⟨rfl, rfl⟩
  rw [hf]
  go_wp2_with fail
  refine (host_any _ _).mono ?_
  rintro e w1 ⟨rfl, rfl⟩
  rw [ht]
  go_wp2
  go_ret
  exact ⟨rfl, rfl⟩
theorem pair_bad (p : Nat) (f t : ByteArray) (h : (hostB f && hostB t) = false) (w : World) : Calls Try.prog 41 #[.pointer (some ⟨p, 0, none⟩), .string f, .string t] w fun e w' => e = .returned (.int .i64 2) ∧ w = w' := by
  cases hf : hostB f
  · go_enter Try.func41, Try.ntmps41
    go_wp2_with fail
    refine (host_any _ _).mono ?_
    rintro e w1 ⟨rfl, rfl⟩
    rw [hf]
    go_wp2
    go_ret
    exact ⟨rfl, rfl⟩
  · have ht : hostB t = false := by simpa [hf] using h
    go_enter Try.func41, Try.ntmps41
    go_wp2_with fail
    refine (host_any _ _).mono ?_
    rintro e w1 ⟨rfl, rfl⟩
    rw [hf]
    go_wp2_with fail
    refine (host_any _ _).mono ?_
    rintro e w1 ⟨rfl, rfl⟩
    rw [ht]
    go_wp2
    go_ret
    exact ⟨rfl, rfl⟩
theorem pair_nil (f t : ByteArray) (w : World) : Calls Try.prog 41 #[.pointer none, .string f, .string t] w fun e w' => e = .returned (.int .i64 1) ∧ w = w' := by
  go_enter Try.func41, Try.ntmps41
  go_wp2
  go_ret
  exact ⟨rfl, rfl⟩

/-- The map is changed. -/
theorem Rep.mapped {ρ : Nat → Nat} {w w' : World} {p : Nat} {N : Net} (R : Rep ρ w p N) (os : w'.os = w.os) (tape : w'.tape = w.tape) (out : w'.output = w.output) (hs : w.heap.size ≤ w'.heap.size)
    (vm : Value) (bl : ByteArray → ByteArray → Bool) (cnt : Nat)
    (hp : w'.heap[p]? = some (.cells #[N.vf, N.vh, N.ve, vm, .int .i64 N.next] 29 (0, 0))) (hm : mapOk w' vm bl cnt)
    (hblk : ∀ b, b < w.heap.size → b ≠ p → ρ b ≠ 5 → w'.heap[b]? = w.heap[b]?)
    (hg : ∀ b, mapBlock vm = some b → (ρ b = 5 ∨ w.heap.size ≤ b) ∧ b < w'.heap.size) :
    ∃ ρ', Rep ρ' w' p { N with bl := bl, cnt := cnt, vm := vm } ∧ Step ρ ρ' w w' := by
  have stay : ∀ b, ρ b ≠ 0 → ρ b ≠ 1 → ρ b ≠ 5 → w'.heap[b]? = w.heap[b]? := fun b h0 h1 h5 => hblk b (R.lt h0) (fun e => h1 (by rw [e, R.rp])) h5
  refine ⟨fun b => if b < w.heap.size then ρ b else if some b = mapBlock vm then 5 else 0, ?_, ⟨os, tape, out, hs, fun b hb h0 => ?_, fun b hb h0 => (if_pos hb).trans h0⟩⟩
  · have old : ∀ b, ρ b ≠ 0 → (if b < w.heap.size then ρ b else if some b = mapBlock vm then 5 else 0) = ρ b := fun b h0 => if_pos (R.lt h0)
    constructor
    · exact hp
    · exact row_stays R.f fun b hb => stay b (by rw [R.rf b hb]; decide) (by rw [R.rf b hb]; decide) (by rw [R.rf b hb]; decide)
    · exact row_stays R.h fun b hb => stay b (by rw [R.rh b hb]; decide) (by rw [R.rh b hb]; decide) (by rw [R.rh b hb]; decide)
    · exact row_stays R.e fun b hb => stay b (by rw [R.re b hb]; decide) (by rw [R.re b hb]; decide) (by rw [R.re b hb]; decide)
    · exact hm
    · exact fun x hx => row_stays (R.fb x hx) fun b hb => stay b (by rw [R.rfb x hx b hb]; omega) (by rw [R.rfb x hx b hb]; omega) (by rw [R.rfb x hx b hb]; omega)
    · exact fun x hx => row_stays (R.hb x hx) fun b hb => stay b (by rw [R.rhb x hx b hb]; decide) (by rw [R.rhb x hx b hb]; decide) (by rw [R.rhb x hx b hb]; decide)
    · exact (old p (by rw [R.rp]; decide)).trans R.rp
    · exact fun b hb => (old b (by rw [R.rf b hb]; decide)).trans (R.rf b hb)
    · exact fun b hb => (old b (by rw [R.rh b hb]; decide)).trans (R.rh b hb)
    · exact fun b hb => (old b (by rw [R.re b hb]; decide)).trans (R.re b hb)
    · intro b hb
      obtain ⟨h1 | h1, h2⟩ := hg b hb
      · exact (old b (by rw [h1]; decide)).trans h1
      · show (if b < w.heap.size then _ else if some b = mapBlock vm then _ else _) = 5
        rw [if_neg (by omega), if_pos hb.symm]
    · exact fun x hx b hb => (old b (by rw [R.rfb x hx b hb]; omega)).trans (R.rfb x hx b hb)
    · exact fun x hx b hb => (old b (by rw [R.rhb x hx b hb]; decide)).trans (R.rhb x hx b hb)
    · intro b hb'
      show (if b < w.heap.size then _ else if some b = mapBlock vm then _ else _) = 0
      rw [if_neg (by omega), if_neg (fun e => by have := (hg b e.symm).2; omega)]
    · exact R.ids
    · exact R.idn
    · exact R.fok
    · exact R.hok
  · exact hblk b hb (fun e => by rw [e, R.rp] at h0; cases h0) (by omega)

/-- The map has been changed. -/
def Mapped (ρ : Nat → Nat) (w w' : World) (p : Nat) (N : Net) (bl : ByteArray → ByteArray → Bool) (cnt : Nat) : Prop :=
  ∃ ρ' vm', Rep ρ' w' p { N with bl := bl, cnt := cnt, vm := vm' } ∧ Step ρ ρ' w w'
theorem host_len {f : ByteArray} (h : hostB f = true) : f.size ≤ maxLen := by
  simp only [hostB, Bool.and_eq_true, decide_eq_true_eq] at h
  simp [maxLen]; omega

theorem eqlSome (bm : Nat) (w : World) : (binOp .eql 27 (.map (some bm)) (.map none)).run Try.prog w = .ok (.bool false) w := by kernel_rfl
theorem mk27 (w : World) : (Instr.makeMap 27 none).run Try.prog w = .ok (.map (some w.heap.size)) (w.alloc (.map #[] 0)) := rfl
theorem eqlNone (w : World) : (binOp .eql 27 (.map none) (.map none)).run Try.prog w = .ok (.bool true) w := by kernel_rfl

/-- A store into a map, its run known. -/
theorem wpList_mapUpdate_run {P : Program} {w : World} {ops : Array Oper} {rest : List Oper} {o : Oper} {a : Act} {Q : Exit → Act → World → Prop} (hg : o.guard = none) (m x v : Operand) (t : TypeId) (hop : o.op = Op.mapUpdate t m x v)
    (mv kv vv : Value) (hm : a.eval m = mv) (hx : a.eval x = kv) (hv : a.eval v = vv) {w' : World} (hrun : (Instr.mapUpdate t mv kv vv).run P w = .ok () w') (hK : wpList P ops Q rest (a.put o.dst undef) w') : wpList P ops Q (o :: rest) a w :=
  wpList_plain hg fun K' hK' => by
    unfold Oper.wp
    simp [execOp, hop, hm, hx, hv, hrun, Result.andThen]
    exact hK' _ _ hK

set_option maxRecDepth 100000 in
theorem block_ok {ρ : Nat → Nat} {w : World} {p : Nat} {N : Net} (R : Rep ρ w p N) (S : Small N) (f t : ByteArray) (hf : hostB f = true) (ht : hostB t = true) (bl' : ByteArray → ByteArray → Bool)
    (hbl : ∀ f' t', bl' f' t' = true ↔ (f' = f ∧ t' = t) ∨ N.bl f' t' = true) :
    Calls Try.prog 21 #[.pointer (some ⟨p, 0, none⟩), .string f, .string t] w fun e w' => e = .returned (.int .i64 0) ∧ Mapped ρ w w' p N bl' (N.cnt + 1) := by
  obtain ⟨c0, c1, c2, c3, c4, fr⟩ := net_cells R
  have hpl := R.lt (b := p) (by rw [R.rp]; decide)
  have f3 := fr 3
  have hcm : N.cnt < maxLen := by have := S.cnt; simp [maxLen]; omega
  rcases R.m with ⟨hv, hb0⟩ | ⟨mb, D, hv, h1, h2⟩
  · -- a new map
    obtain ⟨W1, hW1⟩ : ∃ W1, W1 = (w.alloc (.map #[] 0)).setCell ⟨p, 3, none⟩ (.map (some w.heap.size)) := ⟨_, rfl⟩
    have m0 : mapOk W1 (.map (some w.heap.size)) (fun _ _ => false) 0 := mapOk_stays (mapOk_made w) fun b hb => by
      obtain rfl : w.heap.size = b := by simpa [mapBlock] using hb
      rw [hW1]; exact set_other (by show w.heap.size ≠ p; omega)
    have m1 : mapOk W1 (.map (some w.heap.size)) N.bl N.cnt := by
      have e : N.bl = fun _ _ => false := by funext f t; exact hb0 f t
      rw [e]
      exact mapOk_mono m0 (Nat.zero_le _)
    obtain ⟨W2, run, m2, gr⟩ := mapOk_put (vm := .map none) m1 hcm f t (host_len hf) (host_len ht) bl' hbl
    have n1 : W1.heap[p]? = some (.cells #[N.vf, N.vh, N.ve, .map (some w.heap.size), .int .i64 N.next] 29 (0, 0)) := by
      rw [hW1]; exact set_at ((old_at hpl).trans R.net)
    have z1 : W1.heap.size = w.heap.size + 1 := by rw [hW1]; simp
    have z2 := gr.size
    obtain ⟨ρ', R', S'⟩ := R.mapped (w' := W2) (gr.os.trans (by rw [hW1]; rfl)) (gr.tape.trans (by rw [hW1]; rfl)) (gr.output.trans (by rw [hW1]; rfl)) (by omega) (.map (some w.heap.size)) bl' (N.cnt + 1)
      ((gr.block p (by omega) (fun e => by cases e; omega)).trans n1) m2 (fun b hb h1 h5 => by
        rw [gr.block b (by omega) (fun e => by cases e; omega), hW1, set_other h1, old_at hb]) (fun b hb => by
        obtain rfl : w.heap.size = b := by simpa [mapBlock] using hb
        exact ⟨.inr (Nat.le_refl _), by omega⟩)
    have END : Hid (Mapped ρ w W2 p N bl' (N.cnt + 1)) := Lib.hid ⟨ρ', _, R', S'⟩
    have d3 : W1.cell? ⟨p, 3, none⟩ = some (.map (some w.heap.size)) := by rw [cell_of_row _ _ _ _ _ _ n1]; rfl
    rw [hW1, setCell_alloc_comm _ _ _ _ hpl] at run d3
    rw [hv] at c3
    unfold keyV at run
    clear hcm hbl R' S' z1 z2 n1 gr m2 m1 m0 hW1 R S c0 c1 c2 c4 fr
    go_enter Try.func21, Try.ntmps21
    go_wp2_with fail
    refine (pair_ok _ _ _ hf ht _).mono ?_
    rintro e w1 ⟨rfl, rfl⟩
    have HRN := Lib.hid run
    clear run
    have q0 := eqlNone
    have q1 := eqlSome
    have q2 := mk27
    go_wp2_with (at_mapUpdate; refine wpList_mapUpdate_run rfl (.tmp 26) (.tmp 29) (.const (.bool true)) 27 rfl _ _ _ rfl rfl rfl HRN.out ?_)
    go_ret
    exact ⟨rfl, END.out⟩
  · obtain ⟨W2, run, m2, gr⟩ := mapOk_put (vm := .map none) (hv ▸ R.m) hcm f t (host_len hf) (host_len ht) bl' hbl
    have hrm := R.rm mb (by rw [hv]; rfl)
    have hml := R.lt (b := mb) (by rw [hrm]; decide)
    have z2 := gr.size
    obtain ⟨ρ', R', S'⟩ := R.mapped (w' := W2) gr.os gr.tape gr.output z2 (.map (some mb)) bl' (N.cnt + 1)
      ((gr.block p hpl (fun e => by cases e; rw [R.rp] at hrm; cases hrm)).trans (hv ▸ R.net)) m2 (fun b hb h1 h5 => gr.block b hb (fun e => by cases e; exact h5 hrm)) (fun b hb => by
        obtain rfl : mb = b := by simpa [mapBlock] using hb
        exact ⟨.inl hrm, by omega⟩)
    have END : Hid (Mapped ρ w W2 p N bl' (N.cnt + 1)) := Lib.hid ⟨ρ', _, R', S'⟩
    rw [hv] at c3
    unfold keyV at run
    clear hcm hbl hrm hml R' S' z2 gr m2 R S c0 c1 c2 c4 fr
    go_enter Try.func21, Try.ntmps21
    go_wp2_with fail
    refine (pair_ok _ _ _ hf ht _).mono ?_
    rintro e w1 ⟨rfl, rfl⟩
    have HRN := Lib.hid run
    clear run
    have q0 := eqlNone
    have q1 := eqlSome
    have q2 := mk27
    go_wp2_with (at_mapUpdate; refine wpList_mapUpdate_run rfl (.tmp 26) (.tmp 29) (.const (.bool true)) 27 rfl _ _ _ rfl rfl rfl HRN.out ?_)
    go_ret
    exact ⟨rfl, END.out⟩
end Go.Proofs.Ytiindnmelegkgaa
end
