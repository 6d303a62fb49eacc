/- remove. -/
import Derived.Test.YtiindnmelegkgaaDelete
namespace Go.Proofs.Ytiindnmelegkgaa
open Go.RowKit
set_option linter.unusedSimpArgs false
set_option linter.unusedVariables false

theorem erase_ne {fl : List Fl} (hs : fl.Pairwise (fun x y => x.id < y.id)) {i : Nat} {x y : Fl} (hx : fl[i]? = some x) (hy : y ∈ fl.eraseIdx i) : y ∈ fl ∧ y.id ≠ x.id := by
  have hm := List.mem_of_mem_eraseIdx hy
  refine ⟨hm, ?_⟩
  obtain ⟨k, hk⟩ := List.mem_iff_getElem?.1 hy
  rw [List.getElem?_eraseIdx] at hk
  split at hk
  · have := pw_lt hs (show k < i by assumption) hk hx; omega
  · have := pw_lt hs (show i < k + 1 by omega) hx hk; omega

theorem flat_erase (f : Fl → List Value) (hf : ∀ x, (f x).length = 5) : ∀ (fl : List Fl) (i : Nat), (fl.eraseIdx i).flatMap f = (fl.flatMap f).take (i * 5) ++ (fl.flatMap f).drop ((i + 1) * 5)
  | [], i => by simp
  | x :: l, 0 => by
    simp only [List.eraseIdx_cons_zero, List.flatMap_cons, Nat.zero_mul, List.take_zero, List.nil_append]
    rw [List.drop_left' (by rw [hf])]
  | x :: l, i + 1 => by
    simp only [List.eraseIdx_cons_succ, List.flatMap_cons]
    rw [flat_erase f hf l i]
    have e1 : (f x ++ l.flatMap f).take ((i + 1) * 5) = f x ++ (l.flatMap f).take (i * 5) := by
      rw [List.take_append, List.take_of_length_le (l := f x) (by rw [hf]; omega), hf, show (i + 1) * 5 - 5 = i * 5 by omega]
    have e2 : (f x ++ l.flatMap f).drop ((i + 1 + 1) * 5) = (l.flatMap f).drop ((i + 1) * 5) := by
      rw [List.drop_append, (List.drop_eq_nil_of_le (by rw [hf]; omega) : (f x).drop ((i + 1 + 1) * 5) = []), hf, show (i + 1 + 1) * 5 - 5 = (i + 1) * 5 by omega, List.nil_append]
    rw [e1, e2, List.append_assoc]

/-- A packet in flight is removed. -/
theorem Rep.removed {ρ : Nat → Nat} {w w' : World} {p : Nat} {N : Net} (R : Rep ρ w p N) (os : w'.os = w.os) (tape : w'.tape = w.tape) (out : w'.output = w.output) (hs : w.heap.size ≤ w'.heap.size)
    (i : Nat) (x : Fl) (hx : N.fl[i]? = some x) (ev : Ev) (vf ve : Value)
    (hp : w'.heap[p]? = some (.cells #[vf, N.vh, ve, N.vm, .int .i64 N.next] 29 (0, 0)))
    (hf : w'.ownsRow 0 81 5 vf (N.fl.length - 1) ((N.fl.eraseIdx i).flatMap Fl.cells)) (hvf : vf.ownBlock = N.vf.ownBlock)
    (he : w'.ownsRow 0 59 3 ve (N.evs.length + 1) (N.evs.flatMap Ev.cells ++ ev.cells))
    (hblk : ∀ b, b < w.heap.size → b ≠ p → ρ b ≠ 2 → ρ b ≠ 4 → w'.heap[b]? = w.heap[b]?)
    (ge : Nat) (hge : ve.ownBlock = some ge) (hge1 : ρ ge = 4 ∨ w.heap.size ≤ ge) (hge2 : ge < w'.heap.size) :
    ∃ ρ', Rep ρ' w' p { N with fl := N.fl.eraseIdx i, evs := N.evs ++ [ev], vf := vf, ve := ve } ∧ Step ρ ρ' w w' ∧ ownB w' x.p.bv x.p.bs ∧ ∀ b, x.p.bv.ownBlock = some b → ρ' b = 0 := by
  have hxm := List.mem_of_getElem? hx
  have hpl : p < w.heap.size := R.lt (by rw [R.rp]; decide)
  have stay : ∀ b, ρ b ≠ 0 → ρ b ≠ 1 → ρ b ≠ 2 → ρ b ≠ 4 → w'.heap[b]? = w.heap[b]? := fun b h0 h1 h2 h4 => hblk b (R.lt h0) (fun e => h1 (by rw [e, R.rp])) h2 h4
  refine ⟨fun b => if some b = x.p.bv.ownBlock then 0 else if b < w.heap.size then ρ b else if b = ge then 4 else 0, ?_, ⟨os, tape, out, hs, fun b hb h0 => ?_, fun b hb h0 => ?_⟩, ?_, fun b hb => if_pos hb.symm⟩
  · have old : ∀ b, ρ b ≠ 0 → ρ b ≠ 7 + x.id → (if some b = x.p.bv.ownBlock then 0 else if b < w.heap.size then ρ b else if b = ge then 4 else 0) = ρ b := fun b h0 h7 => by
      rw [if_neg (fun e => h7 (R.rfb x hxm b e.symm)), if_pos (R.lt h0)]
    constructor
    · exact hp
    · have : (N.fl.eraseIdx i).length = N.fl.length - 1 := List.length_eraseIdx_of_lt (List.getElem?_eq_some_iff.1 hx).1
      show w'.ownsRow 0 81 5 vf (N.fl.eraseIdx i).length _
      rw [this]
      exact hf
    · exact row_stays R.h fun b hb => stay b (by rw [R.rh b hb]; decide) (by rw [R.rh b hb]; decide) (by rw [R.rh b hb]; decide) (by rw [R.rh b hb]; decide)
    · simpa using he
    · exact mapOk_stays R.m fun b hb => stay b (by rw [R.rm b hb]; decide) (by rw [R.rm b hb]; decide) (by rw [R.rm b hb]; decide) (by rw [R.rm b hb]; decide)
    · intro y hy
      have hy' := (erase_ne R.ids hx hy).1
      exact row_stays (R.fb y hy') fun b hb => stay b (by rw [R.rfb y hy' b hb]; omega) (by rw [R.rfb y hy' b hb]; omega) (by rw [R.rfb y hy' b hb]; omega) (by rw [R.rfb y hy' b hb]; omega)
    · exact fun y hy => row_stays (R.hb y hy) fun b hb => stay b (by rw [R.rhb y hy b hb]; decide) (by rw [R.rhb y hy b hb]; decide) (by rw [R.rhb y hy b hb]; decide) (by rw [R.rhb y hy b hb]; decide)
    · exact (old p (by rw [R.rp]; decide) (by rw [R.rp]; omega)).trans R.rp
    · intro b hb
      have hb' : N.vf.ownBlock = some b := hvf ▸ hb
      exact (old b (by rw [R.rf b hb']; decide) (by rw [R.rf b hb']; omega)).trans (R.rf b hb')
    · exact fun b hb => (old b (by rw [R.rh b hb]; decide) (by rw [R.rh b hb]; omega)).trans (R.rh b hb)
    · intro b hb'
      have hb'' : ve.ownBlock = some b := hb'
      rw [hge] at hb''
      cases hb''
      rcases hge1 with h | h
      · exact (old ge (by rw [h]; decide) (by rw [h]; omega)).trans h
      · show (if some ge = x.p.bv.ownBlock then _ else if ge < w.heap.size then _ else _) = 4
        rw [if_neg (fun e => by have := R.lt (b := ge) (by rw [R.rfb x hxm ge e.symm]; omega); omega), if_neg (by omega), if_pos rfl]
    · exact fun b hb => (old b (by rw [R.rm b hb]; decide) (by rw [R.rm b hb]; omega)).trans (R.rm b hb)
    · intro y hy b hb
      have hy' := erase_ne R.ids hx hy
      have := R.rfb y hy'.1 b hb
      exact (old b (by omega) (by omega)).trans this
    · exact fun y hy b hb => (old b (by rw [R.rhb y hy b hb]; decide) (by rw [R.rhb y hy b hb]; omega)).trans (R.rhb y hy b hb)
    · intro b hb'
      show (if some b = x.p.bv.ownBlock then _ else if b < w.heap.size then _ else _) = 0
      rw [if_neg (fun e => by have := R.lt (b := b) (by rw [R.rfb x hxm b e.symm]; omega); omega), if_neg (by omega), if_neg (by omega)]
    · exact R.ids.eraseIdx i
    · exact fun y hy => R.idn y (erase_ne R.ids hx hy).1
    · exact fun y hy => R.fok y (erase_ne R.ids hx hy).1
    · exact R.hok
  · exact hblk b hb (fun e => by rw [e, R.rp] at h0; cases h0) (by omega) (by omega)
  · show (if some b = x.p.bv.ownBlock then _ else if b < w.heap.size then _ else _) = 0
    split
    · rfl
    · exact h0
  · exact row_stays (R.fb x hxm) fun b hb => stay b (by rw [R.rfb x hxm b hb]; omega) (by rw [R.rfb x hxm b hb]; omega) (by rw [R.rfb x hxm b hb]; omega) (by rw [R.rfb x hxm b hb]; omega)

theorem row_addr {w : World} {base : Nat} {e : TypeId} {size : Nat} {v : Value} {n : Nat} {xs : List Value} (h : w.ownsRow base e size v n xs) (hn : 0 < n) :
    ∃ g cap cur, v = .slice (some ⟨g, 0, none⟩) n cap ∧ w.heap[g]? = some (.cells cur e (0, 0)) ∧ n ≤ cap ∧ cap ≤ maxLen ∧ cur.size = cap * size ∧ cur.toList.take (n * size) = xs := by
  rcases h.2 with ⟨_, h0⟩ | ⟨g, cap, cur, h1, _, h2, h3, h4, h5, h6⟩
  · omega
  · exact ⟨g, cap, cur, h1, h2, h3, h4, h5, h6⟩
theorem fl_ones {ρ : Nat → Nat} {w : World} {p : Nat} {N : Net} (R : Rep ρ w p N) : ∀ u ∈ N.fl.flatMap Fl.cells, u.oneCell' = true := by
  intro u hu
  obtain ⟨x, hx, hu⟩ := List.mem_flatMap.1 hu
  exact fl_one x (ownB_one (R.fb x hx)) u hu

set_option maxHeartbeats 1000000 in
set_option maxRecDepth 100000 in
theorem remove_any {ρ : Nat → Nat} {w : World} {p : Nat} {N : Net} (R : Rep ρ w p N) (S : Small N) (i : Nat) (x : Fl) (hx : N.fl[i]? = some x) (kind : Int) :
    Calls Try.prog 38 #[.pointer (some ⟨p, 0, none⟩), .int .i64 i, .int .i64 kind] w fun e w' => e = .returned x.p.val ∧
      ∃ ρ' vf' ve', Rep ρ' w' p { N with fl := N.fl.eraseIdx i, evs := N.evs ++ [⟨kind, x.id, -1⟩], vf := vf', ve := ve' } ∧ Step ρ ρ' w w' ∧ ownB w' x.p.bv x.p.bs ∧ ∀ b, x.p.bv.ownBlock = some b → ρ' b = 0 := by
  have hil : i < N.fl.length := (List.getElem?_eq_some_iff.1 hx).1
  have hpl : p < w.heap.size := R.lt (by rw [R.rp]; decide)
  obtain ⟨g, cap, cur, hvf, hg, hnc, hcm, hcs, hct⟩ := row_addr R.f (by omega)
  have hgr : ρ g = 2 := R.rf g (by rw [hvf]; rfl)
  have hgl : g < w.heap.size := R.lt (by rw [hgr]; decide)
  have hgp : g ≠ p := fun e => by rw [e, R.rp] at hgr; cases hgr
  obtain ⟨W1, hW1⟩ : ∃ W1, W1 = (w.alloc (.cells #[.string { data := #[] }, .string { data := #[] }, .slice none 0 0] 35)).alloc (.cells #[.string x.p.frm, .string x.p.to, x.p.bv, .int .i64 x.id, .int .i64 x.src] 81) := ⟨_, rfl⟩
  have b1 : Below w.heap.size w W1 := by rw [hW1]; exact ((Below.refl _ _).alloc (Nat.le_refl _) _).alloc (by simp) _
  have z1 : W1.heap.size = w.heap.size + 2 := by rw [hW1]; simp
  have R1 := R.below b1
  have g1 : W1.heap[g]? = some (.cells cur 81 (0, 0)) := (b1.block g hgl).trans hg
  have r1 : W1.heap[w.heap.size]? = some (.cells #[.string { data := #[] }, .string { data := #[] }, .slice none 0 0] 35 (0, 0)) := by rw [hW1, old_at (by simp)]; exact new_at rfl
  have q1 : W1.heap[w.heap.size + 1]? = some (.cells #[.string x.p.frm, .string x.p.to, x.p.bv, .int .i64 x.id, .int .i64 x.src] 81 (0, 0)) := by rw [hW1]; exact new_at (by simp)
  have hxc : cur.toList.take (i * 5) ++ (cur.toList.take (N.fl.length * 5)).drop ((i + 1) * 5) = (N.fl.eraseIdx i).flatMap Fl.cells := by
    rw [flat_erase Fl.cells (fun _ => rfl), ← hct, List.take_take, Nat.min_eq_left (by omega)]
  have del := delete_any W1 g N.fl.length cap i (i + 1) cur g1 hcs hnc hcm hil rfl (fun u hu => fl_ones R u (by rw [← hct]; exact List.mem_of_mem_drop hu))
  have m0 := fl_at (hvf ▸ R.f) hx rfl 0 (by decide)
  have m1 := fl_at (hvf ▸ R.f) hx rfl 1 (by decide)
  have m2 := fl_at (hvf ▸ R.f) hx rfl 2 (by decide)
  have m3 := fl_at (hvf ▸ R.f) hx rfl 3 (by decide)
  have m4 := fl_at (hvf ▸ R.f) hx rfl 4 (by decide)
  simp [Fl.cells] at m0 m1 m2 m3 m4
  have hone := ownB_one (R.fb x (List.mem_of_getElem? hx))
  obtain ⟨ba, bc, hbv⟩ := ownB_slice (R.fb x (List.mem_of_getElem? hx))
  obtain ⟨c0, c1, c2, c3, c4, fr⟩ := net_cells R
  have hb1 : (-9223372036854775808 : Int) ≤ (i : Int) + 1 := by omega
  have hb2 : (i : Int) + 1 ≤ 9223372036854775807 := by have := S.fl; omega
  rw [show ((i + 1 : Nat) : Int) = (i : Int) + 1 by omega] at del
  rw [hvf] at c0
  obtain ⟨n, hn⟩ : ∃ n, N.fl.length = n := ⟨_, rfl⟩
  rw [hn] at hil c0 del
  have DEL := Lib.hid del
  have HW1 := Lib.hid hW1
  have HS := Lib.hid S
  have HR := Lib.hid R
  have HR1 := Lib.hid R1
  have HX := Lib.hid hx
  have HC := Lib.hid hct
  have HXC := Lib.hid hxc
  have HV := Lib.hid hvf
  have HB := Lib.hid b1
  have HN := Lib.hid hn
  have HCM := Lib.hid hcm
  have HNC := Lib.hid hnc
  clear del hW1 S R R1 hx hct hxc hcs hcm hnc g1 hg hn hvf b1 c1 c3 c4
  obtain ⟨⟨xf, xt, xb, xbs⟩, xid, xsrc⟩ := x
  dsimp only at *
  generalize xbs.length = bn at hbv
  subst hbv
  go_enter Try.func38, Try.ntmps38
  go_wp2_with fail
  have del := DEL.out
  rw [HW1.out] at del
  refine del.mono ?_
  clear del
  rintro e W2 ⟨rfl, gr2, cur2, g2, hs2, ht2⟩
  rw [← HW1.out] at gr2
  have z2 := gr2.size
  have n2 : W2.heap[p]? = some (.cells #[N.vf, N.vh, N.ve, N.vm, .int .i64 N.next] 29 (0, 0)) := (gr2.block p (by omega) (fun e => hgp (by cases e; rfl))).trans HR1.out.net
  have d0 : W2.cell? ⟨p, 0, none⟩ = some N.vf := by rw [cell_of_row _ _ _ _ _ _ n2]; rfl
  have k0 := frozen_blk n2 0
  obtain ⟨W3, hW3⟩ : ∃ W3, W3 = W2.setCell ⟨p, 0, none⟩ (.slice (some ⟨g, 0, none⟩) (n - 1) cap) := ⟨_, rfl⟩
  have n3 : W3.heap[p]? = some (.cells #[.slice (some ⟨g, 0, none⟩) (n - 1) cap, N.vh, N.ve, N.vm, .int .i64 N.next] 29 (0, 0)) := by rw [hW3]; exact set_at n2
  have s3 : ∀ b, b ≠ p → W3.heap[b]? = W2.heap[b]? := fun b hb => by rw [hW3]; exact set_other hb
  have z3 : W3.heap.size = W2.heap.size := by rw [hW3]; simp
  have hep : ∀ b, N.ve.ownBlock = some b → b ≠ p := fun b hb e => by have := HR.out.re b hb; rw [e, HR.out.rp] at this; cases this
  have heg : ∀ b, N.ve.ownBlock = some b → b ≠ g := fun b hb e => by have := HR.out.re b hb; rw [e, hgr] at this; cases this
  have hel : ∀ b, N.ve.ownBlock = some b → b < w.heap.size := fun b hb => HR.out.lt (by rw [HR.out.re b hb]; decide)
  have e3 : W3.drew.ownsRow 0 59 3 N.ve N.evs.length (N.evs.flatMap Ev.cells) := row_stays HR1.out.e fun b hb => by
    have := hel b hb
    exact (s3 b (hep b hb)).trans (gr2.block b (by omega) (fun e => heg b hb (by cases e; rfl)))
  obtain ⟨ge, gc, W5, run5, f5, gr5, l5, s5⟩ := append_one W3.drew 26 59 _ 3 24 u26 info59 rfl (by decide) (by decide) N.ve N.evs.length _ e3 (Ev.cells ⟨kind, xid, -1⟩) rfl (ev_one _) (by have := HS.out.evs; omega)
  obtain ⟨W4, hW4⟩ : ∃ W4, W4 = W3.drew.alloc (.cells (Ev.cells ⟨kind, xid, -1⟩).toArray 59) := ⟨_, rfl⟩
  rw [← hW4] at run5 gr5
  have z4 : W4.heap.size = W3.heap.size + 1 := by rw [hW4]; simp
  have z5 := gr5.size
  have n5 : W5.heap[p]? = some (.cells #[.slice (some ⟨g, 0, none⟩) (n - 1) cap, N.vh, N.ve, N.vm, .int .i64 N.next] 29 (0, 0)) := by
    rw [gr5.block p (by omega) (fun e => hep p e.symm rfl), hW4, old_at (by show p < W3.heap.size; omega)]; exact n3
  have y5 : ∀ b, b < W1.heap.size → b ≠ p → b ≠ g → N.ve.ownBlock ≠ some b → W5.heap[b]? = W1.heap[b]? := fun b hb h1 h2 h3 => by
    rw [gr5.block b (by omega) (fun e => h3 e.symm), hW4, old_at (by show b < W3.heap.size; omega)]
    exact (s3 b h1).trans (gr2.block b hb (fun e => h2 (by cases e; rfl)))
  have r5 := (y5 w.heap.size (by omega) (by omega) (by omega) (fun e => by have := hel _ e; omega)).trans r1
  have q5 := (y5 (w.heap.size + 1) (by omega) (by omega) (by omega) (fun e => by have := hel _ e; omega)).trans q1
  obtain ⟨W6, hW6⟩ : ∃ W6, W6 = W5.setCell ⟨p, 2, none⟩ (.slice (some ⟨ge, 0, none⟩) (N.evs.length + 1) gc) := ⟨_, rfl⟩
  have n6 : W6.heap[p]? = some (.cells #[.slice (some ⟨g, 0, none⟩) (n - 1) cap, N.vh, .slice (some ⟨ge, 0, none⟩) (N.evs.length + 1) gc, N.vm, .int .i64 N.next] 29 (0, 0)) := by rw [hW6]; exact set_at n5
  have s6 : ∀ b, b ≠ p → W6.heap[b]? = W5.heap[b]? := fun b hb => by rw [hW6]; exact set_other hb
  have r6 := (s6 w.heap.size (by omega)).trans r5
  have q6 := (s6 (w.heap.size + 1) (by omega)).trans q5
  have gep : ge ≠ p := by
    rcases l5 with h | h
    · exact hep _ h
    · have : W3.drew.heap.size = W3.heap.size := rfl
      omega
  have geg : ge ≠ g := by
    rcases l5 with h | h
    · exact heg _ h
    · have : W3.drew.heap.size = W3.heap.size := rfl
      omega
  have g6 : W6.heap[g]? = some (.cells cur2 81 (0, 0)) := by
    rw [s6 g hgp, gr5.block g (by omega) (fun e => by cases (heg g e.symm rfl)), hW4, old_at (by show g < W3.heap.size; omega)]
    exact (s3 g hgp).trans g2
  obtain ⟨W7, hW7⟩ : ∃ W7, W7 = ((W6.setCell ⟨w.heap.size, 0, none⟩ (.string xf)).setCell ⟨w.heap.size, 1, none⟩ (.string xt)).setCell ⟨w.heap.size, 2, none⟩ (.slice ba bn bc) := ⟨_, rfl⟩
  have s7 : ∀ b, b ≠ w.heap.size → W7.heap[b]? = W6.heap[b]? := fun b hb => by rw [hW7]; exact (set_other hb).trans ((set_other hb).trans (set_other hb))
  have z6 : W6.heap.size = W5.heap.size := by rw [hW6]; simp
  have z7 : W7.heap.size = W5.heap.size := by rw [hW7]; simp [z6]
  have gel : w.heap.size ≠ ge := by
    rcases l5 with h | h
    · have := hel _ h; omega
    · have : W3.drew.heap.size = W3.heap.size := rfl
      omega
  have e7 : W7.ownsRow 0 59 3 (.slice (some ⟨ge, 0, none⟩) (N.evs.length + 1) gc) (N.evs.length + 1) (N.evs.flatMap Ev.cells ++ Ev.cells ⟨kind, xid, -1⟩) := row_stays f5 fun b hb => by
    obtain rfl : b = ge := by simpa [Value.ownBlock] using hb.symm
    rw [s7 b (Ne.symm gel), s6 b gep]
  have f7 : W7.ownsRow 0 81 5 (.slice (some ⟨g, 0, none⟩) (n - 1) cap) (N.fl.length - 1) ((N.fl.eraseIdx i).flatMap Fl.cells) := by
    have hcm := HCM.out
    have hnc := HNC.out
    have hn := HN.out
    have hxc := HXC.out
    rw [hn] at hxc hnc ⊢
    rw [hxc] at ht2
    refine ⟨?_, .inr ⟨g, cap, cur2, rfl, Nat.zero_le _, (s7 g (by omega)).trans g6, by omega, hcm, hs2, ht2⟩⟩
    rw [← ht2]
    simp
    omega
  have back : ∀ b, b < w.heap.size → b ≠ p → ρ b ≠ 2 → ρ b ≠ 4 → W7.heap[b]? = w.heap[b]? := fun b hb h1 h2 h4 => by
    rw [s7 b (by omega), s6 b h1, y5 b (by omega) h1 (fun e => h2 (by rw [e]; exact hgr)) (fun e => h4 (HR.out.re b e))]
    exact HB.out.block b hb
  have os7 : W7.os = w.os := by rw [hW7]; exact (by rw [hW6]; exact gr5.os.trans (by rw [hW4, hW3]; exact gr2.os.trans HB.out.os) : W6.os = w.os)
  have tp7 : W7.tape = w.tape := by rw [hW7]; exact (by rw [hW6]; exact gr5.tape.trans (by rw [hW4, hW3]; exact gr2.tape.trans HB.out.tape) : W6.tape = w.tape)
  have ou7 : W7.output = w.output := by rw [hW7]; exact (by rw [hW6]; exact gr5.output.trans (by rw [hW4, hW3]; exact gr2.output.trans HB.out.output) : W6.output = w.output)
  obtain ⟨ρ', R', S', O', F'⟩ := HR.out.removed (w' := W7) os7 tp7 ou7 (by omega) i _ HX.out ⟨kind, xid, -1⟩ (.slice (some ⟨g, 0, none⟩) (n - 1) cap) (.slice (some ⟨ge, 0, none⟩) (N.evs.length + 1) gc)
    ((s7 p (by omega)).trans n6) f7 (by rw [HV.out]; rfl) e7 back ge rfl (by
      rcases l5 with h | h
      · exact .inl (HR.out.re _ h)
      · have : W3.drew.heap.size = W3.heap.size := rfl
        right; omega) (by omega)
  have END : Hid (∃ ρ' vf' ve', Rep ρ' W7 p { N with fl := N.fl.eraseIdx i, evs := N.evs ++ [⟨kind, xid, -1⟩], vf := vf', ve := ve' } ∧ Step ρ ρ' w W7 ∧ ownB W7 (.slice ba bn bc) xbs ∧ ∀ b, (Value.slice ba bn bc).ownBlock = some b → ρ' b = 0) := Lib.hid ⟨ρ', _, _, R', S', O', F'⟩
  have q3 := ((s3 (w.heap.size + 1) (by omega)).trans (gr2.block (w.heap.size + 1) (by omega) (fun e => by cases e; omega))).trans q1
  have n4 : W4.heap[p]? = some (.cells #[.slice (some ⟨g, 0, none⟩) (n - 1) cap, N.vh, N.ve, N.vm, .int .i64 N.next] 29 (0, 0)) := by rw [hW4, old_at (by show p < W3.heap.size; omega)]; exact n3
  have HW3 := Lib.hid hW3
  have HW4 := Lib.hid hW4
  have HW6 := Lib.hid hW6
  have HW7 := Lib.hid hW7
  have HR5 := Lib.hid run5
  clear R' S' O' F' ou7 tp7 os7 back f7 e7 gel z6 z7 hW7 s7 g6 geg gep s6 hW6 y5 z5 z4 hW4 hW3 run5 f5 gr5 l5 s5 e3 hel heg hep z3 s3 g2 hs2 ht2 gr2 z2 m0 m1 m2 m3 m4 hb1 hb2 c0
  go_wp2_with fail
  rw [← HW3.out]
  unfold Ev.cells at HW4
  dsimp only at HW4
  refine wp_region_chain (wsq [W3.drew, W4, W5, W6]) [9, 10, 13] [(4, 2), (7, 1)] (by kernel_rfl) (by kernel_rfl) (by kernel_rfl) (by kernel_rfl) wsq_0 ?_
  iterate 4 (refine chain_pure rfl rfl ?_; apply Exists.intro; refine ⟨fun ww => ?_, ?_⟩; (focus (unfold calmAt calmUpon; go_simp; rfl)); (simp only [Act.put, List.setIfInBounds_toArray, List.set_cons_succ, List.set_cons_zero]))
  refine chain_load rfl rfl 2 (by simp) ?_
  apply Exists.intro
  refine ⟨fun k ww hk hww => ?_, ?_⟩
  focus
    have m : ww.cell? ⟨p, 2, none⟩ = some N.ve := by
      rcases wsq_lt2 hk hww with rfl | rfl
      · show W3.cell? _ = _
        rw [cell_of_row _ _ _ _ _ _ n3]; rfl
      · rw [cell_of_row _ _ _ _ _ _ n4]; rfl
    unfold calmAt calmUpon
    go_simp
    rfl
  (simp only [Act.put, List.setIfInBounds_toArray, List.set_cons_succ, List.set_cons_zero])
  iterate 2 (refine chain_pure rfl rfl ?_; apply Exists.intro; refine ⟨fun ww => ?_, ?_⟩; (focus (unfold calmAt calmUpon; go_simp; rfl)); (simp only [Act.put, List.setIfInBounds_toArray, List.set_cons_succ, List.set_cons_zero]))
  refine chain_load rfl rfl 1 (by simp) ?_
  apply Exists.intro
  refine ⟨fun k ww hk hww => ?_, ?_⟩
  focus
    have e := wsq_lt1 hk hww
    subst e
    have m0 : W3.cell? ⟨w.heap.size + 1, 3, none⟩ = some (.int .i64 xid) := by rw [cell_of_row _ _ _ _ _ _ q3]; rfl
    unfold calmAt calmUpon
    go_simp
    rfl
  (simp only [Act.put, List.setIfInBounds_toArray, List.set_cons_succ, List.set_cons_zero])
  iterate 1 (refine chain_pure rfl rfl ?_; apply Exists.intro; refine ⟨fun ww => ?_, ?_⟩; (focus (unfold calmAt calmUpon; go_simp; rfl)); (simp only [Act.put, List.setIfInBounds_toArray, List.set_cons_succ, List.set_cons_zero]))
  refine chain_write (by kernel_rfl) rfl 0 rfl (by rfl) ?_
  apply Exists.intro
  refine ⟨fun ww hww => ?_, ?_⟩
  focus
    have e := wsq_lt1 (Nat.zero_lt_one) hww
    subst e
    unfold calmAt calmUpon
    go_simp
    refine ⟨rfl, ?_⟩
    rw [HW4.out]
    rfl
  (simp only [Act.put, List.setIfInBounds_toArray, List.set_cons_succ, List.set_cons_zero])
  refine chain_write (by kernel_rfl) rfl 1 rfl (by rfl) ?_
  apply Exists.intro
  refine ⟨fun ww hww => ?_, ?_⟩
  focus
    have e : W4 = ww := by simpa [wsq] using hww
    subst e
    exact calmAt_append (.tmp 30) (.tmp 35) 26 rfl _ _ rfl rfl HR5.out rfl
  (simp only [Act.put, List.setIfInBounds_toArray, List.set_cons_succ, List.set_cons_zero])
  iterate 2 (refine chain_pure rfl rfl ?_; apply Exists.intro; refine ⟨fun ww => ?_, ?_⟩; (focus (unfold calmAt calmUpon; go_simp; rfl)); (simp only [Act.put, List.setIfInBounds_toArray, List.set_cons_succ, List.set_cons_zero]))
  refine chain_write (by kernel_rfl) rfl 2 rfl (by rfl) ?_
  apply Exists.intro
  refine ⟨fun ww hww => ?_, ?_⟩
  focus
    have e : W5 = ww := by simpa [wsq] using hww
    subst e
    have m0 : W5.cell? ⟨p, 2, none⟩ = some N.ve := by rw [cell_of_row _ _ _ _ _ _ n5]; rfl
    have g0 := frozen_blk n5 2
    unfold calmAt calmUpon
    go_simp
    refine ⟨rfl, ?_⟩
    rw [HW6.out]
    rfl
  (simp only [Act.put, List.setIfInBounds_toArray, List.set_cons_succ, List.set_cons_zero])
  refine calm_nil ?_
  intro ww hww
  have e : W6 = ww := by simpa [wsq] using hww
  subst e
  clear hww
  have t0 := cell_of_row W6 _ 0 _ _ _ q6
  have t1 := cell_of_row W6 _ 1 _ _ _ q6
  have t2 := cell_of_row W6 _ 2 _ _ _ q6
  have u0 := cell_of_row W6 _ 0 _ _ _ r6
  have u1 := cell_of_row W6 _ 1 _ _ _ r6
  have u2 := cell_of_row W6 _ 2 _ _ _ r6
  have v0 := frozen_blk r6 0
  have v1 := frozen_blk r6 1
  have v2 := frozen_blk r6 2
  simp at t0 t1 t2 u0 u1 u2
  go_wp2
  have EE := END.out
  rw [HW7.out] at EE
  exact bodyPost_ret (v := .agg #[.string xf, .string xt, .slice ba bn bc]) (by simp [results, Try.results38, go_sem, u0, u1, u2]) rfl ⟨rfl, EE⟩
end Go.Proofs.Ytiindnmelegkgaa
