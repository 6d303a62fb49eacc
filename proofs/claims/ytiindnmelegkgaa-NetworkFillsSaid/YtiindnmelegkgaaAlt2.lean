/- Alter. -/
import Derived.Test.YtiindnmelegkgaaAlter
namespace Go.Proofs.Ytiindnmelegkgaa
open Go.RowKit
set_option linter.unusedSimpArgs false
set_option linter.unusedVariables false

theorem flat_same (f : Fl → List Value) : ∀ (fl : List Fl) (i : Nat) (x x' : Fl), fl[i]? = some x → f x' = f x → (fl.set i x').flatMap f = fl.flatMap f
  | [], i, x, x', h, _ => by simp at h
  | y :: l, 0, x, x', h, e => by
    simp at h
    subst h
    simp [e]
  | y :: l, i + 1, x, x', h, e => by
    simp at h
    simp [flat_same f l i x x' h e]

theorem alter_zero (p : Nat) (id off : Int) (w : World) : Calls Try.prog 19 #[.pointer (some ⟨p, 0, none⟩), .int .i64 id, .int .i64 off, .int .u8 0] w fun e w' => e = .returned (.int .i64 2) ∧ w = w' := by
  go_enter Try.func19, Try.ntmps19
  go_wp2
  go_ret
  exact ⟨rfl, rfl⟩

theorem alter_range {ρ : Nat → Nat} {w : World} {p : Nat} {N : Net} (R : Rep ρ w p N) (S : Small N) {id : Int} {i : Nat} {x : Fl} (h : Hits N.fl id i x) (off m : Int) (hm : (m == 0) = false) (ho : off < 0 ∨ (x.p.bs.length : Int) ≤ off) :
    Calls Try.prog 19 #[.pointer (some ⟨p, 0, none⟩), .int .i64 id, .int .i64 off, .int .u8 m] w fun e w' => e = .returned (.int .i64 3) ∧ Below w.heap.size w w' := by
  have HC := Lib.hid (index_hit R S h)
  have HR := Lib.hid R
  have HX := Lib.hid h.1
  have hil : i < N.fl.length := (List.getElem?_eq_some_iff.1 h.1).1
  obtain ⟨g, cap, cur, hvf, _⟩ := row_addr R.f (by omega)
  obtain ⟨n, hn⟩ : ∃ n, N.fl.length = n := ⟨_, rfl⟩
  obtain ⟨ba, bc, hbv⟩ := ownB_slice (R.fb x (List.mem_of_getElem? h.1))
  rw [hn] at hvf hil
  obtain ⟨l, hl⟩ : ∃ l, x.p.bs.length = l := ⟨_, rfl⟩
  rw [hl] at hbv ho
  clear R S h
  by_cases h0 : off < 0
  · go_enter Try.func19, Try.ntmps19
    go_wp2_with fail
    refine HC.out.mono ?_
    rintro e w1 ⟨rfl, hb⟩
    go_wp2
    go_ret
    exact ⟨rfl, hb⟩
  · have h1 : (l : Int) ≤ off := by omega
    go_enter Try.func19, Try.ntmps19
    go_wp2_with fail
    refine HC.out.mono ?_
    rintro e w1 ⟨rfl, hb⟩
    have R1 := HR.out.below hb
    obtain ⟨c0, c1, c2, c3, c4, fr⟩ := net_cells R1
    rw [hvf] at c0
    have rf1 := R1.f
    rw [hvf, hn] at rf1
    have m2 := fl_at rf1 HX.out hn 2 (by decide)
    simp [Fl.cells, hbv] at m2
    clear c1 c2 c3 c4 fr R1 rf1
    go_wp2
    go_ret
    exact ⟨rfl, hb⟩

set_option maxHeartbeats 1000000 in
set_option maxRecDepth 100000 in
theorem alter_ok {ρ : Nat → Nat} {w : World} {p : Nat} {N : Net} (R : Rep ρ w p N) (S : Small N) {id : Int} {i : Nat} {x : Fl} (h : Hits N.fl id i x) (off : Nat) (m y : Int) (hm : (m == 0) = false) (hy : x.p.bs[off]? = some y) :
    Calls Try.prog 19 #[.pointer (some ⟨p, 0, none⟩), .int .i64 id, .int .i64 off, .int .u8 m] w fun e w' => e = .returned (.int .i64 0) ∧ Changed ρ w w' p N i { x with p := { x.p with bs := x.p.bs.set off (bits .xor .u8 y m) } } 5 id := by
  have HC := Lib.hid (index_hit R S h)
  have HR := Lib.hid R
  have HX := Lib.hid h.1
  have HS := Lib.hid S
  have HY := Lib.hid hy
  have hil : i < N.fl.length := (List.getElem?_eq_some_iff.1 h.1).1
  obtain ⟨g, cap, cur, hvf, _⟩ := row_addr R.f (by omega)
  obtain ⟨n, hn⟩ : ∃ n, N.fl.length = n := ⟨_, rfl⟩
  have hol : off < x.p.bs.length := (List.getElem?_eq_some_iff.1 hy).1
  obtain ⟨gb, bc, bcur, hbv, _⟩ := row_addr (R.fb x (List.mem_of_getElem? h.1)) (by omega)
  obtain ⟨l, hl⟩ : ∃ l, x.p.bs.length = l := ⟨_, rfl⟩
  rw [hl] at hbv hol
  rw [hn] at hvf hil
  clear R S h hy
  go_enter Try.func19, Try.ntmps19
  go_wp2_with fail
  refine HC.out.mono ?_
  rintro e w1 ⟨rfl, hb⟩
  have R1 := HR.out.below hb
  obtain ⟨c0, c1, c2, c3, c4, fr⟩ := net_cells R1
  rw [hvf] at c0
  have rf1 := R1.f
  rw [hvf, hn] at rf1
  have m2 := fl_at rf1 HX.out hn 2 (by decide)
  simp [Fl.cells, hbv] at m2
  have rb1 : w1.ownsRow 0 5 1 (.slice (some ⟨gb, 0, none⟩) l bc) l (x.p.bs.map (Value.int .u8)) := by
    have := R1.fb x (List.mem_of_getElem? HX.out)
    unfold ownB at this
    rw [hbv, hl] at this
    exact this
  have m5 : w1.cell? ⟨gb, off, none⟩ = some (.int .u8 y) := by
    rw [rb1.cellAt off (by omega)]
    simp [HY.out]
  have k5 := rb1.frozenAt off
  clear c1 c3 c4 fr
  have hxm := List.mem_of_getElem? HX.out
  have hrg : ρ gb = 7 + x.id := R1.rfb x hxm gb (by rw [hbv]; rfl)
  have hgp : gb ≠ p := fun e => by rw [e, R1.rp] at hrg; omega
  have hpg : p ≠ gb := Ne.symm hgp
  -- the worlds
  obtain ⟨W2, hW2⟩ : ∃ W2, W2 = w1.setCell ⟨gb, off, none⟩ (.int .u8 (bits .xor .u8 y m)) := ⟨_, rfl⟩
  have s2 : ∀ b, b ≠ gb → W2.heap[b]? = w1.heap[b]? := fun b hb => by rw [hW2]; exact set_other hb
  have z2 : W2.heap.size = w1.heap.size := by rw [hW2]; simp
  have n2 : W2.heap[p]? = _ := (s2 p (Ne.symm hgp)).trans R1.net
  have b2 := row_set rb1 off (.int .u8 (bits .xor .u8 y m)) (by omega)
  rw [← List.map_set, ← hW2] at b2
  have hep : ∀ b, N.ve.ownBlock = some b → b ≠ p := fun b hb e => by have := R1.re b hb; rw [e, R1.rp] at this; cases this
  have heg : ∀ b, N.ve.ownBlock = some b → b ≠ gb := fun b hb e => by have := R1.re b hb; rw [e, hrg] at this; omega
  have e2 : W2.ownsRow 0 59 3 N.ve N.evs.length (N.evs.flatMap Ev.cells) := row_stays R1.e fun b hb => s2 b (heg b hb)
  obtain ⟨ge, gc, W4, W5, T⟩ := note_worlds W2 p N.vf N.vh N.ve N.vm N.next N.evs ⟨5, id, -1⟩ n2 e2 (fun e => hep p e rfl) HS.out.evs
  have hv1 := R1.fok x hxm
  have hv2 : validB { x.p with bs := x.p.bs.set off (bits .xor .u8 y m) } = true := by
    simp only [validB, Bool.and_eq_true] at hv1 ⊢
    exact ⟨hv1.1, by simpa using hv1.2⟩
  have b5 : ownB W5 x.p.bv (x.p.bs.set off (bits .xor .u8 y m)) := by
    unfold ownB
    rw [hbv, List.length_set, hl]
    refine row_stays b2 fun b hb => ?_
    obtain rfl : b = gb := (by simpa [Value.ownBlock] using hb.symm)
    exact T.back b (by rw [z2]; exact R1.lt (by omega)) hgp (fun e => heg b e rfl)
  have hxf : ∀ b, N.vf.ownBlock = some b → b ≠ gb := fun b hb e => by have := R1.rf b hb; rw [e, hrg] at this; omega
  have f5 : W5.ownsRow 0 81 5 N.vf N.fl.length ((N.fl.set i { x with p := { x.p with bs := x.p.bs.set off (bits .xor .u8 y m) } }).flatMap Fl.cells) := by
    rw [flat_same Fl.cells N.fl i x { x with p := { x.p with bs := x.p.bs.set off (bits .xor .u8 y m) } } HX.out rfl]
    refine row_stays R1.f fun b hb => ?_
    have h1 := R1.rf b hb
    exact (T.back b (by rw [z2]; exact R1.lt (by omega)) (fun e => by rw [e, R1.rp] at h1; omega) (fun e => by have := R1.re b e; omega)).trans (s2 b (hxf b hb))
  obtain ⟨ρ', R', S'⟩ := R1.changed (w' := W5) (T.os.trans (by rw [hW2]; rfl)) (T.tape.trans (by rw [hW2]; rfl)) (T.output.trans (by rw [hW2]; rfl)) (by have := T.size; omega) i x { x with p := { x.p with bs := x.p.bs.set off (bits .xor .u8 y m) } } HX.out rfl rfl hv2 ⟨5, id, -1⟩ _ T.n5 f5 b5 T.e5
    (fun b hb h1 h2 h4 h7 => (T.back b (by omega) h1 (fun e => h4 (R1.re b e))).trans (s2 b (fun e => h7 (by rw [e]; exact hrg)))) ge rfl (by
      rcases T.ge1 with h | h
      · exact .inl (R1.re _ h)
      · right; omega) T.ge2
  have END : Hid (Changed ρ w W5 p N i { x with p := { x.p with bs := x.p.bs.set off (bits .xor .u8 y m) } } 5 id) := Lib.hid ⟨ρ', _, R', (Below.step hb).trans S'⟩
  have HT5 := Lib.hid T.w5
  have HR4 := Lib.hid T.run
  have d2 : W2.cell? ⟨p, 2, none⟩ = some N.ve := by rw [cell_of_row _ _ _ _ _ _ n2]; rfl
  have d4 := T.c4
  have k4 := T.k4
  have HW2 := Lib.hid hW2
  clear R' S' f5 b5 hv1 hv2 T e2 heg hep hxf b2 n2 z2 s2 hW2 R1 rf1 hb rb1 hxm hbv
  have run := HR4.out
  rw [HW2.out, set_size] at run
  rw [HW2.out] at d2
  have HRN := Lib.hid run
  clear run
  go_wp2_with (at_builtin; refine wpList_append_run rfl (.tmp 63) (.tmp 66) 26 rfl _ _ rfl rfl HRN.out ?_)
  go_ret
  exact ⟨rfl, HT5.out ▸ END.out⟩
end Go.Proofs.Ytiindnmelegkgaa
