/- The acts of a law's argument, out of its reading. -/
import Derived.Test.YtiindnmelegkgaaC1
import Derived.Test.YtiindnmelegkgaaLawKit
import Derived.Deep.Slices
import Derived.Deep.Strs
namespace Go.Proofs.Ytiindnmelegkgaa
open Go.ChangeShapes Go.WideShapes Go.ChangeAt Go.RowKit
set_option linter.unusedSimpArgs false
set_option linter.unusedVariables false

theorem tcells42 : Try.prog.cellsOf 42 = 7 := by kernel_rfl
theorem tcells35 : Try.prog.cellsOf 35 = 3 := by kernel_rfl
theorem tcells33 : Try.prog.cellsOf 33 = 1 := by kernel_rfl
theorem tcells5 : Try.prog.cellsOf 5 = 1 := by kernel_rfl
theorem tcells9 : Try.prog.cellsOf 9 = 1 := by kernel_rfl
theorem tcells3 : Try.prog.cellsOf 3 = 1 := by kernel_rfl

theorem bytes_open {H : Type} {enc : TypeId × Value → H} {W : World} {spare : Nat → Bool} {held : Bool} {fuel : Nat} {v : Value} {x : DataW H × List MemPlace} (h : DataW.trod enc Try.prog W 0 spare held fuel 33 [v] = some x) :
    ∃ bs : List Int, (∃ a c, v = .slice a bs.length c) ∧ (bs.length ≤ 100 → rdB W v bs) ∧ (0 < bs.length → ∀ b, v.ownBlock = some b → b < W.heap.size) ∧ ∀ b ∈ bs, 0 ≤ b ∧ b ≤ 255 := by
  rcases Deep.open_slice1 Try.underlying33 tcells5 h with ⟨hcs, _⟩ | ⟨a, len, cap, m, n, V, D, Pl, hcs, _, hl, _, hm, _, hi⟩
  · simp at hcs; subst hcs; exact ⟨[], ⟨none, 0, rfl⟩, fun _ => ⟨by simp, .inl ⟨rfl, rfl⟩⟩, by simp, by simp⟩
  · simp at hcs; subst hcs
    have hlm : len ≤ m := by rw [hm]; split <;> omega
    have key : ∀ i, i < len → ∃ u : Int, W.cell? (a.add i) = some (.int .u8 u) ∧ 0 ≤ u ∧ u ≤ 255 := fun i hi' => by
      obtain ⟨h1, h2⟩ := hi i (by omega)
      obtain ⟨u, e, _, k0⟩ := DataW.trod_int Try.underlying5 h2
      simp at e
      simp [Lit.wf] at k0
      exact ⟨u, by rw [h1, e], k0⟩
    obtain ⟨U, hU⟩ := Deep.choose_lt (α := Int) (p := fun i u => W.cell? (a.add i) = some (.int .u8 u) ∧ 0 ≤ u ∧ u ≤ 255) key
    rcases Nat.eq_zero_or_pos len with h0 | h0
    · subst h0
      exact ⟨[], ⟨some a, cap, rfl⟩, fun _ => ⟨by simp, .inr (.inr ⟨rfl, a, cap, rfl⟩)⟩, by simp, by simp⟩
    · obtain ⟨b, off, spot⟩ := a
      have hspot : spot = none := by simpa [Addr.add] using World.cell?_spot (hU 0 h0).1
      subst hspot
      have hb : b < W.heap.size := World.block_lt_of_cell? W _ (by simpa [Addr.add] using (hU 0 h0).1)
      have hlen : ((List.range len).map U).length = len := by simp
      refine ⟨(List.range len).map U, ⟨_, _, by rw [hlen]⟩, fun hl => ⟨by omega, .inr (.inl ⟨b, off, cap, by rw [hlen], hb, fun j u hu => ?_⟩)⟩, fun _ b' hb' => ?_, fun b' hb' => ?_⟩
      · have hj : j < len := by
          have := (List.getElem?_eq_some_iff.1 hu).1
          simpa using this
        have := (hU j hj).1
        rw [Addr.add_lit] at this
        rw [this]
        simpa [hj] using hu
      · simp [Value.ownBlock] at hb'
        omega
      · obtain ⟨i, hi', rfl⟩ := List.mem_map.1 hb'
        exact (hU i (by simpa using hi')).2

set_option maxRecDepth 10000 in
theorem act_open {H : Type} {enc : TypeId × Value → H} {W : World} {spare : Nat → Bool} {held : Bool} {fuel : Nat} {cs : List Value} {x : DataW H × List MemPlace} (h : DataW.trod enc Try.prog W 0 spare held fuel 42 cs = some x) :
    ∃ y : ActA, cs = y.cells ∧ ActOk W y := by
  obtain ⟨xs, n, _, rfl, hl, hlen, hf⟩ := DataW.trod_struct Try.underlying42 h
  rw [tcells42] at hl
  have hx : xs.length = 5 := hlen
  obtain ⟨x0, x1, x2, x3, x4, rfl⟩ : ∃ x0 x1 x2 x3 x4, xs = [x0, x1, x2, x3, x4] := by
    match xs, hx with
    | [x0, x1, x2, x3, x4], _ => exact ⟨x0, x1, x2, x3, x4, rfl⟩
  obtain ⟨c0, c1, c2, c3, c4, c5, c6, rfl⟩ : ∃ c0 c1 c2 c3 c4 c5 c6, cs = [c0, c1, c2, c3, c4, c5, c6] := by
    match cs, hl with
    | [c0, c1, c2, c3, c4, c5, c6], _ => exact ⟨c0, c1, c2, c3, c4, c5, c6, rfl⟩
  have g0 := hf 0 _ rfl
  have g1 := hf 1 _ rfl
  have g2 := hf 2 _ rfl
  have g3 := hf 3 _ rfl
  have g4 := hf 4 _ rfl
  simp [tcells3, tcells5, tcells35] at g0 g1 g2 g3 g4
  obtain ⟨a0, e0, _, k0⟩ := DataW.trod_int Try.underlying3 g0
  obtain ⟨a1, e1, _, k1⟩ := DataW.trod_int Try.underlying3 g1
  obtain ⟨a2, e2, _, k2⟩ := DataW.trod_int Try.underlying3 g2
  obtain ⟨a3, e3, _, k3⟩ := DataW.trod_int Try.underlying5 g3
  obtain ⟨y0, y1, y2, n', _, _, p0, p1, p2⟩ := Deep.trod_struct3 Try.underlying35 g4
  simp [tcells9, tcells33] at p0 p1 p2
  obtain ⟨s0, f0, _, _⟩ := DataW.trod_string Try.underlying9 p0
  obtain ⟨s1, f1, _, _⟩ := DataW.trod_string Try.underlying9 p1
  obtain ⟨bs, hs, hr, ho, hby⟩ := bytes_open p2
  simp at e0 e1 e2 e3 f0 f1
  subst e0 e1 e2 e3 f0 f1
  simp [Lit.wf] at k0 k1 k2 k3
  exact ⟨⟨a0, a1, a2, a3, ⟨s0, s1, c6, bs⟩⟩, rfl, ⟨k0, k1, k2, k3, hs, hr, ho, hby⟩⟩

theorem acts_open {H : Type} {enc : TypeId × Value → H} {W : World} {spare : Nat → Bool} {held : Bool} {v : Value} {d : DataW H} {ps : List MemPlace} (h : DataW.Trod enc Try.prog W 0 spare held 39 v d ps) {a : Option Addr} {len cap : Nat} (hv : v = .slice a len cap) : ∃ l, ActsAt W v l := by
  obtain ⟨fuel, hf⟩ := h
  subst hv
  rcases Deep.open_slice Try.underlying39 hf with ⟨hcs, _⟩ | ⟨a', len', cap', m, n, D, Pl, hcs, _, hl, _, hm, _, hi⟩
  · simp [Value.cells] at hcs
    obtain ⟨rfl, rfl, rfl⟩ := hcs
    exact ⟨[], by simp, ⟨_, _, rfl⟩, .inl rfl⟩
  · simp [Value.cells] at hcs
    obtain ⟨rfl, rfl, rfl⟩ := hcs
    have hlm : len ≤ m := by rw [hm]; split <;> omega
    have key : ∀ i, i < len → ∃ y : ActA, W.cells? 0 (a'.add (i * 7)) 7 = some y.cells ∧ ActOk W y := fun i hlt => by
      obtain ⟨cs', hc, ht⟩ := hi i (by omega)
      obtain ⟨y, rfl, hy⟩ := act_open ht
      rw [tcells42] at hc
      exact ⟨y, hc, hy⟩
    haveI : Inhabited ActA := ⟨⟨0, 0, 0, 0, ⟨⟨#[]⟩, ⟨#[]⟩, .slice none 0 0, []⟩⟩⟩
    obtain ⟨Y, hY⟩ := Deep.choose_lt (α := ActA) (p := fun i y => W.cells? 0 (a'.add (i * 7)) 7 = some y.cells ∧ ActOk W y) key
    have hlen : ((List.range len).map Y).length = len := by simp
    refine ⟨(List.range len).map Y, fun x hx => ?_, ⟨_, _, by rw [hlen]⟩, ?_⟩
    · obtain ⟨i, hi', rfl⟩ := List.mem_map.1 hx
      exact (hY i (by simpa using hi')).2
    · rcases Nat.eq_zero_or_pos len with h0 | h0
      · subst h0; exact .inl rfl
      right
      have cell : ∀ i, i < len → ∀ j, j < 7 → W.cell? ((a'.add (i * 7)).add j) = (Y i).cells[j]? := fun i hlt j hj => by
        obtain ⟨_, hcl, hat⟩ := World.cells?_some (hY i hlt).1
        have hj' : j < (Y i).cells.length := by rw [hcl]; exact hj
        rw [hat j hj', List.getElem?_eq_getElem hj']
      obtain ⟨b, off, spot⟩ := a'
      have hspot : spot = none := by
        have := cell 0 h0 0 (by decide)
        simpa [Addr.add] using World.cell?_spot this
      subst hspot
      refine ⟨b, off, cap, by rw [hlen], ?_, fun i x hx j hj => ?_⟩
      · have := cell 0 h0 0 (by decide)
        have e : (Y 0).cells[0]? = some (Value.int .i64 (Y 0).what) := rfl
        rw [e] at this
        exact World.block_lt_of_cell? W _ (by simpa [Addr.add] using this)
      · have hil : i < len := by
          have := (List.getElem?_eq_some_iff.1 hx).1
          simpa using this
        have := cell i hil j hj
        rw [Addr.add_lit, Addr.add_lit] at this
        rw [this]
        have : Y i = x := by simpa [hil] using hx
        rw [this]
end Go.Proofs.Ytiindnmelegkgaa
